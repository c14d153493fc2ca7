import Derived.Test.YtdnffjbcmimnnaaGreatZC
import Derived.WalkKit
set_option maxHeartbeats 8000000
set_option linter.unusedVariables false
set_option linter.unusedSimpArgs false
namespace Ai
set_option maxRecDepth 100000
open Go Go.Proofs
def zG (t:Th) (o:OpL):Th:={ t with pc:=t.pc+1,stack:=t.stack.take (yI t o) }
def xM (t:Th) (o:OpL) (i:Nat):Nat:=(t.stack.drop (yI t o)).getD i 0
def zU (t:Th) (x:Nat):Th:={ t with stack:=t.stack++[x] }
def kB (r:Int):Th:=⟨r,0,1,-1,-1,[]⟩
def vL (l:List Th) (a:Int):Option Nat:=l.findIdx? fun t=>t.st==3&&t.cond==a
def StL.put (s:StL) (k:Nat) (t:Th):StL:={ s with ths:=s.ths.set k t }
noncomputable def doL (s:StL) (k:Nat) (o:OpL) (e:Ev):StL × Ev :=
 let t0:=s.ths.getD k th0
 let t:=zG t0 o
 let e:={ e with kind:=1 }
 if o.code=1 then (s.put k (zU t o.v),e)
 else if o.code=2 then (s.put k (zU t (s.cells.getD o.a.toNat 0)),{ e with kind:=2,obj:=o.a })
 else if o.code=3 then ({ s with cells:=s.cells.set o.a.toNat (xM t0 o 0) }.put k t,{ e with kind:=3,obj:=o.a })
 else if o.code=10 then (s.put k { t with pc:=o.a },e)
 else if o.code=11 then (s.put k (if zT (xM t0 o 0)=true∨fcmp .eql (xM t0 o 0) 0=true then { t with pc:=o.a } else t),e)
 else if o.code=12 then ({ s with owner:=s.owner.set o.a.toNat k }.put k t,{ e with kind:=4,obj:=o.a })
 else if o.code=13 then ({ s with owner:=s.owner.set o.a.toNat (-1) }.put k t,{ e with kind:=5,obj:=o.a })
 else if o.code=14 then ({ s with ths:=s.ths++[kB o.a] }.put k (zU t (FloatKind.f64.nearest (s.ths.length:Int))),{ e with kind:=6,obj:=s.ths.length })
 else if o.code=15 then (s.put k t,{ e with kind:=7,obj:=(yF s t0).getD (-1) })
 else if o.code=16 then ({ s with owner:=s.owner.set o.b.toNat (-1) }.put k { t with st:=3,cond:=o.a,lock:=o.b,pc:=t.pc - 1 },{ e with kind:=8,obj:=o.a,lock:=o.b })
 else if o.code=17 then
  (match vL s.ths o.a with
  |some j=>({ s with ths:=s.ths.modify j fun u=>{ u with st:=4 } }.put k t,{ e with kind:=10,obj:=o.a,lock:=j })
  |none=>(s.put k t,{ e with kind:=10,obj:=o.a }))
 else (s.put k (zU t (yX o.code (xM t0 o 0) (xM t0 o 1))),e)
theorem qP {s':StL} {l:List Th} {k:Nat} {t:Th} {e':Ev} {els:List (List D)} {R c10:List AV} {rows:List (List AV)} {S:St}
  (hat:At [(1,i64 k),(4,.ptr (.n 4) 0),(7,.ptr (.n 7) 0),(8,.ptr (.n 8) 0),(9,.ptr (.n 9) 0),(10,.ptr (.n 10) 0)]
   [(.n 4,.vs 54 R),(.n 7,.vs 128 ((encEv e').map .d)),(.n 8,.vs 54 [.d .nil,.d .nil,.d .nil,i64 0]),(.n 9,.vs 128 [i64 0,i64 0,i64 0,i64 0,i64 0]),(.n 10,.vs 175 c10),
    (.n 900,.rs 175 6 rows),(.n 901,.ds 132 1 (s'.cells.map encF)),(.n 902,.ds 3 1 (s'.owner.map encInt))] [(900,gA l k els)] S)
  (hR:R=stRef s') (h10:c10=thRow 900 k t) (hk:k<l.length) (hths:s'.ths=l.set k t) (hels:els.take t.stack.length=stk t)
  (hrow:∀ j t0,j≠k→l[j]?=some t0→rows[j]?=some (thRow 900 j t0)):Do2 l s' k e' S:=by
 subst hR h10
 refine⟨t,rows,els,?_,fun j t' hj hj'=>?_,hels,hat⟩
 ·rw[hths];simp[hk]
 ·rw[hths,List.getElem?_set_ne (Ne.symm hj)] at hj'
  exact⟨_,hrow j t' hj hj',.inl ⟨t',hj',rfl,rfl⟩⟩
theorem rows_app {X N:List (List AV)} {n j:Nat} {c:List AV} (h:X[j]?=some c) (hj:j<n):(X.take n++N)[j]?=some c:=by
 have h1:=(List.getElem?_eq_some_iff.1 h).1
 rw[List.getElem?_append_left (by simp;omega),List.getElem?_take,if_pos hj];exact h
theorem rows_new {X N:List (List AV)} {n:Nat} {c:List AV} (h:X.length=n) (hN:N=[c]):(X.take n++N)[n]?=some c:=by
 subst hN h;simp
theorem do2_fork {s':StL} {l:List Th} {k:Nat} {t nt:Th} {e':Ev} {els:List (List D)} {R c10:List AV} {rows:List (List AV)} {S:St}
  (hat:At [(1,i64 k),(4,.ptr (.n 4) 0),(7,.ptr (.n 7) 0),(8,.ptr (.n 8) 0),(9,.ptr (.n 9) 0),(10,.ptr (.n 10) 0)]
   [(.n 4,.vs 54 R),(.n 7,.vs 128 ((encEv e').map .d)),(.n 8,.vs 54 [.d .nil,.d .nil,.d .nil,i64 0]),(.n 9,.vs 128 [i64 0,i64 0,i64 0,i64 0,i64 0]),(.n 10,.vs 175 c10),
    (.n 900,.rs 175 6 rows),(.n 901,.ds 132 1 (s'.cells.map encF)),(.n 902,.ds 3 1 (s'.owner.map encInt))] [(900,gA l k els)] S)
  (hR:R=stRef s') (h10:c10=thRow 900 k t) (hk:k<l.length) (hths:s'.ths=(l++[nt]).set k t) (hnt:nt.stack=[]) (hels:els.take t.stack.length=stk t)
  (hrow:∀ j t0,j≠k→l[j]?=some t0→rows[j]?=some (thRow 900 j t0)) (hnew:rows[l.length]?=some (y8 nt)):Do2 l s' k e' S:=by
 subst hR h10
 refine⟨t,rows,els,?_,fun j t' hj hj'=>?_,hels,hat⟩
 ·rw[hths];simp[show k<l.length+1 by omega]
 ·rw[hths,List.getElem?_set_ne (Ne.symm hj)] at hj'
  by_cases h1:j<l.length
  ·rw[List.getElem?_append_left h1] at hj'
   exact⟨_,hrow j t' hj hj',.inl ⟨t',hj',rfl,rfl⟩⟩
  ·rw[List.getElem?_append_right (by omega)] at hj'
   have h2:j - l.length=0:=by
    have:=(List.getElem?_eq_some_iff.1 hj').1
    simp at this;omega
   rw[h2] at hj'
   simp only[List.getElem?_cons_zero,Option.some.injEq] at hj'
   subst hj'
   have h3:j=l.length:=by omega
   subst h3
   exact⟨_,hnew,.inr ⟨hnt,rfl⟩⟩
theorem rows_mod {X:List (List AV)} {i j:Nat} {t:Th} (h:X[j]?=some (thRow 900 j t)):(X.modify i fun c=>yD c 2 [i64 4])[j]?=some (thRow 900 j (if i=j then { t with st:=4 } else t)):=by
 rw[List.getElem?_modify,h]
 by_cases hij:i=j
 ·simp only[if_pos hij];rfl
 ·simp only[if_neg hij];rfl
theorem do2_wake {s':StL} {l:List Th} {k i:Nat} {t:Th} {e':Ev} {els:List (List D)} {R c10:List AV} {rows:List (List AV)} {S:St}
  (hat:At [(1,i64 k),(4,.ptr (.n 4) 0),(7,.ptr (.n 7) 0),(8,.ptr (.n 8) 0),(9,.ptr (.n 9) 0),(10,.ptr (.n 10) 0)]
   [(.n 4,.vs 54 R),(.n 7,.vs 128 ((encEv e').map .d)),(.n 8,.vs 54 [.d .nil,.d .nil,.d .nil,i64 0]),(.n 9,.vs 128 [i64 0,i64 0,i64 0,i64 0,i64 0]),(.n 10,.vs 175 c10),
    (.n 900,.rs 175 6 rows),(.n 901,.ds 132 1 (s'.cells.map encF)),(.n 902,.ds 3 1 (s'.owner.map encInt))] [(900,gA l k els)] S)
  (hR:R=stRef s') (h10:c10=thRow 900 k t) (hk:k<l.length) (hths:s'.ths=(l.modify i fun u=>{ u with st:=4 }).set k t) (hels:els.take t.stack.length=stk t)
  (hrow:∀ j t0,j≠k→l[j]?=some t0→rows[j]?=some (thRow 900 j (if i=j then { t0 with st:=4 } else t0))):Do2 l s' k e' S:=by
 subst hR h10
 refine⟨t,rows,els,?_,fun j t' hj hj'=>?_,hels,hat⟩
 ·rw[hths];simp[hk]
 ·rw[hths,List.getElem?_set_ne (Ne.symm hj),List.getElem?_modify] at hj'
  obtain⟨t0,h1,h2⟩:=Option.map_eq_some_iff.1 hj'
  refine⟨_,hrow j t0 hj h1,.inl ⟨t0,h1,?_,?_⟩⟩
  ·by_cases hij:i=j
   ·simp only[if_pos hij] at h2;subst h2;rfl
   ·simp only[if_neg hij] at h2;subst h2;rfl
  ·by_cases hij:i=j
   ·simp only[if_pos hij] at h2 ⊢;subst h2;rfl
   ·simp only[if_neg hij] at h2 ⊢;subst h2;rfl
def OpL.fits (o:OpL) (s:StL) (t:Th):Prop:=InR o.code 1 17∧((o.code=2∨o.code=3)→0≤o.a∧o.a<s.cells.length)∧((o.code=12∨o.code=13)→0≤o.a∧o.a<s.owner.length)∧(o.code=16→0≤o.b∧o.b<s.owner.length) ∧
 (zC o.code).1≤t.stack.length
theorem xE {o j:Nat} {l:List Th} {t:Th} (h:l[j]?=some t):(thRows o l)[j]?=some (thRow o j t):=by
 obtain⟨h1,rfl⟩:=List.getElem?_eq_some_iff.1 h
 exact yO h1
theorem isK_s0 {j k:Nat} (h:j≠k):Key.beq (.s 900 j) (.s 900 k)=false:=by
 show(Nat.beq 900 900&&Nat.beq j k)=false
 rw[nbeq_ne h];rfl
theorem kb_ne {j k:Nat} (h:j≠k):Key.beq (.s 900 j) (.s 900 k)=false:=isK_s0 h
theorem kU {l:List Th} {k j:Nat} {els:List (List D)} (h:j≠k):gA l k els j=zE l j:=by
 unfold gA;rw[nbeq_ne h];rfl
theorem jO {j k:Nat} (h:j≠k):isK (.s 900 k) (.s 900 j)=false:=by
 show(Nat.beq 900 900&&Nat.beq j k)=false
 rw[nbeq_ne h];rfl
theorem qU {t:Th} {o:OpL} {i:Nat} (h:(zC o.code).1≤t.stack.length) (hi:i<wW o):((t.stack.drop (yI t o)).map encF)[i]?=some (encF (xM t o i)):=by
 have h1:yI t o+i<t.stack.length:=by unfold yI;unfold wW at *;omega
 simp[xM,List.getD_eq_getElem?_getD,h1]
theorem cell_get {l:List Nat} {a:Int} (h:0≤a∧a<l.length):(l.map encF)[a.toNat]?=some (encF (l.getD a.toNat 0)):=by
 have:a.toNat<l.length:=by omega
 simp[this,List.getD_eq_getElem?_getD]
theorem l3Do_sw (s:StL) (k:Nat) (o:OpL) (e:Ev) (hk:k<s.ths.length) (h5:s.ths.length≤5) (hs:s.small) (ho:o.fits s s.ths[k]) (hpc:InR s.ths[k].pc 0 1048576)
  (Q:AX→St→Prop) (K:St→Prop) (S:St) (hS:At (doL1 s k o s.ths[k]) (doO1 s k o e s.ths[k]) [(900,gA s.ths k (stk s.ths[k]))] S) (hK:∀ S',Do2 s.ths (doL s k o e).1 k (doL s k o e).2 S'→K S') :
  sG EE Tryz.f168.ntmps K Q 1 (dropC 8 (Tryz.f168.body.getD .skip)) S:=by
 have hst:=hs.2.1 _ (List.getElem_mem hk)
 have hg:s.ths.getD k th0=s.ths[k]:=by simp[List.getD_eq_getElem?_getD,hk]
 generalize ht0:s.ths[k]=t at *
 obtain⟨τ,H,rfl⟩:=hS.form
 clear hS
 obtain⟨o1,o2,o3,o4,o5⟩:=ho
 have hkn:yI t o≤t.stack.length:=Nat.sub_le _ _
 obtain⟨K0,hK0⟩:∃ K0,K0=k:=⟨k,rfl⟩
 obtain⟨K1,hK1⟩:∃ K1,K1=k:=⟨k,rfl⟩
 obtain rfl|rfl|rfl|rfl|rfl:k=0∨k=1∨k=2∨k=3∨k=4:=by omega
 all_goals
  conv=>whnf
  refine kbi (fun hc=>?_) (fun hc=>?_)
  ·have hc:o.code=1:=by simpa using hc
   conv=>whnf
   refine⟨⟨rfl,by simp;omega,by simp;omega⟩,?_⟩
   conv=>whnf
   have hd:doL s K0 o e=(s.put K0 (zU (zG t o) o.v),{ e with kind:=1 }):=by rw[hK0];unfold doL;rw[hg];simp[hc]
   rw[hK0] at hd
   rw[hd] at hK
   refine hK _ (qP (t:=zU (zG t o) o.v) (els:=stk (zU (zG t o) o.v)) ⟨⟨rfl,rfl,rfl,rfl,rfl,rfl,trivial⟩,⟨rfl,rfl,rfl,rfl,rfl,rfl,rfl,rfl,trivial⟩,⟨fun j=>?_,trivial⟩⟩ ?_ ?_ hk rfl ?_ ?_)
   ·by_cases hj:j=K0 <;> rw[hK0] at hj
    ·subst hj
     conv=>lhs;whnf
     show some (Ob.ds 132 1 _)=some (Ob.ds 132 1 _)
     simp[stk,zU,zG,encF]
    ·rw[kU hj]
     conv=>lhs;whnf
     repeat (first|(rw[kb_ne hj];conv=>lhs;whnf)|(refine hscrO ?_ (zQ _ _ _);conv=>lhs;whnf))
     exact kU hj
   ·show stRef s=_
    simp[stRef,StL.put]
   ·have en:(zU (zG t o) o.v).stack.length=yI t o+1:=by simp[zU,zG];omega
    show _=[_,_,_,_,_,AV.ref _ 0 (zU (zG t o) o.v).stack.length]
    rw[en]
    rfl
   ·simp[stk,List.take_of_length_le,zG,zU]
   ·intro j t0 hj h
    repeat (first|exact xE h|refine wF ?_ (yA (by first|rfl|exact jO hj)))
  have n1:¬ o.code=1:=by simpa using hc
  clear hc
  conv=>whnf
  refine kbi (fun hc=>?_) (fun hc=>?_)
  ·have hc:o.code=2:=by simpa using hc
   conv=>whnf
   have hr:=o2 (.inl hc)
   refine .inr (.inl ⟨9,[],?_⟩)
   conv=>whnf
   refine⟨⟨by omega,by omega⟩,?_⟩
   conv=>whnf
   refine⟨encF (s.cells.getD o.a.toNat 0),⟨by rw[Nat.zero_add];exact cell_get hr,by simp[encF]⟩,?_⟩
   conv=>whnf
   refine⟨by kernel_rfl,?_⟩
   conv=>whnf
   refine⟨⟨rfl,by simp;omega,by simp;omega⟩,?_⟩
   conv=>whnf
   have hd:doL s K0 o e=(s.put K0 (zU (zG t o) (s.cells.getD o.a.toNat 0)),{ e with kind:=2,obj:=o.a }):=by rw[hK0];unfold doL;rw[hg];simp[hc]
   rw[hK0] at hd
   rw[hd] at hK
   refine hK _ (qP (t:=zU (zG t o) (s.cells.getD o.a.toNat 0)) (els:=stk (zU (zG t o) (s.cells.getD o.a.toNat 0))) ⟨⟨rfl,rfl,rfl,rfl,rfl,rfl,trivial⟩,⟨rfl,rfl,rfl,rfl,rfl,rfl,rfl,rfl,trivial⟩,⟨fun j=>?_,trivial⟩⟩ ?_ ?_ hk rfl ?_ ?_)
   ·by_cases hj:j=K0 <;> rw[hK0] at hj
    ·subst hj
     conv=>lhs;whnf
     show some (Ob.ds 132 1 _)=some (Ob.ds 132 1 _)
     simp[stk,zU,zG,encF]
    ·rw[kU hj]
     conv=>lhs;whnf
     repeat (first|(rw[kb_ne hj];conv=>lhs;whnf)|(refine hscrO ?_ (zQ _ _ _);conv=>lhs;whnf))
     exact kU hj
   ·show stRef s=_
    simp[stRef,StL.put]
   ·have en:(zU (zG t o) (s.cells.getD o.a.toNat 0)).stack.length=yI t o+1:=by simp[zU,zG];omega
    show _=[_,_,_,_,_,AV.ref _ 0 (zU (zG t o) (s.cells.getD o.a.toNat 0)).stack.length]
    rw[en]
    rfl
   ·simp[stk,List.take_of_length_le,zG,zU]
   ·intro j t0 hj h
    repeat (first|exact xE h|refine wF ?_ (yA (by first|rfl|exact jO hj)))
  have n2:¬ o.code=2:=by simpa using hc
  clear hc
  conv=>whnf
  refine kbi (fun hc=>?_) (fun hc=>?_)
  ·have hc:o.code=3:=by simpa using hc
   conv=>whnf
   have hr:=o2 (.inr hc)
   have htk:wW o=1:=by simp[wW,zC,hc]
   refine .inr (.inl ⟨7,[],?_⟩)
   conv=>whnf
   refine⟨⟨by omega,by omega⟩,?_⟩
   conv=>whnf
   refine⟨encF (xM t o 0),⟨qU o5 (by omega),by simp[encF]⟩,?_⟩
   conv=>whnf
   refine⟨by kernel_rfl,?_⟩
   conv=>whnf
   refine⟨⟨by omega,by omega⟩,?_⟩
   conv=>whnf
   have hd:doL s K0 o e=({ s with cells:=s.cells.set o.a.toNat (xM t o 0) }.put K0 (zG t o),{ e with kind:=3,obj:=o.a }):=by rw[hK0];unfold doL;rw[hg];simp[hc]
   rw[hK0] at hd
   rw[hd] at hK
   refine hK _ (qP (t:=zG t o) (els:=stk t) ⟨⟨rfl,rfl,rfl,rfl,rfl,rfl,trivial⟩,⟨rfl,rfl,rfl,rfl,rfl,rfl,?_,rfl,trivial⟩,⟨fun j=>?_,trivial⟩⟩ ?_ ?_ hk rfl ?_ ?_)
   ·conv=>lhs;whnf
    show some (Ob.ds 132 1 ((s.cells.map encF).set (0+o.a.toNat) (encF (xM t o 0))))=some (Ob.ds 132 1 ((s.cells.set o.a.toNat (xM t o 0)).map encF))
    rw[Nat.zero_add,List.map_set]
   ·((conv=>lhs;whnf);(repeat (refine hscrO ?_ (famK_scr _ _ _ _ _);conv=>lhs;whnf));rfl)
   ·show stRef s=_
    simp[stRef,StL.put]
   ·have en:(zG t o).stack.length=yI t o:=by simp[zU,zG];omega
    show _=[_,_,_,_,_,AV.ref _ 0 (zG t o).stack.length]
    rw[en]
    rfl
   ·simp[stk,List.take_of_length_le,zG,zU]
   ·intro j t0 hj h
    repeat (first|exact xE h|refine wF ?_ (yA (by first|rfl|exact jO hj)))
  have n3:¬ o.code=3:=by simpa using hc
  clear hc
  conv=>whnf
  refine kbi (fun hc=>?_) (fun hc=>?_)
  ·have hc:o.code=10:=by simpa using hc
   conv=>whnf
   have hd:doL s K0 o e=(s.put K0 { zG t o with pc:=o.a },{ e with kind:=1 }):=by rw[hK0];unfold doL;rw[hg];simp[hc]
   rw[hK0] at hd
   rw[hd] at hK
   refine hK _ (qP (t:={ zG t o with pc:=o.a }) (els:=stk t) ⟨⟨rfl,rfl,rfl,rfl,rfl,rfl,trivial⟩,⟨rfl,rfl,rfl,rfl,rfl,rfl,rfl,rfl,trivial⟩,⟨fun j=>?_,trivial⟩⟩ ?_ ?_ hk rfl ?_ ?_)
   ·((conv=>lhs;whnf);(repeat (refine hscrO ?_ (famK_scr _ _ _ _ _);conv=>lhs;whnf));rfl)
   ·show stRef s=_
    simp[stRef,StL.put]
   ·have en:({ zG t o with pc:=o.a }).stack.length=yI t o:=by simp[zU,zG];omega
    show _=[_,_,_,_,_,AV.ref _ 0 ({ zG t o with pc:=o.a }).stack.length]
    rw[en]
    rfl
   ·simp[stk,List.take_of_length_le,zG,zU]
   ·intro j t0 hj h
    repeat (first|exact xE h|refine wF ?_ (yA (by first|rfl|exact jO hj)))
  have n10:¬ o.code=10:=by simpa using hc
  clear hc
  conv=>whnf
  refine kbi (fun hc=>?_) (fun hc=>?_)
  ·have hc:o.code=11:=by simpa using hc
   conv=>whnf
   have htk:wW o=1:=by simp[wW,zC,hc]
   refine⟨⟨by omega,by omega⟩,?_⟩
   conv=>whnf
   refine⟨encF (xM t o 0),⟨qU o5 (by omega),by simp[encF]⟩,?_⟩
   conv=>whnf
   refine ocase (vY _) (fun hn=>?_) (fun hn=>?_)
   ·conv=>whnf
    have hn':zT (xM t o 0)=true:=hn
    have hd:doL s K0 o e=(s.put K0 { zG t o with pc:=o.a },{ e with kind:=1 }):=by rw[hK0];unfold doL;rw[hg];simp[hc,hn']
    rw[hK0] at hd
    rw[hd] at hK
    refine hK _ (qP (t:={ zG t o with pc:=o.a }) (els:=stk t) ⟨⟨rfl,rfl,rfl,rfl,rfl,rfl,trivial⟩,⟨rfl,rfl,rfl,rfl,rfl,rfl,rfl,rfl,trivial⟩,⟨fun j=>?_,trivial⟩⟩ ?_ ?_ hk rfl ?_ ?_)
    ·((conv=>lhs;whnf);(repeat (refine hscrO ?_ (famK_scr _ _ _ _ _);conv=>lhs;whnf));rfl)
    ·show stRef s=_
     simp[stRef,StL.put]
    ·have en:({ zG t o with pc:=o.a }).stack.length=yI t o:=by simp[zU,zG];omega
     show _=[_,_,_,_,_,AV.ref _ 0 ({ zG t o with pc:=o.a }).stack.length]
     rw[en]
     rfl
    ·simp[stk,List.take_of_length_le,zG,zU]
    ·intro j t0 hj h
     repeat (first|exact xE h|refine wF ?_ (yA (by first|rfl|exact jO hj)))
   conv=>whnf
   refine⟨⟨by omega,by omega⟩,?_⟩
   conv=>whnf
   refine⟨encF (xM t o 0),⟨qU o5 (by omega),by simp[encF]⟩,?_⟩
   conv=>whnf
   refine kbi (fun hz=>?_) (fun hz=>?_)
   ·conv=>whnf
    have hz':fcmp .eql (xM t o 0) 0=true:=hz
    have hd:doL s K0 o e=(s.put K0 { zG t o with pc:=o.a },{ e with kind:=1 }):=by rw[hK0];unfold doL;rw[hg];simp[hc,hz']
    rw[hK0] at hd
    rw[hd] at hK
    refine hK _ (qP (t:={ zG t o with pc:=o.a }) (els:=stk t) ⟨⟨rfl,rfl,rfl,rfl,rfl,rfl,trivial⟩,⟨rfl,rfl,rfl,rfl,rfl,rfl,rfl,rfl,trivial⟩,⟨fun j=>?_,trivial⟩⟩ ?_ ?_ hk rfl ?_ ?_)
    ·((conv=>lhs;whnf);(repeat (refine hscrO ?_ (famK_scr _ _ _ _ _);conv=>lhs;whnf));rfl)
    ·show stRef s=_
     simp[stRef,StL.put]
    ·have en:({ zG t o with pc:=o.a }).stack.length=yI t o:=by simp[zU,zG];omega
     show _=[_,_,_,_,_,AV.ref _ 0 ({ zG t o with pc:=o.a }).stack.length]
     rw[en]
     rfl
    ·simp[stk,List.take_of_length_le,zG,zU]
    ·intro j t0 hj h
     repeat (first|exact xE h|refine wF ?_ (yA (by first|rfl|exact jO hj)))
   conv=>whnf
   have hz':¬ (zT (xM t o 0)=true∨fcmp .eql (xM t o 0) 0=true):=fun e=>e.elim hn hz
   have hd:doL s K0 o e=(s.put K0 (zG t o),{ e with kind:=1 }):=by rw[hK0];unfold doL;rw[hg];simp[hc];rw[if_neg hz']
   rw[hK0] at hd
   rw[hd] at hK
   refine hK _ (qP (t:=zG t o) (els:=stk t) ⟨⟨rfl,rfl,rfl,rfl,rfl,rfl,trivial⟩,⟨rfl,rfl,rfl,rfl,rfl,rfl,rfl,rfl,trivial⟩,⟨fun j=>?_,trivial⟩⟩ ?_ ?_ hk rfl ?_ ?_)
   ·((conv=>lhs;whnf);(repeat (refine hscrO ?_ (famK_scr _ _ _ _ _);conv=>lhs;whnf));rfl)
   ·show stRef s=_
    simp[stRef,StL.put]
   ·have en:(zG t o).stack.length=yI t o:=by simp[zU,zG];omega
    show _=[_,_,_,_,_,AV.ref _ 0 (zG t o).stack.length]
    rw[en]
    rfl
   ·simp[stk,List.take_of_length_le,zG,zU]
   ·intro j t0 hj h
    repeat (first|exact xE h|refine wF ?_ (yA (by first|rfl|exact jO hj)))
  have n11:¬ o.code=11:=by simpa using hc
  clear hc
  conv=>whnf
  refine kbi (fun hc=>?_) (fun hc=>?_)
  ·have hc:o.code=12:=by simpa using hc
   conv=>whnf
   have hr:=o3 (.inl hc)
   refine⟨⟨by omega,by omega⟩,?_⟩
   conv=>whnf
   have hd:doL s K0 o e=({ s with owner:=s.owner.set o.a.toNat ((K0:Nat):Int) }.put K0 (zG t o),{ e with kind:=4,obj:=o.a }):=by rw[hK0];unfold doL;rw[hg];simp[hc]
   rw[hK0] at hd
   rw[hd] at hK
   refine hK _ (qP (t:=zG t o) (els:=stk t) ⟨⟨rfl,rfl,rfl,rfl,rfl,rfl,trivial⟩,⟨rfl,rfl,rfl,rfl,rfl,rfl,rfl,?_,trivial⟩,⟨fun j=>?_,trivial⟩⟩ ?_ ?_ hk rfl ?_ ?_)
   ·conv=>lhs;whnf
    show some (Ob.ds 3 1 ((s.owner.map encInt).set (0+o.a.toNat) (encInt _)))=some (Ob.ds 3 1 ((s.owner.set o.a.toNat _).map encInt))
    rw[Nat.zero_add,List.map_set]
   ·((conv=>lhs;whnf);(repeat (refine hscrO ?_ (famK_scr _ _ _ _ _);conv=>lhs;whnf));rfl)
   ·show stRef s=_
    simp[stRef,StL.put]
   ·have en:(zG t o).stack.length=yI t o:=by simp[zU,zG];omega
    show _=[_,_,_,_,_,AV.ref _ 0 (zG t o).stack.length]
    rw[en]
    rfl
   ·simp[stk,List.take_of_length_le,zG,zU]
   ·intro j t0 hj h
    repeat (first|exact xE h|refine wF ?_ (yA (by first|rfl|exact jO hj)))
  have n12:¬ o.code=12:=by simpa using hc
  clear hc
  conv=>whnf
  refine kbi (fun hc=>?_) (fun hc=>?_)
  ·have hc:o.code=13:=by simpa using hc
   conv=>whnf
   have hr:=o3 (.inr hc)
   refine⟨⟨by omega,by omega⟩,?_⟩
   conv=>whnf
   have hd:doL s K0 o e=({ s with owner:=s.owner.set o.a.toNat (-1) }.put K0 (zG t o),{ e with kind:=5,obj:=o.a }):=by rw[hK0];unfold doL;rw[hg];simp[hc]
   rw[hK0] at hd
   rw[hd] at hK
   refine hK _ (qP (t:=zG t o) (els:=stk t) ⟨⟨rfl,rfl,rfl,rfl,rfl,rfl,trivial⟩,⟨rfl,rfl,rfl,rfl,rfl,rfl,rfl,?_,trivial⟩,⟨fun j=>?_,trivial⟩⟩ ?_ ?_ hk rfl ?_ ?_)
   ·conv=>lhs;whnf
    show some (Ob.ds 3 1 ((s.owner.map encInt).set (0+o.a.toNat) (encInt (-1))))=some (Ob.ds 3 1 ((s.owner.set o.a.toNat (-1)).map encInt))
    rw[Nat.zero_add,List.map_set]
   ·((conv=>lhs;whnf);(repeat (refine hscrO ?_ (famK_scr _ _ _ _ _);conv=>lhs;whnf));rfl)
   ·show stRef s=_
    simp[stRef,StL.put]
   ·have en:(zG t o).stack.length=yI t o:=by simp[zU,zG];omega
    show _=[_,_,_,_,_,AV.ref _ 0 (zG t o).stack.length]
    rw[en]
    rfl
   ·simp[stk,List.take_of_length_le,zG,zU]
   ·intro j t0 hj h
    repeat (first|exact xE h|refine wF ?_ (yA (by first|rfl|exact jO hj)))
  have n13:¬ o.code=13:=by simpa using hc
  clear hc
  conv=>whnf
  refine kbi (fun hc=>?_) (fun hc=>?_)
  ·have hc:o.code=14:=by simpa using hc
   conv=>whnf
   refine⟨⟨rfl,by simp;omega,by simp;omega⟩,?_⟩
   conv=>whnf
   refine .inr (.inl ⟨6,[],?_⟩)
   conv=>whnf
   refine⟨_,lA o.a,?_⟩
   conv=>whnf
   refine⟨by kernel_rfl,?_⟩
   conv=>whnf
   refine⟨⟨fun c hc'=>?_,?_,?_⟩,?_⟩
   ·have hc':c∈[[i64 o.a,i64 0,i64 1,i64 (-1),i64 (-1),AV.d (.sl [])]]:=hc'
    simp only[List.mem_singleton] at hc'
    subst hc';rfl
   ·show(s.ths.length+1)*64≤_
    omega
   ·show s.ths.length+1≤_
    omega
   conv=>whnf
   have hd:doL s K0 o e=({ s with ths:=s.ths++[kB o.a] }.put K0 (zU (zG t o) (FloatKind.f64.nearest (s.ths.length:Int))),{ e with kind:=6,obj:=s.ths.length }):=by rw[hK0];unfold doL;rw[hg];simp[hc]
   rw[hK0] at hd
   rw[hd] at hK
   refine hK _ (do2_fork (t:=zU (zG t o) (FloatKind.f64.nearest (s.ths.length:Int))) (nt:=kB o.a) (els:=stk (zU (zG t o) (FloatKind.f64.nearest (s.ths.length:Int)))) ⟨⟨rfl,rfl,rfl,rfl,rfl,rfl,trivial⟩,⟨rfl,rfl,rfl,rfl,rfl,rfl,rfl,rfl,trivial⟩,⟨fun j=>?_,trivial⟩⟩ ?_ ?_ hk rfl rfl ?_ ?_ ?_)
   ·by_cases hj:j=K0 <;> rw[hK0] at hj
    ·subst hj
     conv=>lhs;whnf
     show some (Ob.ds 132 1 _)=some (Ob.ds 132 1 _)
     simp[stk,zU,zG,encF]
    ·rw[kU hj]
     conv=>lhs;whnf
     repeat (first|(rw[kb_ne hj];conv=>lhs;whnf)|(refine hscrO ?_ (zQ _ _ _);conv=>lhs;whnf))
     exact kU hj
   ·show[AV.dref (.n 900) (s.ths.length+1),AV.ref (.n 901) 0 s.cells.length,AV.ref (.n 902) 0 s.owner.length,i64 s.fault]=_
    simp[stRef,StL.put]
   ·have en:(zU (zG t o) (FloatKind.f64.nearest (s.ths.length:Int))).stack.length=yI t o+1:=by simp[zU,zG];omega
    show _=[_,_,_,_,_,AV.ref _ 0 (zU (zG t o) (FloatKind.f64.nearest (s.ths.length:Int))).stack.length]
    rw[en]
    rfl
   ·simp[stk,List.take_of_length_le,zG,zU]
   ·intro j t0 hj h
    have hjl:=(List.getElem?_eq_some_iff.1 h).1
    refine wF ?_ (yA (by first|rfl|exact jO hj))
    refine rows_app ?_ hjl
    repeat (first|exact xE h|refine wF ?_ (yA (by first|rfl|exact jO hj)))
   ·refine wF ?_ rfl
    refine rows_new (by simp[zP]) ?_
    rfl
  have n14:¬ o.code=14:=by simpa using hc
  clear hc
  conv=>whnf
  refine kbi (fun hc=>?_) (fun hc=>?_)
  ·have hc:o.code=15:=by simpa using hc
   conv=>whnf
   have hd:doL s K0 o e=(s.put K0 (zG t o),{ e with kind:=7,obj:=(yF s t).getD (-1) }):=by rw[hK0];unfold doL;rw[hg];simp[hc]
   rw[hK0] at hd
   rw[hd] at hK
   refine hK _ (qP (t:=zG t o) (els:=stk t) ⟨⟨rfl,rfl,rfl,rfl,rfl,rfl,trivial⟩,⟨rfl,rfl,rfl,rfl,rfl,rfl,rfl,rfl,trivial⟩,⟨fun j=>?_,trivial⟩⟩ ?_ ?_ hk rfl ?_ ?_)
   ·((conv=>lhs;whnf);(repeat (refine hscrO ?_ (famK_scr _ _ _ _ _);conv=>lhs;whnf));rfl)
   ·show stRef s=_
    simp[stRef,StL.put]
   ·have en:(zG t o).stack.length=yI t o:=by simp[zU,zG];omega
    show _=[_,_,_,_,_,AV.ref _ 0 (zG t o).stack.length]
    rw[en]
    rfl
   ·simp[stk,List.take_of_length_le,zG,zU]
   ·intro j t0 hj h
    repeat (first|exact xE h|refine wF ?_ (yA (by first|rfl|exact jO hj)))
  have n15:¬ o.code=15:=by simpa using hc
  clear hc
  conv=>whnf
  refine kbi (fun hc=>?_) (fun hc=>?_)
  ·have hc:o.code=16:=by simpa using hc
   conv=>whnf
   have hr:=o4 hc
   refine⟨⟨by omega,by omega⟩,?_⟩
   conv=>whnf
   have hd:doL s K0 o e=({ s with owner:=s.owner.set o.b.toNat (-1) }.put K0 { zG t o with st:=3,cond:=o.a,lock:=o.b,pc:=(zG t o).pc - 1 },{ e with kind:=8,obj:=o.a,lock:=o.b }):=by rw[hK0];unfold doL;rw[hg];simp[hc]
   rw[hK0] at hd
   rw[hd] at hK
   refine hK _ (qP (t:={ zG t o with st:=3,cond:=o.a,lock:=o.b,pc:=(zG t o).pc - 1 }) (els:=stk t) ⟨⟨rfl,rfl,rfl,rfl,rfl,rfl,trivial⟩,⟨rfl,rfl,rfl,rfl,rfl,rfl,rfl,?_,trivial⟩,⟨fun j=>?_,trivial⟩⟩ ?_ ?_ hk rfl ?_ ?_)
   ·conv=>lhs;whnf
    show some (Ob.ds 3 1 ((s.owner.map encInt).set (0+o.b.toNat) (encInt (-1))))=some (Ob.ds 3 1 ((s.owner.set o.b.toNat (-1)).map encInt))
    rw[Nat.zero_add,List.map_set]
   ·((conv=>lhs;whnf);(repeat (refine hscrO ?_ (famK_scr _ _ _ _ _);conv=>lhs;whnf));rfl)
   ·show stRef s=_
    simp[stRef,StL.put]
   ·have en:({ zG t o with st:=3,cond:=o.a,lock:=o.b,pc:=(zG t o).pc - 1 }).stack.length=yI t o:=by simp[zU,zG];omega
    have ew:IntKind.i64.wrap (t.pc+1 - 1)=t.pc+1 - 1:=zF (by have:=hpc.1;omega) (by have:=hpc.2;omega)
    show[_,AV.d (.int .i64 (IntKind.i64.wrap (t.pc+1 - 1))),_,_,_,_]=[_,_,_,_,_,AV.ref _ 0 ({ zG t o with st:=3,cond:=o.a,lock:=o.b,pc:=(zG t o).pc - 1 }).stack.length]
    rw[en,ew]
    rfl
   ·simp[stk,List.take_of_length_le,zG,zU]
   ·intro j t0 hj h
    repeat (first|exact xE h|refine wF ?_ (yA (by first|rfl|exact jO hj)))
  have n16:¬ o.code=16:=by simpa using hc
  clear hc
  conv=>whnf
  refine kbi (fun hc=>?_) (fun hc=>?_)
  ·have hc:o.code=17:=by simpa using hc
   conv=>whnf
   have hen:(zG t o).stack.length=yI t o:=by simp[zG];omega
   refine mB (fun i:Nat=>[(1,i64 ((K0:Nat):Int)),(4,.ptr (.n 4) 0),(6,.ptr (.n 6) 0),(7,.ptr (.n 7) 0),(8,.ptr (.n 8) 0),(9,.ptr (.n 9) 0),(10,.ptr (.n 10) 0),(215,.dref (.n 900) s.ths.length),(216,i64 s.ths.length),(217,i64 i)])
    (fun i=>[(.n 4,.vs 54 (stRef s)),(.n 6,.vs 183 ((encOp o).map .d)),(.n 7,.vs 128 ((encEv { e with kind:=10,obj:=o.a }).map .d)),(.n 8,.vs 54 [.d .nil,.d .nil,.d .nil,i64 0]),(.n 9,.vs 128 [i64 0,i64 0,i64 0,i64 0,i64 0]),
     (.n 10,.vs 175 (thRow 900 K0 (zG t o))),(.n 900,.rs 175 6 (thRows 900 s.ths)),(.n 901,.ds 132 1 (s.cells.map encF)),(.n 902,.ds 3 1 (s.owner.map encInt))])
    (fun i=>[(900,gA s.ths K0 (stk t))]) (fun i=>s.ths.length - i) (fun i=>i≤s.ths.length∧∀ j u,j<i→s.ths[j]?=some u→¬ (u.st=3∧u.cond=o.a)) 0 Weak.refl ?_ ?_ ?_ ⟨Nat.zero_le _,fun j u hj=>by omega⟩ ?_
   all_goals subst hK0
   ·exact⟨rfl,rfl,rfl,rfl,rfl,rfl,rfl,rfl,rfl,rfl,trivial⟩
   ·refine⟨rfl,rfl,rfl,rfl,rfl,?_,?_,rfl,rfl,trivial⟩
    ·show _=some (Ob.vs 175 [_,_,_,_,_,AV.ref _ 0 (zG t o).stack.length])
     rw[hen]
     rfl
    ·first|((conv=>lhs;whnf);refine congrArg some ?_;repeat (first|rfl|refine xW ?_ (by exact congrArg _ (zZ fun _ _=>rfl))))|rfl
   ·refine⟨fun j=>?_,trivial⟩
    ((conv=>lhs;whnf);(repeat (refine hscrO ?_ (famK_scr _ _ _ _ _);conv=>lhs;whnf));rfl)
   rintro i τ H ⟨hi,hno⟩
   conv=>whnf
   refine kbi (fun hl=>?_) (fun hl=>?_)
   ·have hlt:i<s.ths.length:=by simpa using hl
    conv=>whnf
    refine⟨⟨by omega,by omega⟩,?_⟩
    conv=>whnf
    refine⟨thRow 900 i s.ths[i],⟨by repeat (first|exact rE hlt rfl|refine wF ?_ rfl),by simp[thRow]⟩,?_⟩
    conv=>whnf
    have nxt:¬ (s.ths[i].st=3∧s.ths[i].cond=o.a)→∀ j u,j<i+1→s.ths[j]?=some u→¬ (u.st=3∧u.cond=o.a):=by
     intro hx j u hj hu
     by_cases hji:j=i
     ·subst hji
      rw[List.getElem?_eq_getElem hlt] at hu
      simp only[Option.some.injEq] at hu
      subst hu;exact hx
     ·exact hno j u (by omega) hu
    refine kbi (fun h3=>?_) (fun h3=>?_)
    ·have h3:s.ths[i].st=3:=by simpa using h3
     conv=>whnf
     refine kbi (fun h4=>?_) (fun h4=>?_)
     ·have h4:s.ths[i].cond=o.a:=by simpa using h4
      conv=>whnf
      refine⟨⟨by omega,by omega⟩,?_⟩
      conv=>whnf
      have hw:vL s.ths o.a=some i:=by
       unfold vL
       rw[List.findIdx?_eq_some_iff_getElem]
       refine⟨hlt,by simp[h3,h4],fun j hj=>?_⟩
       have:=hno j _ hj (List.getElem?_eq_getElem (by omega))
       simpa using this
      have hd:doL s K1 o e=({ s with ths:=s.ths.modify i fun u=>{ u with st:=4 } }.put K1 (zG t o),{ e with kind:=10,obj:=o.a,lock:=i }):=by rw[hK1];unfold doL;rw[hg];simp[hc,hw]
      rw[hK1] at hd
      rw[hd] at hK
      refine hK _ (do2_wake (i:=i) (t:=zG t o) (els:=stk t) ⟨⟨rfl,rfl,rfl,rfl,rfl,rfl,trivial⟩,⟨rfl,rfl,rfl,rfl,rfl,rfl,rfl,rfl,trivial⟩,⟨fun j=>?_,trivial⟩⟩ ?_ rfl hk rfl ?_ ?_)
      ·((conv=>lhs;whnf);(repeat (refine hscrO ?_ (famK_scr _ _ _ _ _);conv=>lhs;whnf));rfl)
      ·show stRef s=_
       simp[stRef,StL.put]
      ·simp[stk,List.take_of_length_le,zG]
      ·intro j t0 hj h
       refine rows_mod (X:=(thRows 900 s.ths).map (scrPL (isK (.n 16)))) (i:=i) ?_
       repeat (first|exact xE h|refine wF ?_ (yA (by first|rfl|exact jO hj)))
     ·have h4:¬ s.ths[i].cond=o.a:=by simpa using h4
      conv=>whnf
      refine⟨i+1,_,Weak.refl,⟨by omega,nxt (fun hx=>h4 hx.2)⟩,by show s.ths.length - (i+1)<s.ths.length - i;omega,⟨rfl,rfl,rfl,rfl,rfl,rfl,rfl,rfl,rfl,zN hlt (by omega),trivial⟩,⟨rfl,rfl,rfl,rfl,rfl,rfl,?_,rfl,rfl,trivial⟩,⟨fun j=>?_,trivial⟩⟩
      ·((conv=>lhs;whnf);refine congrArg some ?_;repeat (first|rfl|refine xW ?_ (by exact congrArg _ (zZ fun _ _=>rfl))))
      ·((conv=>lhs;whnf);(repeat (refine hscrO ?_ (famK_scr _ _ _ _ _);conv=>lhs;whnf));rfl)
    ·have h3:¬ s.ths[i].st=3:=by simpa using h3
     conv=>whnf
     refine⟨i+1,_,Weak.refl,⟨by omega,nxt (fun hx=>h3 hx.1)⟩,by show s.ths.length - (i+1)<s.ths.length - i;omega,⟨rfl,rfl,rfl,rfl,rfl,rfl,rfl,rfl,rfl,zN hlt (by omega),trivial⟩,⟨rfl,rfl,rfl,rfl,rfl,rfl,?_,rfl,rfl,trivial⟩,⟨fun j=>?_,trivial⟩⟩
     ·((conv=>lhs;whnf);refine congrArg some ?_;repeat (first|rfl|refine xW ?_ (by exact congrArg _ (zZ fun _ _=>rfl))))
     ·((conv=>lhs;whnf);(repeat (refine hscrO ?_ (famK_scr _ _ _ _ _);conv=>lhs;whnf));rfl)
   ·have hge:s.ths.length≤i:=by simpa using hl
    conv=>whnf
    have hw:vL s.ths o.a=none:=by
     unfold vL
     rw[List.findIdx?_eq_none_iff]
     intro u hu
     obtain⟨j,hj,rfl⟩:=List.mem_iff_getElem.1 hu
     have:=hno j _ (by omega) (List.getElem?_eq_getElem hj)
     simp only[Bool.and_eq_false_iff,beq_eq_false_iff_ne]
     by_cases h3:s.ths[j].st=3
     ·exact .inr fun h4=>this ⟨h3,h4⟩
     ·exact .inl h3
    have hd:doL s K1 o e=(s.put K1 (zG t o),{ e with kind:=10,obj:=o.a }):=by rw[hK1];unfold doL;rw[hg];simp[hc,hw]
    rw[hK1] at hd
    rw[hd] at hK
    refine hK _ (qP (t:=zG t o) (els:=stk t) ⟨⟨rfl,rfl,rfl,rfl,rfl,rfl,trivial⟩,⟨rfl,rfl,rfl,rfl,rfl,rfl,rfl,rfl,trivial⟩,⟨fun j=>?_,trivial⟩⟩ ?_ rfl hk rfl ?_ ?_)
    ·((conv=>lhs;whnf);(repeat (refine hscrO ?_ (famK_scr _ _ _ _ _);conv=>lhs;whnf));rfl)
    ·show stRef s=_
     simp[stRef,StL.put]
    ·simp[stk,List.take_of_length_le,zG]
    ·intro j t0 hj h
     repeat (first|exact xE h|refine wF ?_ (yA (by first|rfl|exact jO hj)))
  have n17:¬ o.code=17:=by simpa using hc
  clear hc
  conv=>whnf
  have hcode:4≤o.code∧o.code≤9:=by have:=o1.1;have:=o1.2;omega
  have htk:wW o=2:=by simp only[wW,zC];rw[if_neg (by omega),if_neg (by omega),if_pos hcode];rfl
  refine .inr (.inl ⟨12,[],?_⟩)
  conv=>whnf
  refine⟨⟨by omega,by omega⟩,?_⟩
  conv=>whnf
  refine⟨encF (xM t o 0),⟨qU o5 (by omega),by simp[encF]⟩,?_⟩
  conv=>whnf
  refine⟨⟨by omega,by omega⟩,?_⟩
  conv=>whnf
  refine⟨encF (xM t o 1),⟨qU o5 (by omega),by simp[encF]⟩,?_⟩
  conv=>whnf
  refine⟨_,e7 _ _ _,?_⟩
  conv=>whnf
  refine⟨by kernel_rfl,?_⟩
  conv=>whnf
  refine⟨⟨rfl,by simp;omega,by simp;omega⟩,?_⟩
  conv=>whnf
  have hd:doL s K0 o e=(s.put K0 (zU (zG t o) (yX o.code (xM t o 0) (xM t o 1))),{ e with kind:=1 }):=by rw[hK0];unfold doL;rw[hg];simp[n1,n2,n3,n10,n11,n12,n13,n14,n15,n16,n17]
  rw[hK0] at hd
  rw[hd] at hK
  refine hK _ (qP (t:=zU (zG t o) (yX o.code (xM t o 0) (xM t o 1))) (els:=stk (zU (zG t o) (yX o.code (xM t o 0) (xM t o 1)))) ⟨⟨rfl,rfl,rfl,rfl,rfl,rfl,trivial⟩,⟨rfl,rfl,rfl,rfl,rfl,rfl,rfl,rfl,trivial⟩,⟨fun j=>?_,trivial⟩⟩ ?_ ?_ hk rfl ?_ ?_)
  ·by_cases hj:j=K0 <;> rw[hK0] at hj
   ·subst hj
    conv=>lhs;whnf
    show some (Ob.ds 132 1 _)=some (Ob.ds 132 1 _)
    simp[stk,zU,zG,encF]
   ·rw[kU hj]
    conv=>lhs;whnf
    repeat (first|(rw[kb_ne hj];conv=>lhs;whnf)|(refine hscrO ?_ (zQ _ _ _);conv=>lhs;whnf))
    exact kU hj
  ·show stRef s=_
   simp[stRef,StL.put]
  ·have en:(zU (zG t o) (yX o.code (xM t o 0) (xM t o 1))).stack.length=yI t o+1:=by simp[zU,zG];omega
   show _=[_,_,_,_,_,AV.ref _ 0 (zU (zG t o) (yX o.code (xM t o 0) (xM t o 1))).stack.length]
   rw[en]
   rfl
  ·simp[stk,List.take_of_length_le,zG,zU]
  ·intro j t0 hj h
   repeat (first|exact xE h|refine wF ?_ (yA (by first|rfl|exact jO hj)))
end Ai
namespace Ai
set_option maxRecDepth 100000
open Go Go.Proofs
theorem famK_self {l:List Th} {k j:Nat} (hk:k<l.length):gA l k (stk l[k]) j=zE l j:=by
 unfold gA
 by_cases hj:j=k
 ·subst hj
  rw[show Nat.beq j j=true from Nat.beq_refl j]
  simp[zE,hk]
 ·rw[nbeq_ne hj];rfl
theorem l3Do_ok (hI:xK) (s:StL) (k:Nat) (o:OpL) (e:Ev) (hk:k<s.ths.length) (h5:s.ths.length≤5) (hs:s.small) (ho:o.fits s s.ths[k]) (hpc:InR s.ths[k].pc 0 1048576) (H0:Key→Option Ob) (hH:StH s H0) :
  IOCall EE 168 [.agg (stRef s),i64 k,agg (encOp o),agg (encEv e)] H0 (doPost (doL s k o e).1 (doL s k o e).2):=by
 obtain⟨g1,g2,g3,g4⟩:=hH
 refine xS (fn:=Tryz.f168) (c:=Tryz.f168.body.getD .skip) Tryz.func168 rfl (by kernel_rfl) rfl ?_
 have hat:At [(0,.agg (stRef s)),(1,i64 k),(2,agg (encOp o)),(3,agg (encEv e))] [(.n 900,.rs 175 6 (thRows 900 s.ths)),(.n 901,.ds 132 1 (s.cells.map encF)),(.n 902,.ds 3 1 (s.owner.map encInt))] [(900,gA s.ths k (stk s.ths[k]))]
   ⟨fun i=>[AV.agg (stRef s),i64 k,agg (encOp o),agg (encEv e)].getD i .junk,H0⟩ :=
  ⟨⟨rfl,rfl,rfl,rfl,trivial⟩,⟨g1,g3,g4,trivial⟩,⟨fun j=>by rw[famK_self hk];exact g2 j,trivial⟩⟩
 obtain⟨τ,H,hf⟩:=hat.form
 rw[hf]
 refine dA 8 (At (doL1 s k o s.ths[k]) (doO1 s k o e s.ths[k]) [(900,gA s.ths k (stk s.ths[k]))]) (fun K hK=>l3Do_pre hI s k o e hk h5 hs ho.2.2.2.2 hpc τ H _ K hK) (fun S hS=>?_)
 refine dA 1 (Do2 s.ths (doL s k o e).1 k (doL s k o e).2) (fun K hK=>l3Do_sw s k o e hk h5 hs ho hpc _ K S hS hK) (fun S' hS'=>?_)
 exact l3Do_fin s.ths _ k _ (by omega) S' hS'
end Ai
namespace Ai
set_option maxRecDepth 100000
open Go Go.Proofs
def ev0 (k:Nat) (t:Th):Ev:=⟨k,0,-1,-1,t.pc⟩
noncomputable def zS (p:ProgL) (s:StL) (k:Nat):StL × Ev :=
 let t:=s.ths.getD k th0
 if t.st=4 then
  ({ s with owner:=s.owner.set t.lock.toNat k }.put k { t with st:=1,cond:=-1,lock:=-1,pc:=if (yL p t).isSome then t.pc+1 else t.pc },{ ev0 k t with kind:=9,obj:=t.cond,lock:=t.lock })
 else match yL p t with
  |none=>(s.put k { t with st:=2 },{ ev0 k t with kind:=11 })
  |some o=>if yG s k o=0 then doL s k o (ev0 k t) else ({ s with fault:=yG s k o },{ ev0 k t with kind:=12,obj:=yG s k o })
structure Th.ready (t:Th) (p:ProgL) (s:StL) (k:Nat):Prop where
 inP:t.inP p
 pc:InR t.pc 0 1048576
 lock:t.st=4→0≤t.lock∧t.lock<s.owner.length
 op:∀ o,yL p t=some o→o.inS s∧(yG s k o=0→o.fits s t)
theorem jS {X:List (List AV)} {sz k off j:Nat} {xs c:List AV} (hj:j≠k) (h:X[j]?=some c):(yP X sz k off xs)[j]?=some c:=by
 unfold yP
 cases (Nat.beq off 0&&Nat.beq xs.length sz) with
 |true=>simp only[cond_true];rw[List.getElem?_set_ne (Ne.symm hj)];exact h
 |false=>simp only[cond_false];rw[List.getElem?_modify,h];simp[Ne.symm hj]
theorem wE {X:List (List AV)} {sz k off:Nat} {xs c c':List AV} (h:X[k]?=some c) (e:(bif Nat.beq off 0&&Nat.beq xs.length sz then xs else yD c off xs)=c'):(yP X sz k off xs)[k]?=some c':=by
 unfold yP
 subst e
 have hk:=(List.getElem?_eq_some_iff.1 h).1
 cases (Nat.beq off 0&&Nat.beq xs.length sz) with
 |true=>simp only[cond_true];rw[List.getElem?_set_self hk]
 |false=>simp only[cond_false];rw[List.getElem?_modify,h];simp
theorem fz_st3 {s:StL} {S:St} {rows:List (List AV)} {n m l:Nat} (h1:S.H (.n 900)=some (.rs 175 6 rows)) (hv:∀ (j:Nat) (row:List AV) (t:Th),s.ths[j]?=some t→rows[j]?=some row→fz1s S row=some (zH t))
  (h3:S.H (.n 901)=some (.ds 132 1 (s.cells.map encF))) (h4:S.H (.n 902)=some (.ds 3 1 (s.owner.map encInt))) (hn:n=s.ths.length) (hm:m=s.cells.length) (hl:l=s.owner.length) :
  FzC S [.dref (.n 900) n,.ref (.n 901) 0 m,.ref (.n 902) 0 l,i64 s.fault] (yT s):=by
 subst hn hm hl;exact fz_st2 h1 hv h3 h4
theorem l3Step_4 (hI:xK) (p:ProgL) (s:StL) (k:Nat) (hp:p.wf) (hk:k<s.ths.length) (h5:s.ths.length≤5) (hs:s.small) (hr:s.ths[k].ready p s k) (h40:s.ths[k].st=4) :
  CallsTo EE 90 [agg (encProg p),agg (yT s),i64 k] (·=.tup [agg (yT (zS p s k).1),agg (encEv (zS p s k).2)]):=by
 refine callsTo_of_AW (fn:=Tryz.f90) Tryz.func90 rfl (by kernel_rfl) rfl ?_
 have hg:s.ths.getD k th0=s.ths[k]:=by simp[List.getD_eq_getElem?_getD,hk]
 conv=>whnf
 refine⟨zH s.ths[k],zV zH hk rfl,?_⟩
 conv=>whnf
 refine⟨_,pL p s.ths[k] hp hr.inP,?_⟩
 rintro r rfl
 conv=>whnf
 refine kbi (fun h4=>?_) (fun h4=>?_)
 ·have h4:s.ths[k].st=4:=by simpa using h4
  conv=>whnf
  refine⟨_,mZ s hs,?_⟩
  rintro r rfl
  conv=>whnf
  have hl:=hr.lock h4
  refine⟨⟨hl.1,by simp;omega⟩,?_⟩
  conv=>whnf
  refine⟨⟨by omega,by simp;omega⟩,?_⟩
  conv=>whnf
  refine⟨⟨by omega,by simp;omega⟩,?_⟩
  conv=>whnf
  refine⟨⟨by omega,by simp;omega⟩,?_⟩
  conv=>whnf
  cases hn:yL p s.ths[k] with
  |none =>
   conv=>whnf
   refine .inr (.inl ⟨4,[],?_⟩)
   conv=>whnf
   refine⟨by kernel_rfl,?_⟩
   conv=>whnf
   have hd:zS p s k=({ s with owner:=s.owner.set s.ths[k].lock.toNat k }.put k { s.ths[k] with st:=1,cond:=-1,lock:=-1 },{ ev0 k s.ths[k] with kind:=9,obj:=s.ths[k].cond,lock:=s.ths[k].lock }):=by
    unfold zS;rw[hg];simp[h4,hn]
   rw[hd]
   refine .inl ?_
   conv=>whnf
   refine⟨[agg (yT _),agg (encEv _)],⟨_,_,rfl,⟨_,rfl,?_⟩,_,_,rfl,⟨_,rfl,?_⟩,rfl⟩,rfl⟩
   ·refine @fz_st3 _ _ ?_ _ _ _ ?_ ?_ ?_ ?_ ?_ ?_ ?_
    rotate_left 1
    ·conv=>lhs;whnf
     rfl
    ·intro j row t' ht hrr
     have hjl:j<s.ths.length:=by have:=(List.getElem?_eq_some_iff.1 ht).1;simpa[StL.put] using this
     have r0:=xE (o:=900) (List.getElem?_eq_getElem hjl)
     by_cases hj:j=k
     ·subst hj
      have e:t'={ s.ths[j] with st:=1,cond:=-1,lock:=-1 }:=by simpa[StL.put,hjl] using ht.symm
      subst e
      have e2:row=thRow 900 j { s.ths[j] with st:=1,cond:=-1,lock:=-1 }:=by
       refine Option.some.inj (hrr.symm.trans ?_)
       refine wF ?_ (yA rfl)
       refine wE (c:=[i64 s.ths[j].rt,i64 s.ths[j].pc,i64 1,i64 (-1),i64 s.ths[j].lock,.ref (.s 900 j) 0 s.ths[j].stack.length]) ?_ rfl
       refine wE (c:=[i64 s.ths[j].rt,i64 s.ths[j].pc,i64 1,i64 s.ths[j].cond,i64 s.ths[j].lock,.ref (.s 900 j) 0 s.ths[j].stack.length]) ?_ rfl
       refine wE (c:=thRow 900 j s.ths[j]) ?_ rfl
       repeat (first|exact r0|refine wF ?_ (yA rfl))
      subst e2
      refine fz_rowT (els:=stk s.ths[j]) ?_ (by simp[stk,List.take_of_length_le])
      conv=>lhs;whnf
      repeat (refine o6 ?_ rfl;conv=>lhs;whnf)
      rw[qN hjl]
     ·have e:t'=s.ths[j]:=by
       have:(s.ths.set k _)[j]?=some t':=ht
       rw[List.getElem?_set_ne (Ne.symm hj),List.getElem?_eq_getElem hjl] at this
       exact(Option.some.inj this).symm
      subst e
      have e2:row=thRow 900 j s.ths[j]:=by
       refine Option.some.inj (hrr.symm.trans ?_)
       repeat (first|exact r0|refine wF ?_ (yA rfl)|refine jS hj ?_)
      subst e2
      refine fz_rowT (els:=stk s.ths[j]) ?_ (by simp[stk,List.take_of_length_le])
      conv=>lhs;whnf
      repeat (refine o6 ?_ rfl;conv=>lhs;whnf)
      rw[qN hjl]
    ·conv=>lhs;whnf
     rfl
    ·conv=>lhs;whnf
     show some (Ob.ds 3 1 ((s.owner.map encInt).set (0+s.ths[k].lock.toNat) (encInt k)))=some (Ob.ds 3 1 ((s.owner.set s.ths[k].lock.toNat k).map encInt))
     rw[Nat.zero_add,List.map_set]
    ·simp[StL.put]
    ·simp[StL.put]
    ·simp[StL.put]
   ·exact fz_ev k 9 s.ths[k].cond s.ths[k].lock s.ths[k].pc
  |some o =>
   conv=>whnf
   refine⟨⟨by omega,by simp;omega⟩,?_⟩
   conv=>whnf
   have r0:=xE (o:=900) (List.getElem?_eq_getElem hk)
   refine⟨[i64 s.ths[k].rt,i64 s.ths[k].pc,i64 1,i64 (-1),i64 (-1),.ref (.s 900 k) 0 s.ths[k].stack.length],⟨?_,by simp⟩,?_⟩
   ·refine wE (c:=[i64 s.ths[k].rt,i64 s.ths[k].pc,i64 1,i64 (-1),i64 s.ths[k].lock,.ref (.s 900 k) 0 s.ths[k].stack.length]) ?_ rfl
    refine wE (c:=[i64 s.ths[k].rt,i64 s.ths[k].pc,i64 1,i64 s.ths[k].cond,i64 s.ths[k].lock,.ref (.s 900 k) 0 s.ths[k].stack.length]) ?_ rfl
    refine wE (c:=thRow 900 k s.ths[k]) ?_ rfl
    repeat (first|exact r0|refine wF ?_ (yA rfl))
   conv=>whnf
   rw[zF (by have:=hr.pc.1;omega) (by have:=hr.pc.2;omega)]
   refine⟨⟨by omega,by simp;omega⟩,?_⟩
   conv=>whnf
   refine .inr (.inl ⟨4,[],?_⟩)
   conv=>whnf
   refine⟨by kernel_rfl,?_⟩
   conv=>whnf
   have hd:zS p s k=({ s with owner:=s.owner.set s.ths[k].lock.toNat k }.put k { s.ths[k] with st:=1,cond:=-1,lock:=-1,pc:=s.ths[k].pc+1 },{ ev0 k s.ths[k] with kind:=9,obj:=s.ths[k].cond,lock:=s.ths[k].lock }):=by
    unfold zS;rw[hg];simp[h4,hn]
   rw[hd]
   refine .inl ?_
   conv=>whnf
   refine⟨[agg (yT _),agg (encEv _)],⟨_,_,rfl,⟨_,rfl,?_⟩,_,_,rfl,⟨_,rfl,?_⟩,rfl⟩,rfl⟩
   ·refine @fz_st3 _ _ ?_ _ _ _ ?_ ?_ ?_ ?_ ?_ ?_ ?_
    rotate_left 1
    ·conv=>lhs;whnf
     rfl
    ·intro j row t' ht hrr
     have hjl:j<s.ths.length:=by have:=(List.getElem?_eq_some_iff.1 ht).1;simpa[StL.put] using this
     have r0:=xE (o:=900) (List.getElem?_eq_getElem hjl)
     by_cases hj:j=k
     ·subst hj
      have e:t'={ s.ths[j] with st:=1,cond:=-1,lock:=-1,pc:=s.ths[j].pc+1 }:=by simpa[StL.put,hjl] using ht.symm
      subst e
      have e2:row=thRow 900 j { s.ths[j] with st:=1,cond:=-1,lock:=-1,pc:=s.ths[j].pc+1 }:=by
       refine Option.some.inj (hrr.symm.trans ?_)
       refine wF ?_ (yA rfl)
       refine wE (c:=[i64 s.ths[j].rt,i64 s.ths[j].pc,i64 1,i64 (-1),i64 (-1),.ref (.s 900 j) 0 s.ths[j].stack.length]) ?_ rfl
       refine wE (c:=[i64 s.ths[j].rt,i64 s.ths[j].pc,i64 1,i64 (-1),i64 s.ths[j].lock,.ref (.s 900 j) 0 s.ths[j].stack.length]) ?_ rfl
       refine wE (c:=[i64 s.ths[j].rt,i64 s.ths[j].pc,i64 1,i64 s.ths[j].cond,i64 s.ths[j].lock,.ref (.s 900 j) 0 s.ths[j].stack.length]) ?_ rfl
       refine wE (c:=thRow 900 j s.ths[j]) ?_ rfl
       repeat (first|exact r0|refine wF ?_ (yA rfl))
      subst e2
      refine fz_rowT (els:=stk s.ths[j]) ?_ (by simp[stk,List.take_of_length_le])
      conv=>lhs;whnf
      repeat (refine o6 ?_ rfl;conv=>lhs;whnf)
      rw[qN hjl]
     ·have e:t'=s.ths[j]:=by
       have:(s.ths.set k _)[j]?=some t':=ht
       rw[List.getElem?_set_ne (Ne.symm hj),List.getElem?_eq_getElem hjl] at this
       exact(Option.some.inj this).symm
      subst e
      have e2:row=thRow 900 j s.ths[j]:=by
       refine Option.some.inj (hrr.symm.trans ?_)
       repeat (first|exact r0|refine wF ?_ (yA rfl)|refine jS hj ?_)
      subst e2
      refine fz_rowT (els:=stk s.ths[j]) ?_ (by simp[stk,List.take_of_length_le])
      conv=>lhs;whnf
      repeat (refine o6 ?_ rfl;conv=>lhs;whnf)
      rw[qN hjl]
    ·conv=>lhs;whnf
     rfl
    ·conv=>lhs;whnf
     show some (Ob.ds 3 1 ((s.owner.map encInt).set (0+s.ths[k].lock.toNat) (encInt k)))=some (Ob.ds 3 1 ((s.owner.set s.ths[k].lock.toNat k).map encInt))
     rw[Nat.zero_add,List.map_set]
    ·simp[StL.put]
    ·simp[StL.put]
    ·simp[StL.put]
   ·exact fz_ev k 9 s.ths[k].cond s.ths[k].lock s.ths[k].pc
 ·exact absurd (by simpa using h40) h4
end Ai
namespace Ai
open Go Go.Proofs
section
variable {S:St} {H1:Key→Option Ob} {L:Key→Bool} {f:Key→Key}
theorem nE (hS:∀ κ,L κ=true→S.H κ=(H1 κ).map (renO f)) (hf:∀ κ,L κ=true→f κ=κ) (h0:∀ κ,L κ=false→H1 κ=none) {v:AV} {d:D} (h:fz1 ⟨fun _=>.junk,H1⟩ v=some d):fz1 S (ren f v)=some d:=by
 cases v with
 |d x=>cases x <;> exact h
 |ref o off n =>
  have ho:L o=true:=by
   cases hl:L o with
   |true=>rfl
   |false =>
    have:=h0 o hl
    simp[fz1,this] at h
  simp only[ren,hf o ho,fz1,hS o ho]
  simp only[fz1] at h
  cases hH:H1 o with
  |none=>rw[hH] at h;cases h
  |some ob =>
   rw[hH] at h
   cases ob with
   |ds e sz els=>exact h
   |vs e cs=>cases h
   |rs e sz rows=>cases h
   |mp ag ps=>cases h
 | _=>cases h
theorem iX (hS:∀ κ,L κ=true→S.H κ=(H1 κ).map (renO f)) (hf:∀ κ,L κ=true→f κ=κ) (h0:∀ κ,L κ=false→H1 κ=none):∀ {vs:List AV} {ds:List D},fz1s ⟨fun _=>.junk,H1⟩ vs=some ds→fz1s S (renL f vs)=some ds
 | [],ds,h=>h
 |v::vs,ds,h=>by
  simp only[fz1s] at h
  split at h
  ·rename_i x hx
   split at h
   ·rename_i xs hxs
    simp only[renL,fz1s,nE hS hf h0 hx,iX hS hf h0 hxs]
    exact h
   ·cases h
  ·cases h
theorem FzC_back (hS:∀ κ,L κ=true→S.H κ=(H1 κ).map (renO f)) (hf:∀ κ,L κ=true→f κ=κ) (h0:∀ κ,L κ=false→H1 κ=none):∀ {vs:List AV} {ds:List D},FzC ⟨fun _=>.junk,H1⟩ vs ds→FzC S (renL f vs) ds
 | [],ds,h=>h
 |v::vs,ds,h=>by
  obtain⟨x,xs,rfl,hx,hxs⟩:=h
  refine⟨x,xs,rfl,?_,FzC_back hS hf h0 hxs⟩
  cases v with
  |dref o n =>
   obtain⟨els,rfl,hv⟩:=hx
   refine⟨els,rfl,?_⟩
   unfold kK at hv ⊢
   simp only at hv
   have ho:L o=true:=by
    cases hl:L o with
    |true=>rfl
    |false=>rw[h0 o hl] at hv;exact hv.elim
   rw[hf o ho,hS o ho]
   cases hH:H1 o with
   |none=>rw[hH] at hv;exact hv.elim
   |some ob =>
    rw[hH] at hv
    cases ob with
    |ds e sz els=>exact hv.elim
    |vs e cs=>exact hv.elim
    |mp ag ps=>exact hv.elim
    |rs e sz rows =>
     refine⟨hv.1,fun j row hj hr=>?_⟩
     have hr:(rows.map (renL f))[j]?=some row:=hr
     rw[List.getElem?_map] at hr
     obtain⟨r0,g1,rfl⟩:=Option.map_eq_some_iff.1 hr
     obtain⟨d,g2,g3⟩:=hv.2 j r0 hj g1
     exact⟨d,g2,iX hS hf h0 g3⟩
  |d x=>exact nE hS hf h0 hx
  |ref o off n=>exact nE hS hf h0 hx
  | _=>exact nE hS hf h0 hx
end
end Ai
namespace Ai
set_option maxRecDepth 100000
open Go Go.Proofs
theorem jA (a b o:Nat) (l:List Th):(thRows o l).map (renL (swp (.n a) (.l b)))=thRows o l:=by
 apply List.ext_getElem?
 intro i
 rw[List.getElem?_map]
 by_cases hj:i<l.length
 ·rw[yO hj]
  rfl
 ·rw[List.getElem?_eq_none (by rw[zP];omega)]
  rfl
theorem o7 {x X:Option Ob} {f:Key→Key} (h:x=X) (hp:X.map (renO f)=X):x.map (renO f)=X:=by rw[h];exact hp
theorem own_fam (s:StL) (j:Nat):(match ownH (jB s) (.s 900 j) with|some ob=>some ob|none=>(none:Option Ob))=zE s.ths j:=by
 show(match ((s.ths.map stk)[j]?).map (Ob.ds 132 1) with|some ob=>some ob|none=>(none:Option Ob))=(s.ths[j]?).map fun t=>.ds 132 1 (stk t)
 rw[List.getElem?_map]
 cases s.ths[j]? <;> rfl
theorem l3Step_n (hI:xK) (p:ProgL) (s:StL) (k:Nat) (hp:p.wf) (hk:k<s.ths.length) (h5:s.ths.length≤5) (hs:s.small) (hr:s.ths[k].ready p s k) (h40:¬ s.ths[k].st=4) :
  CallsTo EE 90 [agg (encProg p),agg (yT s),i64 k] (·=.tup [agg (yT (zS p s k).1),agg (encEv (zS p s k).2)]):=by
 refine callsTo_of_AW (fn:=Tryz.f90) Tryz.func90 rfl (by kernel_rfl) rfl ?_
 have hg:s.ths.getD k th0=s.ths[k]:=by simp[List.getD_eq_getElem?_getD,hk]
 conv=>whnf
 refine⟨zH s.ths[k],zV zH hk rfl,?_⟩
 conv=>whnf
 refine⟨_,pL p s.ths[k] hp hr.inP,?_⟩
 rintro r rfl
 conv=>whnf
 refine kbi (fun h4=>?_) (fun h4=>?_)
 ·exact absurd (by simpa using h4) h40
 ·conv=>whnf
  cases hn:yL p s.ths[k] with
  |none =>
   conv=>whnf
   refine⟨_,mZ s hs,?_⟩
   rintro r rfl
   conv=>whnf
   refine⟨⟨by omega,by simp;omega⟩,?_⟩
   conv=>whnf
   refine .inr (.inl ⟨4,[],?_⟩)
   conv=>whnf
   refine⟨by kernel_rfl,?_⟩
   conv=>whnf
   have hd:zS p s k=(s.put k { s.ths[k] with st:=2 },{ ev0 k s.ths[k] with kind:=11 }):=by
    unfold zS;rw[hg];simp[h40,hn]
   rw[hd]
   refine .inl ?_
   conv=>whnf
   refine⟨[agg (yT _),agg (encEv _)],⟨_,_,rfl,⟨_,rfl,?_⟩,_,_,rfl,⟨_,rfl,?_⟩,rfl⟩,rfl⟩
   ·refine @fz_st3 _ _ ?_ _ _ _ ?_ ?_ ?_ ?_ ?_ ?_ ?_
    rotate_left 1
    ·conv=>lhs;whnf
     rfl
    ·intro j row t' ht hrr
     have hjl:j<s.ths.length:=by have:=(List.getElem?_eq_some_iff.1 ht).1;simpa[StL.put] using this
     have r0:=xE (o:=900) (List.getElem?_eq_getElem hjl)
     by_cases hj:j=k
     ·subst hj
      have e:t'={ s.ths[j] with st:=2 }:=by simpa[StL.put,hjl] using ht.symm
      subst e
      have e2:row=thRow 900 j { s.ths[j] with st:=2 }:=by
       refine Option.some.inj (hrr.symm.trans ?_)
       refine wF ?_ (yA rfl)
       refine wE (c:=thRow 900 j s.ths[j]) ?_ rfl
       repeat (first|exact r0|refine wF ?_ (yA rfl))
      subst e2
      refine fz_rowT (els:=stk s.ths[j]) ?_ (by simp[stk,List.take_of_length_le])
      conv=>lhs;whnf
      repeat (refine o6 ?_ rfl;conv=>lhs;whnf)
      rw[qN hjl]
     ·have e:t'=s.ths[j]:=by
       have:(s.ths.set k _)[j]?=some t':=ht
       rw[List.getElem?_set_ne (Ne.symm hj),List.getElem?_eq_getElem hjl] at this
       exact(Option.some.inj this).symm
      subst e
      have e2:row=thRow 900 j s.ths[j]:=by
       refine Option.some.inj (hrr.symm.trans ?_)
       repeat (first|exact r0|refine wF ?_ (yA rfl)|refine jS hj ?_)
      subst e2
      refine fz_rowT (els:=stk s.ths[j]) ?_ (by simp[stk,List.take_of_length_le])
      conv=>lhs;whnf
      repeat (refine o6 ?_ rfl;conv=>lhs;whnf)
      rw[qN hjl]
    ·conv=>lhs;whnf
     rfl
    ·conv=>lhs;whnf
     rfl
    ·simp[StL.put]
    ·simp[StL.put]
    ·simp[StL.put]
   ·exact fz_ev k 11 (-1) (-1) s.ths[k].pc
  |some o =>
   conv=>whnf
   refine⟨_,l3Code_ok hI s k o hk hs (hr.op o hn).1,?_⟩
   rintro r rfl
   conv=>whnf
   refine kbi (fun h6=>?_) (fun h6=>?_)
   ·have h6:¬ yG s k o=0:=by simpa using h6
    conv=>whnf
    refine⟨_,l3Fault_ok s (ev0 k s.ths[k]) _ hs,?_⟩
    rintro r rfl
    conv=>whnf
    have hd:zS p s k=({ s with fault:=yG s k o },{ ev0 k s.ths[k] with kind:=12,obj:=yG s k o }):=by
     unfold zS;rw[hg];simp[h40,hn,h6]
    rw[hd]
    rfl
   ·have h6:yG s k o=0:=by simpa using h6
    conv=>whnf
    have hd:zS p s k=doL s k o (ev0 k s.ths[k]):=by
     unfold zS;rw[hg];simp[h40,hn,h6]
    rw[hd]
    refine .inr (.inl ⟨5,[2700,2701,2703,2706],?_⟩)
    conv=>whnf
    refine⟨_,mZ s hs,?_⟩
    conv=>whnf
    refine⟨by kernel_rfl,?_⟩
    conv=>whnf
    refine .inr (.inl ⟨999,0,lendK,doPost (doL s k o (ev0 k s.ths[k])).1 (doL s k o (ev0 k s.ths[k])).2,?_,rfl,?_⟩)
    ·show IOCall EE 168 [.agg [.dref (.n 900) (s.ths.map vV).length,.ref (.n 901) 0 (s.cells.map encF).length,.ref (.n 902) 0 (s.owner.map encInt).length,i64 s.fault],i64 k,agg (encOp o),agg (encEv (ev0 k s.ths[k]))] _ _
     rw[List.length_map,List.length_map,List.length_map]
     refine l3Do_ok hI s k o (ev0 k s.ths[k]) hk h5 hs ((hr.op o hn).2 h6) hr.pc _ ⟨?_,fun j=>?_,?_,?_⟩
     ·conv=>lhs;whnf
      refine congrArg some ?_
      refine xW ?_ (by exact congrArg _ (zZ fun _ _=>rfl))
      exact congrArg (Ob.rs 175 6) (jA 999 0 900 s.ths)
     ·conv=>lhs;whnf
      repeat (first|(refine hscrO ?_ (zQ _ _ _);conv=>lhs;whnf)|(refine o7 ?_ (thFam_ren _ _ _);conv=>lhs;whnf))
      exact own_fam s j
     ·conv=>lhs;whnf
      rfl
     ·conv=>lhs;whnf
      rfl
    ·rintro r H1 ⟨rfl,q1,q2⟩
     refine⟨q2,(fun n hn=>by cases hn),?_⟩
     conv=>whnf
     refine .inl ?_
     conv=>whnf
     refine⟨[agg (yT (doL s k o (ev0 k s.ths[k])).1),agg (encEv (doL s k o (ev0 k s.ths[k])).2)],⟨_,_,rfl,⟨_,rfl,?_⟩,_,_,rfl,⟨_,rfl,?_⟩,rfl⟩,rfl⟩
     ·refine FzC_back (f:=swp (.n 999) (.l 0)) (vs:=stRef (doL s k o (ev0 k s.ths[k])).1) (L:=lendK) (fun κ hκ=>?_) (fun κ hκ=>?_) q2 q1
      ·cases κ with
       |n i =>
        have:i=900∨i=901∨i=902:=by
         simp only[lendK,Bool.or_eq_true,Nat.beq_eq] at hκ
         omega
        rcases this with rfl|rfl|rfl
        ·rfl
        ·rfl
        ·rfl
       |s i j =>
        have:i=900:=by simpa only[lendK,Nat.beq_eq] using hκ
        subst this
        rfl
       |l i=>cases hκ
      ·cases κ with
       |n i =>
        have:i=900∨i=901∨i=902:=by
         simp only[lendK,Bool.or_eq_true,Nat.beq_eq] at hκ
         omega
        rcases this with rfl|rfl|rfl <;> rfl
       |s i j=>rfl
       |l i=>cases hκ
     ·exact fz_ev _ _ _ _ _
end Ai
namespace Ai
set_option maxRecDepth 100000
open Go Go.Proofs
def gU:Prop:=∀ (x:Nat) (many n:Int),yY x many=some n→0≤n∧n<many
theorem bL (hR:gU) {s:StL} {t:Th} {n:Int} (h:yF s t=some n):0≤n∧n<s.ths.length:=by
 unfold yF at h
 cases hl:t.stack.getLast? with
 |none=>rw[hl] at h;cases h
 |some x=>rw[hl] at h;exact hR x _ n h
def zW (p:ProgL) (s:StL) (t:Th):Int :=
 if t.st=4 then s.owner.getD t.lock.toNat 0
 else match yL p t with
  |none=>-1
  |some o=>if t.st=1 then
    (if o.code=12 then s.owner.getD o.a.toNat 0
    else if o.code=15 then (match yF s t with|some k=>if (s.ths.getD k.toNat th0).st=2 then -1 else k|none=>-1)
    else -1)
   else -1
structure Th.seen (t:Th) (p:ProgL) (s:StL):Prop where
 inP:t.inP p
 lock:t.st=4→0≤t.lock∧t.lock<s.owner.length
 op:∀ o,yL p t=some o→o.code=12→0≤o.a∧o.a<s.owner.length
theorem rS (hI:xK) (hR:gU) (p:ProgL) (s:StL) (t:Th) (hp:p.wf) (ht:t.stack.length≤1048576) (hv:t.seen p s) :
  CallsTo EE 197 [agg (encProg p),agg (yT s),agg (zH t)] (·=i64 (zW p s t)):=by
 refine callsTo_of_AW (fn:=Tryz.f197) Tryz.func197 rfl (by kernel_rfl) rfl ?_
 have own_get:∀ (a:Int),0≤a∧a<s.owner.length→0≤a∧(s.owner.map encInt)[a.toNat]?=some (encInt (s.owner.getD a.toNat 0))∧(encInt (s.owner.getD a.toNat 0)).length=1:=by
  intro a ha
  refine⟨ha.1,?_,rfl⟩
  have:a.toNat<s.owner.length:=by omega
  simp[this,List.getD_eq_getElem?_getD]
 conv=>whnf
 refine kbi (fun h4=>?_) (fun h4=>?_)
 ·have h4:t.st=4:=by simpa using h4
  conv=>whnf
  refine⟨_,own_get t.lock (hv.lock h4),?_⟩
  conv=>whnf
  simp only[zW,if_pos h4]
 have h4:¬ t.st=4:=by simpa using h4
 conv=>whnf
 refine⟨_,pL p t hp hv.inP,?_⟩
 rintro r rfl
 conv=>whnf
 refine kbi (fun h1=>?_) (fun h1=>?_)
 ·have h1:¬ t.st=1:=by simpa using h1
  conv=>whnf
  have:zW p s t=-1:=by
   unfold zW;rw[if_neg h4]
   cases yL p t with
   |none=>rfl
   |some o=>simp[h1]
  rw[this]
 have h1:t.st=1:=by simpa using h1
 cases hn:yL p t with
 |none =>
  conv=>whnf
  have:zW p s t=-1:=by
   unfold zW;rw[if_neg h4,hn]
  rw[this]
 |some o =>
  conv=>whnf
  refine kbi (fun h2=>?_) (fun h2=>?_)
  ·have h2:o.code=12:=by simpa using h2
   conv=>whnf
   refine⟨_,own_get o.a (hv.op o hn h2),?_⟩
   conv=>whnf
   simp[zW,h4,hn,h1,h2]
  have h2:¬ o.code=12:=by simpa using h2
  conv=>whnf
  refine kbi (fun h3=>?_) (fun h3=>?_)
  ·have h3:o.code=15:=by simpa using h3
   conv=>whnf
   refine⟨_,lT hI s t ht,?_⟩
   rintro r rfl
   conv=>whnf
   cases hj:yF s t with
   |none =>
    conv=>whnf
    refine kbi (fun h5=>absurd h5 (by decide)) (fun h5=>?_)
    conv=>whnf
    simp[zW,h4,hn,h1,h2,h3,hj]
   |some k =>
    obtain⟨k1,k2⟩:=bL hR hj
    have hk:k.toNat<s.ths.length:=by omega
    conv=>whnf
    refine kbi (fun h5=>?_) (fun h5=>?_)
    ·conv=>whnf
     refine⟨zH s.ths[k.toNat],⟨k1,by simp[hk],rfl⟩,?_⟩
     conv=>whnf
     refine kbi (fun h6=>?_) (fun h6=>?_)
     ·have h6:¬ s.ths[k.toNat].st=2:=by simpa using h6
      conv=>whnf
      simp[zW,h4,hn,h1,h2,h3,hj,List.getD_eq_getElem?_getD,hk,h6]
     ·have h6:s.ths[k.toNat].st=2:=by simpa using h6
      conv=>whnf
      simp[zW,h4,hn,h1,h2,h3,hj,List.getD_eq_getElem?_getD,hk,h6]
    ·exact absurd (by simpa using k1) h5
  have h3:¬ o.code=15:=by simpa using h3
  conv=>whnf
  simp[zW,h4,hn,h1,h2,h3]
end Ai
namespace Ai
set_option maxRecDepth 100000
open Go Go.Proofs
open Classical in
/-- may this thread go? -/
noncomputable def qO (p:ProgL) (s:StL) (k:Nat):Bool:=decide (s.fault=0∧((s.ths.getD k th0).st=1∨(s.ths.getD k th0).st=4)∧zW p s (s.ths.getD k th0)<0)
noncomputable def zI (p:ProgL) (s:StL) (n:Nat):List Nat:=(List.range n).filter (qO p s)
noncomputable def zA (p:ProgL) (s:StL):List Nat:=zI p s s.ths.length
def wV (k:Nat):List D:=[di k]
theorem yQ {p:ProgL} {s:StL} {n:Nat}:zI p s (n+1)=zI p s n++(if qO p s n=true then [n] else []):=by
 unfold zI
 rw[List.range_succ,List.filter_append]
 congr 1
 cases h:qO p s n <;> simp[h]
theorem vR {p:ProgL} {s:StL} {n:Nat}:(zI p s n).length≤n:=by
 unfold zI
 have:=List.length_filter_le (qO p s) (List.range n)
 simpa using this
theorem nA (hI:xK) (hR:gU) (p:ProgL) (s:StL) (hp:p.wf) (hs:s.small) (hv:∀ t∈s.ths,t.seen p s) :
  CallsTo EE 131 [agg (encProg p),agg (yT s)] (·=.uq 3 1 ((zA p s).map wV)):=by
 refine callsTo_of_AW (fn:=Tryz.f131) Tryz.func131 rfl (by kernel_rfl) rfl ?_
 conv=>whnf
 refine yU (fun k:Nat=>[(2,.ptr (.n 2) 0),(3,.ptr (.n 3) 0),(5,.ref (.n 5) 0 (zI p s k).length),(9,sl (s.ths.map zH)),(10,i64 (s.ths.map zH).length),(11,i64 k)])
  (fun k=>[(.n 2,.vs 31 ((encProg p).map .d)),(.n 3,.vs 54 ((yT s).map .d)),(.n 5,.ds 3 1 ((zI p s k).map wV))]) (fun k=>s.ths.length - k) (fun k=>k≤s.ths.length) 0
  (weak_nil 5 (.n 5) 3 1 rfl) ?_ ?_ (Nat.zero_le _) ?_
 ·exact⟨rfl,rfl,rfl,rfl,rfl,rfl,trivial⟩
 ·exact⟨rfl,rfl,rfl,trivial⟩
 rintro k τ H hk
 conv=>whnf
 refine kbi (fun h=>?_) (fun h=>?_)
 ·have hlt:=yS h
  conv=>whnf
  refine⟨zH s.ths[k],zV zH hlt rfl,?_⟩
  conv=>whnf
  have hg:s.ths.getD k th0=s.ths[k]:=by simp[List.getD_eq_getElem?_getD,hlt]
  have hle:(zI p s k).length≤k:=vR
  have hn:=hs.1
  refine kbi (fun hf=>?_) (fun hf=>?_)
  ·have hf:s.fault=0:=by simpa using hf
   conv=>whnf
   refine kbi (fun h1=>?_) (fun h1=>?_)
   ·have h1:s.ths[k].st=1:=by simpa using h1
    conv=>whnf
    refine⟨_,rS hI hR p s s.ths[k] hp (hs.2.1 _ (List.getElem_mem hlt)) (hv _ (List.getElem_mem hlt)),?_⟩
    rintro r rfl
    conv=>whnf
    refine kbi (fun hb=>?_) (fun hb=>?_)
    ·have hb:zW p s s.ths[k]<0:=by simpa using hb
     conv=>whnf
     refine⟨⟨rfl,by simp;omega,by simp;omega⟩,?_⟩
     conv=>whnf
     have hgo:qO p s k=true:=by unfold qO;rw[hg];exact decide_eq_true ⟨hf,.inl h1,hb⟩
     have hsk:zI p s (k+1)=zI p s k++[k]:=by rw[yQ,hgo];simp
     refine⟨k+1,by omega,by show s.ths.length - (k+1)<s.ths.length - k;omega,⟨rfl,rfl,?_,rfl,rfl,zN hlt (by omega),trivial⟩,⟨rfl,rfl,?_,trivial⟩⟩
     ·rw[hsk]
      show AV.ref (.n 5) 0 ((zI p s k).length+1)=_
      simp
     ·rw[hsk]
      show some (Ob.ds 3 1 (((zI p s k).map wV).take (zI p s k).length++[[di k]]))=_
      rw[List.take_of_length_le (by simp)]
      simp[wV]
    ·have hb:¬ zW p s s.ths[k]<0:=by simpa using hb
     conv=>whnf
     have hgo:qO p s k=false:=by unfold qO;rw[hg];exact decide_eq_false fun e=>hb e.2.2
     have hsk:zI p s (k+1)=zI p s k:=by rw[yQ,hgo];simp
     refine⟨k+1,by omega,by show s.ths.length - (k+1)<s.ths.length - k;omega,⟨rfl,rfl,?_,rfl,rfl,zN hlt (by omega),trivial⟩,⟨rfl,rfl,?_,trivial⟩⟩
     ·rw[hsk];rfl
     ·rw[hsk];rfl
   ·have h1:¬ s.ths[k].st=1:=by simpa using h1
    conv=>whnf
    refine kbi (fun h4=>?_) (fun h4=>?_)
    ·have h4:s.ths[k].st=4:=by simpa using h4
     conv=>whnf
     refine⟨_,rS hI hR p s s.ths[k] hp (hs.2.1 _ (List.getElem_mem hlt)) (hv _ (List.getElem_mem hlt)),?_⟩
     rintro r rfl
     conv=>whnf
     refine kbi (fun hb=>?_) (fun hb=>?_)
     ·have hb:zW p s s.ths[k]<0:=by simpa using hb
      conv=>whnf
      refine⟨⟨rfl,by simp;omega,by simp;omega⟩,?_⟩
      conv=>whnf
      have hgo:qO p s k=true:=by unfold qO;rw[hg];exact decide_eq_true ⟨hf,.inr h4,hb⟩
      have hsk:zI p s (k+1)=zI p s k++[k]:=by rw[yQ,hgo];simp
      refine⟨k+1,by omega,by show s.ths.length - (k+1)<s.ths.length - k;omega,⟨rfl,rfl,?_,rfl,rfl,zN hlt (by omega),trivial⟩,⟨rfl,rfl,?_,trivial⟩⟩
      ·rw[hsk]
       show AV.ref (.n 5) 0 ((zI p s k).length+1)=_
       simp
      ·rw[hsk]
       show some (Ob.ds 3 1 (((zI p s k).map wV).take (zI p s k).length++[[di k]]))=_
       rw[List.take_of_length_le (by simp)]
       simp[wV]
     ·have hb:¬ zW p s s.ths[k]<0:=by simpa using hb
      conv=>whnf
      have hgo:qO p s k=false:=by unfold qO;rw[hg];exact decide_eq_false fun e=>hb e.2.2
      have hsk:zI p s (k+1)=zI p s k:=by rw[yQ,hgo];simp
      refine⟨k+1,by omega,by show s.ths.length - (k+1)<s.ths.length - k;omega,⟨rfl,rfl,?_,rfl,rfl,zN hlt (by omega),trivial⟩,⟨rfl,rfl,?_,trivial⟩⟩
      ·rw[hsk];rfl
      ·rw[hsk];rfl
    ·have h4:¬ s.ths[k].st=4:=by simpa using h4
     conv=>whnf
     have hgo:qO p s k=false:=by unfold qO;rw[hg];exact decide_eq_false fun e=>e.2.1.elim h1 h4
     have hsk:zI p s (k+1)=zI p s k:=by rw[yQ,hgo];simp
     refine⟨k+1,by omega,by show s.ths.length - (k+1)<s.ths.length - k;omega,⟨rfl,rfl,?_,rfl,rfl,zN hlt (by omega),trivial⟩,⟨rfl,rfl,?_,trivial⟩⟩
     ·rw[hsk];rfl
     ·rw[hsk];rfl
  ·have hf:¬ s.fault=0:=by simpa using hf
   conv=>whnf
   have hgo:qO p s k=false:=by unfold qO;exact decide_eq_false fun e=>hf e.1
   have hsk:zI p s (k+1)=zI p s k:=by rw[yQ,hgo];simp
   refine⟨k+1,by omega,by show s.ths.length - (k+1)<s.ths.length - k;omega,⟨rfl,rfl,?_,rfl,rfl,zN hlt (by omega),trivial⟩,⟨rfl,rfl,?_,trivial⟩⟩
   ·rw[hsk];rfl
   ·rw[hsk];rfl
 ·have hge:s.ths.length≤k:=by simpa using h
  have hkk:k=s.ths.length:=by omega
  subst hkk
  conv=>whnf
  refine congrArg (AV.uq 3 1) ?_
  rw[List.take_of_length_le (by simp)]
  rfl
end Ai
namespace Ai
set_option maxRecDepth 100000
open Go Go.Proofs
open Classical in
/-- how a run stands -/
noncomputable def xC (p:ProgL) (s:StL) (steps budget:Int):Int :=
 if s.fault≠0 then 2 else if zA p s=[] then (if ∃ t∈s.ths,t.st≠2 then 3 else 1) else if steps=budget then 4 else 0
theorem l4Code_ok (hI:xK) (hR:gU) (p:ProgL) (s:StL) (steps budget:Int) (hp:p.wf) (hs:s.small) (hv:∀ t∈s.ths,t.seen p s) :
  CallsTo EE 132 [agg (encProg p),agg (yT s),i64 steps,i64 budget] (·=i64 (xC p s steps budget)):=by
 refine callsTo_of_AW (fn:=Tryz.f132) Tryz.func132 rfl (by kernel_rfl) rfl ?_
 have hn:=hs.1
 conv=>whnf
 refine kbi (fun hf=>?_) (fun hf=>?_)
 ·have hf:s.fault≠0:=by simpa using hf
  conv=>whnf
  unfold xC
  rw[if_pos hf]
 have hf:¬ s.fault≠0:=by simpa using hf
 conv=>whnf
 refine⟨_,nA hI hR p s hp hs hv,?_⟩
 rintro r rfl
 refine .inl ?_
 conv=>whnf
 refine kbi (fun h0=>?_) (fun h0=>?_)
 ·have h0:zA p s=[]:=by
   have:(((zA p s).map wV).length:Int)=0:=by simpa using h0
   simp at this
   exact this
  conv=>whnf
  refine yU (fun k:Nat=>[(8,i64 0),(20,sl (s.ths.map zH)),(21,i64 (s.ths.map zH).length),(22,i64 k)]) (fun k=>[]) (fun k=>s.ths.length - k) (fun k=>k≤s.ths.length∧∀ j u,j<k→s.ths[j]?=some u→u.st=2) 0
   Weak.refl ⟨rfl,rfl,rfl,rfl,trivial⟩ trivial ⟨Nat.zero_le _,fun j u hj=>by omega⟩ ?_
  rintro k τ H ⟨hk,hall⟩
  conv=>whnf
  refine kbi (fun h=>?_) (fun h=>?_)
  ·have hlt:=yS h
   conv=>whnf
   refine⟨zH s.ths[k],zV zH hlt rfl,?_⟩
   conv=>whnf
   refine kbi (fun h2=>?_) (fun h2=>?_)
   ·have h2:s.ths[k].st≠2:=by simpa using h2
    conv=>whnf
    unfold xC
    rw[if_neg hf,if_pos h0,if_pos ⟨_,List.getElem_mem hlt,h2⟩]
   ·have h2:s.ths[k].st=2:=by simpa using h2
    conv=>whnf
    refine⟨k+1,⟨by omega,fun j u hj hu=>?_⟩,by show s.ths.length - (k+1)<s.ths.length - k;omega,⟨rfl,rfl,rfl,zN hlt (by omega),trivial⟩,trivial⟩
    by_cases hjk:j=k
    ·subst hjk
     rw[List.getElem?_eq_getElem hlt] at hu
     simp only[Option.some.injEq] at hu
     subst hu;exact h2
    ·exact hall j u (by omega) hu
  ·have hge:s.ths.length≤k:=by simpa using h
   conv=>whnf
   unfold xC
   rw[if_neg hf,if_pos h0,if_neg]
   rintro⟨t,ht,h2⟩
   obtain⟨j,hj,rfl⟩:=List.mem_iff_getElem.1 ht
   exact h2 (hall j _ (by omega) (List.getElem?_eq_getElem hj))
 have h0:¬ zA p s=[]:=fun e=>h0 (by rw[e];rfl)
 conv=>whnf
 refine kbi (fun h1=>?_) (fun h1=>?_)
 ·have h1:steps=budget:=by simpa using h1
  conv=>whnf
  unfold xC
  rw[if_neg hf,if_neg h0,if_pos h1]
 ·have h1:¬ steps=budget:=by simpa using h1
  conv=>whnf
  unfold xC
  rw[if_neg hf,if_neg h0,if_neg h1]
end Ai
namespace Ai
set_option maxRecDepth 100000
open Go Go.Proofs
theorem l3Step_ok (hI:xK) (p:ProgL) (s:StL) (k:Nat) (hp:p.wf) (hk:k<s.ths.length) (h5:s.ths.length≤5) (hs:s.small) (hr:s.ths[k].ready p s k) :
  CallsTo EE 90 [agg (encProg p),agg (yT s),i64 k] (·=.tup [agg (yT (zS p s k).1),agg (encEv (zS p s k).2)]):=by
 by_cases h:s.ths[k].st=4
 ·exact l3Step_4 hI p s k hp hk h5 hs hr h
 ·exact l3Step_n hI p s k hp hk h5 hs hr h
end Ai
namespace Ai
set_option maxRecDepth 100000
open Go Go.Proofs
def xR (p:ProgL):StL:=⟨[kB 0],List.replicate p.cells.toNat 0,List.replicate p.locks.toNat (-1),0⟩
theorem jY (p:Key→Bool) (k:Nat) (x:D):(List.replicate k [AV.d x]).map (scrPL p)=List.replicate k [AV.d x]:=by simp[scrPL,scrP]
def oN (p:ProgL) (k:Nat) (c2:AV):List (Key × Ob):=[(.n 1,.vs 31 ((encProg p).map .d)),(.n 2,.vs 54 [.d .nil,.d .nil,.d .nil,i64 0]),(.n 3,.vs 54 [.ref (.n 7) 0 1,.dref (.n 50) k,c2,i64 0]),(.n 7,.ds 175 6 [zH (kB 0)]),(.n 50,.rs 132 1 (List.replicate k [.d (.flt 0)]))]
def oN2 (p:ProgL) (k j:Nat):List (Key × Ob):=[(.n 1,.vs 31 ((encProg p).map .d)),(.n 2,.vs 54 [.d .nil,.d .nil,.d .nil,i64 0]),(.n 3,.vs 54 [.ref (.n 7) 0 1,.dref (.n 50) k,.dref (.n 51) j,i64 0]),(.n 7,.ds 175 6 [zH (kB 0)]),(.n 50,.rs 132 1 (List.replicate k [.d (.flt 0)])),
 (.n 51,.rs 3 1 (List.replicate j [i64 (-1)]))]
theorem eJ {S:St} {o:Key} {n:Nat} {e:TypeId} {sz:Nat} {els:List (List D)} {rows:List (List AV)} (h:S.H o=some (.rs e sz rows)) (hl:els.length=n) (hr:rows.length=n) (hv:∀ (j:Nat) (row:List AV) (d:List D),rows[j]?=some row→els[j]?=some d→fz1s S row=some d):kK S o n els:=by
 unfold kK
 rw[h]
 refine⟨hl,fun j row hj hrow=>?_⟩
 have:j<els.length:=by omega
 exact⟨els[j],List.getElem?_eq_getElem this,hv j row _ hrow (List.getElem?_eq_getElem this)⟩
theorem l3New_ok (p:ProgL) (h1:InR p.cells 0 1048576) (h2:InR p.locks 0 1048576):CallsTo EE 89 [agg (encProg p)] (·=agg (yT (xR p))):=by
 refine callsTo_of_AW (fn:=Tryz.f89) Tryz.func89 rfl (by kernel_rfl) rfl ?_
 conv=>whnf
 refine⟨_,lA 0,?_⟩
 rintro r rfl
 conv=>whnf
 refine yU (fun k:Nat=>[(1,.ptr (.n 1) 0),(2,.ptr (.n 2) 0),(3,.ptr (.n 3) 0),(4,i64 k)]) (fun k=>oN p k (.d .nil)) (fun k=>p.cells.toNat - k) (fun k=>(k:Int)≤p.cells) 0
  (gC (.n 3) (.n 50) 54 132 1 1 _ (by intro n h;cases h) (by intro h;cases h) rfl rfl) ⟨rfl,rfl,rfl,rfl,trivial⟩ ⟨rfl,rfl,rfl,rfl,rfl,trivial⟩ h1.1 ?_
 rintro k τ H hk
 conv=>whnf
 refine kbi (fun h=>?_) (fun h=>?_)
 ·have hlt:(k:Int)<p.cells:=by simpa using h
  have:=h1.2
  conv=>whnf
  refine⟨⟨fun c hc=>?_,by show(k+1)*8≤_;omega,by show k+1≤_;omega⟩,?_⟩
  ·have hc:c∈[[AV.d (.flt (canon 0))]]:=hc
   simp only[List.mem_singleton] at hc
   subst hc;rfl
  conv=>whnf
  refine⟨k+1,by omega,by show p.cells.toNat - (k+1)<p.cells.toNat - k;omega,⟨rfl,rfl,rfl,x8 (by rw[zF (by omega) (by omega)];rfl),trivial⟩,⟨rfl,rfl,rfl,rfl,?_,trivial⟩⟩
  show some (Ob.rs 132 1 (((((List.replicate k [AV.d (.flt 0)]).map (scrPL (isK (.n 17)))).take k++[[AV.d (.flt (canon 0))]]).map (scrPL (isK (.n 50))))))=_
  rw[jY,List.take_of_length_le (by simp),List.map_append,jY,List.replicate_succ']
  rfl
 ·have hge:¬ (k:Int)<p.cells:=by simpa using h
  have hkc:k=p.cells.toNat:=by omega
  conv=>whnf
  refine yU (fun j:Nat=>[(1,.ptr (.n 1) 0),(2,.ptr (.n 2) 0),(3,.ptr (.n 3) 0),(5,i64 j)]) (fun j=>oN2 p k j) (fun j=>p.locks.toNat - j) (fun j=>(j:Int)≤p.locks) 0
   (gC (.n 3) (.n 51) 54 3 1 2 _ (by intro n h;cases h) (by intro h;cases h) rfl rfl) ⟨rfl,rfl,rfl,rfl,trivial⟩ ⟨rfl,rfl,rfl,rfl,?_,rfl,trivial⟩ h2.1 ?_
  ·show some (Ob.rs 132 1 ((List.replicate k [AV.d (.flt 0)]).map (scrPL (isK (.n 51)))))=_
   rw[jY]
  rintro j τ H hj
  conv=>whnf
  refine kbi (fun h=>?_) (fun h=>?_)
  ·have hlt:(j:Int)<p.locks:=by simpa using h
   have:=h2.2
   conv=>whnf
   refine⟨⟨fun c hc=>?_,by show(j+1)*8≤_;omega,by show j+1≤_;omega⟩,?_⟩
   ·have hc:c∈[[i64 (-1)]]:=hc
    simp only[List.mem_singleton] at hc
    subst hc;rfl
   conv=>whnf
   refine⟨j+1,by omega,by show p.locks.toNat - (j+1)<p.locks.toNat - j;omega,⟨rfl,rfl,rfl,x8 (by rw[zF (by omega) (by omega)];rfl),trivial⟩,⟨rfl,rfl,rfl,rfl,?_,?_,trivial⟩⟩
   ·show some (Ob.rs 132 1 (((List.replicate k [AV.d (.flt 0)]).map (scrPL (isK (.n 28)))).map (scrPL (isK (.n 51)))))=_
    rw[jY,jY]
   ·show some (Ob.rs 3 1 (((((List.replicate j [i64 (-1)]).map (scrPL (isK (.n 28)))).take j++[[i64 (-1)]]).map (scrPL (isK (.n 51))))))=_
    rw[jY,List.take_of_length_le (by simp),List.map_append,jY,List.replicate_succ']
    rfl
  ·have hge:¬ (j:Int)<p.locks:=by simpa using h
   have hjc:j=p.locks.toNat:=by omega
   subst hkc hjc
   conv=>whnf
   refine .inr (.inl ⟨agg (yT (xR p)),⟨_,rfl,?_⟩,rfl⟩)
   refine⟨.sl ([kB 0].map zH),_,rfl,rfl,.sl ((List.replicate p.cells.toNat 0).map encF),_,rfl,⟨_,rfl,?_⟩,.sl ((List.replicate p.locks.toNat (-1)).map encInt),_,rfl,⟨_,rfl,?_⟩,di 0,[],rfl,rfl,rfl⟩
   ·refine eJ (rows:=List.replicate p.cells.toNat [.d (.flt 0)]) (by rfl) (by simp) (by simp) ?_
    intro i row d hr hd
    simp only[List.getElem?_map,List.getElem?_replicate] at hr hd
    split at hr
    ·simp only[Option.some.injEq] at hr
     subst hr
     rw[if_pos ‹_›] at hd
     simp only[Option.map_some,Option.some.injEq] at hd
     subst hd;rfl
    ·cases hr
   ·refine eJ (rows:=List.replicate p.locks.toNat [i64 (-1)]) (by rfl) (by simp) (by simp) ?_
    intro i row d hr hd
    simp only[List.getElem?_map,List.getElem?_replicate] at hr hd
    split at hr
    ·simp only[Option.some.injEq] at hr
     subst hr
     rw[if_pos ‹_›] at hd
     simp only[Option.map_some,Option.some.injEq] at hd
     subst hd;rfl
    ·cases hr
end Ai
namespace Ai
set_option maxRecDepth 100000
open Go Go.Proofs
def encRun (c:Int) (tr:List Ev) (tk:List Int) (s:StL):List D:=[di c,.sl (tr.map encEv),.sl (tk.map encInt),.sl (s.ths.map zH),.sl (s.cells.map encF),.sl (s.owner.map encInt),di s.fault]
def pickOf (picks tk:List Int) (n:Nat):Int:=if tk.length<picks.length then (picks.getD tk.length 0).tmod n else 0
structure RunOK (p:ProgL) (Inv:StL→Prop):Prop where
 small:∀ s,Inv s→s.small∧s.ths.length≤5
 seen:∀ s,Inv s→∀ t∈s.ths,t.seen p s
 ready:∀ s,Inv s→∀ k,k∈zA p s→(h:k<s.ths.length)→s.ths[k].ready p s k
 step:∀ s,Inv s→∀ k∈zA p s,Inv (zS p s k).1
def uZ (tr:List Ev):List (List AV):=tr.map fun e=>(encEv e).map .d
def uY (tk:List Int):List (List AV):=tk.map fun i=>[i64 i]
theorem evRows_view {S:St} {tr:List Ev} (j:Nat) (row:List AV) (d:List D) (h1:(uZ tr)[j]?=some row) (h2:(tr.map encEv)[j]?=some d):fz1s S row=some d:=by
 simp only[uZ,List.getElem?_map] at h1 h2
 cases h:tr[j]? with
 |none=>rw[h] at h1;cases h1
 |some e =>
  rw[h] at h1 h2
  simp only[Option.map_some,Option.some.injEq] at h1 h2
  subst h1 h2
  rfl
theorem i9 {S:St} {tk:List Int} (j:Nat) (row:List AV) (d:List D) (h1:(uY tk)[j]?=some row) (h2:(tk.map encInt)[j]?=some d):fz1s S row=some d:=by
 simp only[uY,List.getElem?_map] at h1 h2
 cases h:tk[j]? with
 |none=>rw[h] at h1;cases h1
 |some e =>
  rw[h] at h1 h2
  simp only[Option.map_some,Option.some.injEq] at h1 h2
  subst h1 h2
  rfl
theorem q8 {l:List Nat} {k:Nat} (h:k<l.length):(l.map wV)[k]?=some (wV (l.getD k 0)):=by simp[h,List.getD_eq_getElem?_getD]
theorem lY (q:Key→Bool) (tr:List Ev):(uZ tr).map (scrPL q)=uZ tr:=by
 unfold uZ;rw[List.map_map];rfl
theorem lU (q:Key→Bool) (tk:List Int):(uY tk).map (scrPL q)=uY tk:=by
 unfold uY;rw[List.map_map];rfl
theorem codeL_nn (p:ProgL) (s:StL) (a b:Int):0≤xC p s a b:=by
 unfold xC
 split
 ·decide
 ·split
  ·split <;> decide
  ·split <;> decide
theorem ev_scr' {X:List (List AV)} {q:Key→Bool} {tr:List Ev} (h:X=uZ tr):X.map (scrPL q)=uZ tr:=by rw[h];exact lY q tr
theorem in_scr' {X:List (List AV)} {q:Key→Bool} {tk:List Int} (h:X=uY tk):X.map (scrPL q)=uY tk:=by rw[h];exact lU q tk
theorem ev_push {X:List (List AV)} {q:Key→Bool} {tr:List Ev} {e:Ev} (h:X=uZ tr):(X.take tr.length++[(encEv e).map AV.d]).map (scrPL q)=uZ (tr++[e]):=by
 rw[h,List.take_of_length_le (by simp[uZ]),List.map_append,lY]
 simp only[uZ,List.map_append]
 rfl
theorem in_push {X:List (List AV)} {q:Key→Bool} {tk:List Int} {i:Int} (h:X=uY tk):(X.take tk.length++[[i64 i]]).map (scrPL q)=uY (tk++[i]):=by
 rw[h,List.take_of_length_le (by simp[uY]),List.map_append,lU]
 simp only[uY,List.map_append]
 rfl
end Ai
namespace Ai
set_option maxRecDepth 100000
open Go Go.Proofs
def d6:Prop:=∀ (x:Nat) (many:Int),1≤many→many≤1000→fcmp .lss x 0=false→fcmp .lss x (FloatKind.f64.nearest many)=true→∃ n,floatToIntVal .f64 x .i64=some n∧0≤n∧n<many
theorem o0 (h:d6):gU:=by
 intro x many n hi
 unfold yY at hi
 split at hi
 ·rename_i hc
  obtain⟨m,h1,h2,h3⟩:=h x many hc.1.1 hc.1.2 hc.2.1 hc.2.2
  rw[h1] at hi
  simp only at hi
  split at hi
  ·simp only[Option.some.injEq] at hi
   subst hi;exact⟨h2,h3⟩
  ·cases hi
 ·cases hi
theorem sY (hF:d6):xK:=by
 intro x many
 refine callsTo_of_AW (fn:=Tryz.f261) Tryz.func261 rfl (by kernel_rfl) rfl ?_
 conv=>whnf
 refine ocase (qW _ _ _) (fun h1=>?_) (fun h1=>?_)
 ·conv=>whnf
  refine kbi (fun h2=>?_) (fun h2=>?_)
  ·have h2:fcmp .lss x 0=true:=h2
   conv=>whnf
   have:yY x many=none:=by
    unfold yY;rw[if_neg]
    rintro⟨_,e,_⟩
    rw[h2] at e
    cases e
   rw[this]
   rfl
  have h2:fcmp .lss x 0=false:=by
   have h2:¬ fcmp .lss x 0=true:=h2
   simpa using h2
  conv=>whnf
  refine kbi (fun h3=>?_) (fun h3=>?_)
  ·have h3:fcmp .lss x (FloatKind.f64.nearest many)=true:=h3
   conv=>whnf
   obtain⟨n,g1,g2,g3⟩:=hF x many h1.1 h1.2 h2 h3
   refine⟨n,g1,?_⟩
   conv=>whnf
   refine kbi (fun h4=>?_) (fun h4=>?_)
   ·conv=>whnf
    have:yY x many=none:=by
     unfold yY;rw[if_pos ⟨h1,h2,h3⟩,g1]
     simp only
     rw[if_neg]
     intro e
     have h4:fcmp .neq (FloatKind.f64.nearest n) x=true:=h4
     rw[sS,e] at h4
     cases h4
    rw[this]
    rfl
   ·conv=>whnf
    refine⟨n,g1,?_⟩
    conv=>whnf
    have:yY x many=some n:=by
     unfold yY;rw[if_pos ⟨h1,h2,h3⟩,g1]
     simp only
     rw[if_pos]
     have h4:¬ fcmp .neq (FloatKind.f64.nearest n) x=true:=h4
     rw[sS] at h4
     simpa using h4
    rw[this]
    rfl
  ·have h3:¬ fcmp .lss x (FloatKind.f64.nearest many)=true:=h3
   conv=>whnf
   have:yY x many=none:=by
    unfold yY;rw[if_neg]
    rintro⟨_,_,e⟩
    exact h3 e
   rw[this]
   rfl
 ·conv=>whnf
  have:yY x many=none:=by
   unfold yY;rw[if_neg]
   rintro⟨e,_⟩
   exact h1 e
  rw[this]
  rfl
end Ai
namespace Ai
set_option maxRecDepth 100000
open Go Go.Proofs Ieee
def nearB (m:Nat):Bool:=double.read (FloatKind.f64.nearest ((m:Nat):Int))==.number false (m <<< (52 - m.log2)) (-((52 - m.log2:Nat):Int))
theorem near_all:(List.range 1001).all (fun m=>m==0 || nearB m)=true:=by decide +kernel
theorem iI {m:Nat} (h1:1≤m) (h2:m≤1000):∃ k:Nat,double.read (FloatKind.f64.nearest ((m:Nat):Int))=.number false (m <<< k) (-(k:Int)):=by
 have:=near_all
 simp only[List.all_eq_true,List.mem_range] at this
 have:=this m (by omega)
 simp only[Bool.or_eq_true,beq_iff_eq] at this
 rcases this with h|h
 ·omega
 ·unfold nearB at h
  exact⟨_,by simpa using h⟩
theorem cZ (s:Bool) (n d:Nat):Toward.cut .zero s n d=n / (1 <<< min d (n.log2+2)):=by
 simp[Toward.cut]
theorem cut_lt {m d b:Nat} (hb:0<b) (h:m<b*2 ^ d):Toward.cut .zero false m d<b:=by
 rw[cZ,Nat.shiftLeft_eq,Nat.one_mul]
 by_cases hd:d≤m.log2+2
 ·rw[Nat.min_eq_left hd]
  exact(Nat.div_lt_iff_lt_mul (Nat.pow_pos (by decide))).2 h
 ·rw[Nat.min_eq_right (by omega)]
  have h1:m<2 ^ (m.log2+2):=Nat.lt_of_lt_of_le Nat.lt_log2_self (Nat.pow_le_pow_right (by decide) (by omega))
  rw[Nat.div_eq_of_lt h1];exact hb
theorem cmp_lt (a b:Int):compare a b=.lt↔a<b:=by
 show compareOfLessAndEq a b=.lt↔a<b
 unfold compareOfLessAndEq
 by_cases h:a<b
 ·simp[h]
 ·by_cases h2:a=b
  ·simp[h2]
  ·simp[h,h2]
theorem nF:d6:=by
 intro x many h1 h2 hx0 hxm
 obtain⟨b,rfl⟩:∃ b:Nat,many=(b:Int):=⟨many.toNat,by omega⟩
 obtain⟨k,hk⟩:=iI (m:=b) (by omega) (by omega)
 have o1:double.order x 0≠some .lt:=by simpa[fcmp] using hx0
 have o2:double.order x (FloatKind.f64.nearest (b:Int))=some .lt:=by simpa[fcmp] using hxm
 unfold Format.order at o1 o2
 rw[gJ] at o1
 rw[hk] at o2
 have hdec:FloatKind.f64.decode x=double.read x:=rfl
 unfold floatToIntVal
 rw[hdec]
 cases hd:double.read x with
 |nan s f=>rw[hd] at o2;cases o2
 |infinity s =>
  rw[hd] at o1 o2
  simp only[Datum.order] at o1 o2
  exact absurd o2 o1
 |number s m i =>
  rw[hd] at o1 o2
  simp only[Datum.order,Option.some.injEq,ne_eq] at o1 o2
  rw[cmp_lt] at o1 o2
  have hs:s=false∨m=0:=by
   cases s with
   |false=>exact .inl rfl
   |true =>
    right
    simp only[signed,if_true,Nat.shiftLeft_eq] at o1
    by_cases hm:m=0
    ·exact hm
    ·exfalso
     apply o1
     have:0<m*2 ^ (i - min i double.leastPlace).toNat:=Nat.mul_pos (by omega) (Nat.pow_pos (by decide))
     simp
     omega
  rcases hs with rfl|rfl
  ·simp only[signed,Bool.false_eq_true,if_false,Nat.shiftLeft_eq,Int.ofNat_lt] at o2
   have o2:m*2 ^ (i - min i (-(k:Int))).toNat<b*2 ^ k*2 ^ (-(k:Int) - min i (-(k:Int))).toNat:=by exact_mod_cast o2
   have hlt:Toward.cut .zero false (m <<< i.toNat) (-i).toNat<b:=by
    refine cut_lt (by omega) ?_
    rw[Nat.shiftLeft_eq]
    by_cases hi:0≤i
    ·rw[Int.min_eq_right (by omega)] at o2
     have e1:(i - -(k:Int)).toNat=i.toNat+k:=by omega
     have e2:(-(k:Int) - -(k:Int)).toNat=0:=by omega
     rw[e1,e2,Nat.pow_add,Nat.pow_zero,Nat.mul_one,← Nat.mul_assoc] at o2
     have e3:(-i).toNat=0:=by omega
     rw[e3,Nat.pow_zero,Nat.mul_one]
     exact Nat.lt_of_mul_lt_mul_right o2
    ·have e3:i.toNat=0:=by omega
     rw[e3,Nat.pow_zero,Nat.mul_one]
     by_cases hik:i≤-(k:Int)
     ·rw[Int.min_eq_left hik] at o2
      have e1:(i - i).toNat=0:=by omega
      have e2:(-i).toNat=k+(-(k:Int) - i).toNat:=by omega
      rw[e1,Nat.pow_zero,Nat.mul_one,Nat.mul_assoc,← Nat.pow_add] at o2
      rw[e2];exact o2
     ·rw[Int.min_eq_right (by omega)] at o2
      have e1:k=(-i).toNat+(i - -(k:Int)).toNat:=by omega
      have e2:(-(k:Int) - -(k:Int)).toNat=0:=by omega
      rw[e2,Nat.pow_zero,Nat.mul_one] at o2
      generalize hq:(i - -(k:Int)).toNat=q at *
      rw[e1,Nat.pow_add,← Nat.mul_assoc] at o2
      exact Nat.lt_of_mul_lt_mul_right o2
   simp only[Datum.toInt,Datum.integral,signed,Bool.false_eq_true,if_false,Nat.shiftLeft_zero]
   rw[if_pos]
   ·exact⟨_,rfl,by omega,by omega⟩
   ·have e4:IntKind.i64.min=-9223372036854775808:=by decide
    have e5:IntKind.i64.max=9223372036854775807:=by decide
    rw[e4,e5]
    omega
  ·have hc:Toward.cut .zero s (0 <<< i.toNat) (-i).toNat=0:=by rw[cZ];simp
   simp only[Datum.toInt,Datum.integral,hc,signed]
   refine⟨0,?_,by omega,by omega⟩
   cases s <;> decide
theorem sZ:xK:=sY nF
theorem nB:gU:=o0 nF
end Ai
namespace Ai
set_option maxRecDepth 100000
open Go Go.Proofs
structure TInv (p:ProgL) (t:Th):Prop where
 rt:0≤t.rt∧t.rt<p.rs.length
 pc:0≤t.pc∧t.pc≤(p.rs.getD t.rt.toNat []).length
 st:t.stack.length≤8
 lock:t.st=3∨t.st=4→0≤t.lock∧t.lock<p.locks
structure SInv (p:ProgL) (s:StL):Prop where
 len:s.ths.length≤5
 cells:(s.cells.length:Int)=p.cells
 owner:(s.owner.length:Int)=p.locks
 ths:∀ t∈s.ths,TInv p t
theorem bG {p:ProgL} (hg:p.goodS) {t:Th} (h:TInv p t) {o:OpL} (hn:yL p t=some o):o.goodS p (p.rs.getD t.rt.toNat []).length∧t.pc<(p.rs.getD t.rt.toNat []).length:=by
 have hr:t.rt.toNat<p.rs.length:=by have:=h.rt;omega
 have e:p.rs.getD t.rt.toNat []=p.rs[t.rt.toNat]:=by simp[List.getD_eq_getElem?_getD,hr]
 unfold yL at hn
 rw[e] at hn ⊢
 obtain⟨h1,h2⟩:=List.getElem?_eq_some_iff.1 hn
 refine⟨(hg.2 _ (List.getElem_mem hr)).1 o (h2▸List.getElem_mem h1),?_⟩
 have:=h.pc;omega
theorem iT {p:ProgL} (hg:p.goodS) {s:StL} (hi:SInv p s) {k:Nat} (h:k<s.ths.length):s.ths[k].ready p s k:=by
 have ht:=hi.ths _ (List.getElem_mem h)
 have hgd:s.ths.getD k th0=s.ths[k]:=by simp[List.getD_eq_getElem?_getD,h]
 have hr:s.ths[k].rt.toNat<p.rs.length:=by have:=ht.rt;omega
 have e:p.rs.getD s.ths[k].rt.toNat []=p.rs[s.ths[k].rt.toNat]:=by simp[List.getD_eq_getElem?_getD,hr]
 have h24:(p.rs.getD s.ths[k].rt.toNat []).length≤24:=by rw[e];exact(hg.2 _ (List.getElem_mem hr)).2
 refine⟨⟨⟨ht.rt.1,by have:=ht.rt.2;omega⟩,ht.pc.1,ht.pc.2⟩,⟨ht.pc.1,by have:=ht.pc.2;omega⟩,fun h4=>?_,fun o ho=>?_⟩
 ·have:=ht.lock (.inr h4)
  rw[hi.owner];exact this
 ·obtain⟨⟨g1,g2⟩,hlt⟩:=bG hg ht ho
  obtain⟨c1,c2,c3,_⟩:=g1
  obtain⟨a1,a2,a3,a4,a5,a6⟩:=g2
  refine⟨⟨fun hc=>?_,fun hc=>?_⟩,fun hf=>⟨c1,fun hc=>?_,fun hc=>?_,fun hc=>?_,?_⟩⟩
  ·exact⟨c2.1,by rw[hi.owner];exact a3 (.inr hc)⟩
  ·exact⟨c3.1,by rw[hi.owner];exact(a5 hc).2⟩
  ·exact⟨c2.1,by rw[hi.cells];exact a1 hc⟩
  ·exact⟨c2.1,by rw[hi.owner];exact a3 hc⟩
  ·exact⟨c3.1,by rw[hi.owner];exact(a5 hc).2⟩
  ·unfold yG at hf
   simp only[hgd] at hf
   split at hf
   ·cases hf
   ·omega
end Ai
namespace Ai
set_option maxRecDepth 100000
open Go Go.Proofs
theorem vC {p:ProgL} {s:StL} {k:Nat} {t:Th} (hi:SInv p s) (ht:TInv p t):SInv p (s.put k t):=by
 refine⟨by simpa[StL.put] using hi.len,hi.cells,hi.owner,fun u hu=>?_⟩
 rcases List.mem_or_eq_of_mem_set hu with h|h
 ·exact hi.ths u h
 ·subst h;exact ht
theorem inv_cells {p:ProgL} {s:StL} (hi:SInv p s) (i:Nat) (x:Nat):SInv p { s with cells:=s.cells.set i x }:=⟨hi.len,by simpa using hi.cells,hi.owner,hi.ths⟩
theorem dR {p:ProgL} {s:StL} (hi:SInv p s) (i:Nat) (x:Int):SInv p { s with owner:=s.owner.set i x }:=⟨hi.len,hi.cells,by simpa using hi.owner,hi.ths⟩
theorem inv_pop {p:ProgL} {t:Th} {o:OpL} (h:TInv p t) (hlt:t.pc<(p.rs.getD t.rt.toNat []).length):TInv p (zG t o):=by
 refine⟨h.rt,⟨by have:=h.pc;show 0≤t.pc+1;omega,by show t.pc+1≤_;exact hlt⟩,?_,h.lock⟩
 show(t.stack.take _).length≤8
 have:=h.st
 simp;omega
theorem inv_push {p:ProgL} {t:Th} {o:OpL} {x:Nat} (h:TInv p t) (hlt:t.pc<(p.rs.getD t.rt.toNat []).length) (h1:(zC o.code).1≤t.stack.length) (h8:(t.stack.length:Int) - (zC o.code).1+1≤8) (ht:0≤(zC o.code).1):TInv p (zU (zG t o) x):=by
 have hp:=inv_pop (o:=o) h hlt
 refine⟨hp.rt,hp.pc,?_,hp.lock⟩
 show(t.stack.take (yI t o)++[x]).length≤8
 simp[yI,wW];omega
theorem inv_do {p:ProgL} (hg:p.goodS) {s:StL} (hi:SInv p s) {k:Nat} (h:k<s.ths.length) {o:OpL} (hn:yL p s.ths[k]=some o) (hf:yG s k o=0) (e:Ev):SInv p (doL s k o e).1:=by
 have ht:=hi.ths _ (List.getElem_mem h)
 have hgd:s.ths.getD k th0=s.ths[k]:=by simp[List.getD_eq_getElem?_getD,h]
 obtain⟨⟨g1,g2⟩,hlt⟩:=bG hg ht hn
 obtain⟨c1,c2,c3,_⟩:=g1
 obtain⟨a1,a2,a3,a4,a5,a6⟩:=g2
 have htk:0≤(zC o.code).1:=by
  unfold zC;split
  ·decide
  ·split
   ·decide
   ·split <;> decide
 unfold yG at hf
 simp only[hgd] at hf
 generalize s.ths[k]=t at *
 split at hf
 ·cases hf
 rename_i hst
 split at hf
 ·cases hf
 split at hf
 ·cases hf
 split at hf
 ·cases hf
 rename_i h14
 have hp:=inv_pop (o:=o) ht hlt
 have push:∀ x,(zC o.code).2=1→TInv p (zU (zG t o) x):=fun x h2=>inv_push ht hlt (by omega) (by omega) htk
 unfold doL
 simp only[hgd]
 have jump:((o.code=10∨o.code=11)→TInv p { zG t o with pc:=o.a }):=fun hc=>⟨hp.rt,⟨c2.1,a2 hc⟩,hp.st,hp.lock⟩
 by_cases n1:o.code=1
 ·rw[if_pos n1];exact vC hi (push _ (by simp[zC,n1]))
 rw[if_neg n1]
 by_cases n2:o.code=2
 ·rw[if_pos n2];exact vC hi (push _ (by simp[zC,n2]))
 rw[if_neg n2]
 by_cases n3:o.code=3
 ·rw[if_pos n3];exact vC (inv_cells hi _ _) hp
 rw[if_neg n3]
 by_cases n10:o.code=10
 ·rw[if_pos n10];exact vC hi (jump (.inl n10))
 rw[if_neg n10]
 by_cases n11:o.code=11
 ·rw[if_pos n11]
  refine vC hi ?_
  split
  ·exact jump (.inr n11)
  ·exact hp
 rw[if_neg n11]
 by_cases n12:o.code=12
 ·rw[if_pos n12];exact vC (dR hi _ _) hp
 rw[if_neg n12]
 by_cases n13:o.code=13
 ·rw[if_pos n13];exact vC (dR hi _ _) hp
 rw[if_neg n13]
 by_cases n14:o.code=14
 ·rw[if_pos n14]
  have h5:s.ths.length≤4:=by
   have:=hi.len
   have:s.ths.length≠5:=fun e=>h14 ⟨n14,e⟩
   omega
  refine vC ⟨by simp;omega,hi.cells,hi.owner,fun u hu=>?_⟩ (push _ (by simp[zC,n14]))
  rcases List.mem_append.1 hu with h|h
  ·exact hi.ths u h
  ·simp only[List.mem_singleton] at h
   subst h
   exact⟨⟨c2.1,a4 n14⟩,⟨Int.le_refl _,Int.natCast_nonneg _⟩,Nat.zero_le _,fun e=>by rcases e with e|e <;> cases e⟩
 rw[if_neg n14]
 by_cases n15:o.code=15
 ·rw[if_pos n15];exact vC hi hp
 rw[if_neg n15]
 by_cases n16:o.code=16
 ·rw[if_pos n16]
  refine vC (dR hi _ _) ⟨hp.rt,⟨?_,?_⟩,hp.st,fun _=>⟨c3.1,(a5 n16).2⟩⟩
  ·show 0≤t.pc+1 - 1
   have:=ht.pc;omega
  ·show t.pc+1 - 1≤_
   have:=ht.pc;show _≤((p.rs.getD t.rt.toNat []).length:Int);omega
 rw[if_neg n16]
 by_cases n17:o.code=17
 ·rw[if_pos n17]
  cases hw:vL s.ths o.a with
  |none=>exact vC hi hp
  |some j =>
   refine vC ⟨by simpa using hi.len,hi.cells,hi.owner,fun u hu=>?_⟩ hp
   obtain⟨i,hi2,rfl⟩:=List.mem_iff_getElem.1 hu
   have hil:i<s.ths.length:=by simpa using hi2
   have hT:=hi.ths _ (List.getElem_mem hil)
   rw[List.getElem_modify]
   split
   ·rename_i hji
    subst hji
    unfold vL at hw
    rw[List.findIdx?_eq_some_iff_getElem] at hw
    obtain⟨_,hpw,_⟩:=hw
    simp only[Bool.and_eq_true,beq_iff_eq] at hpw
    exact⟨hT.rt,hT.pc,hT.st,fun _=>hT.lock (.inl hpw.1)⟩
   ·exact hT
 rw[if_neg n17]
 refine vC hi (push _ ?_)
 have:4≤o.code∧o.code≤9:=by have:=c1.1;have:=c1.2;omega
 simp only[zC]
 rw[if_neg (by omega),if_neg (by omega),if_pos this]
theorem i8 {p:ProgL} (hg:p.goodS) {s:StL} (hi:SInv p s) {k:Nat} (h:k<s.ths.length):SInv p (zS p s k).1:=by
 have ht:=hi.ths _ (List.getElem_mem h)
 have hgd:s.ths.getD k th0=s.ths[k]:=by simp[List.getD_eq_getElem?_getD,h]
 unfold zS
 simp only[hgd]
 split
 ·rename_i h4
  refine vC (dR hi _ _) ⟨ht.rt,?_,ht.st,fun e=>by rcases e with e|e <;> cases e⟩
  cases hn:yL p s.ths[k] with
  |none=>exact ht.pc
  |some o =>
   have:=(bG hg ht hn).2
   have:=ht.pc
   refine⟨?_,?_⟩
   ·show 0≤s.ths[k].pc+1
    omega
   ·show s.ths[k].pc+1≤((p.rs.getD s.ths[k].rt.toNat []).length:Int)
    omega
 ·split
  ·exact vC hi ⟨ht.rt,ht.pc,ht.st,fun e=>by rcases e with e|e <;> cases e⟩
  ·rename_i o hn
   split
   ·rename_i hf
    exact inv_do hg hi h hn hf _
   ·exact⟨hi.len,hi.cells,hi.owner,hi.ths⟩
theorem x6 {p:ProgL} (hg:p.goodS):SInv p (xR p):=by
 obtain⟨b1,b2,b3,b4⟩:=hg.1
 refine⟨by simp[xR],?_,?_,fun t ht=>?_⟩
 ·have:=b1.1;simp[xR];omega
 ·have:=b2.1;simp[xR];omega
 ·have:t=kB 0:=by simpa[xR] using ht
  subst this
  refine⟨⟨Int.le_refl _,?_⟩,⟨Int.le_refl _,Int.natCast_nonneg _⟩,Nat.zero_le _,fun e=>by rcases e with e|e <;> cases e⟩
  have:=b4.1
  show(0:Int)<p.rs.length
  omega
theorem eR {p:ProgL} (hg:p.goodS):RunOK p (SInv p):=by
 obtain⟨b1,b2,b3,b4⟩:=hg.1
 refine⟨fun s hi=>⟨⟨by have:=hi.len;omega,fun t ht=>by have:=(hi.ths t ht).st;omega,?_,?_⟩,hi.len⟩,fun s hi t ht=>?_,fun s hi k hk h=>iT hg hi h,fun s hi k hk=>?_⟩
 ·have:=hi.cells;have:=b1.2;omega
 ·have:=hi.owner;have:=b2.2;omega
 ·obtain⟨j,hj,rfl⟩:=List.mem_iff_getElem.1 ht
  have hr:=iT hg hi hj
  refine⟨hr.inP,hr.lock,fun o ho hc=>?_⟩
  obtain⟨⟨g1,g2⟩,_⟩:=bG hg (hi.ths _ ht) ho
  have:=g1.2.1.1
  have:=g2.2.2.1 (.inl hc)
  rw[hi.owner]
  exact⟨by assumption,by assumption⟩
 ·have:k<s.ths.length:=by have:=(List.mem_filter.1 hk).1;simpa using this
  exact i8 hg hi this
end Ai
namespace Ai
set_option maxRecDepth 100000
open Go Go.Proofs
theorem eM (o:OpL):CallsTo EE 219 [agg (encOp o)] (·=.tup [i64 (zC o.code).1,i64 (zC o.code).2]):=by
 refine callsTo_of_AW (fn:=Tryz.f219) Tryz.func219 rfl (by kernel_rfl) rfl ?_
 have go1:(o.code=1∨o.code=2∨o.code=14)→zC o.code=(0,1):=fun h=>by simp[zC,h]
 have go2:¬ (o.code=1∨o.code=2∨o.code=14)→(o.code=3∨o.code=11∨o.code=15)→zC o.code=(1,0):=fun h1 h=>by simp[zC,h1,h]
 conv=>whnf
 refine kbi (fun h1=>?_) (fun h1=>?_)
 ·have:o.code=1:=by simpa using h1
  conv=>whnf
  rw[go1 (.inl this)]
 conv=>whnf
 refine kbi (fun h2=>?_) (fun h2=>?_)
 ·have:o.code=2:=by simpa using h2
  conv=>whnf
  rw[go1 (.inr (.inl this))]
 conv=>whnf
 refine kbi (fun h3=>?_) (fun h3=>?_)
 ·have:o.code=14:=by simpa using h3
  conv=>whnf
  rw[go1 (.inr (.inr this))]
 have hn:¬ (o.code=1∨o.code=2∨o.code=14):=by simp at h1 h2 h3;omega
 conv=>whnf
 refine kbi (fun g1=>?_) (fun g1=>?_)
 ·have:o.code=3:=by simpa using g1
  conv=>whnf
  rw[go2 hn (.inl this)]
 conv=>whnf
 refine kbi (fun g2=>?_) (fun g2=>?_)
 ·have:o.code=11:=by simpa using g2
  conv=>whnf
  rw[go2 hn (.inr (.inl this))]
 conv=>whnf
 refine kbi (fun g3=>?_) (fun g3=>?_)
 ·have:o.code=15:=by simpa using g3
  conv=>whnf
  rw[go2 hn (.inr (.inr this))]
 have hn2:¬ (o.code=3∨o.code=11∨o.code=15):=by simp at g1 g2 g3;omega
 have go3:4≤o.code∧o.code≤9→zC o.code=(2,1):=fun h=>by simp only[zC,if_neg hn,if_neg hn2];exact if_pos h
 have go4:¬ (4≤o.code∧o.code≤9)→zC o.code=(0,0):=fun h=>by simp only[zC,if_neg hn,if_neg hn2];exact if_neg h
 conv=>whnf
 refine kbi (fun k1=>?_) (fun k1=>?_)
 ·have:o.code=4:=by simpa using k1
  conv=>whnf
  rw[go3 (by omega)]
 conv=>whnf
 refine kbi (fun k2=>?_) (fun k2=>?_)
 ·have:o.code=5:=by simpa using k2
  conv=>whnf
  rw[go3 (by omega)]
 conv=>whnf
 refine kbi (fun k3=>?_) (fun k3=>?_)
 ·have:o.code=6:=by simpa using k3
  conv=>whnf
  rw[go3 (by omega)]
 conv=>whnf
 refine kbi (fun k4=>?_) (fun k4=>?_)
 ·have:o.code=7:=by simpa using k4
  conv=>whnf
  rw[go3 (by omega)]
 conv=>whnf
 refine kbi (fun k5=>?_) (fun k5=>?_)
 ·have:o.code=8:=by simpa using k5
  conv=>whnf
  rw[go3 (by omega)]
 conv=>whnf
 refine kbi (fun k6=>?_) (fun k6=>?_)
 ·have:o.code=9:=by simpa using k6
  conv=>whnf
  rw[go3 (by omega)]
 conv=>whnf
 rw[go4 (by simp at k1 k2 k3 k4 k5 k6;omega)]
theorem p9 (p:ProgL) (t:Th) (hp:p.wf) (h:t.inP p):CallsTo EE 169 [agg (encProg p),agg (zH t)] (·=.tup [agg (encOp ((yL p t).getD op0)),bv (yL p t).isSome]):=by
 refine callsTo_of_AW (fn:=Tryz.f169) Tryz.func169 rfl (by kernel_rfl) rfl ?_
 obtain⟨⟨a1,a2⟩,b1,b2⟩:=h
 have hr:t.rt.toNat<p.rs.length:=by omega
 conv=>whnf
 refine⟨zX p.rs[t.rt.toNat],⟨a1,?_,rfl⟩,?_⟩
 ·show(p.rs.map zX)[t.rt.toNat]?=_
  simp[hr]
 conv=>whnf
 have hrow:p.rs.getD t.rt.toNat []=p.rs[t.rt.toNat]:=by simp[List.getD_eq_getElem?_getD,hr]
 rw[hrow] at b2
 refine kbi (fun h=>?_) (fun h=>?_)
 ·have h1:t.pc.toNat<p.rs[t.rt.toNat].length:=by simp at h;omega
  have h2:yL p t=some p.rs[t.rt.toNat][t.pc.toNat]:=by unfold yL;rw[hrow];simp[h1]
  conv=>whnf
  refine⟨encOp p.rs[t.rt.toNat][t.pc.toNat],⟨b1,?_,rfl⟩,?_⟩
  ·simp[h1]
  conv=>whnf
  rw[h2]
  rfl
 ·have h1:t.pc=(p.rs[t.rt.toNat].length:Int):=by simp at h;omega
  have h2:yL p t=none:=by unfold yL;rw[hrow,h1];simp
  conv=>whnf
  rw[h2]
  rfl
end Ai
namespace Ai
set_option maxRecDepth 100000
open Go Go.Proofs
def xH:Prop:=∀ (x:Nat) (many:Int),CallsTo EE 221 [.d (.flt x),i64 many] (·=.tup [i64 ((yY x many).getD 0),bv (yY x many).isSome])
theorem cH (hI:xH) (s:StL) (t:Th) (ht:t.stack.length≤1048576):CallsTo EE 210 [.fp (yT s),agg (zH t)] (·=.tup [i64 ((yF s t).getD 0),bv (yF s t).isSome]):=by
 refine callsTo_of_AW (fn:=Tryz.f210) Tryz.func210 rfl (by kernel_rfl) rfl ?_
 conv=>whnf
 refine kbi (fun h=>?_) (fun h=>?_)
 ·have h1:t.stack=[]:=by
   have:(t.stack.map encF).length=0:=by simpa using h
   simpa using this
  conv=>whnf
  simp[yF,h1]
 ·have hne:t.stack≠[]:=fun e=>h (by rw[e];rfl)
  have hpos:0<t.stack.length:=List.length_pos_iff.2 hne
  conv=>whnf
  refine .inr (.inl ⟨18,[],?_⟩)
  conv=>whnf
  refine⟨encF (t.stack.getLast hne),⟨?_,?_,rfl⟩,?_⟩
  ·rw[zF (by simp;omega) (by simp;omega)];simp;omega
  ·rw[zF (by simp;omega) (by simp;omega)]
   have e:((((t.stack.map encF).length:Int) - 1).toNat)=t.stack.length - 1:=by simp
   rw[e,List.getElem?_map,← List.getLast?_eq_getElem?,List.getLast?_eq_some_getLast hne]
   rfl
  conv=>whnf
  refine⟨_,hI _ _,?_⟩
  conv=>whnf
  have hj:yF s t=yY (t.stack.getLast hne) (s.ths.map zH).length:=by
   unfold yF
   rw[List.getLast?_eq_some_getLast hne]
   simp
  rw[← hj]
  refine⟨by kernel_rfl,?_⟩
  conv=>whnf
end Ai
namespace Ai
set_option maxRecDepth 100000
open Go Go.Proofs
open Classical in
/-- impl.(*State).waits: whether a thread waits -/
theorem waitsI_ok (hI:xH) (p:ProgL) (s:StL) (t:Th) (hp:p.wf) (ht:t.stack.length≤1048576) (hv:t.seen p s) :
  CallsTo EE 148 [.fp (yT s),agg (encProg p),agg (zH t)] (fun r=>∃ w:Int,r=.tup [i64 w,bp (0≤zW p s t)]∧(0≤zW p s t→w=zW p s t)):=by
 refine callsTo_of_AW (fn:=Tryz.f148) Tryz.func148 rfl (by kernel_rfl) rfl ?_
 have own_get:∀ (a:Int),0≤a∧a<s.owner.length→0≤a∧(s.owner.map encInt)[a.toNat]?=some (encInt (s.owner.getD a.toNat 0))∧(encInt (s.owner.getD a.toNat 0)).length=1:=by
  intro a ha
  refine⟨ha.1,?_,rfl⟩
  have:a.toNat<s.owner.length:=by omega
  simp[this,List.getD_eq_getElem?_getD]
 conv=>whnf
 refine kbi (fun h4=>?_) (fun h4=>?_)
 ·have h4:t.st=4:=by simpa using h4
  have hb:zW p s t=s.owner.getD t.lock.toNat 0:=by simp only[zW,if_pos h4]
  conv=>whnf
  refine .inr (.inl ⟨19,[],?_⟩)
  conv=>whnf
  refine⟨_,own_get t.lock (hv.lock h4),?_⟩
  conv=>whnf
  refine⟨_,own_get t.lock (hv.lock h4),?_⟩
  conv=>whnf
  refine kbi (fun h0=>?_) (fun h0=>?_)
  ·have h0:0≤s.owner.getD (t.lock).toNat 0:=by simpa using h0
   conv=>whnf
   refine⟨by kernel_rfl,?_⟩
   conv=>whnf
   exact⟨_,by rw[hb];simp only[bp,pb_t h0],fun _=>hb.symm⟩
  ·have h0:¬ 0≤s.owner.getD (t.lock).toNat 0:=by simpa using h0
   conv=>whnf
   refine⟨by kernel_rfl,?_⟩
   conv=>whnf
   exact⟨_,by rw[hb];simp only[bp,pb_f h0],fun _=>hb.symm⟩
 have h4:¬ t.st=4:=by simpa using h4
 have none_:zW p s t=-1→∃ w:Int,AV.tup [i64 0,bv false]=.tup [i64 w,bp (0≤zW p s t)]∧(0≤zW p s t→w=zW p s t):=fun e =>
  ⟨0,by rw[e];simp only[bp,pb_f (show ¬ (0:Int)≤-1 by decide)],fun h=>by rw[e] at h;exact absurd h (by decide)⟩
 conv=>whnf
 refine kbi (fun h1=>?_) (fun h1=>?_)
 ·have h1:t.st=1:=by simpa using h1
  conv=>whnf
  refine⟨_,p9 p t hp hv.inP,?_⟩
  rintro r rfl
  conv=>whnf
  cases hn:yL p t with
  |none =>
   conv=>whnf
   exact none_ (by unfold zW;rw[if_neg h4,hn])
  |some o =>
   conv=>whnf
   refine kbi (fun h2=>?_) (fun h2=>?_)
   ·have h2:o.code=12:=by simpa using h2
    have hb:zW p s t=s.owner.getD o.a.toNat 0:=by simp[zW,h4,hn,h1,h2]
    conv=>whnf
    refine .inr (.inl ⟨19,[],?_⟩)
    conv=>whnf
    refine⟨_,own_get o.a (hv.op o hn h2),?_⟩
    conv=>whnf
    refine⟨_,own_get o.a (hv.op o hn h2),?_⟩
    conv=>whnf
    refine kbi (fun h0=>?_) (fun h0=>?_)
    ·have h0:0≤s.owner.getD (o.a).toNat 0:=by simpa using h0
     conv=>whnf
     refine⟨by kernel_rfl,?_⟩
     conv=>whnf
     exact⟨_,by rw[hb];simp only[bp,pb_t h0],fun _=>hb.symm⟩
    ·have h0:¬ 0≤s.owner.getD (o.a).toNat 0:=by simpa using h0
     conv=>whnf
     refine⟨by kernel_rfl,?_⟩
     conv=>whnf
     exact⟨_,by rw[hb];simp only[bp,pb_f h0],fun _=>hb.symm⟩
   have h2:¬ o.code=12:=by simpa using h2
   conv=>whnf
   refine kbi (fun h3=>?_) (fun h3=>?_)
   ·have h3:o.code=15:=by simpa using h3
    conv=>whnf
    refine⟨_,cH hI s t ht,?_⟩
    rintro r rfl
    conv=>whnf
    cases hj:yF s t with
    |none =>
     conv=>whnf
     refine .inr (.inl ⟨15,[],?_⟩)
     conv=>whnf
     refine⟨by kernel_rfl,?_⟩
     conv=>whnf
     exact none_ (by simp[zW,h4,hn,h1,h2,h3,hj])
    |some k =>
     obtain⟨k1,k2⟩:=bL nB hj
     have hk:k.toNat<s.ths.length:=by omega
     conv=>whnf
     refine .inr (.inl ⟨15,[],?_⟩)
     conv=>whnf
     refine⟨zH s.ths[k.toNat],⟨k1,by simp[hk],rfl⟩,?_⟩
     conv=>whnf
     refine kbi (fun h6=>?_) (fun h6=>?_)
     ·have h6:¬ s.ths[k.toNat].st=2:=by simpa using h6
      conv=>whnf
      refine⟨by kernel_rfl,?_⟩
      conv=>whnf
      have hb:zW p s t=k:=by simp[zW,h4,hn,h1,h2,h3,hj,List.getD_eq_getElem?_getD,hk,h6]
      exact⟨k,by rw[hb];simp only[bp,pb_t k1];rfl,fun _=>hb.symm⟩
     ·have h6:s.ths[k.toNat].st=2:=by simpa using h6
      conv=>whnf
      refine⟨by kernel_rfl,?_⟩
      conv=>whnf
      have hb:zW p s t=-1:=by simp[zW,h4,hn,h1,h2,h3,hj,List.getD_eq_getElem?_getD,hk,h6]
      exact⟨k,by rw[hb];simp only[bp,pb_f (show ¬ (0:Int)≤-1 by decide)];rfl,fun h=>by rw[hb] at h;exact absurd h (by decide)⟩
   ·have h3:¬ o.code=15:=by simpa using h3
    conv=>whnf
    exact none_ (by simp[zW,h4,hn,h1,h2,h3])
 ·have h1:¬ t.st=1:=by simpa using h1
  conv=>whnf
  exact none_ (by
   unfold zW;rw[if_neg h4]
   cases yL p t with
   |none=>rfl
   |some o=>simp[h1])
end Ai
namespace Ai
set_option maxRecDepth 100000
open Go Go.Proofs
theorem enabledI_ok (hI:xH) (p:ProgL) (s:StL) (hp:p.wf) (hs:s.small) (hv:∀ t∈s.ths,t.seen p s) :
  CallsTo EE 120 [.fp (yT s),agg (encProg p)] (·=.uq 3 1 ((zA p s).map wV)):=by
 refine callsTo_of_AW (fn:=Tryz.f120) Tryz.func120 rfl (by kernel_rfl) rfl ?_
 conv=>whnf
 refine yU (fun k:Nat=>[(0,.fp (yT s)),(3,.ptr (.n 3) 0),(5,.ref (.n 10) 0 (zI p s k).length),(14,sl (s.ths.map zH)),(15,i64 (s.ths.map zH).length),(16,i64 k)])
  (fun k=>[(.n 3,.vs 31 ((encProg p).map .d)),(.n 10,.ds 3 1 ((zI p s k).map wV))]) (fun k=>s.ths.length - k) (fun k=>k≤s.ths.length) 0
  Weak.refl ⟨rfl,rfl,rfl,rfl,rfl,rfl,trivial⟩ ⟨rfl,rfl,trivial⟩ (Nat.zero_le _) ?_
 rintro k τ H hk
 conv=>whnf
 refine kbi (fun h=>?_) (fun h=>?_)
 ·have hlt:=yS h
  conv=>whnf
  refine⟨zH s.ths[k],zV zH hlt rfl,?_⟩
  conv=>whnf
  have hg:s.ths.getD k th0=s.ths[k]:=by simp[List.getD_eq_getElem?_getD,hlt]
  have hle:(zI p s k).length≤k:=vR
  have hn:=hs.1
  refine⟨_,waitsI_ok hI p s s.ths[k] hp (hs.2.1 _ (List.getElem_mem hlt)) (hv _ (List.getElem_mem hlt)),?_⟩
  rintro r ⟨w,rfl,-⟩
  conv=>whnf
  refine kbi (fun hf=>?_) (fun hf=>?_)
  ·have hf:s.fault=0:=by simpa using hf
   by_cases hb:0≤zW p s s.ths[k]
   ·simp only[bp,pb_t hb]
    conv=>whnf
    have hgo:qO p s k=false:=by unfold qO;rw[hg];exact decide_eq_false fun e=>by have:=e.2.2;omega
    have hsk:zI p s (k+1)=zI p s k:=by rw[yQ,hgo];simp
    refine⟨k+1,by omega,by show s.ths.length - (k+1)<s.ths.length - k;omega,⟨rfl,rfl,?_,rfl,rfl,zN hlt (by omega),trivial⟩,⟨rfl,?_,trivial⟩⟩
    ·rw[hsk];rfl
    ·rw[hsk];rfl
   ·simp only[bp,pb_f hb]
    conv=>whnf
    refine kbi (fun h1=>?_) (fun h1=>?_)
    ·have h1:s.ths[k].st=1:=by simpa using h1
     conv=>whnf
     refine⟨⟨rfl,by simp;omega,by simp;omega⟩,?_⟩
     conv=>whnf
     have hgo:qO p s k=true:=by unfold qO;rw[hg];exact decide_eq_true ⟨hf,.inl h1,by omega⟩
     have hsk:zI p s (k+1)=zI p s k++[k]:=by rw[yQ,hgo];simp
     refine⟨k+1,by omega,by show s.ths.length - (k+1)<s.ths.length - k;omega,⟨rfl,rfl,?_,rfl,rfl,zN hlt (by omega),trivial⟩,⟨rfl,?_,trivial⟩⟩
     ·rw[hsk]
      show AV.ref (.n 10) 0 ((zI p s k).length+1)=_
      simp
     ·rw[hsk]
      show some (Ob.ds 3 1 (((zI p s k).map wV).take (zI p s k).length++[[di k]]))=_
      rw[List.take_of_length_le (by simp)]
      simp[wV]
    ·have h1:¬ s.ths[k].st=1:=by simpa using h1
     conv=>whnf
     refine kbi (fun h4=>?_) (fun h4=>?_)
     ·have h4:s.ths[k].st=4:=by simpa using h4
      conv=>whnf
      refine⟨⟨rfl,by simp;omega,by simp;omega⟩,?_⟩
      conv=>whnf
      have hgo:qO p s k=true:=by unfold qO;rw[hg];exact decide_eq_true ⟨hf,.inr h4,by omega⟩
      have hsk:zI p s (k+1)=zI p s k++[k]:=by rw[yQ,hgo];simp
      refine⟨k+1,by omega,by show s.ths.length - (k+1)<s.ths.length - k;omega,⟨rfl,rfl,?_,rfl,rfl,zN hlt (by omega),trivial⟩,⟨rfl,?_,trivial⟩⟩
      ·rw[hsk]
       show AV.ref (.n 10) 0 ((zI p s k).length+1)=_
       simp
      ·rw[hsk]
       show some (Ob.ds 3 1 (((zI p s k).map wV).take (zI p s k).length++[[di k]]))=_
       rw[List.take_of_length_le (by simp)]
       simp[wV]
     ·have h4:¬ s.ths[k].st=4:=by simpa using h4
      conv=>whnf
      have hgo:qO p s k=false:=by unfold qO;rw[hg];exact decide_eq_false fun e=>e.2.1.elim h1 h4
      have hsk:zI p s (k+1)=zI p s k:=by rw[yQ,hgo];simp
      refine⟨k+1,by omega,by show s.ths.length - (k+1)<s.ths.length - k;omega,⟨rfl,rfl,?_,rfl,rfl,zN hlt (by omega),trivial⟩,⟨rfl,?_,trivial⟩⟩
      ·rw[hsk];rfl
      ·rw[hsk];rfl
  ·have hf:¬ s.fault=0:=by simpa using hf
   conv=>whnf
   have hgo:qO p s k=false:=by unfold qO;exact decide_eq_false fun e=>hf e.1
   have hsk:zI p s (k+1)=zI p s k:=by rw[yQ,hgo];simp
   refine⟨k+1,by omega,by show s.ths.length - (k+1)<s.ths.length - k;omega,⟨rfl,rfl,?_,rfl,rfl,zN hlt (by omega),trivial⟩,⟨rfl,?_,trivial⟩⟩
   ·rw[hsk];rfl
   ·rw[hsk];rfl
 ·have hge:s.ths.length≤k:=by simpa using h
  have hkk:k=s.ths.length:=by omega
  subst hkk
  conv=>whnf
  refine congrArg (AV.uq 3 1) ?_
  rw[List.take_of_length_le (by simp)]
  rfl
end Ai
namespace Ai
set_option maxRecDepth 100000
open Go Go.Proofs
theorem faultI_ok (hI:xH) (s:StL) (k:Nat) (o:OpL) (hk:k<s.ths.length) (hs:s.small) (ho:o.inS s):CallsTo EE 171 [.fp (yT s),i64 k,agg (encOp o)] (·=i64 (yG s k o)):=by
 refine callsTo_of_AW (fn:=Tryz.f171) Tryz.func171 rfl (by kernel_rfl) rfl ?_
 have hg:s.ths.getD k th0=s.ths[k]:=by simp[List.getD_eq_getElem?_getD,hk]
 have hst:=hs.2.1 _ (List.getElem_mem hk)
 conv=>whnf
 refine⟨zH s.ths[k],zV zH hk rfl,?_⟩
 conv=>whnf
 refine⟨_,eM o,?_⟩
 rintro r rfl
 conv=>whnf
 have ht:0≤(zC o.code).1∧(zC o.code).1≤2∧0≤(zC o.code).2∧(zC o.code).2≤1:=by
  unfold zC;split
  ·decide
  ·split
   ·decide
   ·split <;> decide
 have e1:(IntKind.i64.wrap ((s.ths[k].stack.length:Int) - (zC o.code).1))=(s.ths[k].stack.length:Int) - (zC o.code).1:=zF (by omega) (by omega)
 refine kbi (fun h1=>?_) (fun h1=>?_)
 ·conv=>whnf
  have h1:(s.ths[k].stack.length:Int)<(zC o.code).1:=by simpa using h1
  simp only[yG,hg]
  rw[if_pos (.inl h1)]
 have h1:¬ (s.ths[k].stack.length:Int)<(zC o.code).1:=by simpa using h1
 conv=>whnf
 rw[show(List.map encF s.ths[k].stack).length=s.ths[k].stack.length by simp,e1,zF (by omega) (by omega)]
 refine kbi (fun h2=>?_) (fun h2=>?_)
 ·have h2:8<(s.ths[k].stack.length:Int) - (zC o.code).1+(zC o.code).2:=by simpa using h2
  conv=>whnf
  simp only[yG,hg]
  rw[if_pos (.inr h2)]
 have h2:¬ 8<(s.ths[k].stack.length:Int) - (zC o.code).1+(zC o.code).2:=by simpa using h2
 have hn1:¬ ((s.ths[k].stack.length:Int)<(zC o.code).1∨8<(s.ths[k].stack.length:Int) - (zC o.code).1+(zC o.code).2):=fun e=>e.elim h1 h2
 conv=>whnf
 have fin:∀ n:Int,(if (o.code=13∧s.owner.getD o.a.toNat 0≠k)∨(o.code=16∧s.owner.getD o.b.toNat 0≠k) then 2
   else if o.code=15∧(yF s s.ths[k]).getD (-1)<0 then 3
   else if o.code=14∧s.ths.length=5 then 4 else 0)=n→AV.d (.int .i64 n)=i64 (yG s k o):=by
  intro n hn
  rw[← hn]
  simp only[yG,hg]
  rw[if_neg hn1]
 have own_get:∀ (a:Int),0≤a∧a<s.owner.length→0≤a∧(s.owner.map encInt)[a.toNat]?=some (encInt (s.owner.getD a.toNat 0))∧(encInt (s.owner.getD a.toNat 0)).length=1:=by
  intro a ha
  refine⟨ha.1,?_,rfl⟩
  have:a.toNat<s.owner.length:=by omega
  simp[this,List.getD_eq_getElem?_getD]
 refine kbi (fun h3=>?_) (fun h3=>?_)
 ·have h3:o.code=13:=by simpa using h3
  conv=>whnf
  refine .inr (.inl ⟨10,[],?_⟩)
  conv=>whnf
  refine⟨_,own_get o.a (ho.1 h3),?_⟩
  conv=>whnf
  refine kbi (fun h4=>?_) (fun h4=>?_)
  ·have h4:s.owner.getD o.a.toNat 0≠k:=by simpa using h4
   conv=>whnf
   refine⟨by kernel_rfl,?_⟩
   conv=>whnf
   exact fin 2 (by rw[if_pos (.inl ⟨h3,h4⟩)])
  have h4:¬ s.owner.getD o.a.toNat 0≠k:=by simpa using h4
  conv=>whnf
  refine⟨by kernel_rfl,?_⟩
  conv=>whnf
  exact fin 0 (by rw[if_neg (by rintro(⟨_,e⟩|⟨e,_⟩);exact h4 e;omega),if_neg (by omega),if_neg (by omega)])
 have h3:¬ o.code=13:=by simpa using h3
 conv=>whnf
 refine kbi (fun h4=>?_) (fun h4=>?_)
 ·have h4:o.code=16:=by simpa using h4
  conv=>whnf
  refine .inr (.inl ⟨10,[],?_⟩)
  conv=>whnf
  refine⟨_,own_get o.b (ho.2 h4),?_⟩
  conv=>whnf
  refine kbi (fun h5=>?_) (fun h5=>?_)
  ·have h5:s.owner.getD o.b.toNat 0≠k:=by simpa using h5
   conv=>whnf
   refine⟨by kernel_rfl,?_⟩
   conv=>whnf
   exact fin 2 (by rw[if_pos (.inr ⟨h4,h5⟩)])
  have h5:¬ s.owner.getD o.b.toNat 0≠k:=by simpa using h5
  conv=>whnf
  refine⟨by kernel_rfl,?_⟩
  conv=>whnf
  exact fin 0 (by rw[if_neg (by rintro(⟨e,_⟩|⟨_,e⟩);exact h3 e;exact h5 e),if_neg (by omega),if_neg (by omega)])
 have h4:¬ o.code=16:=by simpa using h4
 have hn2:¬ ((o.code=13∧s.owner.getD o.a.toNat 0≠k)∨(o.code=16∧s.owner.getD o.b.toNat 0≠k)):=by
  rintro(⟨e,_⟩|⟨e,_⟩)
  ·exact h3 e
  ·exact h4 e
 conv=>whnf
 refine kbi (fun h5=>?_) (fun h5=>?_)
 ·have h5:o.code=15:=by simpa using h5
  conv=>whnf
  refine⟨_,cH hI s s.ths[k] hst,?_⟩
  rintro r rfl
  conv=>whnf
  cases hj:yF s s.ths[k] with
  |none =>
   conv=>whnf
   exact fin 3 (by rw[if_neg hn2,if_pos ⟨h5,by rw[hj];decide⟩])
  |some n =>
   conv=>whnf
   have:=bL nB hj
   exact fin 0 (by rw[if_neg hn2,if_neg (fun e=>by have e2:=e.2;rw[hj] at e2;simp only[Option.getD_some] at e2;omega),if_neg (by omega)])
 have h5:¬ o.code=15:=by simpa using h5
 conv=>whnf
 refine kbi (fun h6=>?_) (fun h6=>?_)
 ·have h6:o.code=14:=by simpa using h6
  conv=>whnf
  refine kbi (fun h7=>?_) (fun h7=>?_)
  ·have h7:s.ths.length=5:=by
    have:((s.ths.map zH).length:Int)=5:=by simpa using h7
    simp at this;omega
   conv=>whnf
   exact fin 4 (by rw[if_neg hn2,if_neg (fun e=>h5 e.1),if_pos ⟨h6,h7⟩])
  have h7:¬ s.ths.length=5:=fun e=>h7 (by simp[e])
  conv=>whnf
  exact fin 0 (by rw[if_neg hn2,if_neg (fun e=>h5 e.1),if_neg (fun e=>h7 e.2)])
 have h6:¬ o.code=14:=by simpa using h6
 conv=>whnf
 exact fin 0 (by rw[if_neg hn2,if_neg (fun e=>h5 e.1),if_neg (fun e=>h6 e.1)])
end Ai
namespace Ai
set_option maxRecDepth 100000
open Go Go.Proofs
def onP (p:ProgL) (k:Nat):List (Key × Ob):=[(.n 2,.vs 54 [.d .nil,.d .nil,.d .nil,i64 0]),(.n 3,.vs 54 [.dref (.n 6) 1,.ref (.n 9) 0 p.cells.toNat,.ref (.n 12) 0 p.locks.toNat,i64 0]),
 (.n 6,.rs 175 6 [[i64 0,i64 0,i64 1,i64 (-1),i64 (-1),.ref (.n 905) 0 0]]),(.n 905,.ds 132 1 []),(.n 9,.ds 132 1 (List.replicate p.cells.toNat [.flt 0])),(.n 12,.ds 3 1 (List.replicate k [di (-1)]++List.replicate (p.locks.toNat - k) [di 0]))]
theorem repl_step {n k:Nat} {d:D} {b:List D} (h:k<n):xF (List.replicate k [d]++List.replicate (n - k) b) 1 (0+((k:Nat):Int).toNat) 0 [d]=List.replicate (k+1) [d]++List.replicate (n - (k+1)) b:=by
 have e1:0+((k:Nat):Int).toNat=k:=by omega
 have e2:n - k=(n - (k+1))+1:=by omega
 rw[e1]
 unfold xF
 rw[show(Nat.beq 0 0&&Nat.beq [d].length 1)=true from rfl,cond_true,List.set_append,List.length_replicate,if_neg (by omega),Nat.sub_self,e2,List.replicate_succ,List.set_cons_zero,List.replicate_succ']
 simp
theorem start_ok (p:ProgL) (h1:InR p.cells 0 1048576) (h2:InR p.locks 0 1048576):CallsTo EE 64 [agg (encProg p)] (·=.own (jB (xR p))):=by
 refine callsTo_of_AW (fn:=Tryz.f64) Tryz.func64 rfl (by kernel_rfl) rfl ?_
 have a1:=h1.1
 have a2:=h1.2
 have b1:=h2.1
 have b2:=h2.2
 conv=>whnf
 refine .inr (.inl ⟨10,[2715],?_⟩)
 conv=>whnf
 refine⟨_,lB 0,?_⟩
 conv=>whnf
 refine⟨⟨by omega,by omega,by show 8*p.cells≤_;omega,by omega⟩,?_⟩
 conv=>whnf
 refine⟨⟨by omega,by omega,by show 8*p.locks≤_;omega,by omega⟩,?_⟩
 conv=>whnf
 refine⟨by kernel_rfl,?_⟩
 conv=>whnf
 refine yU (fun k:Nat=>[(2,.ptr (.n 2) 0),(3,.ptr (.n 3) 0),(16,i64 p.locks.toNat),(17,i64 k)]) (fun k=>onP p k) (fun k=>p.locks.toNat - k) (fun k=>k≤p.locks.toNat) 0
  Weak.refl ⟨rfl,rfl,rfl,rfl,trivial⟩ ⟨rfl,rfl,rfl,rfl,rfl,rfl,trivial⟩ (Nat.zero_le _) ?_
 rintro k τ H hk
 conv=>whnf
 refine kbi (fun h=>?_) (fun h=>?_)
 ·have hlt:k<p.locks.toNat:=lt_of_dec h
  conv=>whnf
  refine⟨⟨by omega,by omega⟩,?_⟩
  conv=>whnf
  refine⟨k+1,by omega,by show p.locks.toNat - (k+1)<p.locks.toNat - k;omega,⟨rfl,rfl,rfl,zN hlt (by omega),trivial⟩,⟨rfl,rfl,rfl,rfl,rfl,?_,trivial⟩⟩
  exact congrArg (fun x=>some (Ob.ds 3 1 x)) (repl_step hlt)
 ·have hge:p.locks.toNat≤k:=ge_of_dec (by simpa using h)
  have hkc:k=p.locks.toNat:=by omega
  subst hkc
  conv=>whnf
  refine .inr (.inr ⟨jB (xR p),_,(weak_sw 6 900).trans ((jV 905 900 0).trans ((weak_sw 9 901).trans (weak_sw 12 902))),?_,?_,bI ⟨⟨rfl,fun j q hq=>?_⟩,?_,?_,trivial,trivial⟩,rfl⟩)
  ·show some [AV.agg [.dref 900 1,.ref 901 0 p.cells.toNat,.ref 902 0 p.locks.toNat,i64 0]]=_
   simp[ownR,ownR1,jB,kO,xR]
   exact⟨rfl,rfl,rfl⟩
  ·intro v hv
   simp only[jB,List.mem_cons,List.not_mem_nil,or_false] at hv
   rcases hv with rfl|rfl|rfl|rfl
   ·rfl
   ·trivial
   ·trivial
   ·trivial
  ·match j,hq with
   | 0,hq=>injection hq with hq;subst hq;rfl
   |j+1,hq=>cases hq
  ·show some (Ob.ds 132 1 (List.replicate p.cells.toNat [.flt 0]))=some (Ob.ds 132 1 ((List.replicate p.cells.toNat 0).map encF))
   rw[List.map_replicate];rfl
  ·show some (Ob.ds 3 1 (List.replicate p.locks.toNat [di (-1)]++List.replicate (p.locks.toNat - p.locks.toNat) [di 0]))=some (Ob.ds 3 1 ((List.replicate p.locks.toNat (-1)).map encInt))
   rw[List.map_replicate,Nat.sub_self]
   exact congrArg (fun x=>some (Ob.ds 3 1 x)) (List.append_nil _)
end Ai
namespace Ai
set_option maxRecDepth 100000
open Go Go.Proofs
def aY (o:Option Nat):Int:=match o with|some k=>k|none=>-1
theorem lW {α:Type} {f:α→Bool} {l:List α} {k:Nat} (hk:k<l.length) (h:∀ x∈l.take k,f x=false) (hf:f l[k]=true):l.findIdx? f=some k:=by
 rw[List.findIdx?_eq_some_iff_getElem]
 refine⟨hk,hf,fun j hj=>?_⟩
 have:=h l[j] (List.mem_take_iff_getElem.2 ⟨j,by omega,rfl⟩)
 simp[this]
theorem lX {α:Type} {f:α→Bool} {l:List α} (h:∀ x∈l,f x=false):l.findIdx? f=none:=by
 rw[List.findIdx?_eq_none_iff];exact h
theorem lH (l:List Th) (hl:l.length≤1048576) (g:FuncId) (caps:List AV) (hc:caps=[]∨∃ c,caps=[.fp c]) (f:Th→Bool) (hg:∀ t∈l,CallsTo EE g (agg (zH t)::caps) (·=bv (f t))) :
  CallsTo EE 222 [sl (l.map zH),.fn g caps] (·=i64 (aY (l.findIdx? f))):=by
 refine callsTo_of_AW (fn:=Tryz.f222) Tryz.func222 rfl (by kernel_rfl) rfl ?_
 rcases hc with rfl|⟨c,rfl⟩
 ·conv=>whnf
  refine yU (fun k:Nat=>[(0,sl (l.map zH)),(1,.fn g []),(7,i64 (l.map zH).length),(8,i64 k)]) (fun k=>[]) (fun k=>l.length - k) (fun k=>k≤l.length∧∀ x∈l.take k,f x=false) 0
   Weak.refl ⟨rfl,rfl,rfl,rfl,trivial⟩ trivial ⟨Nat.zero_le _,by simp⟩ ?_
  rintro k τ H ⟨hk,hall⟩
  conv=>whnf
  refine kbi (fun h=>?_) (fun h=>?_)
  ·have hlt:=yS h
   conv=>whnf
   refine⟨zH l[k],zV zH hlt rfl,?_⟩
   conv=>whnf
   refine⟨_,hg _ (List.getElem_mem hlt),?_⟩
   rintro r rfl
   cases hf:f l[k] with
   |true =>
    conv=>whnf
    rw[lW hlt hall hf];rfl
   |false =>
    conv=>whnf
    exact⟨k+1,⟨by omega,jR hall hlt hf⟩,by show l.length - (k+1)<l.length - k;omega,⟨rfl,rfl,rfl,zN hlt (by omega),trivial⟩,trivial⟩
  ·have hge:l.length≤k:=by simpa using h
   conv=>whnf
   rw[lX (gX hall hge)];rfl
 ·conv=>whnf
  refine yU (fun k:Nat=>[(0,sl (l.map zH)),(1,.fn g [.fp c]),(7,i64 (l.map zH).length),(8,i64 k)]) (fun k=>[]) (fun k=>l.length - k) (fun k=>k≤l.length∧∀ x∈l.take k,f x=false) 0
   Weak.refl ⟨rfl,rfl,rfl,rfl,trivial⟩ trivial ⟨Nat.zero_le _,by simp⟩ ?_
  rintro k τ H ⟨hk,hall⟩
  conv=>whnf
  refine kbi (fun h=>?_) (fun h=>?_)
  ·have hlt:=yS h
   conv=>whnf
   refine⟨zH l[k],zV zH hlt rfl,?_⟩
   conv=>whnf
   refine⟨_,hg _ (List.getElem_mem hlt),?_⟩
   rintro r rfl
   cases hf:f l[k] with
   |true =>
    conv=>whnf
    rw[lW hlt hall hf];rfl
   |false =>
    conv=>whnf
    exact⟨k+1,⟨by omega,jR hall hlt hf⟩,by show l.length - (k+1)<l.length - k;omega,⟨rfl,rfl,rfl,zN hlt (by omega),trivial⟩,trivial⟩
  ·have hge:l.length≤k:=by simpa using h
   conv=>whnf
   rw[lX (gX hall hge)];rfl
theorem fixI_nn {α:Type} {f:α→Bool} {l:List α}:decide (aY (l.findIdx? f)≥0)=l.any f:=by
 cases h:l.findIdx? f with
 |none =>
  rw[List.findIdx?_eq_none_iff] at h
  have:l.any f=false:=by
   rw[List.any_eq_false];intro x hx;simp[h x hx]
  rw[this];rfl
 |some k =>
  rw[List.findIdx?_eq_some_iff_getElem] at h
  obtain⟨hk,hf,_⟩:=h
  have:l.any f=true:=List.any_eq_true.2 ⟨_,List.getElem_mem hk,hf⟩
  rw[this]
  simp[aY]
theorem rB (l:List Th) (hl:l.length≤1048576) (g:FuncId) (f:Th→Bool) (hg:∀ t∈l,CallsTo EE g [agg (zH t)] (·=bv (f t))) :
  CallsTo EE 190 [sl (l.map zH),.fn g []] (·=bv (l.any f)):=by
 refine callsTo_of_AW (fn:=Tryz.f190) Tryz.func190 rfl (by kernel_rfl) rfl ?_
 conv=>whnf
 refine⟨_,lH l hl g [] (.inl rfl) f hg,?_⟩
 rintro r rfl
 conv=>whnf
 rw[← fixI_nn]
 refine kbi (fun h=>?_) (fun h=>?_)
 ·conv=>whnf
  rw[h]
 ·conv=>whnf
  rw[show decide (aY (l.findIdx? f)≥0)=false by simpa using h]
theorem codeOf1_ok (t:Th):CallsTo EE 191 [agg (zH t)] (·=bv (t.st != 2)):=by
 refine callsTo_of_AW (fn:=Tryz.f191) Tryz.func191 rfl (by kernel_rfl) rfl ?_
 conv=>whnf
 refine kbi (fun h=>?_) (fun h=>?_)
 ·conv=>whnf
  have:t.st≠2:=by simpa using h
  simp[this]
 ·conv=>whnf
  have:t.st=2:=by simpa using h
  simp[this]
theorem codeOf_ok (p:ProgL) (s:StL) (steps budget:Int) (hs:s.small) :
  CallsTo EE 121 [agg (encProg p),.fp (yT s),sl ((zA p s).map wV),i64 steps,i64 budget] (·=i64 (xC p s steps budget)):=by
 refine callsTo_of_AW (fn:=Tryz.f121) Tryz.func121 rfl (by kernel_rfl) rfl ?_
 have hn:=hs.1
 conv=>whnf
 refine kbi (fun hf=>?_) (fun hf=>?_)
 ·have hf:s.fault≠0:=by simpa using hf
  conv=>whnf
  unfold xC
  rw[if_pos hf]
 have hf:¬ s.fault≠0:=by simpa using hf
 conv=>whnf
 refine kbi (fun h0=>?_) (fun h0=>?_)
 ·have h0:zA p s=[]:=by
   have:(((zA p s).map wV).length:Int)=0:=by simpa using h0
   simp at this
   exact this
  conv=>whnf
  refine⟨_,rB s.ths hn 191 _ (fun t _=>codeOf1_ok t),?_⟩
  rintro r rfl
  cases hany:s.ths.any (fun t=>t.st != 2) with
  |true =>
   conv=>whnf
   obtain⟨t,ht,h2⟩:=List.any_eq_true.1 hany
   unfold xC
   rw[if_neg hf,if_pos h0,if_pos ⟨t,ht,by simpa using h2⟩]
  |false =>
   conv=>whnf
   rw[List.any_eq_false] at hany
   unfold xC
   rw[if_neg hf,if_pos h0,if_neg]
   rintro⟨t,ht,h2⟩
   exact hany t ht (by simpa using h2)
 have h0:¬ zA p s=[]:=fun e=>h0 (by rw[e];rfl)
 conv=>whnf
 refine kbi (fun h1=>?_) (fun h1=>?_)
 ·have h1:steps=budget:=by simpa using h1
  conv=>whnf
  unfold xC
  rw[if_neg hf,if_neg h0,if_pos h1]
 ·have h1:¬ steps=budget:=by simpa using h1
  conv=>whnf
  unfold xC
  rw[if_neg hf,if_neg h0,if_neg h1]
end Ai
namespace Ai
set_option maxRecDepth 100000
open Go Go.Proofs
def gF (l:List Th) (k:Nat):List (List AV):=thRows 900 (l.take k)++(l.drop k).map fun t=>(zH t).map .d
theorem renL_d (f:Key→Key):∀ xs:List D,renL f (xs.map .d)=xs.map .d
 | []=>rfl
 |x::xs=>by simp only[List.map_cons,renL,ren,renL_d f xs]
theorem scrL_d (p:Key→Bool):∀ xs:List D,scrPL p (xs.map .d)=xs.map .d
 | []=>rfl
 |x::xs=>by simp only[List.map_cons,scrPL,scrP,scrL_d p xs]
theorem oF {α:Type} (f:Key→Key) (enc:α→List D) (l:List α):(l.map fun t=>(enc t).map AV.d).map (renL f)=l.map fun t=>(enc t).map AV.d:=by
 rw[List.map_map];exact List.map_congr_left fun t _=>renL_d f _
theorem dRows_scr {α:Type} (p:Key→Bool) (enc:α→List D) (l:List α):(l.map fun t=>(enc t).map AV.d).map (scrPL p)=l.map fun t=>(enc t).map AV.d:=by
 rw[List.map_map];exact List.map_congr_left fun t _=>scrL_d p _
theorem rowsK_scr {p:Key→Bool} (l:List Th) (k:Nat) (h:∀ j,p (.s 900 j)=false):(gF l k).map (scrPL p)=gF l k:=by
 unfold gF
 rw[List.map_append,zZ fun j _=>h j,dRows_scr]
theorem rowsK_get {l:List Th} {k:Nat} (h:k<l.length):(gF l k)[k]?=some ((zH l[k]).map .d):=by
 unfold gF
 have hl:(thRows 900 (l.take k)).length=k:=by rw[zP];simp;omega
 rw[List.getElem?_append_right (by omega),hl,Nat.sub_self,List.getElem?_map,List.getElem?_drop,Nat.add_zero,List.getElem?_eq_getElem h]
 rfl
theorem m9 {l:List Th} {k a:Nat} {X:List (List AV)} {v:AV} (h:k<l.length) (hX:X=gF l k) (hv:v=.ref (.n a) 0 l[k].stack.length) :
  (yP X 6 ((k:Nat):Int).toNat (0+5) [v]).map (renL (swp (.n a) (.s 900 k)))=gF l (k+1):=by
 subst hX hv
 have hl:(l.take k).length=k:=by simp;omega
 have hd:l.drop k=l[k]::l.drop (k+1):=List.drop_eq_getElem_cons h
 have e2:swp (.n a) (.s 900 k) (.n a)=.s 900 k:=by simp[swp,zD]
 unfold yP gF
 rw[show(Nat.beq (0+5) 0&&Nat.beq [AV.ref (.n a) 0 l[k].stack.length].length 6)=false from rfl,cond_false,show((k:Nat):Int).toNat=k from rfl,hd,List.map_cons]
 have hm:∀ (A:List (List AV)) (x:List AV) (B:List (List AV)) (f:List AV→List AV),A.length=k→(A++x::B).modify k f=A++f x::B:=by
  intro A x B f hA
  apply List.ext_getElem?
  intro j
  rw[List.getElem?_modify]
  rcases Nat.lt_trichotomy j k with hj|hj|hj
  ·rw[List.getElem?_append_left (by omega),List.getElem?_append_left (by omega)]
   simp only[if_neg (show ¬ k=j by omega)];simp
  ·subst hj
   rw[List.getElem?_append_right (by omega),List.getElem?_append_right (by omega),hA];simp
  ·rw[List.getElem?_append_right (by omega),List.getElem?_append_right (by omega)]
   simp only[if_neg (show ¬ k=j by omega)]
   rw[show j - A.length=(j - k - 1)+1 by omega];simp
 rw[hm _ _ _ _ (by rw[zP];exact hl),List.map_append,lJ (by omega),List.map_cons,oF,dE l k h,rD,hl,List.append_assoc,List.singleton_append]
 congr 2
 simp[zH,yD,renL,ren,thRow,e2]
theorem copied_ok (s:StL) (hs:s.small):CallsTo EE 124 [agg (yT s)] (·=.own (jB s)):=by
 obtain⟨s1,s2,s3,s4⟩:=hs
 refine callsTo_of_AW (fn:=Tryz.f124) Tryz.func124 rfl (by kernel_rfl) rfl ?_
 conv=>whnf
 refine .inr (.inl ⟨13,[],?_⟩)
 conv=>whnf
 refine⟨_,rC s.cells s3,.inr ⟨_,rfl,?_⟩⟩
 conv=>whnf
 refine⟨_,CloneI_ok s.owner s4,.inr ⟨_,rfl,?_⟩⟩
 conv=>whnf
 refine⟨_,CloneT_ok s.ths s1,.inr ⟨_,rfl,?_⟩⟩
 conv=>whnf
 refine⟨by kernel_rfl,?_⟩
 conv=>whnf
 refine mB (fun k:Nat=>[(2,.ptr 2 0),(3,.ptr 3 0),(19,i64 s.ths.length),(20,i64 k)])
  (fun k=>[(2,.vs 54 [.d .nil,.d .nil,.d .nil,i64 0]),(3,.vs 54 [.dref 900 s.ths.length,.ref 7 0 s.cells.length,.ref 10 0 s.owner.length,i64 s.fault]),(7,.ds 132 1 (s.cells.map encF)),(10,.ds 3 1 (s.owner.map encInt)),(900,.rs 175 6 (gF s.ths k))])
  (fun k=>[(900,zE (s.ths.take k))]) (fun k=>s.ths.length - k) (fun k=>k≤s.ths.length) 0 ((l0 (.n 15) (els:=s.ths.map zH) rfl).trans (weak_sw 15 900)) ?_ ?_ ?_ (Nat.zero_le _) ?_
 ·refine⟨rfl,rfl,?_,rfl,trivial⟩
  show i64 (s.ths.map zH).length=_
  rw[List.length_map]
 ·refine⟨rfl,?_,rfl,rfl,?_,trivial⟩
  ·show some (Ob.vs 54 [.dref 900 (s.ths.map zH).length,.ref 7 0 (s.cells.map encF).length,.ref 10 0 (s.owner.map encInt).length,i64 s.fault])=_
   simp
  ·show some (Ob.rs 175 6 (((s.ths.map zH).map (List.map .d)).map (renL (swp (.n 15) (.n 900)))))=_
   rw[List.map_map (f:=zH),show(List.map AV.d ∘ zH)=fun t=>(zH t).map AV.d from rfl,oF]
   simp[gF,thRows,ownRows]
 ·refine⟨fun j=>?_,trivial⟩
  simp[zE]
  rfl
 rintro k τ H hk
 conv=>whnf
 refine kbi (fun h=>?_) (fun h=>?_)
 ·have hlt:k<s.ths.length:=by simpa using h
  have ht:=s2 _ (List.getElem_mem hlt)
  conv=>whnf
  refine .inr (.inl ⟨11,[],?_⟩)
  conv=>whnf
  refine⟨⟨by omega,by omega,by decide,by omega⟩,?_⟩
  conv=>whnf
  refine⟨⟨by omega,by omega⟩,?_⟩
  conv=>whnf
  refine⟨(zH s.ths[k]).map .d,⟨?_,by simp[zH]⟩,?_⟩
  ·repeat (first|exact rowsK_get hlt|refine wF ?_ (scrL_d _ _))
  conv=>whnf
  refine⟨⟨by simp[encF],by simp;omega,by simp;omega⟩,?_⟩
  conv=>whnf
  refine⟨by kernel_rfl,?_⟩
  conv=>whnf
  refine⟨⟨by omega,by omega⟩,?_⟩
  conv=>whnf
  refine⟨k+1,_,jV 26 900 k,by omega,by show s.ths.length - (k+1)<s.ths.length - k;omega,⟨rfl,rfl,rfl,zN hlt (by omega),trivial⟩,⟨rfl,rfl,rfl,rfl,?_,trivial⟩,⟨fun j=>?_,trivial⟩⟩
  ·conv=>lhs;whnf
   refine congrArg some ?_
   refine congrArg (Ob.rs 175 6) (m9 hlt ?_ ?_)
   ·exact rowsK_scr _ _ fun j=>rfl
   ·conv=>lhs;whnf
    show AV.ref (.n 26) 0 (0+(s.ths[k].stack.map encF).length)=_
    rw[List.length_map,Nat.zero_add]
  ·have hl:(s.ths.take k).length=k:=by simp;omega
   by_cases hj:j=k
   ·subst hj
    have e:swp (.n 26) (.s 900 j) (.s 900 j)=.n 26:=by simp[swp,Key.beq]
    show(St.H _ (swp (.n 26) (.s 900 j) (.s 900 j))).map _=_
    rw[e]
    show some (Ob.ds 132 ti132.sz (List.take 0 []++List.map encF s.ths[j].stack))=_
    rw[zE,dE s.ths j hlt,List.getElem?_append_right (by omega),hl]
    simp[stk]
   ·have e:swp (.n 26) (.s 900 k) (.s 900 j)=.s 900 j:=by simp[swp,Key.beq,nbeq_ne hj]
    show(St.H _ (swp (.n 26) (.s 900 k) (.s 900 j))).map _=_
    rw[e]
    refine Eq.trans (o7 (X:=zE (s.ths.take k) j) ?_ (thFam_ren _ _ _)) (tB hj)
    conv=>lhs;whnf
    repeat (refine hscrO ?_ (zQ _ _ _);conv=>lhs;whnf)
    rfl
 ·have hge:s.ths.length≤k:=by simpa using h
  have hkk:k=s.ths.length:=by omega
  subst hkk
  conv=>whnf
  refine .inr (.inr ⟨jB s,_,(weak_sw 7 901).trans (weak_sw 10 902),?_,?_,bI ⟨⟨?_,fun j q hq=>?_⟩,rfl,rfl,trivial,trivial⟩,rfl⟩)
  ·show some [AV.agg [.dref 900 s.ths.length,.ref 901 0 s.cells.length,.ref 902 0 s.owner.length,i64 s.fault]]=_
   simp[ownR,ownR1,jB,kO]
   exact⟨rfl,rfl,rfl⟩
  ·intro v hv
   simp only[jB,List.mem_cons,List.not_mem_nil,or_false] at hv
   rcases hv with rfl|rfl|rfl|rfl
   ·show(s.ths.map vV).length=(s.ths.map stk).length
    simp
   ·trivial
   ·trivial
   ·trivial
  ·show some (Ob.rs 175 6 (((gF s.ths s.ths.length).map (renL (swp (.n 7) (.n 901)))).map (renL (swp (.n 10) (.n 902)))))=some (Ob.rs 175 6 (thRows 900 s.ths))
   have e:gF s.ths s.ths.length=thRows 900 s.ths:=by simp[gF]
   rw[e,kP,kP]
  ·show((zE (s.ths.take s.ths.length) j).map (renO _)).map (renO _)=_
   rw[thFam_ren,thFam_ren,List.take_length,zE]
   rw[List.getElem?_map] at hq
   obtain⟨t,ht,rfl⟩:=Option.map_eq_some_iff.1 hq
   rw[ht];rfl
end Ai
namespace Ai
set_option maxRecDepth 100000
open Go Go.Proofs
structure Inert (x:AV):Prop where
 scr:∀ p,scrP p x=x
 ren:∀ f,ren f x=x
 cut:∀ κ q,cut κ q x=x
def xV (t:Th):List AV:=[i64 t.rt,i64 t.pc,i64 t.st,i64 t.cond,i64 t.lock,.ref (.n 899) 0 t.stack.length]
def rowsA (l:List Th) (k:Nat) (t:Th):List (List AV):=(thRows 900 l).set k (xV t)
theorem rowsA_len (l:List Th) (k:Nat) (t:Th):(rowsA l k t).length=l.length:=by simp[rowsA,zP]
theorem yW {l:List Th} {k:Nat} {t:Th} (h:k<l.length):(rowsA l k t)[((k:Nat):Int).toNat]?=some (xV t):=by
 show(rowsA l k t)[k]?=_
 unfold rowsA
 rw[List.getElem?_set_self (by rw[zP];exact h)]
theorem rowsA_ne {l:List Th} {k j:Nat} {t:Th} (h:j≠k):(rowsA l k t)[j]?=(thRows 900 l)[j]?:=by
 unfold rowsA
 rw[List.getElem?_set_ne (Ne.symm h)]
theorem xQ {p:Key→Bool} (h:p (.n 899)=false) (t:Th):scrPL p (xV t)=xV t:=by simp[xV,scrPL,scrP,h]
theorem qK {p:Key→Bool} (h1:p (.n 899)=false) (h2:∀ j,p (.s 900 j)=false) (l:List Th) (k:Nat) (t:Th):(rowsA l k t).map (scrPL p)=rowsA l k t:=by
 unfold rowsA
 rw[List.map_set,zZ fun j _=>h2 j,xQ h1]
theorem eV {l:List Th} {k off:Nat} {t t':Th} {v:AV} {X:List (List AV)} (hk:k<l.length) (hX:X=rowsA l k t) (h:yD (xV t) off [v]=xV t'):yP X 6 ((k:Nat):Int).toNat off [v]=rowsA l k t':=by
 subst hX
 have hf:yP (rowsA l k t) 6 ((k:Nat):Int).toNat off [v]=(rowsA l k t).modify k fun c=>yD c off [v]:=by
  unfold yP
  rw[show(Nat.beq off 0&&Nat.beq [v].length 6)=false from Bool.and_false _]
  rfl
 rw[hf]
 unfold rowsA
 apply List.ext_getElem?
 intro j
 rw[List.getElem?_modify]
 by_cases hj:k=j
 ·subst hj
  rw[List.getElem?_set_self (by rw[zP];exact hk),List.getElem?_set_self (by rw[zP];exact hk)];simp[h]
 ·rw[List.getElem?_set_ne hj,List.getElem?_set_ne hj];simp[hj]
theorem xN {E:TypeId} {x0 x1 x2:AV} (i0:Inert x0) (i1:Inert x1) (i2:Inert x2) (s:StL) {p:Key→Bool} (h:(p (.n 900) || p (.n 901) || p (.n 902))=false):scrPO p (.vs E ([x0,x1,x2]++stRef s))=.vs E ([x0,x1,x2]++stRef s):=by
 simp only[Bool.or_eq_false_iff] at h
 simp[scrPO,scrPL,scrP,stRef,i0.scr,i1.scr,i2.scr,h.1.1,h.1.2,h.2]
def doI1 (OFF:Nat) (k:Nat) (o:OpL) (t:Th):List (Nat × AV):=[(0,.ptr (.l 0) OFF),(1,i64 k),(6,.ptr (.n 6) 0),(7,.ptr (.n 7) 0),(8,.ptr (.n 8) 0),(9,.dptr (.n 900) k 0),(13,sl ((t.stack.drop (yI t o)).map encF))]
def doIO (E:TypeId) (pre:List AV) (s:StL) (k:Nat) (o:OpL) (e:Ev) (t t':Th):List (Key × Ob):=[(.l 0,.vs E (pre++stRef s)),(.n 6,.vs 183 ((encOp o).map .d)),(.n 7,.vs 128 ((encEv e).map .d)),
 (.n 8,.vs 128 [i64 0,i64 0,i64 0,i64 0,i64 0]),(.n 899,.ds 132 1 (stk t)),(.n 900,.rs 175 6 (rowsA s.ths k t')),(.n 901,.ds 132 1 (s.cells.map encF)),(.n 902,.ds 3 1 (s.owner.map encInt))]
theorem doI_preB (E:TypeId) (x0 x1 x2:AV) (i0:Inert x0) (i1:Inert x1) (i2:Inert x2) (g:Nat→Option Ob) (hg:∀ p j,(g j).map (scrPO p)=g j) (s:StL) (k:Nat) (o:OpL) (e:Ev) (hk:k<s.ths.length) (t:Th) (htk:(zC o.code).1≤t.stack.length) (ht8:t.stack.length≤1048576) (hpc:InR t.pc 0 1048576)
  (τ:Nat→AV) (H:Key→Option Ob) (Q:AX→St→Prop) (K:St→Prop) (hK:∀ s',At (doI1 3 k o t) (doIO E [x0,x1,x2] s k o e t (zG t o)) [(900,g)] s'→K s') :
  sG EE Tryz.f172.ntmps K Q 7 (Tryz.f172.body.getD .skip) (tO [(0,.ptr (.l 0) 3),(1,i64 k),(2,agg (encOp o)),(3,agg (encEv e))] (tF [(.l 0,.vs E ([x0,x1,x2]++stRef s)),(.n 899,.ds 132 1 (stk t)),(.n 900,.rs 175 6 (rowsA s.ths k t)),(.n 901,.ds 132 1 (s.cells.map encF)),(.n 902,.ds 3 1 (s.owner.map encInt))] (hY [(900,g)] ⟨τ,H⟩))):=by
 have ht:0≤(zC o.code).1∧(zC o.code).1≤2∧0≤(zC o.code).2∧(zC o.code).2≤1:=by
  unfold zC;split
  ·decide
  ·split
   ·decide
   ·split <;> decide
 have e1:(IntKind.i64.wrap ((t.stack.length:Int) - (zC o.code).1))=(t.stack.length:Int) - (zC o.code).1:=zF (by omega) (by omega)
 have e2:((t.stack.length:Int) - (zC o.code).1).toNat=yI t o:=by unfold yI wW;omega
 have allLen:∀ a b:Nat,(((stk t).drop a).take b).all (fun c=>c.length==1)=true:=by
  intro a b
  simp only[List.all_eq_true]
  intro x hx
  have hx:=List.mem_of_mem_drop (List.mem_of_mem_take hx)
  obtain⟨y,_,rfl⟩:=List.mem_map.1 hx
  rfl
 conv=>whnf
 refine⟨⟨by omega,by omega⟩,?_⟩
 conv=>whnf
 refine⟨_,eM o,?_⟩
 rintro r rfl
 conv=>whnf
 refine⟨xV t,⟨?_,by simp[xV]⟩,?_⟩
 ·repeat (first|exact yW hk|refine wF ?_ (xQ rfl t))
 conv=>whnf
 refine⟨xV t,⟨?_,by simp[xV]⟩,?_⟩
 ·repeat (first|exact yW hk|refine wF ?_ (xQ rfl t))
 conv=>whnf
 rw[e1]
 have e3:((stk t).drop (0+((t.stack.length:Int) - (zC o.code).1).toNat)).take ((t.stack.length:Int).toNat - ((t.stack.length:Int) - (zC o.code).1).toNat)=(t.stack.drop (yI t o)).map encF:=by
  rw[e2,Nat.zero_add,List.take_of_length_le (by simp[stk]),stk,List.map_drop]
 have hlen:(t.stack.drop (yI t o)).length≤1048576:=by simp;omega
 rcases Int.lt_or_eq_of_le ht.1 with h0|h0
 refine .inl ⟨⟨by omega,by omega,by omega,.inr (by omega)⟩,?_⟩
 conv=>whnf
 refine .inl ⟨(·=.uq 132 1 ((t.stack.drop (yI t o)).map encF)),Eq.mp (congrArg (fun x=>CallsTo EE 193 [sl x] _) e3.symm) (rC (t.stack.drop (yI t o)) hlen),?_⟩
 rintro r rfl
 refine⟨fun c hc=>?_,.inl ?_⟩
 ·obtain⟨y,_,rfl⟩:=List.mem_map.1 hc
  rfl
 conv=>whnf
 rotate_left 1
 refine .inr ⟨⟨by omega,by omega,by omega⟩,?_⟩
 conv=>whnf
 refine⟨(·=.uq 132 1 ((t.stack.drop (yI t o)).map encF)),Eq.mp (congrArg (fun x=>CallsTo EE 193 [sl x] _) (by simp[yI,wW,← h0])) (rC (t.stack.drop (yI t o)) hlen),?_⟩
 rintro r rfl
 refine .inl ?_
 conv=>whnf
 all_goals
  refine⟨xV t,⟨by repeat (first|exact yW hk|refine wF ?_ (xQ rfl t)),by simp[xV]⟩,?_⟩
  conv=>whnf
  refine .inl ⟨⟨by omega,by omega,by omega,.inl rfl⟩,?_⟩
  conv=>whnf
  have e5:((t.stack.length:Int) - (zC o.code).1).toNat - (0:Int).toNat=yI t o:=by rw[e2];rfl
  refine⟨[i64 t.rt,i64 t.pc,i64 t.st,i64 t.cond,i64 t.lock,.ref (.n 899) 0 (yI t o)],⟨?_,by simp⟩,?_⟩
  ·refine wE (c:=xV t) (by repeat (first|exact yW hk|refine wF ?_ (xQ rfl t))) ?_
   conv=>lhs;whnf
   rw[← e5]
   rfl
  conv=>whnf
  refine hK _ ⟨?_,?_,?_⟩
  ·exact⟨rfl,rfl,rfl,rfl,rfl,rfl,rfl,trivial⟩
  ·refine⟨?_,rfl,rfl,rfl,rfl,?_,rfl,rfl,trivial⟩
   ·conv=>lhs;whnf
    refine congrArg some ?_
    repeat (refine xW ?_ (xN i0 i1 i2 s rfl))
    rfl
   ·conv=>lhs;whnf
    refine congrArg (fun x=>some (Ob.rs 175 6 x)) ?_
    have hkl:(t.stack.take (yI t o)).length=yI t o:=by simp[yI]
    refine eV hk (eV hk (t:=t) (t':={ t with stack:=t.stack.take (yI t o) }) (by repeat (first|rfl|refine Eq.trans (congrArg (List.map (scrPL _)) ?_) (qK rfl (fun _=>rfl) _ _ _))) ?_) ?_
    ·show[_,_,_,_,_,AV.ref (.n 899) 0 (((t.stack.length:Int) - (zC o.code).1).toNat - (0:Int).toNat)]=[_,_,_,_,_,AV.ref (.n 899) 0 (t.stack.take (yI t o)).length]
     rw[e5,hkl]
    ·show[_,AV.d (.int .i64 (IntKind.i64.wrap (t.pc+1))),_,_,_,AV.ref (.n 899) 0 (t.stack.take (yI t o)).length]=[_,i64 (t.pc+1),_,_,_,AV.ref (.n 899) 0 (t.stack.take (yI t o)).length]
     rw[zF (by have:=hpc.1;omega) (by have:=hpc.2;omega)]
     rfl
  ·refine⟨fun j=>?_,trivial⟩
   repeat (first|exact rfl|refine hscrO ?_ (hg _ _)|conv=>lhs;whnf)
end Ai
namespace Ai
set_option maxRecDepth 100000
open Go Go.Proofs Ieee
theorem gtr_max {c:Nat}:fcmp .gtr c 9218868437227405311=(match double.read c with|.infinity false=>true|_=>false):=by
 unfold fcmp Format.order
 rw[show double.read 9218868437227405311=.number false 9007199254740991 971 by decide]
 have bound:∀ s m e,double.read c=.number s m e→m<9007199254740992∧-1074≤e∧e≤971:=by
  intro s m e h
  unfold Format.read at h
  rw[show double.signWeight=9223372036854775808 by decide,show double.binade=4503599627370496 by decide,show double.infRung=9218868437227405312 by decide,show double.leastPlace=-1074 by decide] at h
  simp only at h
  split at h
  ·simp only[Datum.number.injEq] at h
   obtain⟨_,h1,h2⟩:=h
   omega
  ·split at h
   ·simp only[Datum.number.injEq] at h
    obtain⟨_,h1,h2⟩:=h
    omega
   ·split at h <;> cases h
 cases h:double.read c with
 |nan s f=>rfl
 |infinity s=>cases s <;> rfl
 |number s m e =>
  obtain⟨b1,b2,b3⟩:=bound s m e h
  simp only[Datum.order]
  have hm:Min.min e 971=e:=by omega
  rw[hm]
  have h2:9007199254740991≤9007199254740991 <<< (971 - e).toNat:=by
   rw[Nat.shiftLeft_eq];exact Nat.le_mul_of_pos_right _ (Nat.pow_pos (by decide))
  have h3:signed s m (e - e).toNat≤9007199254740991:=by
   rw[Int.sub_self]
   show signed s m 0≤_
   unfold signed
   rw[Nat.shiftLeft_zero]
   split <;> omega
  have h4:signed false 9007199254740991 (971 - e).toNat=((9007199254740991 <<< (971 - e).toNat:Nat):Int):=rfl
  have hle:signed s m (e - e).toNat≤signed false 9007199254740991 (971 - e).toNat:=by
   rw[h4];omega
  generalize signed s m (e - e).toNat=u at hle
  generalize signed false 9007199254740991 (971 - e).toNat=v at hle
  show(some (compare u v)==some .gt)=false
  have:compare u v≠.gt:=by
   rw[Int.compare_eq_ite_lt]
   split
   ·decide
   ·split
    ·omega
    ·decide
  cases hc:compare u v with
  |gt=>exact absurd hc this
  |lt=>rfl
  |eq=>rfl
theorem mN {c:Nat} {s:Bool} {m:Nat} {e:Int} (hc:c<18446744073709551616) (h:double.read c=.number s m e) :
  (c % 9223372036854775808=m∧m<4503599627370496∧e=-1074∧(s=true↔9223372036854775808≤c)) ∨
  (4503599627370496≤m∧m<9007199254740992∧-1074≤e∧c % 9223372036854775808=(e+1075).toNat*4503599627370496+(m - 4503599627370496)∧(s=true↔9223372036854775808≤c)):=by
 unfold Format.read at h
 rw[show double.signWeight=9223372036854775808 by decide,show double.binade=4503599627370496 by decide,show double.infRung=9218868437227405312 by decide,show double.leastPlace=-1074 by decide] at h
 simp only at h
 have hs:(c / 9223372036854775808 % 2==1)=true↔9223372036854775808≤c:=by
  simp only[beq_iff_eq];omega
 split at h
 ·simp only[Datum.number.injEq] at h
  obtain⟨h0,h1,h2⟩:=h
  subst h0
  exact .inl ⟨h1,by omega,by omega,hs⟩
 ·split at h
  ·simp only[Datum.number.injEq] at h
   obtain⟨h0,h1,h2⟩:=h
   subst h0
   exact .inr ⟨by omega,by omega,by omega,by omega,hs⟩
  ·split at h <;> cases h
theorem num_eq {c d:Nat} {s t:Bool} {m n:Nat} {e i:Int} (hc:c<18446744073709551616) (hd:d<18446744073709551616) (h1:double.read c=.number s m e) (h2:double.read d=.number t n i)
  (h:double.order c d=some .eq) (h0:¬ (m=0∧n=0)):c=d:=by
 unfold Format.order at h
 rw[h1,h2] at h
 simp only[Datum.order,Option.some.injEq] at h
 have h:=Std.LawfulEqCmp.eq_of_compare h
 simp only[signed,Nat.shiftLeft_eq] at h
 have p1:0<2 ^ (e - Min.min e i).toNat:=Nat.pow_pos (by decide)
 have p2:0<2 ^ (i - Min.min e i).toNat:=Nat.pow_pos (by decide)
 have key:m*2 ^ (e - Min.min e i).toNat=n*2 ^ (i - Min.min e i).toNat∧s=t:=by
  have q1:m=0∨0<m*2 ^ (e - Min.min e i).toNat:=by
   rcases Nat.eq_zero_or_pos m with a|a
   ·exact .inl a
   ·exact .inr (Nat.mul_pos a p1)
  have q2:n=0∨0<n*2 ^ (i - Min.min e i).toNat:=by
   rcases Nat.eq_zero_or_pos n with a|a
   ·exact .inl a
   ·exact .inr (Nat.mul_pos a p2)
  have z1:m=0→m*2 ^ (e - Min.min e i).toNat=0:=fun a=>by rw[a,Nat.zero_mul]
  have z2:n=0→n*2 ^ (i - Min.min e i).toNat=0:=fun a=>by rw[a,Nat.zero_mul]
  generalize m*2 ^ (e - Min.min e i).toNat=u at *
  generalize n*2 ^ (i - Min.min e i).toNat=v at *
  cases s <;> cases t <;> simp at h ⊢ <;> omega
 obtain⟨k1,rfl⟩:=key
 have hei:∀ (a b:Nat) (j:Nat),4503599627370496≤b→a<9007199254740992→a=b*2 ^ (j+1)→False:=by
  intro a b j hb ha he
  rw[Nat.pow_succ] at he
  have:0<2 ^ j:=Nat.pow_pos (by decide)
  have:b*1≤b*2 ^ j:=Nat.mul_le_mul_left _ this
  have:a=b*2 ^ j*2:=by rw[he,Nat.mul_assoc]
  omega
 have r1:=mN hc h1
 have r2:=mN hd h2
 have ee:e=i:=by
  rcases Int.lt_trichotomy e i with hlt|heq|hgt
  ·exfalso
   rcases r2 with r2|r2
   ·rcases r1 with r1|r1 <;> omega
   obtain⟨j,hj⟩:∃ j:Nat,(i - Min.min e i).toNat=j+1:=⟨(i - Min.min e i).toNat - 1,by omega⟩
   have hz:(e - Min.min e i).toNat=0:=by omega
   rw[hz,hj,Nat.pow_zero,Nat.mul_one] at k1
   exact hei m n j r2.1 (by rcases r1 with r1|r1 <;> omega) k1
  ·exact heq
  ·exfalso
   rcases r1 with r1|r1
   ·rcases r2 with r2|r2 <;> omega
   obtain⟨j,hj⟩:∃ j:Nat,(e - Min.min e i).toNat=j+1:=⟨(e - Min.min e i).toNat - 1,by omega⟩
   have hz:(i - Min.min e i).toNat=0:=by omega
   rw[hz,hj,Nat.pow_zero,Nat.mul_one] at k1
   exact hei n m j r1.1 (by rcases r2 with r2|r2 <;> omega) k1.symm
 subst ee
 have:m=n:=by
  have hz:(e - Min.min e e).toNat=0:=by omega
  rw[hz,Nat.pow_zero,Nat.mul_one,Nat.mul_one] at k1
  exact k1
 subst this
 have hsg:(9223372036854775808≤c↔9223372036854775808≤d):=by
  have a1:s=true↔9223372036854775808≤c:=r1.elim (fun r=>r.2.2.2) fun r=>r.2.2.2.2
  have a2:s=true↔9223372036854775808≤d:=r2.elim (fun r=>r.2.2.2) fun r=>r.2.2.2.2
  rw[← a1,← a2]
 have hmd:c % 9223372036854775808=d % 9223372036854775808:=by
  rcases r1 with r1|r1 <;> rcases r2 with r2|r2 <;> omega
 by_cases hh:9223372036854775808≤c
 ·have:=hsg.1 hh
  omega
 ·have:¬ 9223372036854775808≤d:=fun e=>hh (hsg.2 e)
  omega
theorem n5 {c:Nat} {s:Bool} (hc:c<18446744073709551616) (h:double.read c=.infinity s):c=if s=true then 18442240474082181120 else 9218868437227405312:=by
 unfold Format.read at h
 rw[show double.signWeight=9223372036854775808 by decide,show double.binade=4503599627370496 by decide,show double.infRung=9218868437227405312 by decide,show double.leastPlace=-1074 by decide] at h
 simp only at h
 split at h
 ·cases h
 ·split at h
  ·cases h
  ·split at h
   ·simp only[Datum.infinity.injEq] at h
    subst h
    by_cases hh:9223372036854775808≤c
    ·have h1:c / 9223372036854775808=1:=by omega
     rw[h1]
     simp
     omega
    ·have h1:c / 9223372036854775808=0:=by omega
     rw[h1]
     simp
     omega
   ·cases h
theorem eql_refl {x:Nat} (h:zT x=false):fcmp .eql x x=true:=by
 have:=lP x
 rw[h] at this
 simpa[fcmp] using this
theorem m7 {x y:Nat} (hx:x<18446744073709551616) (hy:y<18446744073709551616) (nx:zT x=false) (ny:zT y=false):(fcmp .eql x y=true∧(kL x↔kL y))↔x=y:=by
 refine⟨fun ⟨h1,h2⟩=>?_,fun e=>by subst e;exact⟨eql_refl nx,Iff.rfl⟩⟩
 have h3:double.order x y=some .eq:=by simpa[fcmp] using h1
 have m1:kL 9223372036854775808:=.inr ⟨by decide,by decide⟩
 have m0:¬ kL 0:=by unfold kL;decide
 cases rx:double.read x with
 |nan s f=>unfold zT at nx;rw[rx] at nx;cases nx
 |infinity s =>
  cases ry:double.read y with
  |nan s f=>unfold zT at ny;rw[ry] at ny;cases ny
  |number t n i=>unfold Format.order at h3;rw[rx,ry] at h3;cases s <;> cases h3
  |infinity t =>
   unfold Format.order at h3
   rw[rx,ry] at h3
   have e1:=n5 hx rx
   have e2:=n5 hy ry
   cases s <;> cases t <;> first|exact e1.trans e2.symm|cases h3
 |number s m e =>
  cases ry:double.read y with
  |nan s f=>unfold zT at ny;rw[ry] at ny;cases ny
  |infinity t=>unfold Format.order at h3;rw[rx,ry] at h3;cases t <;> cases h3
  |number t n i =>
   by_cases h0:m=0∧n=0
   ·obtain⟨rfl,rfl⟩:=h0
    have r1:=mN hx rx
    have r2:=mN hy ry
    have c1:x=0∨x=9223372036854775808:=by rcases r1 with r1|r1 <;> omega
    have c2:y=0∨y=9223372036854775808:=by rcases r2 with r2|r2 <;> omega
    rcases c1 with rfl|rfl <;> rcases c2 with rfl|rfl
    ·rfl
    ·exact absurd (h2.2 m1) m0
    ·exact absurd (h2.1 m1) m0
    ·rfl
   ·exact num_eq hx hy rx ry h3 h0
end Ai
namespace Ai
set_option maxRecDepth 100000
open Go Go.Proofs Ieee
theorem rA (x:Nat):CallsTo EE 276 [.d (.flt x)] (·=bp (zT x=true)):=by
 refine callsTo_of_AW (fn:=Tryz.f276) Tryz.func276 rfl (by kernel_rfl) rfl ?_
 conv=>whnf
 refine kbi (fun h=>?_) (fun h=>?_)
 ·conv=>whnf
  exact bpt (by rw[← lP];exact h)
 ·conv=>whnf
  exact bpf (by rw[← lP];exact h)
theorem bitsI_run (b:Nat) (w:World):(callFunc 277 #[.float .f64 b]).run Tryz.prog w=.ok (.value (.int .u64 b)) w:=by
 kernel_rfl
theorem lZ {b:Nat} (h:zT (canon b)=false):canon b=b:=by
 unfold canon at *
 cases hn:zT b with
 |true=>rw[hn] at h;exact absurd (show zT nanC=false from h) (by decide)
 |false=>rfl
theorem vJ (x:Nat):CallsTo EE 277 [.d (.flt x)] (fun r=>∃ b:Nat,r=.d (.int .u64 b)∧canon b=x):=by
 intro w A vs hI hA
 obtain⟨hl,hr⟩:=hA
 have h1:vs.size=1:=hl.symm
 obtain⟨v,hv⟩:∃ v,vs=#[v]:=⟨vs[0],by apply Array.ext (by simp[h1]);intro i h2 h3;simp at h3;subst h3;rfl⟩
 subst hv
 have:=hr 0 _ v rfl rfl
 cases this with
 |d _ _ hd=>cases hd with
  |flt b =>
   unfold Invokes
   rw[show Sem.run EE.P (callFunc 277 #[Value.float .f64 b]) w=_ from bitsI_run b w]
   exact⟨_,⟨b,rfl,rfl⟩,RowKit.Below.refl _ _,.d _ _ (.int _ _)⟩
theorem q5 (n:Int) (w:World):(callFunc 308 #[.int .u64 n]).run Tryz.prog w=.ok (.value (.float .f64 n.toNat)) w:=by
 kernel_rfl
theorem frombits_ok (n:Int):CallsTo EE 308 [.d (.int .u64 n)] (·=.d (.flt (canon n.toNat))):=by
 intro w A vs hI hA
 obtain⟨hl,hr⟩:=hA
 have h1:vs.size=1:=hl.symm
 obtain⟨v,hv⟩:∃ v,vs=#[v]:=⟨vs[0],by apply Array.ext (by simp[h1]);intro i h2 h3;simp at h3;subst h3;rfl⟩
 subst hv
 have:=hr 0 _ v rfl rfl
 cases this with
 |d _ _ hd=>cases hd with
  |int =>
   unfold Invokes
   rw[show Sem.run EE.P (callFunc 308 #[Value.int .u64 n]) w=_ from q5 n w]
   exact⟨_,rfl,RowKit.Below.refl _ _,.d _ _ (.flt _)⟩
theorem trunc_next:Extern.findNext Tryz.f302=none:=by kernel_rfl
theorem trunc_find : Extern.find Tryz.f302 = some (Extern.MathFloor.toIntegral "math.archTrunc" .zero) := by kernel_rfl
theorem trunc_ng : (Tryz.f302.name == "runtime.NumGoroutine") = false := by kernel_rfl
theorem trunc_nb:Tryz.f302.body.isNone=true:=by kernel_rfl
theorem trunc_run (b : Nat) (w : World) : (callFunc 302 #[.float .f64 b]).run Tryz.prog w = (((Extern.MathFloor.toIntegral "math.archTrunc" .zero #[.float .f64 b]).run Tryz.prog w).andThen fun v w => .ok (.value v) w) := by
 unfold callFunc
 simp only[Sem.run_bind,run_program,Result.andThen_ok,Tryz.func302,trunc_ng,trunc_nb,trunc_next,trunc_find,Bool.false_eq_true,if_false,if_true,run_mark,Sem.run_pure]
def lI (x:Nat):Nat:=canon (double.write ((double.read x).integral .zero))
theorem j4 (x:Nat) (hx:zT x=false):CallsTo EE 302 [.d (.flt x)] (·=.d (.flt (lI x))):=by
 intro w A vs hI hA
 obtain⟨hl,hr⟩:=hA
 have h1:vs.size=1:=hl.symm
 obtain⟨v,hv⟩:∃ v,vs=#[v]:=⟨vs[0],by apply Array.ext (by simp[h1]);intro i h2 h3;simp at h3;subst h3;rfl⟩
 subst hv
 have:=hr 0 _ v rfl rfl
 cases this with
 |d _ _ hd =>
  cases hd with
  |flt b =>
   have hb:canon b=b:=lZ hx
   unfold Invokes
   have hrun:Sem.run EE.P (callFunc 302 #[Value.float .f64 b]) w=.ok (.value (.float .f64 (double.write ((double.read b).integral .zero)))) w:=by
    rw[show Sem.run EE.P (callFunc 302 #[Value.float .f64 b]) w=_ from trunc_run b w]
    have hdec:FloatKind.f64.decode b=double.read b:=rfl
    have hn:zT b=false:=by rw[hb] at hx;exact hx
    unfold zT at hn
    have ht : Extern.MathFloor.toIntegral "math.archTrunc" .zero #[Value.float .f64 b] = pure (.float .f64 (double.write ((double.read b).integral .zero))) := by
     show(match FloatKind.f64.decode b with
      | .nan s t=>_
      |d=>_)=_
     rw[hdec]
     cases hd:double.read b with
     |nan s f=>rw[hd] at hn;cases hn
     |infinity s=>rfl
     |number s m i=>rfl
    rw[ht]
    rfl
   rw[hrun]
   refine⟨_,rfl,RowKit.Below.refl _ _,?_⟩
   rw[hb]
   exact .d _ _ (.flt _)
theorem Trunc_ok (x:Nat) (hx:zT x=false):CallsTo EE 288 [.d (.flt x)] (·=.d (.flt (lI x))):=by
 refine callsTo_of_AW (fn:=Tryz.f288) Tryz.func288 rfl (by kernel_rfl) rfl ?_
 conv=>whnf
 refine⟨_,j4 x hx,?_⟩
 rintro r rfl
 conv=>whnf
def sI (b:Nat):Nat:=(IntKind.u64.wrap (BitVec.ofInt 64 b &&& ~~~BitVec.ofInt 64 9223372036854775808).toNat).toNat
theorem Abs_ok (x:Nat):CallsTo EE 301 [.d (.flt x)] (fun r=>∃ b,canon b=x∧r=.d (.flt (canon (sI b)))):=by
 refine callsTo_of_AW (fn:=Tryz.f301) Tryz.func301 rfl (by kernel_rfl) rfl ?_
 conv=>whnf
 refine⟨_,vJ x,?_⟩
 rintro r ⟨b,rfl,hb⟩
 conv=>whnf
 refine⟨_,frombits_ok _,?_⟩
 rintro r rfl
 conv=>whnf
 exact⟨b,hb,rfl⟩
theorem IsInf_ok (x:Nat):CallsTo EE 287 [.d (.flt x),i64 0] (fun r=>∃ b,canon b=x∧r=bv (fcmp .gtr (canon (sI b)) 9218868437227405311)):=by
 refine callsTo_of_AW (fn:=Tryz.f287) Tryz.func287 rfl (by kernel_rfl) rfl ?_
 conv=>whnf
 refine kbi (fun _=>?_) (fun h=>absurd rfl h)
 conv=>whnf
 refine⟨_,Abs_ok x,?_⟩
 rintro r ⟨b,hb,rfl⟩
 conv=>whnf
 refine kbi (fun h=>?_) (fun h=>?_)
 ·conv=>whnf
  exact⟨b,hb,congrArg bv (show true=_ from (show fcmp .gtr (canon (sI b)) 9218868437227405311=true from h).symm)⟩
 ·conv=>whnf
  exact⟨b,hb,congrArg bv (show false=_ from (Bool.not_eq_true _▸(show ¬ fcmp .gtr (canon (sI b)) 9218868437227405311=true from h):fcmp .gtr (canon (sI b)) 9218868437227405311=false).symm)⟩
def wK (x:Nat):Int:=if zT x=true then 0 else (match double.read x with|.infinity _=>1|_=>if fcmp .eql x 0=true then 2 else if fcmp .eql x (lI x)=true then 3 else 4)
theorem absB_mod (b:Nat):sI b=b % 9223372036854775808:=by
 unfold sI
 have h1:(BitVec.ofInt 64 (b:Int) &&& ~~~BitVec.ofInt 64 9223372036854775808).toNat=b % 9223372036854775808:=by
  rw[BitVec.toNat_and,show(~~~BitVec.ofInt 64 9223372036854775808).toNat=2 ^ 63 - 1 by decide,Nat.and_two_pow_sub_one_eq_mod,BitVec.toNat_ofInt]
  omega
 rw[h1]
 have:IntKind.u64.wrap (((b % 9223372036854775808:Nat)):Int)=((b % 9223372036854775808:Nat):Int):=by
  unfold IntKind.wrap
  simp[IntKind.bits,IntKind.signed]
  omega
 rw[this]
 rfl
theorem oL {b:Nat}:double.read (sI b)=(match double.read b with|.number _ m i=>.number false m i|.infinity _=>.infinity false|.nan _ f=>.nan false f):=by
 rw[absB_mod]
 unfold Format.read
 rw[show double.signWeight=9223372036854775808 by decide]
 have h1:b % 9223372036854775808 / 9223372036854775808 % 2=0:=by omega
 simp only[h1,Nat.mod_mod]
 split
 ·rfl
 ·split
  ·rfl
  ·split <;> rfl
theorem oO (x:Nat):CallsTo EE 262 [.d (.flt x)] (·=i64 (wK x)):=by
 refine callsTo_of_AW (fn:=Tryz.f262) Tryz.func262 rfl (by kernel_rfl) rfl ?_
 conv=>whnf
 refine ocase (rA x) (fun h=>?_) (fun h=>?_)
 ·conv=>whnf
  unfold wK
  rw[if_pos h]
 have h':zT x=false:=by simpa using h
 conv=>whnf
 refine⟨_,IsInf_ok x,?_⟩
 rintro r ⟨b,hb,rfl⟩
 have hbb:canon b=b:=lZ (by rw[hb];exact h')
 have hxb:b=x:=by rw[← hb,hbb]
 subst hxb
 have hinf:fcmp .gtr (canon (sI b)) 9218868437227405311=(match double.read b with|.infinity _=>true|_=>false):=by
  have hnb:zT (sI b)=false:=by
   have:=h'
   unfold zT at this ⊢
   rw[oL]
   cases hd:double.read b <;> rw[hd] at this <;> first|rfl|cases this
  have hcn:canon (sI b)=sI b:=by unfold canon;rw[hnb];rfl
  rw[hcn,gtr_max,oL]
  cases double.read b <;> rfl
 rw[hinf]
 cases hd:double.read b with
 |nan s f=>unfold zT at h';rw[hd] at h';cases h'
 |infinity s =>
  conv=>whnf
  unfold wK
  rw[if_neg h,hd]
 |number s m i =>
  conv=>whnf
  refine kbi (fun h0=>?_) (fun h0=>?_)
  ·have h0:fcmp .eql b 0=true:=h0
   conv=>whnf
   unfold wK
   rw[if_neg h,hd]
   simp only
   rw[if_pos h0]
  have h0:¬ fcmp .eql b 0=true:=h0
  conv=>whnf
  refine⟨_,Trunc_ok b h',?_⟩
  rintro r rfl
  conv=>whnf
  refine kbi (fun h1=>?_) (fun h1=>?_)
  ·have h1:fcmp .eql b (lI b)=true:=h1
   conv=>whnf
   unfold wK
   rw[if_neg h,hd]
   simp only
   rw[if_neg h0,if_pos h1]
  ·have h1:¬ fcmp .eql b (lI b)=true:=h1
   conv=>whnf
   unfold wK
   rw[if_neg h,hd]
   simp only
   rw[if_neg h0,if_neg h1]
end Ai
namespace Ai
set_option maxRecDepth 100000
open Go Go.Proofs Ieee
theorem inf_eql0 {x:Nat} {s:Bool} (h:double.read x=.infinity s):fcmp .eql x 0=false:=by
 unfold fcmp Format.order
 rw[h,gJ]
 cases s <;> rfl
theorem isNo_ok (x:Nat):CallsTo EE 220 [.d (.flt x)] (·=bp (zT x=true∨fcmp .eql x 0=true)):=by
 refine callsTo_of_AW (fn:=Tryz.f220) Tryz.func220 rfl (by kernel_rfl) rfl ?_
 conv=>whnf
 refine⟨_,oO x,?_⟩
 rintro r rfl
 conv=>whnf
 refine kbi (fun h1=>?_) (fun h1=>?_)
 ·have h1:wK x=0:=by simpa using h1
  conv=>whnf
  refine bpt (.inl ?_)
  unfold wK at h1
  split at h1
  ·assumption
  ·split at h1
   ·cases h1
   ·split at h1
    ·cases h1
    ·split at h1 <;> cases h1
 have h1:¬ wK x=0:=by simpa using h1
 have hn:¬ zT x=true:=fun e=>h1 (by unfold wK;rw[if_pos e])
 conv=>whnf
 refine kbi (fun h2=>?_) (fun h2=>?_)
 ·have h2:wK x=2:=by simpa using h2
  conv=>whnf
  refine bpt (.inr ?_)
  unfold wK at h2
  rw[if_neg hn] at h2
  split at h2
  ·cases h2
  ·split at h2
   ·assumption
   ·split at h2 <;> cases h2
 ·have h2:¬ wK x=2:=by simpa using h2
  conv=>whnf
  refine bpf fun e=>e.elim hn fun e=>h2 ?_
  unfold wK
  rw[if_neg hn]
  split
  ·rename_i s hs
   rw[inf_eql0 hs] at e;cases e
  ·rw[if_pos e]
theorem kI (b:Bool):CallsTo EE 170 [bv b] (·=i64 (if b=true then 1 else 0)):=by
 refine callsTo_of_AW (fn:=Tryz.f170) Tryz.func170 rfl (by kernel_rfl) rfl ?_
 cases b
 ·conv=>whnf
  rfl
 ·conv=>whnf
  rfl
theorem SameNumI_ok (x y:Nat) (hx:x<18446744073709551616) (hy:y<18446744073709551616):CallsTo EE 259 [.d (.flt x),.d (.flt y)] (·=bp (bY x y)):=by
 refine callsTo_of_AW (fn:=Tryz.f259) Tryz.func259 rfl (by kernel_rfl) rfl ?_
 have bits:∀ {z b:Nat},zT z=false→canon b=z→b=z:=fun {z b} h e=>by
  have:=lZ (b:=b) (by rw[e];exact h)
  rw[← e,this]
 have rest:∀ (hn:¬ (zT x=true∧zT y=true)) (b c:Nat),canon b=x→canon c=y→((b:Int)=(c:Int)↔bY x y):=by
  intro hn b c hb hc
  have key:(b=c)↔bY x y:=by
   by_cases h:zT x=true∨zT y=true
   ·constructor
    ·rintro rfl
     exfalso
     have:x=y:=hb.symm.trans hc
     subst this
     exact hn ⟨h.elim id id,h.elim id id⟩
    ·rintro(e|e)
     ·exact absurd e.2 hn
     ·exact absurd h e.1
   ·have nx:zT x=false:=by simpa using fun e=>h (.inl e)
    have ny:zT y=false:=by simpa using fun e=>h (.inr e)
    rw[bits nx hb,bits ny hc]
    constructor
    ·intro e
     exact .inr ⟨h,(m7 hx hy nx ny).2 e⟩
    ·rintro(e|e)
     ·exact absurd e.1 h
     ·exact(m7 hx hy nx ny).1 e.2
  rw[← key]
  omega
 conv=>whnf
 refine ocase (rA x) (fun h=>?_) (fun h=>?_)
 ·conv=>whnf
  refine ocase (rA y) (fun h2=>?_) (fun h2=>?_)
  ·conv=>whnf
   exact bpt (.inl ⟨.inl h,h,h2⟩)
  ·conv=>whnf
   refine⟨_,vJ x,?_⟩
   rintro r ⟨b,rfl,hb⟩
   conv=>whnf
   refine⟨_,vJ y,?_⟩
   rintro r ⟨c,rfl,hc⟩
   conv=>whnf
   have:=rest (fun e=>h2 e.2) b c hb hc
   refine kbi (fun h3=>?_) (fun h3=>?_)
   ·conv=>whnf
    exact bpt (this.1 (by simpa using h3))
   ·conv=>whnf
    exact bpf (fun e=>absurd (this.2 e) (by simpa using h3))
 ·conv=>whnf
  refine⟨_,vJ x,?_⟩
  rintro r ⟨b,rfl,hb⟩
  conv=>whnf
  refine⟨_,vJ y,?_⟩
  rintro r ⟨c,rfl,hc⟩
  conv=>whnf
  have:=rest (fun e=>h e.1) b c hb hc
  refine kbi (fun h3=>?_) (fun h3=>?_)
  ·conv=>whnf
   exact bpt (this.1 (by simpa using h3))
  ·conv=>whnf
   exact bpf (fun e=>absurd (this.2 e) (by simpa using h3))
theorem worked_ok (c:Int) (x y:Nat) (hc:4≤c∧c≤9) (hx:x<18446744073709551616) (hy:y<18446744073709551616):CallsTo EE 224 [i64 c,.d (.flt x),.d (.flt y)] (·=.d (.flt (yX c x y))):=by
 refine callsTo_of_AW (fn:=Tryz.f224) Tryz.func224 rfl (by kernel_rfl) rfl ?_
 conv=>whnf
 refine kbi (fun h1=>?_) (fun h1=>?_)
 ·have:c=4:=by simpa using h1
  conv=>whnf
  subst this;rfl
 have h1:¬ c=4:=by simpa using h1
 conv=>whnf
 refine kbi (fun h2=>?_) (fun h2=>?_)
 ·have:c=5:=by simpa using h2
  conv=>whnf
  subst this;rfl
 have h2:¬ c=5:=by simpa using h2
 conv=>whnf
 refine kbi (fun h3=>?_) (fun h3=>?_)
 ·have:c=6:=by simpa using h3
  conv=>whnf
  subst this;rfl
 have h3:¬ c=6:=by simpa using h3
 conv=>whnf
 refine kbi (fun h4=>?_) (fun h4=>?_)
 ·have:c=7:=by simpa using h4
  conv=>whnf
  subst this;rfl
 have h4:¬ c=7:=by simpa using h4
 conv=>whnf
 refine kbi (fun h5=>?_) (fun h5=>?_)
 ·have:c=8:=by simpa using h5
  conv=>whnf
  refine kbi (fun hl=>?_) (fun hl=>?_)
  ·conv=>whnf
   refine⟨_,kI true,?_⟩
   rintro r rfl
   conv=>whnf
   simp[yX,this,hl];rfl
  ·conv=>whnf
   refine⟨_,kI false,?_⟩
   rintro r rfl
   conv=>whnf
   simp[yX,this,hl];rfl
 have h5:¬ c=8:=by simpa using h5
 conv=>whnf
 refine ocase (SameNumI_ok x y hx hy) (fun h=>?_) (fun h=>?_)
 ·conv=>whnf
  refine⟨_,kI true,?_⟩
  rintro r rfl
  conv=>whnf
  simp[yX,h1,h2,h3,h4,h5,h];rfl
 ·conv=>whnf
  refine⟨_,kI false,?_⟩
  rintro r rfl
  conv=>whnf
  simp[yX,h1,h2,h3,h4,h5,h];rfl
end Ai
namespace Ai
set_option maxRecDepth 100000
open Go Go.Proofs
theorem oT {t:Th} {o:OpL} {i:Nat} (h:∀ x∈t.stack,x<18446744073709551616):xM t o i<18446744073709551616:=by
 unfold xM
 rw[List.getD_eq_getElem?_getD]
 cases hg:(t.stack.drop (yI t o))[i]? with
 |none=>decide
 |some x=>exact h x (List.mem_of_mem_drop (List.mem_of_getElem? hg))
theorem l5 {x0 x1 x2:AV} (i0:Inert x0) (i1:Inert x1) (i2:Inert x2) (s:StL) {p:Key→Bool} (h:(p (.n 900) || p (.n 901) || p (.n 902))=false):scrPL p ([x0,x1,x2]++stRef s)=[x0,x1,x2]++stRef s:=by
 have:=xN (E:=0) i0 i1 i2 s h
 simpa[scrPO] using this
theorem hscrL {L X:List AV} {p:Key→Bool} (h:L=X) (hp:scrPL p X=X):scrPL p L=X:=by rw[h];exact hp
theorem spawn_vs3 {x0 x1 x2:AV} (i0:Inert x0) (i1:Inert x1) (i2:Inert x2) {s s':StL} {L:List AV} {v:AV} (hv:v=.dref (.n 900) s'.ths.length) (hL:L=[x0,x1,x2]++stRef s) (hc:s'.cells.length=s.cells.length) (ho:s'.owner.length=s.owner.length) (hf:s'.fault=s.fault) :
  yD (scrPL (isK (.n 900)) L) (3+0) [v]=[x0,x1,x2]++stRef s':=by
 subst hv hL
 simp only[stRef,List.cons_append,List.nil_append,scrPL,i0.scr,i1.scr,i2.scr,hc,ho,hf]
 rfl
theorem sW {S:St} {l:List Th} {k:Nat} {t:Th} {els:List (List D)} (hk:k<l.length) (h9:S.H (.n 900)=some (.rs 175 6 (rowsA l k t))) (hfam:∀ j,j≠k→(h:j<l.length)→S.H (.s 900 j)=some (.ds 132 1 (stk l[j])))
  (h8:S.H (.n 899)=some (.ds 132 1 els)) (he:els.take t.stack.length=stk t):kK S (.n 900) l.length ((l.set k t).map zH):=by
 unfold kK
 rw[h9]
 refine⟨by simp,fun j row hj hr=>?_⟩
 by_cases hjk:j=k
 ·subst hjk
  have:(rowsA l j t)[j]?=some (xV t):=yW hk
  rw[this] at hr
  simp only[Option.some.injEq] at hr
  subst hr
  refine⟨zH t,by simp[hj],?_⟩
  simp[xV,fz1s,fz1,h8,i64,zH,he]
  rfl
 ·have:(rowsA l k t)[j]?=some (thRow 900 j l[j]):=by
   unfold rowsA
   rw[List.getElem?_set_ne (fun e=>hjk e.symm)]
   exact yO hj
  rw[this] at hr
  simp only[Option.some.injEq] at hr
  subst hr
  exact⟨zH l[j],by rw[List.getElem?_map,List.getElem?_set_ne (fun e=>hjk e.symm)];simp[hj],fz_row (hfam j hjk hj)⟩
theorem m6 (t:Th) (o:OpL):CallsTo EE 223 [agg (zH t),.fp (encOp o)] (·=bv (t.st==3&&t.cond==o.a)):=by
 refine callsTo_of_AW (fn:=Tryz.f223) Tryz.func223 rfl (by kernel_rfl) rfl ?_
 conv=>whnf
 refine kbi (fun h1=>?_) (fun h1=>?_)
 ·have h1:t.st=3:=by simpa using h1
  conv=>whnf
  refine kbi (fun h2=>?_) (fun h2=>?_)
  ·have h2:t.cond=o.a:=by simpa using h2
   conv=>whnf
   rw[h1,h2];simp
  ·have h2:¬ t.cond=o.a:=by simpa using h2
   conv=>whnf
   rw[h1];simp[h2]
 ·have h1:¬ t.st=3:=by simpa using h1
  conv=>whnf
  simp[h1]
theorem wakeIx_set {l:List Th} {k:Nat} (hk:k<l.length) {t':Th} (a:Int) (h1:t'.st≠3) (h2:l[k].st≠3):(l.set k t').findIdx? (fun t=>t.st==3&&t.cond==a)=vL l a:=by
 unfold vL
 have:∀ (m:List Th) (k:Nat) (hk:k<m.length),m[k].st≠3→(m.set k t').findIdx? (fun t=>t.st==3&&t.cond==a)=m.findIdx? (fun t=>t.st==3&&t.cond==a):=by
  intro m
  induction m with
  |nil=>intro k hk;cases hk
  |cons x m ih =>
   intro k hk h2
   cases k with
   |zero=>simp[List.findIdx?_cons,h1,show x.st≠3 from h2]
   |succ k=>simp[List.findIdx?_cons,ih k (by simpa using hk) (by simpa using h2)]
 exact this l k hk h2
theorem lM {X:List (List AV)} {p:Key→Bool} {l:List Th} {k:Nat} {t:Th} (hX:X=rowsA l k t) (h1:p (.n 899)=false) (h2:∀ j,p (.s 900 j)=false):X.map (scrPL p)=rowsA l k t:=by
 rw[hX];exact qK h1 h2 l k t
theorem uH (l:List Th) (i:Nat):(thRows 900 l)[i]?=(l[i]?).map (thRow 900 i):=by
 by_cases h:i<l.length
 ·rw[yO h,List.getElem?_eq_getElem h];rfl
 ·rw[List.getElem?_eq_none (by rw[zP];omega),List.getElem?_eq_none (by omega)];rfl
theorem rowsA_wake {l:List Th} {k j:Nat} {t:Th} {X:List (List AV)} (hj:j<l.length) (hjk:j≠k) (hX:X=rowsA l k t) :
  yP X 6 ((j:Nat):Int).toNat (0+2) [i64 4]=rowsA (l.modify j fun u=>{ u with st:=4 }) k t:=by
 subst hX
 have hf:yP (rowsA l k t) 6 ((j:Nat):Int).toNat (0+2) [i64 4]=(rowsA l k t).modify j fun c=>yD c 2 [i64 4]:=by
  unfold yP
  rfl
 rw[hf]
 apply List.ext_getElem?
 intro i
 rw[List.getElem?_modify]
 by_cases hik:i=k
 ·subst hik
  have h1:(rowsA l i t)[i]?=(if i<l.length then some (xV t) else none):=by
   unfold rowsA;rw[List.getElem?_set,zP];simp
  have h2:(rowsA (l.modify j fun u=>{ u with st:=4 }) i t)[i]?=(if i<l.length then some (xV t) else none):=by
   unfold rowsA;rw[List.getElem?_set,zP];simp
  rw[h1,h2]
  simp[hjk]
 ·have h1:∀ (m:List Th),(rowsA m k t)[i]?=(thRows 900 m)[i]?:=fun m=>by unfold rowsA;rw[List.getElem?_set_ne (fun e=>hik e.symm)]
  rw[h1,h1]
  simp only[uH,List.getElem?_modify]
  by_cases hij:j=i
  ·subst hij
   simp[hj,thRow,yD]
  ·simp[hij]
theorem thFam_wake {l:List Th} {j:Nat} (i:Nat):zE (l.modify j fun u=>{ u with st:=4 }) i=zE l i:=by
 unfold zE
 simp only[List.getElem?_modify]
 cases l[i]? with
 |none=>rfl
 |some u=>by_cases h:j=i <;> simp[h,stk]
theorem l4 {l:List Th} {a:Int} {j:Nat} (h:vL l a=some j):∃ h:j<l.length,l[j].st=3∧l[j].cond=a:=by
 unfold vL at h
 rw[List.findIdx?_eq_some_iff_getElem] at h
 obtain⟨h1,h2,_⟩:=h
 exact⟨h1,by simpa using h2⟩
theorem uR (t:Th) (o:OpL):(stk t).take (zG t o).stack.length=stk (zG t o):=by
 simp[stk,zG,List.map_take]
theorem mD (t:Th):(stk t).take t.stack.length=stk t:=by simp[stk,List.take_of_length_le]
def mJ (l:List Th) (k:Nat) (r:List AV):List (List AV):=(thRows 900 l).set k r
theorem jG {l:List Th} {k off:Nat} {X:List (List AV)} {r:List AV} {v:AV} (hk:k<l.length) (hX:X=mJ l k r):yP X 6 ((k:Nat):Int).toNat off [v]=mJ l k (yD r off [v]):=by
 subst hX
 have hf:yP (mJ l k r) 6 ((k:Nat):Int).toNat off [v]=(mJ l k r).modify k fun c=>yD c off [v]:=by
  unfold yP
  rw[show(Nat.beq off 0&&Nat.beq [v].length 6)=false from Bool.and_false _]
  rfl
 rw[hf]
 unfold mJ
 apply List.ext_getElem?
 intro j
 rw[List.getElem?_modify]
 by_cases hj:k=j
 ·subst hj
  rw[List.getElem?_set_self (by rw[zP];exact hk),List.getElem?_set_self (by rw[zP];exact hk)];simp
 ·rw[List.getElem?_set_ne hj,List.getElem?_set_ne hj];simp[hj]
theorem jF {l:List Th} {k:Nat} {X:List (List AV)} {r:List AV} {p:Key→Bool} (hp:∀ j,p (.s 900 j)=false) (hX:X=mJ l k r):X.map (scrPL p)=mJ l k (scrPL p r):=by
 subst hX
 unfold mJ
 rw[List.map_set,zZ fun j _=>hp j]
theorem spawn_rows {l:List Th} {k n:Nat} {X N:List (List AV)} {t:Th} {row:List AV} (hn:n=l.length) (hX:X=rowsA l k t) (hN:N=[row]) (hq:scrPL (isK (.n 900)) row=row) :
  (X.take n++N).map (scrPL (isK (.n 900)))=rowsA l k t++[row]:=by
 subst hn hX hN
 rw[List.take_of_length_le (by rw[rowsA_len];exact Nat.le_refl _),List.map_append,qK rfl (fun _=>rfl)]
 simp[hq]
theorem bZ {l:List Th} {k:Nat} {X:List (List AV)} {r:List AV} {t:Th} (h1:X=mJ l k r) (h2:r=xV t):X=rowsA l k t:=by subst h1 h2;rfl
def DoIE (E:TypeId) (pre:List AV) (g:Nat→Option Ob) (k:Nat) (s':StL) (t':Th) (e':Ev) (S:St):Prop :=
 ∃ (l':List Th) (els:List (List D)),k<l'.length∧s'.ths=l'.set k t'∧(∀ j,j≠k→g j=zE l' j)∧els.take t'.stack.length=stk t' ∧
  ((l'.length=s'.ths.length∧At [(7,.ptr (.n 7) 0),(8,.ptr (.n 8) 0)] [(.l 0,.vs E (pre++stRef s')),(.n 7,.vs 128 ((encEv e').map .d)),(.n 8,.vs 128 [i64 0,i64 0,i64 0,i64 0,i64 0]),(.n 899,.ds 132 1 els),(.n 900,.rs 175 6 (rowsA l' k t')),(.n 901,.ds 132 1 (s'.cells.map encF)),(.n 902,.ds 3 1 (s'.owner.map encInt))] [(900,g)] S))
def DoIF (E:TypeId) (pre:List AV) (g:Nat→Option Ob) (k:Nat) (s':StL) (l':List Th) (t':Th) (r:Int) (e':Ev) (S:St):Prop :=
 k<l'.length∧s'.ths=l'.set k t'++[kB r]∧(∀ j,j≠k→g j=zE l' j) ∧
  At [(7,.ptr (.n 7) 0),(8,.ptr (.n 8) 0)] [(.l 0,.vs E (pre++stRef s')),(.n 7,.vs 128 ((encEv e').map .d)),(.n 8,.vs 128 [i64 0,i64 0,i64 0,i64 0,i64 0]),(.n 899,.ds 132 1 (stk t')),(.n 900,.rs 175 6 (rowsA l' k t'++[[i64 r,i64 0,i64 1,i64 (-1),i64 (-1),.ref (.n 905) 0 0]])),(.n 901,.ds 132 1 (s'.cells.map encF)),(.n 902,.ds 3 1 (s'.owner.map encInt)),(.n 905,.ds 132 1 [])] [(900,g)] S
def DoI2 (E:TypeId) (pre:List AV) (g:Nat→Option Ob) (k:Nat) (s':StL) (e':Ev) (S:St):Prop :=
 (∃ t',DoIE E pre g k s' t' e' S)∨∃ l' t' r,DoIF E pre g k s' l' t' r e' S
theorem doI_swB (hI:xH) (E:TypeId) (x0 x1 x2:AV) (i0:Inert x0) (i1:Inert x1) (i2:Inert x2) (g:Nat→Option Ob) (hg:∀ p j,(g j).map (scrPO p)=g j) (s:StL) (k:Nat) (o:OpL) (e:Ev) (hk:k<s.ths.length) (h5:s.ths.length≤5) (hgj:∀ j,j≠k→g j=zE s.ths j)
  (hs:s.small) (ho:o.fits s s.ths[k]) (hpc:InR s.ths[k].pc 0 1048576) (hst3:s.ths[k].st≠3) (he:e.kind=1) (hel:e.lock=-1) (hfl:∀ x∈s.ths[k].stack,x<18446744073709551616) (hjo:o.code=15→∃ j,yY (xM s.ths[k] o 0) s.ths.length=some j∧yF s s.ths[k]=some j)
  (Q:AX→St→Prop) (K:St→Prop) (S:St) (hS:At (doI1 3 k o s.ths[k]) (doIO E [x0,x1,x2] s k o e s.ths[k] (zG s.ths[k] o)) [(900,g)] S) (hK:∀ S',DoI2 E [x0,x1,x2] g k (doL s k o e).1 (doL s k o e).2 S'→K S') :
  sG EE Tryz.f172.ntmps K Q 1 (dropC 7 (Tryz.f172.body.getD .skip)) S:=by
 have hst:=hs.2.1 _ (List.getElem_mem hk)
 have hgd:s.ths.getD k th0=s.ths[k]:=by simp[List.getD_eq_getElem?_getD,hk]
 generalize ht0:s.ths[k]=t at *
 obtain⟨τ,H,rfl⟩:=hS.form
 clear hS
 obtain⟨o1,o2,o3,o4,o5⟩:=ho
 obtain⟨eth,ekind,eobj,elock,epc⟩:=e
 have he:ekind=1:=he
 subst he
 have hel:elock=-1:=hel
 subst hel
 have hkn:yI t o≤t.stack.length:=Nat.sub_le _ _
 have hkl:(t.stack.take (yI t o)).length=yI t o:=by simp;omega
 have hpl:(zG t o).stack.length=yI t o:=hkl
 conv=>whnf
 refine kbi (fun hc=>?_) (fun hc=>?_)
 ·have hc:o.code=1:=by simpa using hc
  conv=>whnf
  refine .inr (.inr (.inr ⟨[0],by kernel_rfl,8,[],?_⟩))
  conv=>whnf
  refine⟨xV (zG t o),⟨by repeat (first|exact yW hk|refine wF ?_ (xQ rfl _)),by simp[xV]⟩,?_⟩
  conv=>whnf
  refine⟨by kernel_rfl,?_⟩
  conv=>whnf
  refine⟨⟨rfl,by rw[hpl];simp;omega,by rw[hpl];simp;omega⟩,?_⟩
  conv=>whnf
  have hd:doL s k o ⟨eth,1,eobj,-1,epc⟩=(s.put k (zU (zG t o) o.v),⟨eth,1,eobj,-1,epc⟩):=by unfold doL;rw[hgd];simp[hc]
  rw[hd] at hK
  dsimp only at hK
  refine hK _ (.inl ⟨zU (zG t o) o.v,s.ths,stk (zU (zG t o) o.v),hk,rfl,hgj,mD _,by simp[StL.put],⟨rfl,rfl,trivial⟩,⟨?_,?_,rfl,?_,?_,?_,?_,trivial⟩,⟨fun j=>?_,trivial⟩⟩)
  ·rw[show stRef _=stRef s by simp[stRef,StL.put]]
   conv=>lhs;whnf
   all_goals (
    refine congrArg some ?_
    repeat (refine xW ?_ (xN i0 i1 i2 s rfl))
    all_goals rfl)
  ·rfl
  ·conv=>lhs;whnf
   show some (Ob.ds 132 1 _)=some (Ob.ds 132 1 _)
   simp[stk,zU,zG,encF]
  ·conv=>lhs;whnf
   all_goals (
    refine congrArg (fun x=>some (Ob.rs 175 6 x)) ?_
    apply bZ
    ·repeat (first|exact rfl|apply jG hk|apply jF (fun _=>rfl))
    ·show[_,_,_,_,_,AV.ref (.n 899) 0 ((zG t o).stack.length+1)]=_
     simp[xV,zU]
     exact⟨rfl,rfl,rfl,rfl,rfl⟩)
  ·rfl
  ·rfl
  ·repeat (first|exact rfl|refine hscrO ?_ (hg _ _)|conv=>lhs;whnf)
 have n1:¬ o.code=1:=by simpa using hc
 clear hc
 conv=>whnf
 refine kbi (fun hc=>?_) (fun hc=>?_)
 ·have hc:o.code=2:=by simpa using hc
  have hr:=o2 (.inl hc)
  conv=>whnf
  refine .inr (.inl ⟨4,[],?_⟩)
  conv=>whnf
  refine⟨by kernel_rfl,?_⟩
  conv=>whnf
  refine .inr (.inr (.inr ⟨[0],by kernel_rfl,14,[],?_⟩))
  conv=>whnf
  refine⟨xV (zG t o),⟨by repeat (first|exact yW hk|refine wF ?_ (xQ rfl _)),by simp[xV]⟩,?_⟩
  conv=>whnf
  refine⟨⟨by omega,by omega⟩,?_⟩
  conv=>whnf
  refine⟨encF (s.cells.getD o.a.toNat 0),⟨by rw[Nat.zero_add];exact cell_get hr,by simp[encF]⟩,?_⟩
  conv=>whnf
  refine⟨by kernel_rfl,?_⟩
  conv=>whnf
  refine⟨⟨rfl,by rw[hpl];simp;omega,by rw[hpl];simp;omega⟩,?_⟩
  conv=>whnf
  have hd:doL s k o ⟨eth,1,eobj,-1,epc⟩=(s.put k (zU (zG t o) (s.cells.getD o.a.toNat 0)),⟨eth,2,o.a,(-1),epc⟩):=by unfold doL;rw[hgd];simp[hc]
  rw[hd] at hK
  dsimp only at hK
  refine hK _ (.inl ⟨zU (zG t o) (s.cells.getD o.a.toNat 0),s.ths,stk (zU (zG t o) (s.cells.getD o.a.toNat 0)),hk,rfl,hgj,mD _,by simp[StL.put],⟨rfl,rfl,trivial⟩,⟨?_,?_,rfl,?_,?_,?_,?_,trivial⟩,⟨fun j=>?_,trivial⟩⟩)
  ·rw[show stRef _=stRef s by simp[stRef,StL.put]]
   conv=>lhs;whnf
   all_goals (
    refine congrArg some ?_
    repeat (refine xW ?_ (xN i0 i1 i2 s rfl))
    all_goals rfl)
  ·rfl
  ·conv=>lhs;whnf
   show some (Ob.ds 132 1 _)=some (Ob.ds 132 1 _)
   simp[stk,zU,zG,encF]
  ·conv=>lhs;whnf
   all_goals (
    refine congrArg (fun x=>some (Ob.rs 175 6 x)) ?_
    apply bZ
    ·repeat (first|exact rfl|apply jG hk|apply jF (fun _=>rfl))
    ·show[_,_,_,_,_,AV.ref (.n 899) 0 ((zG t o).stack.length+1)]=_
     simp[xV,zU]
     exact⟨rfl,rfl,rfl,rfl,rfl⟩)
  ·rfl
  ·rfl
  ·repeat (first|exact rfl|refine hscrO ?_ (hg _ _)|conv=>lhs;whnf)
 have n2:¬ o.code=2:=by simpa using hc
 clear hc
 conv=>whnf
 refine kbi (fun hc=>?_) (fun hc=>?_)
 ·have hc:o.code=3:=by simpa using hc
  have hr:=o2 (.inr hc)
  have htk:wW o=1:=by simp[wW,zC,hc]
  conv=>whnf
  refine .inr (.inl ⟨4,[],?_⟩)
  conv=>whnf
  refine⟨by kernel_rfl,?_⟩
  conv=>whnf
  refine .inr (.inl ⟨9,[],?_⟩)
  conv=>whnf
  refine⟨encF (xM t o 0),⟨by omega,qU o5 (by omega),by simp[encF]⟩,?_⟩
  conv=>whnf
  refine⟨by kernel_rfl,?_⟩
  conv=>whnf
  refine⟨⟨by omega,by omega⟩,?_⟩
  conv=>whnf
  have hd:doL s k o ⟨eth,1,eobj,-1,epc⟩=({ s with cells:=s.cells.set o.a.toNat (xM t o 0) }.put k (zG t o),⟨eth,3,o.a,(-1),epc⟩):=by unfold doL;rw[hgd];simp[hc]
  rw[hd] at hK
  dsimp only at hK
  refine hK _ (.inl ⟨zG t o,s.ths,stk t,hk,rfl,hgj,uR t o,by simp[StL.put],⟨rfl,rfl,trivial⟩,⟨?_,?_,rfl,?_,?_,?_,?_,trivial⟩,⟨fun j=>?_,trivial⟩⟩)
  ·rw[show stRef _=stRef s by simp[stRef,StL.put]]
   conv=>lhs;whnf
   all_goals (
    refine congrArg some ?_
    repeat (refine xW ?_ (xN i0 i1 i2 s rfl))
    all_goals rfl)
  ·rfl
  ·rfl
  ·conv=>lhs;whnf
   all_goals (
    refine congrArg (fun x=>some (Ob.rs 175 6 x)) ?_
    apply bZ
    ·repeat (first|exact rfl|apply jG hk|apply jF (fun _=>rfl))
    ·rfl)
  ·conv=>lhs;whnf
   show some (Ob.ds 132 1 ((s.cells.map encF).set (0+o.a.toNat) (encF (xM t o 0))))=some (Ob.ds 132 1 ((s.cells.set o.a.toNat (xM t o 0)).map encF))
   rw[Nat.zero_add,List.map_set]
  ·rfl
  ·repeat (first|exact rfl|refine hscrO ?_ (hg _ _)|conv=>lhs;whnf)
 have n3:¬ o.code=3:=by simpa using hc
 clear hc
 conv=>whnf
 refine kbi (fun hc=>?_) (fun hc=>?_)
 ·have hc:o.code=10:=by simpa using hc
  conv=>whnf
  have hd:doL s k o ⟨eth,1,eobj,-1,epc⟩=(s.put k ({ zG t o with pc:=o.a }),⟨eth,1,eobj,-1,epc⟩):=by unfold doL;rw[hgd];simp[hc]
  rw[hd] at hK
  dsimp only at hK
  refine hK _ (.inl ⟨({ zG t o with pc:=o.a }),s.ths,stk t,hk,rfl,hgj,uR t o,by simp[StL.put],⟨rfl,rfl,trivial⟩,⟨?_,?_,rfl,?_,?_,?_,?_,trivial⟩,⟨fun j=>?_,trivial⟩⟩)
  ·rw[show stRef _=stRef s by simp[stRef,StL.put]]
   conv=>lhs;whnf
   all_goals (
    refine congrArg some ?_
    repeat (refine xW ?_ (xN i0 i1 i2 s rfl))
    all_goals rfl)
  ·rfl
  ·rfl
  ·conv=>lhs;whnf
   all_goals (
    refine congrArg (fun x=>some (Ob.rs 175 6 x)) ?_
    apply bZ
    ·repeat (first|exact rfl|apply jG hk|apply jF (fun _=>rfl))
    ·rfl)
  ·rfl
  ·rfl
  ·repeat (first|exact rfl|refine hscrO ?_ (hg _ _)|conv=>lhs;whnf)
 have n10:¬ o.code=10:=by simpa using hc
 clear hc
 conv=>whnf
 refine kbi (fun hc=>?_) (fun hc=>?_)
 ·have hc:o.code=11:=by simpa using hc
  have htk:wW o=1:=by simp[wW,zC,hc]
  conv=>whnf
  refine⟨encF (xM t o 0),⟨by omega,qU o5 (by omega),by simp[encF]⟩,?_⟩
  conv=>whnf
  refine ocase (isNo_ok _) (fun hn=>?_) (fun hn=>?_)
  ·conv=>whnf
   have hd:doL s k o ⟨eth,1,eobj,-1,epc⟩=(s.put k ({ zG t o with pc:=o.a }),⟨eth,1,eobj,-1,epc⟩):=by unfold doL;rw[hgd];simp[hc];rw[if_pos hn]
   rw[hd] at hK
   dsimp only at hK
   refine hK _ (.inl ⟨({ zG t o with pc:=o.a }),s.ths,stk t,hk,rfl,hgj,uR t o,by simp[StL.put],⟨rfl,rfl,trivial⟩,⟨?_,?_,rfl,?_,?_,?_,?_,trivial⟩,⟨fun j=>?_,trivial⟩⟩)
   ·rw[show stRef _=stRef s by simp[stRef,StL.put]]
    conv=>lhs;whnf
    all_goals (
     refine congrArg some ?_
     repeat (refine xW ?_ (xN i0 i1 i2 s rfl))
     all_goals rfl)
   ·rfl
   ·rfl
   ·conv=>lhs;whnf
    all_goals (
     refine congrArg (fun x=>some (Ob.rs 175 6 x)) ?_
     apply bZ
     ·repeat (first|exact rfl|apply jG hk|apply jF (fun _=>rfl))
     ·rfl)
   ·rfl
   ·rfl
   ·repeat (first|exact rfl|refine hscrO ?_ (hg _ _)|conv=>lhs;whnf)
  ·conv=>whnf
   have hd:doL s k o ⟨eth,1,eobj,-1,epc⟩=(s.put k (zG t o),⟨eth,1,eobj,-1,epc⟩):=by unfold doL;rw[hgd];simp[hc];rw[if_neg hn]
   rw[hd] at hK
   dsimp only at hK
   refine hK _ (.inl ⟨zG t o,s.ths,stk t,hk,rfl,hgj,uR t o,by simp[StL.put],⟨rfl,rfl,trivial⟩,⟨?_,?_,rfl,?_,?_,?_,?_,trivial⟩,⟨fun j=>?_,trivial⟩⟩)
   ·rw[show stRef _=stRef s by simp[stRef,StL.put]]
    conv=>lhs;whnf
    all_goals (
     refine congrArg some ?_
     repeat (refine xW ?_ (xN i0 i1 i2 s rfl))
     all_goals rfl)
   ·rfl
   ·rfl
   ·conv=>lhs;whnf
    all_goals (
     refine congrArg (fun x=>some (Ob.rs 175 6 x)) ?_
     apply bZ
     ·repeat (first|exact rfl|apply jG hk|apply jF (fun _=>rfl))
     ·rfl)
   ·rfl
   ·rfl
   ·repeat (first|exact rfl|refine hscrO ?_ (hg _ _)|conv=>lhs;whnf)
 have n11:¬ o.code=11:=by simpa using hc
 clear hc
 conv=>whnf
 refine kbi (fun hc=>?_) (fun hc=>?_)
 ·have hc:o.code=12:=by simpa using hc
  have hr:=o3 (.inl hc)
  conv=>whnf
  refine .inr (.inl ⟨4,[],?_⟩)
  conv=>whnf
  refine⟨by kernel_rfl,?_⟩
  conv=>whnf
  refine .inr (.inl ⟨7,[],?_⟩)
  conv=>whnf
  refine⟨by kernel_rfl,?_⟩
  conv=>whnf
  refine⟨⟨by omega,by omega⟩,?_⟩
  conv=>whnf
  have hd:doL s k o ⟨eth,1,eobj,-1,epc⟩=({ s with owner:=s.owner.set o.a.toNat ((k:Nat):Int) }.put k (zG t o),⟨eth,4,o.a,(-1),epc⟩):=by unfold doL;rw[hgd];simp[hc]
  rw[hd] at hK
  dsimp only at hK
  refine hK _ (.inl ⟨zG t o,s.ths,stk t,hk,rfl,hgj,uR t o,by simp[StL.put],⟨rfl,rfl,trivial⟩,⟨?_,?_,rfl,?_,?_,?_,?_,trivial⟩,⟨fun j=>?_,trivial⟩⟩)
  ·rw[show stRef _=stRef s by simp[stRef,StL.put]]
   conv=>lhs;whnf
   all_goals (
    refine congrArg some ?_
    repeat (refine xW ?_ (xN i0 i1 i2 s rfl))
    all_goals rfl)
  ·rfl
  ·rfl
  ·conv=>lhs;whnf
   all_goals (
    refine congrArg (fun x=>some (Ob.rs 175 6 x)) ?_
    apply bZ
    ·repeat (first|exact rfl|apply jG hk|apply jF (fun _=>rfl))
    ·rfl)
  ·rfl
  ·conv=>lhs;whnf
   show some (Ob.ds 3 1 ((s.owner.map encInt).set (0+o.a.toNat) (encInt ((k:Nat):Int))))=some (Ob.ds 3 1 ((s.owner.set o.a.toNat ((k:Nat):Int)).map encInt))
   rw[Nat.zero_add,List.map_set]
  ·repeat (first|exact rfl|refine hscrO ?_ (hg _ _)|conv=>lhs;whnf)
 have n12:¬ o.code=12:=by simpa using hc
 clear hc
 conv=>whnf
 refine kbi (fun hc=>?_) (fun hc=>?_)
 ·have hc:o.code=13:=by simpa using hc
  have hr:=o3 (.inr hc)
  conv=>whnf
  refine .inr (.inl ⟨4,[],?_⟩)
  conv=>whnf
  refine⟨by kernel_rfl,?_⟩
  conv=>whnf
  refine .inr (.inl ⟨6,[],?_⟩)
  conv=>whnf
  refine⟨by kernel_rfl,?_⟩
  conv=>whnf
  refine⟨⟨by omega,by omega⟩,?_⟩
  conv=>whnf
  have hd:doL s k o ⟨eth,1,eobj,-1,epc⟩=({ s with owner:=s.owner.set o.a.toNat (-1) }.put k (zG t o),⟨eth,5,o.a,(-1),epc⟩):=by unfold doL;rw[hgd];simp[hc]
  rw[hd] at hK
  dsimp only at hK
  refine hK _ (.inl ⟨zG t o,s.ths,stk t,hk,rfl,hgj,uR t o,by simp[StL.put],⟨rfl,rfl,trivial⟩,⟨?_,?_,rfl,?_,?_,?_,?_,trivial⟩,⟨fun j=>?_,trivial⟩⟩)
  ·rw[show stRef _=stRef s by simp[stRef,StL.put]]
   conv=>lhs;whnf
   all_goals (
    refine congrArg some ?_
    repeat (refine xW ?_ (xN i0 i1 i2 s rfl))
    all_goals rfl)
  ·rfl
  ·rfl
  ·conv=>lhs;whnf
   all_goals (
    refine congrArg (fun x=>some (Ob.rs 175 6 x)) ?_
    apply bZ
    ·repeat (first|exact rfl|apply jG hk|apply jF (fun _=>rfl))
    ·rfl)
  ·rfl
  ·conv=>lhs;whnf
   show some (Ob.ds 3 1 ((s.owner.map encInt).set (0+o.a.toNat) (encInt (-1))))=some (Ob.ds 3 1 ((s.owner.set o.a.toNat (-1)).map encInt))
   rw[Nat.zero_add,List.map_set]
  ·repeat (first|exact rfl|refine hscrO ?_ (hg _ _)|conv=>lhs;whnf)
 have n13:¬ o.code=13:=by simpa using hc
 clear hc
 conv=>whnf
 refine kbi (fun hc=>?_) (fun hc=>?_)
 ·have hc:o.code=14:=by simpa using hc
  conv=>whnf
  refine .inr (.inl ⟨7,[],?_⟩)
  conv=>whnf
  refine⟨by kernel_rfl,?_⟩
  conv=>whnf
  refine .inr (.inr (.inr ⟨[0],by kernel_rfl,12,[],?_⟩))
  conv=>whnf
  refine⟨xV (zG t o),⟨by repeat (first|exact yW hk|refine wF ?_ (xQ rfl _)),by simp[xV]⟩,?_⟩
  conv=>whnf
  refine⟨by kernel_rfl,?_⟩
  conv=>whnf
  refine⟨⟨rfl,by rw[hpl];simp;omega,by rw[hpl];simp;omega⟩,?_⟩
  conv=>whnf
  refine .inr (.inr (.inr ⟨[0],by kernel_rfl,9,[2715],?_⟩))
  conv=>whnf
  refine⟨_,lB o.a,?_⟩
  conv=>whnf
  refine⟨by kernel_rfl,?_⟩
  conv=>whnf
  refine⟨⟨fun c hc'=>?_,?_,?_⟩,?_⟩
  ·have hc':c∈[[i64 o.a,i64 0,i64 1,i64 (-1),i64 (-1),AV.ref (.n 905) 0 0]]:=hc'
   simp only[List.mem_singleton] at hc'
   subst hc';rfl
  ·show(s.ths.length+1)*64≤_
   omega
  ·show s.ths.length+1≤_
   omega
  conv=>whnf
  have hd:doL s k o ⟨eth,1,eobj,-1,epc⟩=({ s with ths:=s.ths++[kB o.a] }.put k (zU (zG t o) (FloatKind.f64.nearest (s.ths.length:Int))),⟨eth,6,s.ths.length,(-1),epc⟩):=by unfold doL;rw[hgd];simp[hc]
  rw[hd] at hK
  dsimp only at hK
  refine hK _ (.inr ⟨s.ths,zU (zG t o) (FloatKind.f64.nearest (s.ths.length:Int)),o.a,hk,?_,hgj,⟨rfl,rfl,trivial⟩,⟨?_,rfl,rfl,?_,?_,rfl,rfl,rfl,trivial⟩,⟨fun j=>?_,trivial⟩⟩)
  ·simp[StL.put,List.set_append_left _ _ hk]
  ·conv=>lhs;whnf
   refine congrArg (fun x=>some (Ob.vs E x)) ?_
   refine spawn_vs3 i0 i1 i2 (s:=s) ?_ ?_ rfl rfl rfl
   ·conv=>lhs;whnf
    all_goals simp[StL.put]
   all_goals (
    repeat (refine hscrL ?_ (l5 i0 i1 i2 s rfl))
    all_goals rfl)
  ·conv=>lhs;whnf
   show some (Ob.ds 132 1 _)=some (Ob.ds 132 1 _)
   simp[stk,zU,zG,encF]
  ·conv=>lhs;whnf
   refine congrArg (fun x=>some (Ob.rs 175 6 x)) ?_
   refine spawn_rows rfl ?_ rfl rfl
   apply bZ
   ·repeat (first|exact rfl|apply jG hk|apply jF (fun _=>rfl))
   ·show[_,_,_,_,_,AV.ref (.n 899) 0 ((zG t o).stack.length+1)]=_
    simp[xV,zU]
    exact⟨rfl,rfl,rfl,rfl,rfl⟩
  ·repeat (first|exact rfl|refine hscrO ?_ (hg _ _)|conv=>lhs;whnf)
 have n14:¬ o.code=14:=by simpa using hc
 clear hc
 conv=>whnf
 refine kbi (fun hc=>?_) (fun hc=>?_)
 ·have hc:o.code=15:=by simpa using hc
  have htk:wW o=1:=by simp[wW,zC,hc]
  obtain⟨jj,hj1,hj2⟩:=hjo hc
  conv=>whnf
  refine .inr (.inl ⟨14,[],?_⟩)
  conv=>whnf
  refine⟨encF (xM t o 0),⟨by omega,qU o5 (by omega),by simp[encF]⟩,?_⟩
  conv=>whnf
  refine⟨_,hI _ _,?_⟩
  conv=>whnf
  refine⟨by kernel_rfl,?_⟩
  conv=>whnf
  have hd:doL s k o ⟨eth,1,eobj,-1,epc⟩=(s.put k (zG t o),⟨eth,7,(yF s t).getD (-1),(-1),epc⟩):=by unfold doL;rw[hgd];simp[hc]
  rw[hd] at hK
  dsimp only at hK
  refine hK _ (.inl ⟨zG t o,s.ths,stk t,hk,rfl,hgj,uR t o,by simp[StL.put],⟨rfl,rfl,trivial⟩,⟨?_,?_,rfl,?_,?_,?_,?_,trivial⟩,⟨fun j=>?_,trivial⟩⟩)
  ·rw[show stRef _=stRef s by simp[stRef,StL.put]]
   conv=>lhs;whnf
   all_goals (
    refine congrArg some ?_
    repeat (refine xW ?_ (xN i0 i1 i2 s rfl))
    all_goals rfl)
  ·conv=>lhs;whnf
   show some (Ob.vs 128 [i64 eth,i64 7,i64 ((yY (xM t o 0) s.ths.length).getD 0),i64 (-1),i64 epc])=some (Ob.vs 128 [i64 eth,i64 7,i64 ((yF s t).getD (-1)),i64 (-1),i64 epc])
   rw[hj1,hj2]
   rfl
  ·rfl
  ·conv=>lhs;whnf
   all_goals (
    refine congrArg (fun x=>some (Ob.rs 175 6 x)) ?_
    apply bZ
    ·repeat (first|exact rfl|apply jG hk|apply jF (fun _=>rfl))
    ·rfl)
  ·rfl
  ·rfl
  ·repeat (first|exact rfl|refine hscrO ?_ (hg _ _)|conv=>lhs;whnf)
 have n15:¬ o.code=15:=by simpa using hc
 clear hc
 conv=>whnf
 refine kbi (fun hc=>?_) (fun hc=>?_)
 ·have hc:o.code=16:=by simpa using hc
  have hr:=o4 hc
  conv=>whnf
  refine .inr (.inl ⟨8,[],?_⟩)
  conv=>whnf
  refine⟨by kernel_rfl,?_⟩
  conv=>whnf
  refine .inr (.inl ⟨6,[],?_⟩)
  conv=>whnf
  refine⟨by kernel_rfl,?_⟩
  conv=>whnf
  refine⟨⟨by omega,by omega⟩,?_⟩
  conv=>whnf
  refine⟨xV (zG t o),⟨by repeat (first|exact yW hk|refine wF ?_ (xQ rfl _)),by simp[xV]⟩,?_⟩
  conv=>whnf
  refine .inr (.inr (.inr ⟨[0,1,2],by kernel_rfl,by kernel_rfl,by kernel_rfl,13,[],?_⟩))
  conv=>whnf
  refine⟨by kernel_rfl,?_⟩
  conv=>whnf
  have hd:doL s k o ⟨eth,1,eobj,-1,epc⟩=({ s with owner:=s.owner.set o.b.toNat (-1) }.put k ({ zG t o with st:=3,cond:=o.a,lock:=o.b,pc:=(zG t o).pc - 1 }),⟨eth,8,o.a,o.b,epc⟩):=by unfold doL;rw[hgd];simp[hc]
  rw[hd] at hK
  dsimp only at hK
  refine hK _ (.inl ⟨({ zG t o with st:=3,cond:=o.a,lock:=o.b,pc:=(zG t o).pc - 1 }),s.ths,stk t,hk,rfl,hgj,uR t o,by simp[StL.put],⟨rfl,rfl,trivial⟩,⟨?_,?_,rfl,?_,?_,?_,?_,trivial⟩,⟨fun j=>?_,trivial⟩⟩)
  ·rw[show stRef _=stRef s by simp[stRef,StL.put]]
   conv=>lhs;whnf
   all_goals (
    refine congrArg some ?_
    repeat (refine xW ?_ (xN i0 i1 i2 s rfl))
    all_goals rfl)
  ·rfl
  ·rfl
  ·conv=>lhs;whnf
   all_goals (
    refine congrArg (fun x=>some (Ob.rs 175 6 x)) ?_
    apply bZ
    ·repeat (first|exact rfl|apply jG hk|apply jF (fun _=>rfl))
    ·have ew:IntKind.i64.wrap (t.pc+1 - 1)=t.pc+1 - 1:=zF (by have:=hpc.1;omega) (by have:=hpc.2;omega)
     show[_,AV.d (.int .i64 (IntKind.i64.wrap (t.pc+1 - 1))),_,_,_,_]=_
     rw[ew]
     rfl)
  ·rfl
  ·conv=>lhs;whnf
   show some (Ob.ds 3 1 ((s.owner.map encInt).set (0+o.b.toNat) (encInt (-1))))=some (Ob.ds 3 1 ((s.owner.set o.b.toNat (-1)).map encInt))
   rw[Nat.zero_add,List.map_set]
  ·repeat (first|exact rfl|refine hscrO ?_ (hg _ _)|conv=>lhs;whnf)
 have n16:¬ o.code=16:=by simpa using hc
 clear hc
 conv=>whnf
 refine kbi (fun hc=>?_) (fun hc=>?_)
 ·have hc:o.code=17:=by simpa using hc
  have hcall:CallsTo EE 222 [sl ((s.ths.set k (zG t o)).map zH),.fn 223 [.fp (encOp o)]] (·=i64 (aY (vL s.ths o.a))):=by
   rw[← wakeIx_set hk (t':=zG t o) o.a hst3 (by rw[ht0];exact hst3)]
   exact lH _ (by simp;omega) 223 _ (.inr ⟨_,rfl⟩) (fun t=>t.st==3&&t.cond==o.a) (fun u _=>m6 u o)
  conv=>whnf
  refine .inr (.inl ⟨4,[],?_⟩)
  conv=>whnf
  refine⟨by kernel_rfl,?_⟩
  conv=>whnf
  refine .inl ⟨[sl ((s.ths.set k (zG t o)).map zH),.fn 223 [.fp (encOp o)]],[],_,⟨_,_,rfl,⟨_,rfl,sW (l:=s.ths) (k:=k) (t:=zG t o) (els:=stk t) hk ?_ ?_ ?_ (uR t o)⟩,_,_,rfl,rfl,rfl⟩,rfl,hcall,?_⟩
  ·conv=>lhs;whnf
   refine congrArg (fun x=>some (Ob.rs 175 6 x)) ?_
   repeat (first|exact rfl|refine lM ?_ rfl (fun _=>rfl))
  ·intro j hj hjl
   refine Eq.trans (b:=g j) ?_ ((hgj j hj).trans (by simp[zE,hjl]))
   repeat (first|exact rfl|refine hscrO ?_ (hg _ _)|conv=>lhs;whnf)
  ·rfl
  rintro r rfl
  refine⟨rfl,?_⟩
  cases hwk:vL s.ths o.a with
  |none =>
   conv=>whnf
   refine kbi (fun hw=>?_) (fun hw=>?_)
   ·simp[aY] at hw
   conv=>whnf
   have hd:doL s k o ⟨eth,1,eobj,-1,epc⟩=(s.put k (zG t o),⟨eth,10,o.a,(-1),epc⟩):=by unfold doL;rw[hgd];simp[hc,hwk]
   rw[hd] at hK
   dsimp only at hK
   refine hK _ (.inl ⟨zG t o,s.ths,stk t,hk,rfl,hgj,uR t o,by simp[StL.put],⟨rfl,rfl,trivial⟩,⟨?_,?_,rfl,?_,?_,?_,?_,trivial⟩,⟨fun j=>?_,trivial⟩⟩)
   ·rw[show stRef _=stRef s by simp[stRef,StL.put]]
    conv=>lhs;whnf
    all_goals (
     refine congrArg some ?_
     repeat (refine xW ?_ (xN i0 i1 i2 s rfl))
     all_goals rfl)
   ·rfl
   ·rfl
   ·conv=>lhs;whnf
    all_goals (
     refine congrArg (fun x=>some (Ob.rs 175 6 x)) ?_
     apply bZ
     ·repeat (first|exact rfl|apply jG hk|apply jF (fun _=>rfl))
     ·rfl)
   ·rfl
   ·rfl
   ·repeat (first|exact rfl|refine hscrO ?_ (hg _ _)|conv=>lhs;whnf)
  |some j =>
   obtain⟨hjl,hj3,hjc⟩:=l4 hwk
   have hjk:j≠k:=by
    rintro rfl
    rw[ht0] at hj3;exact hst3 hj3
   conv=>whnf
   refine kbi (fun hw=>?_) (fun hw=>?_)
   rotate_left 1
   ·simp[aY] at hw
   conv=>whnf
   refine .inr (.inl ⟨6,[],?_⟩)
   conv=>whnf
   have hd:doL s k o ⟨eth,1,eobj,-1,epc⟩=({ s with ths:=s.ths.modify j fun u=>{ u with st:=4 } }.put k (zG t o),⟨eth,10,o.a,j,epc⟩):=by unfold doL;rw[hgd];simp[hc,hwk]
   rw[hd] at hK
   dsimp only at hK
   refine⟨by kernel_rfl,?_⟩
   conv=>whnf
   refine⟨⟨by show(0:Int)≤(j:Int);omega,by show(j:Int)<s.ths.length;omega⟩,?_⟩
   conv=>whnf
   refine hK _ (.inl ⟨zG t o,s.ths.modify j fun u=>{ u with st:=4 },stk t,by simpa using hk,rfl,fun i hi=>(hgj i hi).trans (thFam_wake i).symm,uR t o,by simp[StL.put],⟨rfl,rfl,trivial⟩,⟨?_,?_,rfl,?_,?_,?_,?_,trivial⟩,⟨fun j=>?_,trivial⟩⟩)
   ·rw[show stRef _=stRef s by simp[stRef,StL.put]]
    conv=>lhs;whnf
    all_goals (
     refine congrArg some ?_
     repeat (refine xW ?_ (xN i0 i1 i2 s rfl))
     all_goals rfl)
   ·rfl
   ·rfl
   ·conv=>lhs;whnf
    all_goals (
     refine congrArg (fun x=>some (Ob.rs 175 6 x)) ?_
     refine rowsA_wake hjl hjk ?_
     repeat (first|exact rfl|refine lM ?_ rfl (fun _=>rfl)))
   ·rfl
   ·rfl
   ·repeat (first|exact rfl|refine hscrO ?_ (hg _ _)|conv=>lhs;whnf)
 have n17:¬ o.code=17:=by simpa using hc
 clear hc
 conv=>whnf
 have hcode:4≤o.code∧o.code≤9:=by have:=o1.1;have:=o1.2;omega
 have htk:wW o=2:=by simp only[wW,zC];rw[if_neg (by omega),if_neg (by omega),if_pos hcode];rfl
 refine .inr (.inr (.inr ⟨[0],by kernel_rfl,15,[],?_⟩))
 conv=>whnf
 refine⟨xV (zG t o),⟨by repeat (first|exact yW hk|refine wF ?_ (xQ rfl _)),by simp[xV]⟩,?_⟩
 conv=>whnf
 refine⟨encF (xM t o 0),⟨by omega,qU o5 (by omega),by simp[encF]⟩,?_⟩
 conv=>whnf
 refine⟨encF (xM t o 1),⟨by omega,qU o5 (by omega),by simp[encF]⟩,?_⟩
 conv=>whnf
 refine⟨_,worked_ok _ _ _ hcode (oT hfl) (oT hfl),?_⟩
 conv=>whnf
 refine⟨by kernel_rfl,?_⟩
 conv=>whnf
 refine⟨⟨rfl,by rw[hpl];simp;omega,by rw[hpl];simp;omega⟩,?_⟩
 conv=>whnf
 have hd:doL s k o ⟨eth,1,eobj,-1,epc⟩=(s.put k (zU (zG t o) (yX o.code (xM t o 0) (xM t o 1))),⟨eth,1,eobj,-1,epc⟩):=by unfold doL;rw[hgd];simp[n1,n2,n3,n10,n11,n12,n13,n14,n15,n16,n17]
 rw[hd] at hK
 dsimp only at hK
 refine hK _ (.inl ⟨zU (zG t o) (yX o.code (xM t o 0) (xM t o 1)),s.ths,stk (zU (zG t o) (yX o.code (xM t o 0) (xM t o 1))),hk,rfl,hgj,mD _,by simp[StL.put],⟨rfl,rfl,trivial⟩,⟨?_,?_,rfl,?_,?_,?_,?_,trivial⟩,⟨fun j=>?_,trivial⟩⟩)
 ·rw[show stRef _=stRef s by simp[stRef,StL.put]]
  conv=>lhs;whnf
  all_goals (
   refine congrArg some ?_
   repeat (refine xW ?_ (xN i0 i1 i2 s rfl))
   all_goals rfl)
 ·rfl
 ·conv=>lhs;whnf
  show some (Ob.ds 132 1 _)=some (Ob.ds 132 1 _)
  simp[stk,zU,zG,encF]
 ·conv=>lhs;whnf
  all_goals (
   refine congrArg (fun x=>some (Ob.rs 175 6 x)) ?_
   apply bZ
   ·repeat (first|exact rfl|apply jG hk|apply jF (fun _=>rfl))
   ·show[_,_,_,_,_,AV.ref (.n 899) 0 ((zG t o).stack.length+1)]=_
    simp[xV,zU]
    exact⟨rfl,rfl,rfl,rfl,rfl⟩)
 ·rfl
 ·rfl
 ·repeat (first|exact rfl|refine hscrO ?_ (hg _ _)|conv=>lhs;whnf)
end Ai
namespace Ai
set_option maxRecDepth 100000
open Go Go.Proofs
def InertL (pre:List AV):Prop:=∀ x∈pre,Inert x
theorem fD:∀ {pre:List AV},InertL pre→∀ p,scrPL p pre=pre
 | [],_,p=>rfl
 |x::xs,h,p=>by simp only[scrPL];rw[(h x List.mem_cons_self).scr,fD (fun y hy=>h y (List.mem_cons_of_mem _ hy))]
theorem inertL_ren:∀ {pre:List AV},InertL pre→∀ f,renL f pre=pre
 | [],_,f=>rfl
 |x::xs,h,f=>by simp only[renL];rw[(h x List.mem_cons_self).ren,inertL_ren (fun y hy=>h y (List.mem_cons_of_mem _ hy))]
theorem cJ:∀ {pre:List AV},InertL pre→∀ κ q,kH κ q pre=pre
 | [],_,κ,q=>rfl
 |x::xs,h,κ,q=>by simp only[kH];rw[(h x List.mem_cons_self).cut,cJ (fun y hy=>h y (List.mem_cons_of_mem _ hy))]
theorem dJ (p:Key→Bool):∀ a b:List AV,scrPL p (a++b)=scrPL p a++scrPL p b
 | [],b=>rfl
 |x::a,b=>by simp only[List.cons_append,scrPL];rw[dJ p a b]
theorem renL_app (f:Key→Key):∀ a b:List AV,renL f (a++b)=renL f a++renL f b
 | [],b=>rfl
 |x::a,b=>by simp only[List.cons_append,renL];rw[renL_app f a b]
theorem cutL_app (κ:Key) (q:Nat):∀ a b:List AV,kH κ q (a++b)=kH κ q a++kH κ q b
 | [],b=>rfl
 |x::a,b=>by simp only[List.cons_append,kH];rw[cutL_app κ q a b]
def vG:Key→Bool
 | .n k=>Nat.beq k 899 || Nat.beq k 900 || Nat.beq k 901 || Nat.beq k 902
 | .s o _=>Nat.beq o 900
 | .l k=>Nat.beq k 0
def stHA (E:TypeId) (pre:List AV) (s:StL) (k:Nat) (t:Th):Key→Option Ob
 | .l j=>bif Nat.beq j 0 then some (.vs E (pre++stRef s)) else none
 | .n j=>bif Nat.beq j 899 then some (.ds 132 1 (stk t)) else bif Nat.beq j 900 then some (.rs 175 6 (rowsA s.ths k t)) else bif Nat.beq j 901 then some (.ds 132 1 (s.cells.map encF)) else bif Nat.beq j 902 then some (.ds 3 1 (s.owner.map encInt)) else none
 | .s o j=>bif Nat.beq o 900 then (bif Nat.beq j k then none else zE s.ths j) else none
def stHC (E:TypeId) (pre:List AV) (s:StL):Key→Option Ob
 | .l j=>bif Nat.beq j 0 then some (.vs E (pre++stRef s)) else none
 | .n j=>bif Nat.beq j 900 then some (.rs 175 6 (thRows 900 s.ths)) else bif Nat.beq j 901 then some (.ds 132 1 (s.cells.map encF)) else bif Nat.beq j 902 then some (.ds 3 1 (s.owner.map encInt)) else none
 | .s o j=>bif Nat.beq o 900 then zE s.ths j else none
theorem thRows_set {l:List Th} {k:Nat} {t:Th} (hk:k<l.length):thRows 900 (l.set k t)=(thRows 900 l).set k (thRow 900 k t):=by
 apply List.ext_getElem?
 intro i
 rw[uH,List.getElem?_set,List.getElem?_set]
 by_cases h:k=i
 ·subst h
  simp[hk,zP]
 ·simp[h,uH]
theorem nZ {l:List Th} {k:Nat} {t u:Th} (hk:k<l.length):rowsA (l.set k u) k t=rowsA l k t:=by
 unfold rowsA
 rw[thRows_set hk,List.set_set]
theorem nU {l:List Th} {k j:Nat} {t:Th} (h:j≠k):zE (l.set k t) j=zE l j:=by
 unfold zE;rw[List.getElem?_set_ne (Ne.symm h)]
theorem thFam_self {l:List Th} {k:Nat} (h:k<l.length):zE l k=some (.ds 132 1 (stk l[k])):=by
 unfold zE;rw[List.getElem?_eq_getElem h];rfl
theorem rows_cut {l:List Th} {k:Nat} {t:Th}:(rowsA l k t).map (kH (.n 899) t.stack.length)=rowsA l k t:=by
 unfold rowsA
 rw[List.map_set]
 congr 1
 ·apply List.ext_getElem?
  intro i
  rw[List.getElem?_map,uH]
  cases l[i]? with
  |none=>rfl
  |some u=>rfl
 ·have:Nat.ble (0+t.stack.length) t.stack.length=true:=by rw[Nat.zero_add,Nat.ble_eq];exact Nat.le_refl _
  show[_,_,_,_,_,(bif Nat.ble (0+t.stack.length) t.stack.length then AV.ref (.n 899) 0 t.stack.length else .junk)]=_
  rw[this];rfl
theorem stRef_cut (s:StL) (q:Nat):kH (.n 899) q (stRef s)=stRef s:=rfl
theorem eO (s:StL):scrPL (fun o=>!vG o) (stRef s)=stRef s:=rfl
def doIPost (E:TypeId) (pre:List AV) (k:Nat) (s':StL) (e':Ev) (r:AV) (H1:Key→Option Ob):Prop :=
 r=agg (encEv e')∧∃ (h:k<s'.ths.length),H1=stHA E pre s' k s'.ths[k]
theorem doI_fin (E:TypeId) (pre:List AV) (hp:InertL pre) (g:Nat→Option Ob) (k:Nat) (hg:∀ p j,(g j).map (scrPO p)=g j) (hgc:∀ q j,(g j).map (cutO (.n 899) q)=g j) (hgk:g k=none) (s':StL) (e':Ev) (S:St) (t':Th) (h:DoIE E pre g k s' t' e' S) :
  AW EE Tryz.f172.ntmps (dropC 8 (Tryz.f172.body.getD .skip)) (retIO EE Tryz.f172 (doIPost E pre k s' e')) S:=by
 obtain⟨l',els,hk,hths,hgj,hels,hlen,hat⟩:=h
 obtain⟨τ,H,rfl⟩:=hat.form
 conv=>whnf
 refine⟨_,weak_cut (.n 899) t'.stack.length (e:=132) (sz:=1) (els:=els) ?_,?_⟩
 ·rfl
 conv=>whnf
 refine⟨vG,?_,?_⟩
 ·rfl
 have hk':k<s'.ths.length:=by rw[hths];simpa using hk
 have htk:s'.ths[k]=t':=by simp[hths]
 refine⟨hk',?_⟩
 rw[htk]
 funext κ
 cases κ with
 |l j =>
  by_cases h:j=0
  ·subst h
   show some (Ob.vs E (scrPL _ (kH _ _ (pre++stRef s'))))=some (Ob.vs E (pre++stRef s'))
   rw[cutL_app,cJ hp,stRef_cut,dJ,fD hp,eO]
  ·simp[lendH,vG,stHA,nbeq_ne h]
 |n j =>
  by_cases h1:j=899
  ·subst h1
   show some (Ob.ds 132 1 (els.take t'.stack.length))=some (Ob.ds 132 1 (stk t'))
   rw[hels]
  by_cases h2:j=900
  ·subst h2
   show some (Ob.rs 175 6 (((rowsA l' k t').map (kH (.n 899) t'.stack.length)).map (scrPL fun o=>!vG o)))=some (Ob.rs 175 6 (rowsA s'.ths k t'))
   rw[rows_cut,hths,nZ hk]
   exact congrArg (fun x=>some (Ob.rs 175 6 x)) (qK rfl (fun _=>rfl) _ _ _)
  by_cases h3:j=901
  ·subst h3;rfl
  by_cases h4:j=902
  ·subst h4;rfl
  simp[lendH,vG,stHA,nbeq_ne h1,nbeq_ne h2,nbeq_ne h3,nbeq_ne h4]
 |s o j =>
  by_cases h:o=900
  ·subst h
   show((g j).map (cutO (.n 899) t'.stack.length)).map (scrPO fun o=>!vG o)=bif Nat.beq j k then none else zE s'.ths j
   rw[hgc,hg]
   by_cases hj:j=k
   ·subst hj;rw[nbeq_self,hgk];rfl
   ·rw[nbeq_ne hj,hgj j hj,hths,nU hj];rfl
  ·simp[lendH,vG,stHA,nbeq_ne h]
theorem rowsA_app {l:List Th} {k:Nat} {t u:Th} (hk:k<l.length):rowsA (l++[u]) k t=rowsA l k t++[thRow 900 l.length u]:=by
 unfold rowsA
 have:thRows 900 (l++[u])=thRows 900 l++[thRow 900 l.length u]:=by
  apply List.ext_getElem?
  intro i
  rw[uH]
  by_cases h:i<l.length
  ·rw[List.getElem?_append_left h,List.getElem?_append_left (by rw[zP];exact h),uH]
  ·rw[List.getElem?_append_right (by omega),List.getElem?_append_right (by rw[zP];omega),zP]
   by_cases h2:i - l.length=0
   ·have:i=l.length:=by omega
    subst this
    simp
   ·rw[List.getElem?_eq_none (by simp;omega),List.getElem?_eq_none (by simp;omega)];rfl
 rw[this,List.set_append_left _ _ (by rw[zP];exact hk)]
theorem rowsA_ren {l:List Th} {k:Nat} {t:Th}:(rowsA l k t).map (renL (swp (.n 905) (.s 900 l.length)))=rowsA l k t:=by
 unfold rowsA
 rw[List.map_set,lJ (Nat.le_refl _)]
 rfl
theorem thFam_app {l:List Th} {u:Th} {j:Nat}:zE (l++[u]) j=bif Nat.beq j l.length then some (.ds 132 1 (stk u)) else zE l j:=by
 unfold zE
 by_cases h:j=l.length
 ·subst h;rw[nbeq_self];simp
 ·rw[nbeq_ne h]
  by_cases h2:j<l.length
  ·rw[List.getElem?_append_left h2];rfl
  ·rw[List.getElem?_eq_none (by simp;omega),List.getElem?_eq_none (by omega)];rfl
theorem doI_finF (E:TypeId) (pre:List AV) (hp:InertL pre) (g:Nat→Option Ob) (k:Nat) (hg:∀ p j,(g j).map (scrPO p)=g j) (hgr:∀ f j,(g j).map (renO f)=g j) (hgk:g k=none) (s':StL) (e':Ev) (S:St) (l':List Th) (t':Th) (r:Int) (h:DoIF E pre g k s' l' t' r e' S) :
  AW EE Tryz.f172.ntmps (dropC 8 (Tryz.f172.body.getD .skip)) (retIO EE Tryz.f172 (doIPost E pre k s' e')) S:=by
 obtain⟨hk,hths,hgj,hat⟩:=h
 obtain⟨τ,H,rfl⟩:=hat.form
 conv=>whnf
 refine⟨_,jV 905 900 l'.length,?_⟩
 conv=>whnf
 refine⟨vG,?_,?_⟩
 ·rfl
 have hk':k<s'.ths.length:=by rw[hths];simp;omega
 have htk:s'.ths[k]=t':=by
  have:s'.ths[k]?=some t':=by rw[hths,List.getElem?_append_left (by simpa using hk)];simp[hk]
  rw[List.getElem?_eq_getElem hk'] at this
  exact Option.some.inj this
 refine⟨hk',?_⟩
 rw[htk]
 have hnk:l'.length≠k:=by omega
 funext κ
 cases κ with
 |l j =>
  by_cases h:j=0
  ·subst h
   show some (Ob.vs E (scrPL _ (renL _ (pre++stRef s'))))=some (Ob.vs E (pre++stRef s'))
   rw[renL_app,inertL_ren hp,dJ,fD hp]
   rfl
  ·simp[lendH,vG,stHA,nbeq_ne h]
 |n j =>
  by_cases h1:j=899
  ·subst h1;rfl
  by_cases h2:j=900
  ·subst h2
   show some (Ob.rs 175 6 (((rowsA l' k t'++[_]).map (renL (swp (.n 905) (.s 900 l'.length)))).map (scrPL fun o=>!vG o)))=some (Ob.rs 175 6 (rowsA s'.ths k t'))
   rw[hths,rowsA_app (by simpa using hk),nZ hk,List.map_append,rowsA_ren,List.map_append,qK rfl (fun _=>rfl),List.length_set]
   rfl
  by_cases h3:j=901
  ·subst h3;rfl
  by_cases h4:j=902
  ·subst h4;rfl
  simp[lendH,vG,stHA,nbeq_ne h1,nbeq_ne h2,nbeq_ne h3,nbeq_ne h4]
 |s o j =>
  by_cases h:o=900
  ·subst h
   rw[show stHA E pre s' k t' (.s 900 j)=(bif Nat.beq j k then none else zE s'.ths j) from rfl,hths,thFam_app,List.length_set]
   by_cases hjn:j=l'.length
   ·subst hjn
    rw[nbeq_ne hnk,nbeq_self]
    have e:swp (.n 905) (.s 900 l'.length) (.s 900 l'.length)=.n 905:=by simp[swp,Key.beq,nbeq_self]
    simp only[lendH,St.swap,e]
    rfl
   ·have e:swp (.n 905) (.s 900 l'.length) (.s 900 j)=.s 900 j:=by simp[swp,Key.beq,nbeq_ne hjn]
    rw[nbeq_ne hjn]
    simp only[lendH,St.swap,e]
    show(((g j).map (renO _)).map (scrPO fun o=>!vG o))=bif Nat.beq j k then none else zE (l'.set k t') j
    rw[hgr,hg]
    by_cases hj:j=k
    ·subst hj;rw[nbeq_self,hgk];rfl
    ·rw[nbeq_ne hj,hgj j hj,nU hj];rfl
  ·simp[lendH,vG,stHA,nbeq_ne h]
end Ai
namespace Ai
set_option maxRecDepth 100000
open Go Go.Proofs
def fam0 (l:List Th) (k:Nat) (j:Nat):Option Ob:=bif Nat.beq j k then none else zE l j
theorem vP (l:List Th) (k:Nat) (p:Key→Bool) (j:Nat):(fam0 l k j).map (scrPO p)=fam0 l k j:=by
 unfold fam0;cases Nat.beq j k
 ·exact zQ p l j
 ·rfl
theorem cX (l:List Th) (k:Nat) (p:Key→Key) (j:Nat):(fam0 l k j).map (renO p)=fam0 l k j:=by
 unfold fam0;cases Nat.beq j k
 ·exact thFam_ren p l j
 ·rfl
theorem fam0_cut (l:List Th) (k:Nat) (κ:Key) (q j:Nat):(fam0 l k j).map (cutO κ q)=fam0 l k j:=by
 unfold fam0;cases Nat.beq j k
 ·show(zE l j).map _=zE l j
  unfold zE;cases l[j]? <;> rfl
 ·rfl
theorem doI_okA (hI:xH) (E:TypeId) (x0 x1 x2:AV) (i0:Inert x0) (i1:Inert x1) (i2:Inert x2) (s:StL) (k:Nat) (o:OpL) (e:Ev) (hk:k<s.ths.length) (h5:s.ths.length≤5)
  (hs:s.small) (ho:o.fits s s.ths[k]) (hpc:InR s.ths[k].pc 0 1048576) (hst3:s.ths[k].st≠3) (he:e.kind=1) (hel:e.lock=-1) (hfl:∀ x∈s.ths[k].stack,x<18446744073709551616) (hjo:o.code=15→∃ j,yY (xM s.ths[k] o 0) s.ths.length=some j∧yF s s.ths[k]=some j)
  (H0:Key→Option Ob) (h0:H0 (.l 0)=some (.vs E ([x0,x1,x2]++stRef s))) (h1:H0 (.n 899)=some (.ds 132 1 (stk s.ths[k]))) (h2:H0 (.n 900)=some (.rs 175 6 (rowsA s.ths k s.ths[k]))) (h3:∀ j,H0 (.s 900 j)=fam0 s.ths k j)
  (h4:H0 (.n 901)=some (.ds 132 1 (s.cells.map encF))) (h6:H0 (.n 902)=some (.ds 3 1 (s.owner.map encInt))) :
  IOCall EE 172 [.ptr (.l 0) 3,i64 k,agg (encOp o),agg (encEv e)] H0 (doIPost E [x0,x1,x2] k (doL s k o e).1 (doL s k o e).2):=by
 refine xS (fn:=Tryz.f172) (c:=Tryz.f172.body.getD .skip) Tryz.func172 rfl (by kernel_rfl) rfl ?_
 have hat:At [(0,.ptr (.l 0) 3),(1,i64 k),(2,agg (encOp o)),(3,agg (encEv e))] [(.l 0,.vs E ([x0,x1,x2]++stRef s)),(.n 899,.ds 132 1 (stk s.ths[k])),(.n 900,.rs 175 6 (rowsA s.ths k s.ths[k])),(.n 901,.ds 132 1 (s.cells.map encF)),(.n 902,.ds 3 1 (s.owner.map encInt))] [(900,fam0 s.ths k)]
   ⟨fun i=>[AV.ptr (.l 0) 3,i64 k,agg (encOp o),agg (encEv e)].getD i .junk,H0⟩ :=
  ⟨⟨rfl,rfl,rfl,rfl,trivial⟩,⟨h0,h1,h2,h4,h6,trivial⟩,⟨h3,trivial⟩⟩
 obtain⟨τ,H,hf⟩:=hat.form
 rw[hf]
 have hst:=hs.2.1 _ (List.getElem_mem hk)
 have hgk:fam0 s.ths k k=none:=by unfold fam0;rw[nbeq_self];rfl
 refine dA 7 (At (doI1 3 k o s.ths[k]) (doIO E [x0,x1,x2] s k o e s.ths[k] (zG s.ths[k] o)) [(900,fam0 s.ths k)]) (fun K hK=>doI_preB E x0 x1 x2 i0 i1 i2 (fam0 s.ths k) (vP _ _) s k o e hk s.ths[k] ho.2.2.2.2 hst hpc τ H _ K hK) (fun S hS=>?_)
 refine dA 1 (DoI2 E [x0,x1,x2] (fam0 s.ths k) k (doL s k o e).1 (doL s k o e).2) (fun K hK=>doI_swB hI E x0 x1 x2 i0 i1 i2 (fam0 s.ths k) (vP _ _) s k o e hk h5 (fun j hj=>by unfold fam0;rw[nbeq_ne hj];rfl) hs ho hpc hst3 he hel hfl hjo _ K S hS hK) (fun S' hS'=>?_)
 have hp:InertL [x0,x1,x2]:=by
  intro x hx
  simp only[List.mem_cons,List.not_mem_nil,or_false] at hx
  rcases hx with rfl|rfl|rfl <;> assumption
 rcases hS' with ⟨t',h⟩|⟨l',t',r,h⟩
 ·exact doI_fin E _ hp _ k (vP _ _) (fam0_cut _ _ _) hgk _ _ S' t' h
 ·exact doI_finF E _ hp _ k (vP _ _) (cX _ _) hgk _ _ S' l' t' r h
theorem rowsA_sw {l:List Th} {k:Nat} (hk:k<l.length):(thRows 900 l).map (renL (swp (.n 899) (.s 900 k)))=rowsA l k l[k]:=by
 apply List.ext_getElem?
 intro i
 rw[List.getElem?_map,uH]
 by_cases h:i=k
 ·subst h
  have e:swp (.n 899) (.s 900 i) (.s 900 i)=.n 899:=by simp[swp,Key.beq,nbeq_self]
  have:(rowsA l i l[i])[i]?=some (xV l[i]):=yW hk
  rw[this,List.getElem?_eq_getElem hk]
  simp[thRow,xV,renL,ren,e]
 ·rw[rowsA_ne h,uH]
  cases hl:l[i]? with
  |none=>rfl
  |some u=>simp[eL (a:=899) (o:=900) h]
theorem rowsA_back {l:List Th} {k:Nat} (hk:k<l.length):(rowsA l k l[k]).map (renL (swp (.n 899) (.s 900 k)))=thRows 900 l:=by
 rw[← rowsA_sw hk,List.map_map]
 conv=>rhs;rw[← List.map_id (thRows 900 l)]
 apply List.map_congr_left
 intro c hc
 exact qL _ _ c fun c _=>ren_ren _ _ c
theorem stRef_ren (s:StL) (k:Nat):renL (swp (.n 899) (.s 900 k)) (stRef s)=stRef s:=rfl
theorem swH_stHA {E:TypeId} {pre:List AV} (hp:InertL pre) {s:StL} {k:Nat} (hk:k<s.ths.length):swH (.n 899) (.s 900 k) (stHA E pre s k s.ths[k])=stHC E pre s:=by
 funext κ
 cases κ with
 |l j =>
  have e:swp (.n 899) (.s 900 k) (.l j)=.l j:=rfl
  by_cases h:j=0
  ·subst h
   simp only[swH,e]
   show some (Ob.vs E (renL _ (pre++stRef s)))=some (Ob.vs E (pre++stRef s))
   rw[renL_app,inertL_ren hp,stRef_ren]
  ·simp[swH,e,stHA,stHC,nbeq_ne h]
 |n j =>
  by_cases h1:j=899
  ·subst h1
   have e:swp (.n 899) (.s 900 k) (.n 899)=.s 900 k:=rfl
   simp only[swH,e]
   show(bif Nat.beq k k then none else zE s.ths k).map _=none
   rw[nbeq_self];rfl
  have e:swp (.n 899) (.s 900 k) (.n j)=.n j:=by simp[swp,Key.beq,nbeq_ne h1]
  simp only[swH,e]
  by_cases h2:j=900
  ·subst h2
   show some (Ob.rs 175 6 ((rowsA s.ths k s.ths[k]).map (renL (swp (.n 899) (.s 900 k)))))=some (Ob.rs 175 6 (thRows 900 s.ths))
   rw[rowsA_back hk]
  by_cases h3:j=901
  ·subst h3;rfl
  by_cases h4:j=902
  ·subst h4;rfl
  simp[stHA,stHC,nbeq_ne h1,nbeq_ne h2,nbeq_ne h3,nbeq_ne h4]
 |s o j =>
  by_cases h:o=900
  ·subst h
   by_cases hj:j=k
   ·subst hj
    have e:swp (.n 899) (.s 900 j) (.s 900 j)=.n 899:=by simp[swp,Key.beq,nbeq_self]
    simp only[swH,e]
    show some (Ob.ds 132 1 (stk s.ths[j]))=zE s.ths j
    rw[thFam_self hk]
   ·have e:swp (.n 899) (.s 900 k) (.s 900 j)=.s 900 j:=by simp[swp,Key.beq,nbeq_ne hj]
    simp only[swH,e]
    show(bif Nat.beq j k then none else zE s.ths j).map _=zE s.ths j
    rw[nbeq_ne hj]
    exact thFam_ren _ _ _
  ·have e:swp (.n 899) (.s 900 k) (.s o j)=.s o j:=by simp[swp,Key.beq,nbeq_ne h]
   simp[swH,e,stHA,stHC,nbeq_ne h]
def AtC (E:TypeId) (pre:List AV) (s:StL) (H0:Key→Option Ob):Prop :=
 H0 (.l 0)=some (.vs E (pre++stRef s))∧H0 (.n 899)=none∧H0 (.n 900)=some (.rs 175 6 (thRows 900 s.ths))∧(∀ j,H0 (.s 900 j)=zE s.ths j)∧H0 (.n 901)=some (.ds 132 1 (s.cells.map encF))∧H0 (.n 902)=some (.ds 3 1 (s.owner.map encInt))
theorem IOCall.mono {E:Env} {g:FuncId} {xs:List AV} {H0:Key→Option Ob} {Post Post':AV→(Key→Option Ob)→Prop} (h:IOCall E g xs H0 Post) (hp:∀ r H1,Post r H1→Post' r H1):IOCall E g xs H0 Post':=by
 intro w0 A m w vs hH hl hrel
 refine(h w0 A m w vs hH hl hrel).mono ?_
 rintro v w' ⟨r,H1,m1,h1,h2,h3⟩
 exact⟨r,H1,m1,hp r H1 h1,h2,h3⟩
end Ai
namespace Ai
set_option maxRecDepth 100000
open Go Go.Proofs
theorem dQ {S:St} {E:TypeId} {pre:List AV} (hp:InertL pre) {s':StL} {l:List Th} {k:Nat} {t':Th} (hk:k<l.length) (hl:s'.ths=l.set k t') (h0:S.H (.l 0)=some (.vs E (pre++stRef s'))) (h1:S.H (.n 899)=some (.ds 132 1 (stk t')))
  (h2:S.H (.n 900)=some (.rs 175 6 (rowsA l k t'))) (h3:∀ j,S.H (.s 900 j)=fam0 l k j) (h4:S.H (.n 901)=some (.ds 132 1 (s'.cells.map encF))) (h6:S.H (.n 902)=some (.ds 3 1 (s'.owner.map encInt))) :
  ∃ (h:k<s'.ths.length),lendH vG S.H=stHA E pre s' k s'.ths[k]:=by
 have hk':k<s'.ths.length:=by rw[hl];simpa using hk
 refine⟨hk',?_⟩
 have htk:s'.ths[k]=t':=by simp[hl]
 rw[htk]
 funext κ
 cases κ with
 |l j =>
  by_cases h:j=0
  ·subst h
   show(S.H (.l 0)).map _=_
   rw[h0]
   show some (Ob.vs E (scrPL _ (pre++stRef s')))=some (Ob.vs E (pre++stRef s'))
   rw[dJ,fD hp,eO]
  ·simp[lendH,vG,stHA,nbeq_ne h]
 |n j =>
  by_cases e1:j=899
  ·subst e1
   show(S.H (.n 899)).map _=_
   rw[h1];rfl
  by_cases e2:j=900
  ·subst e2
   show(S.H (.n 900)).map _=_
   rw[h2]
   show some (Ob.rs 175 6 ((rowsA l k t').map (scrPL fun o=>!vG o)))=some (Ob.rs 175 6 (rowsA s'.ths k t'))
   rw[hl,nZ hk]
   exact congrArg (fun x=>some (Ob.rs 175 6 x)) (qK rfl (fun _=>rfl) _ _ _)
  by_cases e3:j=901
  ·subst e3
   show(S.H (.n 901)).map _=_
   rw[h4];rfl
  by_cases e4:j=902
  ·subst e4
   show(S.H (.n 902)).map _=_
   rw[h6];rfl
  simp[lendH,vG,stHA,nbeq_ne e1,nbeq_ne e2,nbeq_ne e3,nbeq_ne e4]
 |s o j =>
  by_cases h:o=900
  ·subst h
   show(S.H (.s 900 j)).map _=bif Nat.beq j k then none else zE s'.ths j
   rw[h3,vP]
   by_cases hj:j=k
   ·subst hj;simp[fam0,nbeq_self]
   ·unfold fam0;rw[nbeq_ne hj,hl,nU hj]
  ·simp[lendH,vG,stHA,nbeq_ne h]
theorem stHA_none {E:TypeId} {pre:List AV} {s:StL} {k:Nat} {t:Th}:∀ κ,vG κ=false→stHA E pre s k t κ=none
 | .l j,h=>by have h:Nat.beq j 0=false:=h;simp[stHA,h]
 | .n j,h=>by
  have h:(Nat.beq j 899 || Nat.beq j 900 || Nat.beq j 901 || Nat.beq j 902)=false:=h
  simp only[Bool.or_eq_false_iff] at h
  simp[stHA,h.1.1.1,h.1.1.2,h.1.2,h.2]
 | .s o j,h=>by have h:Nat.beq o 900=false:=h;simp[stHA,h]
theorem vs_ren {E:TypeId} {pre:List AV} (hp:InertL pre) (s:StL):renO (swp (.n 999) (.l 99)) (.vs E (pre++stRef s))=.vs E (pre++stRef s):=by
 show Ob.vs E (renL _ (pre++stRef s))=_
 rw[renL_app,inertL_ren hp]
 rfl
theorem tL (l:List Th) (k:Nat) (t:Th):renO (swp (.n 999) (.l 99)) (.rs 175 6 (rowsA l k t))=.rs 175 6 (rowsA l k t):=by
 show Ob.rs 175 6 ((rowsA l k t).map (renL _))=_
 unfold rowsA
 rw[List.map_set,jA]
 rfl
theorem tK {p:Key→Bool} (h1:p (.n 899)=false) (h2:∀ j,p (.s 900 j)=false) (l:List Th) (k:Nat) (t:Th):scrPO p (.rs 175 6 (rowsA l k t))=.rs 175 6 (rowsA l k t):=congrArg (Ob.rs 175 6) (qK h1 h2 l k t)
theorem o8 {x X:Ob} {f:Key→Key} (h:x=X) (hp:renO f X=X):renO f x=X:=by rw[h];exact hp
theorem FzA_ptr {S:St} {o:Key} {off:Nat} {E:TypeId} {cs:List AV} {ds:List D} (h:S.H o=some (.vs E cs)) (hf:FzC S (cs.drop off) ds):FzA S (.ptr o off) (.fp ds):=by
 simp only[FzA,h]
 exact⟨ds,rfl,hf⟩
theorem fz_stA {S:St} {s:StL} {k:Nat} {t:Th} {els:List (List D)} (hk:k<s.ths.length) (ht:s.ths[k]=t) (h9:S.H (.n 900)=some (.rs 175 6 (rowsA s.ths k t))) (hfam:∀ j,j≠k→(h:j<s.ths.length)→S.H (.s 900 j)=some (.ds 132 1 (stk s.ths[j])))
  (h8:S.H (.n 899)=some (.ds 132 1 els)) (he:els.take t.stack.length=stk t) (h3:S.H (.n 901)=some (.ds 132 1 (s.cells.map encF))) (h4:S.H (.n 902)=some (.ds 3 1 (s.owner.map encInt))):FzC S (stRef s) (yT s):=by
 have hv:=sW hk h9 hfam h8 he
 rw[← ht,List.set_getElem_self] at hv
 refine⟨.sl (s.ths.map zH),_,rfl,⟨_,rfl,hv⟩,.sl (s.cells.map encF),_,rfl,?_,.sl (s.owner.map encInt),_,rfl,?_,di s.fault,[],rfl,rfl,rfl⟩
 ·simp[FzD,fz1,h3,List.take_of_length_le]
 ·simp[FzD,fz1,h4,List.take_of_length_le]
theorem rowsA_getE {X:List (List AV)} {l:List Th} {k:Nat} {t:Th} (h:k<l.length) (hX:X=rowsA l k t):X[((k:Nat):Int).toNat]?=some (xV t):=by
 rw[hX];exact yW h
theorem fault_vs {pre:List AV} {s:StL} {n:Int} {L:List AV} (hL:L=pre++stRef s):yD L (pre.length+3) [i64 n]=pre++stRef { s with fault:=n }:=by
 subst hL
 induction pre with
 |nil=>rfl
 |cons x xs ih =>
  show yD (x::(xs++stRef s)) (xs.length+1+3) [i64 n]=x::(xs++_)
  rw[show xs.length+1+3=(xs.length+3)+1 from by omega]
  exact congrArg (x::·) ih
theorem stepI_A (hI:xH) (E:TypeId) (x0 x1 x2:AV) (i0:Inert x0) (i1:Inert x1) (i2:Inert x2) (p:ProgL) (s:StL) (k:Nat) (hp:p.wf) (hk:k<s.ths.length) (h5:s.ths.length≤5)
  (hs:s.small) (hr:s.ths[k].ready p s k) (hst3:s.ths[k].st≠3) (hfl:∀ x∈s.ths[k].stack,x<18446744073709551616) (hjo:∀ o,yL p s.ths[k]=some o→yG s k o=0→o.code=15→∃ j,yY (xM s.ths[k] o 0) s.ths.length=some j∧yF s s.ths[k]=some j)
  (H0:Key→Option Ob) (h0:H0 (.l 0)=some (.vs E ([x0,x1,x2]++stRef s))) (h1:H0 (.n 899)=some (.ds 132 1 (stk s.ths[k]))) (h2:H0 (.n 900)=some (.rs 175 6 (rowsA s.ths k s.ths[k]))) (h3:∀ j,H0 (.s 900 j)=fam0 s.ths k j)
  (h4:H0 (.n 901)=some (.ds 132 1 (s.cells.map encF))) (h6:H0 (.n 902)=some (.ds 3 1 (s.owner.map encInt))) :
  IOCall EE 92 [.ptr (.l 0) 3,agg (encProg p),i64 k] H0 (doIPost E [x0,x1,x2] k (zS p s k).1 (zS p s k).2):=by
 refine xS (fn:=Tryz.f92) (c:=Tryz.f92.body.getD .skip) Tryz.func92 rfl (by kernel_rfl) rfl ?_
 have hat:At [(0,.ptr (.l 0) 3),(1,agg (encProg p)),(2,i64 k)] [(.l 0,.vs E ([x0,x1,x2]++stRef s)),(.n 899,.ds 132 1 (stk s.ths[k])),(.n 900,.rs 175 6 (rowsA s.ths k s.ths[k])),(.n 901,.ds 132 1 (s.cells.map encF)),(.n 902,.ds 3 1 (s.owner.map encInt))] [(900,fam0 s.ths k)]
   ⟨fun i=>[AV.ptr (.l 0) 3,agg (encProg p),i64 k].getD i .junk,H0⟩ :=
  ⟨⟨rfl,rfl,rfl,trivial⟩,⟨h0,h1,h2,h4,h6,trivial⟩,⟨h3,trivial⟩⟩
 obtain⟨τ,H,hf⟩:=hat.form
 rw[hf]
 have hst:=hs.2.1 _ (List.getElem_mem hk)
 have hgd:s.ths.getD k th0=s.ths[k]:=by simp[List.getD_eq_getElem?_getD,hk]
 have hp3:InertL [x0,x1,x2]:=by
  intro x hx
  simp only[List.mem_cons,List.not_mem_nil,or_false] at hx
  rcases hx with rfl|rfl|rfl <;> assumption
 have hpc:=hr.pc
 clear hat hf h0 h1 h2 h3 h4 h6
 generalize ht0:s.ths[k]=t at *
 conv=>whnf
 refine⟨⟨by omega,by omega⟩,?_⟩
 conv=>whnf
 refine⟨xV t,⟨by repeat (first|exact yW hk|refine wF ?_ (xQ rfl t)),by simp[xV]⟩,?_⟩
 conv=>whnf
 refine .inr (.inl ⟨10,[],?_⟩)
 conv=>whnf
 refine⟨xV t,⟨by repeat (first|exact yW hk|refine wF ?_ (xQ rfl t)),by simp[xV]⟩,?_⟩
 conv=>whnf
 refine⟨_,Eq.mp (congrArg (fun x=>CallsTo EE 169 [agg (encProg p),.agg [i64 t.rt,i64 t.pc,i64 t.st,i64 t.cond,i64 t.lock,sl x]] _) (mD t).symm) (p9 p t hp hr.inP),?_,?_⟩
 ·intro c hc
  simp only[List.mem_cons,List.not_mem_nil,or_false] at hc
  rcases hc with rfl|rfl
  ·exact .inr ⟨encOp _,rfl,rfl⟩
  ·exact .inl ⟨_,rfl,rfl⟩
 conv=>whnf
 refine⟨by kernel_rfl,?_⟩
 conv=>whnf
 refine⟨xV t,⟨by repeat (first|exact yW hk|refine wF ?_ (xQ rfl t)),by simp[xV]⟩,?_⟩
 conv=>whnf
 have hp3:InertL [x0,x1,x2]:=by
  intro x hx
  simp only[List.mem_cons,List.not_mem_nil,or_false] at hx
  rcases hx with rfl|rfl|rfl <;> assumption
 refine kbi (fun h4=>?_) (fun h4=>?_)
 ·have h4:t.st=4:=by simpa using h4
  have hlk:=hr.lock h4
  have hd:zS p s k=({ s with owner:=s.owner.set t.lock.toNat ((k:Nat):Int) }.put k { t with st:=1,cond:=-1,lock:=-1,pc:=if (yL p t).isSome=true then t.pc+1 else t.pc },{ ev0 k t with kind:=9,obj:=t.cond,lock:=t.lock }):=by
   unfold zS;rw[hgd,if_pos h4]
  conv=>whnf
  refine .inr (.inl ⟨12,[],?_⟩)
  conv=>whnf
  refine⟨xV t,⟨by repeat (first|exact yW hk|refine wF ?_ (xQ rfl _)),by simp[xV]⟩,?_⟩
  conv=>whnf
  refine⟨xV t,⟨by repeat (first|exact yW hk|refine wF ?_ (xQ rfl _)),by simp[xV]⟩,?_⟩
  conv=>whnf
  refine⟨by kernel_rfl,?_⟩
  conv=>whnf
  refine .inr (.inl ⟨9,[],?_⟩)
  conv=>whnf
  refine⟨xV t,⟨by repeat (first|exact yW hk|refine wF ?_ (xQ rfl _)),by simp[xV]⟩,?_⟩
  conv=>whnf
  refine⟨by kernel_rfl,?_⟩
  conv=>whnf
  refine⟨⟨by omega,by omega⟩,?_⟩
  conv=>whnf
  refine .inr (.inl ⟨7,[],?_⟩)
  conv=>whnf
  refine⟨xV { t with st:=1,cond:=-1,lock:=-1 },⟨wF (rowsA_getE hk ?_) (xQ rfl _),by simp[xV]⟩,?_⟩
  ·apply bZ
   ·repeat (first|exact rfl|apply jG hk|apply jF (fun _=>rfl))
   ·rfl
  conv=>whnf
  refine⟨_,kI _,?_⟩
  conv=>whnf
  refine⟨by kernel_rfl,?_⟩
  conv=>whnf
  refine⟨_,Weak.refl,?_⟩
  conv=>whnf
  rw[hd]
  refine⟨vG,by rfl,?_⟩
  refine dQ hp3 (l:=s.ths) (t':={ t with st:=1,cond:=-1,lock:=-1,pc:=if (yL p t).isSome=true then t.pc+1 else t.pc }) hk rfl ?_ ?_ ?_ (fun j=>?_) ?_ ?_
  ·refine Eq.trans ?_ (congrArg (fun x=>some (Ob.vs E ([x0,x1,x2]++x))) (show stRef s=stRef _ by simp[stRef,StL.put]))
   conv=>lhs;whnf
   all_goals (
    refine congrArg some ?_
    repeat (refine xW ?_ (xN i0 i1 i2 s rfl))
    all_goals rfl)
  ·rfl
  ·conv=>lhs;whnf
   all_goals (
    refine congrArg (fun x=>some (Ob.rs 175 6 x)) ?_
    apply bZ
    ·repeat (first|exact rfl|apply jG hk|apply jF (fun _=>rfl))
    ·have ew:IntKind.i64.wrap (t.pc+(if (yL p t).isSome=true then 1 else 0))=(if (yL p t).isSome=true then t.pc+1 else t.pc):=by have a:=hpc.1;have b:=hpc.2;split <;> rw[zF (by omega) (by omega)];omega
     show[_,AV.d (.int .i64 (IntKind.i64.wrap (t.pc+(if (yL p t).isSome=true then 1 else 0)))),_,_,_,_]=_
     rw[ew]
     rfl)
  ·repeat (first|exact rfl|refine hscrO ?_ (vP _ _ _ _)|conv=>lhs;whnf)
  ·rfl
  ·conv=>lhs;whnf
   show some (Ob.ds 3 1 ((s.owner.map encInt).set (0+t.lock.toNat) (encInt ((k:Nat):Int))))=some (Ob.ds 3 1 ((s.owner.set t.lock.toNat ((k:Nat):Int)).map encInt))
   rw[Nat.zero_add,List.map_set]
 have h4:¬ t.st=4:=by simpa using h4
 cases hn:yL p t with
 |none =>
  conv=>whnf
  have hd:zS p s k=(s.put k { t with st:=2 },{ ev0 k t with kind:=11 }):=by
   unfold zS;rw[hgd];simp[h4,hn]
  refine⟨_,Weak.refl,?_⟩
  conv=>whnf
  rw[hd]
  refine⟨vG,by rfl,?_⟩
  refine dQ hp3 (l:=s.ths) (t':={ t with st:=2 }) hk rfl ?_ ?_ ?_ (fun j=>?_) ?_ ?_
  ·refine Eq.trans ?_ (congrArg (fun x=>some (Ob.vs E ([x0,x1,x2]++x))) (show stRef s=stRef _ by simp[stRef,StL.put]))
   conv=>lhs;whnf
   all_goals (
    refine congrArg some ?_
    repeat (refine xW ?_ (xN i0 i1 i2 s rfl))
    all_goals rfl)
  ·rfl
  ·conv=>lhs;whnf
   all_goals (
    refine congrArg (fun x=>some (Ob.rs 175 6 x)) ?_
    apply bZ
    ·repeat (first|exact rfl|apply jG hk|apply jF (fun _=>rfl))
    ·rfl)
  ·repeat (first|exact rfl|refine hscrO ?_ (vP _ _ _ _)|conv=>lhs;whnf)
  ·rfl
  ·rfl
 |some o =>
  obtain⟨hoS,hoF⟩:=hr.op o hn
  conv=>whnf
  refine .inl ⟨[.fp (yT s),i64 k,agg (encOp o)],[],_,⟨_,_,rfl,FzA_ptr (E:=E) (cs:=[x0,x1,x2]++stRef s) ?_ (fz_stA (k:=k) (t:=t) (els:=stk t) hk ht0 ?_ (fun j hj hjl=>?_) rfl (by simp[stk,List.take_of_length_le]) ?_ ?_),_,_,rfl,rfl,_,_,rfl,⟨encOp o,rfl,_,_,rfl,rfl,_,_,rfl,rfl,_,_,rfl,rfl,_,_,rfl,rfl,rfl⟩,rfl⟩,rfl,faultI_ok hI s k o hk hs hoS,?_⟩
  ·conv=>lhs;whnf
   all_goals (
    refine congrArg some ?_
    repeat (refine xW ?_ (xN i0 i1 i2 s rfl))
    all_goals rfl)
  ·conv=>lhs;whnf
   all_goals (
    refine congrArg (fun x=>some (Ob.rs 175 6 x)) ?_
    repeat (first|exact rfl|refine lM ?_ rfl (fun _=>rfl)))
  ·refine Eq.trans (b:=fam0 s.ths k j) ?_ (by simp[fam0,nbeq_ne hj,zE,hjl])
   repeat (first|exact rfl|refine hscrO ?_ (vP _ _ _ _)|conv=>lhs;whnf)
  ·rfl
  ·rfl
  rintro r rfl
  refine⟨rfl,?_⟩
  conv=>whnf
  refine kbi (fun h6=>?_) (fun h6=>?_)
  ·have h6:¬ yG s k o=0:=by simpa using h6
   have hd:zS p s k=({ s with fault:=yG s k o },{ ev0 k t with kind:=12,obj:=yG s k o }):=by
    unfold zS;rw[hgd];simp[h4,hn,h6]
   conv=>whnf
   refine⟨_,Weak.refl,?_⟩
   conv=>whnf
   rw[hd]
   refine⟨vG,by rfl,?_⟩
   refine dQ hp3 (l:=s.ths) (t':=t) hk (by show s.ths=s.ths.set k t;rw[← ht0,List.set_getElem_self]) ?_ ?_ ?_ (fun j=>?_) ?_ ?_
   ·conv=>lhs;whnf
    refine congrArg some ?_
    repeat (refine xW ?_ (xN i0 i1 i2 { s with fault:=yG s k o } rfl))
    refine congrArg (Ob.vs E) (fault_vs (pre:=[x0,x1,x2]) ?_)
    repeat (refine hscrL ?_ (l5 i0 i1 i2 s rfl))
    all_goals rfl
   ·rfl
   ·conv=>lhs;whnf
    all_goals (
     refine congrArg (fun x=>some (Ob.rs 175 6 x)) ?_
     apply bZ
     ·repeat (first|exact rfl|apply jG hk|apply jF (fun _=>rfl))
     ·rfl)
   ·repeat (first|exact rfl|refine hscrO ?_ (vP _ _ _ _)|conv=>lhs;whnf)
   ·rfl
   ·rfl
  ·have h6:yG s k o=0:=by simpa using h6
   have hd:zS p s k=doL s k o (ev0 k t):=by
    unfold zS;rw[hgd];simp[h4,hn,h6]
   conv=>whnf
   refine .inr (.inl ⟨999,99,vG,_,doI_okA hI E x0 x1 x2 i0 i1 i2 s k o { ev0 k t with kind:=1 } hk h5 hs (by rw[ht0];exact hoF h6) (by rw[ht0];exact hpc) (by rw[ht0];exact hst3) rfl rfl (by rw[ht0];exact hfl) (by rw[ht0];exact hjo o hn h6) _ ?_ ?_ ?_ (fun j=>?_) ?_ ?_,rfl,?_⟩)
   ·conv=>lhs;whnf
    refine congrArg some ?_
    repeat (first|exact rfl|refine xW ?_ (xN i0 i1 i2 s rfl)|refine o8 ?_ (vs_ren hp3 s))
   ·rw[ht0]
    rfl
   ·rw[ht0]
    conv=>lhs;whnf
    refine congrArg some ?_
    repeat (first|exact rfl|refine xW ?_ (tK rfl (fun _=>rfl) _ _ _)|refine o8 ?_ (tL _ _ _))
   ·repeat (first|exact rfl|refine hscrO ?_ (vP _ _ _ _)|refine o7 ?_ (cX _ _ _ _)|conv=>lhs;whnf)
   ·rfl
   ·rfl
   rintro r H1 ⟨rfl,hk2,rfl⟩
   refine⟨stHA_none,?_,?_⟩
   ·intro n hn
    have:n=0:=by simpa[vG] using hn
    subst this
    exact⟨E,_,_,rfl,rfl⟩
   conv=>whnf
   refine⟨_,Weak.refl,?_⟩
   conv=>whnf
   rw[hd]
   refine⟨vG,by rfl,?_⟩
   refine dQ hp3 (l:=(doL s k o (ev0 k t)).1.ths) (t':=(doL s k o (ev0 k t)).1.ths[k]) hk2 (List.set_getElem_self _).symm ?_ ?_ ?_ (fun j=>?_) ?_ ?_
   ·conv=>lhs;whnf
    refine congrArg some ?_
    repeat (first|exact rfl|refine xW ?_ (xN i0 i1 i2 _ rfl)|refine o8 ?_ (vs_ren hp3 _))
   ·rfl
   ·conv=>lhs;whnf
    refine congrArg some ?_
    repeat (first|exact rfl|refine xW ?_ (tK rfl (fun _=>rfl) _ _ _)|refine o8 ?_ (tL _ _ _))
   ·refine Eq.trans (b:=fam0 (doL s k o (ev0 k t)).1.ths k j) ?_ rfl
    repeat (first|exact rfl|refine hscrO ?_ (vP _ _ _ _)|refine o7 ?_ (cX _ _ _ _)|conv=>lhs;whnf)
   ·rfl
   ·rfl
end Ai
namespace Ai
set_option maxRecDepth 100000
open Go Go.Proofs
theorem io_canon {E : TypeId} {pre : List AV} (hp : InertL pre) {s s' : StL} {k : Nat} {e' : Ev} {H0 : Key → Option Ob} {g : FuncId} {xs : List AV} (hk : k < s.ths.length) (hx : xs.map (ren (swp (.n 899) (.s 900 k))) = xs) (hH : AtC E pre s H0)
    (h : ∀ H0 : Key → Option Ob, H0 (.l 0) = some (.vs E (pre ++ stRef s)) → H0 (.n 899) = some (.ds 132 1 (stk s.ths[k])) → H0 (.n 900) = some (.rs 175 6 (rowsA s.ths k s.ths[k])) → (∀ j, H0 (.s 900 j) = fam0 s.ths k j) →
      H0 (.n 901) = some (.ds 132 1 (s.cells.map encF)) → H0 (.n 902) = some (.ds 3 1 (s.owner.map encInt)) → IOCall EE g xs H0 (doIPost E pre k s' e')) :
    IOCall EE g xs H0 (fun r H1 => r = agg (encEv e') ∧ H1 = stHC E pre s') := by
  obtain ⟨h0, h1, h2, h3, h4, h6⟩ := hH
  have eH : ∀ {κ κ' : Key} {ob : Ob}, swp (.n 899) (.s 900 k) κ = κ' → H0 κ' = some ob → swH (.n 899) (.s 900 k) H0 κ = some (renO (swp (.n 899) (.s 900 k)) ob) := fun e1 e2 => by simp [swH, e1, e2]
  have := h (swH (.n 899) (.s 900 k) H0)
    (by rw [eH (κ := .l 0) (κ' := .l 0) rfl h0]
        show some (Ob.vs E (renL _ (pre ++ stRef s))) = _
        rw [renL_app, inertL_ren hp, stRef_ren])
    (by rw [eH (κ := .n 899) (κ' := .s 900 k) rfl ((h3 k).trans (thFam_self hk))]; rfl)
    (by rw [eH (κ := .n 900) (κ' := .n 900) rfl h2]
        show some (Ob.rs 175 6 ((thRows 900 s.ths).map (renL (swp (.n 899) (.s 900 k))))) = _
        rw [rowsA_sw hk])
    (fun j => by
      by_cases hj : j = k
      · subst hj
        have e : swp (.n 899) (.s 900 j) (.s 900 j) = .n 899 := by simp [swp, Key.beq, nbeq_self]
        simp only [swH, e, h1, fam0, nbeq_self]; rfl
      · have e : swp (.n 899) (.s 900 k) (.s 900 j) = .s 900 j := by simp [swp, Key.beq, nbeq_ne hj]
        simp only [swH, e, h3, fam0, nbeq_ne hj]
        exact thFam_ren _ _ _)
    (by rw [eH (κ := .n 901) (κ' := .n 901) rfl h4]; rfl) (by rw [eH (κ := .n 902) (κ' := .n 902) rfl h6]; rfl)
  have := IOCall.sw (.n 899) (.s 900 k) (fun n h => by cases h) (fun n h => by cases h) this
  rw [swH_swH, hx] at this
  refine IOCall.mono this fun r H1 ⟨hr, hk', hh⟩ => ⟨?_, ?_⟩
  · have : ren (swp (.n 899) (.s 900 k)) (ren (swp (.n 899) (.s 900 k)) r) = ren (swp (.n 899) (.s 900 k)) (agg (encEv e')) := by rw [hr]
    rw [ren_ren] at this
    rw [this]; rfl
  · have : swH (.n 899) (.s 900 k) (swH (.n 899) (.s 900 k) H1) = swH (.n 899) (.s 900 k) (stHA E pre s' k s'.ths[k]) := by rw [hh]
    rw [swH_swH, swH_stHA hp] at this
    exact this
theorem j6 (f:Key→Key) (l:List D):ren f (agg l)=agg l:=by
 show AV.agg (renL f (l.map .d))=_
 have:∀ l:List D,renL f (l.map .d)=l.map .d:=by
  intro l
  induction l with
  |nil=>rfl
  |cons x xs ih=>simp only[List.map_cons,renL,ih];rfl
 rw[this];rfl
theorem stepI_ok (hI:xH) (E:TypeId) (x0 x1 x2:AV) (i0:Inert x0) (i1:Inert x1) (i2:Inert x2) (p:ProgL) (s:StL) (k:Nat) (hp:p.wf) (hk:k<s.ths.length) (h5:s.ths.length≤5)
  (hs:s.small) (hr:s.ths[k].ready p s k) (hst3:s.ths[k].st≠3) (hfl:∀ x∈s.ths[k].stack,x<18446744073709551616) (hjo:∀ o,yL p s.ths[k]=some o→yG s k o=0→o.code=15→∃ j,yY (xM s.ths[k] o 0) s.ths.length=some j∧yF s s.ths[k]=some j)
  (H0:Key→Option Ob) (hH:AtC E [x0,x1,x2] s H0) :
  IOCall EE 92 [.ptr (.l 0) 3,agg (encProg p),i64 k] H0 (fun r H1=>r=agg (encEv (zS p s k).2)∧H1=stHC E [x0,x1,x2] (zS p s k).1):=by
 have hp3:InertL [x0,x1,x2]:=by
  intro x hx
  simp only[List.mem_cons,List.not_mem_nil,or_false] at hx
  rcases hx with rfl|rfl|rfl <;> assumption
 refine io_canon hp3 hk ?_ hH fun H0 a b c d e f=>stepI_A hI E x0 x1 x2 i0 i1 i2 p s k hp hk h5 hs hr hst3 hfl hjo H0 a b c d e f
 simp only[List.map_cons,List.map_nil,j6]
 rfl
end Ai
namespace Ai
set_option maxRecDepth 100000
open Go Go.Proofs
structure RunI (p:ProgL) (Inv:StL→Prop):Prop where
 small:∀ s,Inv s→s.small∧s.ths.length≤5
 seen:∀ s,Inv s→∀ t∈s.ths,t.seen p s
 ready:∀ s,Inv s→∀ k,k∈zA p s→(h:k<s.ths.length)→s.ths[k].ready p s k
 awake:∀ s,Inv s→∀ k,k∈zA p s→(h:k<s.ths.length)→s.ths[k].st≠3
 flt:∀ s,Inv s→∀ t∈s.ths,∀ x∈t.stack,x<18446744073709551616
 joins:∀ s,Inv s→∀ k,k∈zA p s→(h:k<s.ths.length)→∀ o,yL p s.ths[k]=some o→yG s k o=0→o.code=15→∃ j,yY (xM s.ths[k] o 0) s.ths.length=some j∧yF s s.ths[k]=some j
 step:∀ s,Inv s→∀ k∈zA p s,Inv (zS p s k).1
def numA (k:Nat):Nat:=bif Nat.beq k 900 then 903 else bif Nat.beq k 903 then 900 else bif Nat.beq k 901 then 904 else bif Nat.beq k 904 then 901 else bif Nat.beq k 902 then 905 else bif Nat.beq k 905 then 902 else k
def numB (k:Nat):Nat:=bif Nat.beq k 12 then 901 else bif Nat.beq k 901 then 12 else bif Nat.beq k 13 then 902 else bif Nat.beq k 902 then 13 else k
theorem iG (k:Nat):numA (numA k)=k:=by
 by_cases h1:k=900
 ·subst h1;rfl
 by_cases h2:k=903
 ·subst h2;rfl
 by_cases h3:k=901
 ·subst h3;rfl
 by_cases h4:k=904
 ·subst h4;rfl
 by_cases h5:k=902
 ·subst h5;rfl
 by_cases h6:k=905
 ·subst h6;rfl
 simp[numA,nbeq_ne h1,nbeq_ne h2,nbeq_ne h3,nbeq_ne h4,nbeq_ne h5,nbeq_ne h6]
theorem iF (k:Nat):numB (numB k)=k:=by
 by_cases h1:k=12
 ·subst h1;rfl
 by_cases h2:k=901
 ·subst h2;rfl
 by_cases h3:k=13
 ·subst h3;rfl
 by_cases h4:k=902
 ·subst h4;rfl
 simp[numB,nbeq_ne h1,nbeq_ne h2,nbeq_ne h3,nbeq_ne h4]
def shN (g:Nat→Nat):Key→Key
 | .n k=>.n (g k)
 | .s o j=>.s (g o) j
 | .l k=>.l k
def r8 (g:Nat→Nat) (hg:∀ k,g (g k)=k):Sh:=⟨⟨shN g,fun κ=>by cases κ <;> simp[shN,hg]⟩,fun _=>rfl⟩
def shA:Sh:=r8 numA iG
def shB:Sh:=r8 numB iF
theorem nS (o:Nat) (l:List Th) (i:Nat):(thRows o l)[i]?=(l[i]?).map (thRow o i):=by
 by_cases h:i<l.length
 ·rw[yO h,List.getElem?_eq_getElem h];rfl
 ·rw[List.getElem?_eq_none (by rw[zP];omega),List.getElem?_eq_none (by omega)];rfl
theorem eK {g:Nat→Nat} {hg:∀ k,g (g k)=k} (o:Nat) (l:List Th):(thRows o l).map (renL (r8 g hg).f)=thRows (g o) l:=by
 apply List.ext_getElem?
 intro i
 rw[List.getElem?_map,nS,nS]
 cases l[i]? <;> rfl
theorem fz_run {S:St} {s:StL} {x0 x1 x2:AV} (h8:S.H (.n 8)=some (.vs 56 ([x0,x1,x2]++stRef s))) (h:StAt 900 s S):FzA S (.ptr (.n 8) (0+3)) (.fp (yT s)) :=
 FzA_ptr h8 (fz_st h rfl rfl rfl)
theorem sP {S:St} (p:ProgL):FzA S (agg (encProg p)) (agg (encProg p)):=⟨encProg p,rfl,_,_,rfl,rfl,_,_,rfl,rfl,_,_,rfl,rfl,_,_,rfl,rfl,rfl⟩
theorem ownSt_flat (s:StL):nN (.own (jB s)):=by
 intro c hc
 simp only[jB,List.mem_cons,List.not_mem_nil,or_false] at hc
 rcases hc with rfl|rfl|rfl|rfl
 ·refine⟨fun c hc=>?_,fun q hq c hc=>?_⟩
  ·obtain⟨t,_,rfl⟩:=List.mem_map.1 hc;rfl
  ·obtain⟨t,_,rfl⟩:=List.mem_map.1 hq
   obtain⟨y,_,rfl⟩:=List.mem_map.1 hc;rfl
 ·intro c hc
  obtain⟨y,_,rfl⟩:=List.mem_map.1 hc;rfl
 ·intro c hc
  obtain⟨y,_,rfl⟩:=List.mem_map.1 hc;rfl
 ·rfl
end Ai
namespace Ai
set_option maxRecDepth 100000
open Go Go.Proofs
def lO (n:Nat):Code→Option (Array Oper)
 | .region i ops _=>bif Nat.beq i n then some ops else none
 | .seq a b=>match lO n a with|some x=>some x|none=>lO n b
 | .cond _ a b=>match lO n a with|some x=>some x|none=>lO n b
 | .block _ a=>lO n a
 | .loop a=>lO n a
 | _=>none
noncomputable def ops13:Array Oper:=(lO 13 (Tryz.f160.body.getD .skip)).getD #[]
theorem iU (v:Value):Inert (.lit v):=⟨fun _=>rfl,fun _=>rfl,fun _ _=>rfl⟩
theorem inert_d (x:D):Inert (.d x):=⟨fun _=>rfl,fun _=>rfl,fun _ _=>rfl⟩
theorem litB13 (a b:AV) (s1:StL) (lam:Nat→Value):LitB [a,b] lam ([i64 0,a,b]++stRef s1) ([i64 0,.lit (lam 0),.lit (lam 1)]++stRef s1) :=
 ⟨_,_,rfl,.inl rfl,_,_,rfl,.inr ⟨0,rfl,rfl⟩,_,_,rfl,.inr ⟨1,rfl,rfl⟩,_,_,rfl,.inl rfl,_,_,rfl,.inl rfl,_,_,rfl,.inl rfl,_,_,rfl,.inl rfl,rfl⟩
theorem litC13 (K:Key→Bool) (a b:AV) (s:StL) (hs:scrPL (fun o=>!K o) (stRef s)=stRef s) (lam:Nat→Value):LitC K [a,b] lam ([i64 0,a,b]++stRef s) ([i64 0,.lit (lam 0),.lit (lam 1)]++stRef s):=by
 simp only[stRef,scrPL,List.cons.injEq] at hs
 exact⟨_,_,rfl,.inl rfl,_,_,rfl,.inr ⟨0,rfl,rfl⟩,_,_,rfl,.inr ⟨1,rfl,rfl⟩,_,_,rfl,.inl hs.1.symm,_,_,rfl,.inl hs.2.1.symm,_,_,rfl,.inl hs.2.2.1.symm,_,_,rfl,.inl rfl,rfl⟩
def xT:Key→Bool
 | .n k=>Nat.beq k 900 || Nat.beq k 901 || Nat.beq k 902
 | .s o _=>Nat.beq o 900
 | .l k=>Nat.beq k 0
theorem stHC_none {E:TypeId} {pre:List AV} {s:StL}:∀ κ,xT κ=false→stHC E pre s κ=none
 | .l j,h=>by have h:Nat.beq j 0=false:=h;simp[stHC,h]
 | .n j,h=>by
  have h:(Nat.beq j 900 || Nat.beq j 901 || Nat.beq j 902)=false:=h
  simp only[Bool.or_eq_false_iff] at h
  simp[stHC,h.1.1,h.1.2,h.2]
 | .s o j,h=>by have h:Nat.beq o 900=false:=h;simp[stHC,h]
end Ai
namespace Ai
set_option maxRecDepth 100000
open Go Go.Proofs Ieee
theorem order_symm {x y:Nat}:double.order x y=some .eq↔double.order y x=some .eq:=by
 have key:∀ {x y:Nat},double.order x y=some .eq→double.order y x=some .eq:=by
  intro x y h
  unfold Format.order at *
  cases hx:double.read x with
  |nan s f=>rw[hx] at h;cases h
  |infinity s =>
   cases hy:double.read y with
   |nan t f=>rw[hx,hy] at h;cases h
   |infinity t=>rw[hx,hy] at h;cases s <;> cases t <;> first|rfl|cases h
   |number t n i=>rw[hx,hy] at h;cases s <;> cases h
  |number s m e =>
   cases hy:double.read y with
   |nan t f=>rw[hx,hy] at h;cases h
   |infinity t=>rw[hx,hy] at h;cases t <;> cases h
   |number t n i =>
    rw[hx,hy] at h
    simp only[Datum.order,Option.some.injEq] at h ⊢
    have h:=Std.LawfulEqCmp.eq_of_compare h
    rw[Int.min_comm i e,h]
    exact Std.ReflCmp.compare_self
 exact⟨key,key⟩
theorem eql_symm {x y:Nat}:fcmp .eql x y=fcmp .eql y x:=by
 have:∀ a b:Nat,fcmp .eql a b=true↔double.order a b=some .eq:=fun a b=>by simp[fcmp]
 rw[Bool.eq_iff_iff,this,this]
 exact order_symm
theorem near_cut:(List.range 1001).all (fun q=>canon (double.nearest false q 0)==FloatKind.f64.nearest (q:Int))=true:=by decide +kernel
theorem near_cut' {q:Nat} (h:q≤1000):canon (double.nearest false q 0)=FloatKind.f64.nearest (q:Int):=by
 have:=near_cut
 simp only[List.all_eq_true,List.mem_range,beq_iff_eq] at this
 exact this q (by omega)
theorem inI56_ok (n lo hi:Int):CallsTo EE 86 [i64 n,i64 lo,i64 hi] (·=bp (InR n lo hi)):=by
 refine callsTo_of_AW (fn:=Tryz.f86) Tryz.func86 rfl (by kernel_rfl) rfl ?_
 conv=>whnf
 repeat' (refine kbi (fun h=>?_) (fun h=>?_) <;> first|contradiction|conv=>whnf)
 all_goals simp only[decide_eq_true_eq] at *
 all_goals first|exact bpt (by unfold InR;omega)|exact bpf (by unfold InR;omega)
theorem cG {x:Nat} {many n:Int} (h1:1≤many∧many≤1000) (hx0:fcmp .lss x 0=false) (hxm:fcmp .lss x (FloatKind.f64.nearest many)=true) (hn:floatToIntVal .f64 x .i64=some n) (hr:0≤n∧n<many) :
  (wK x=2∨wK x=3)↔fcmp .eql (FloatKind.f64.nearest n) x=true:=by
 have hdec:FloatKind.f64.decode x=double.read x:=rfl
 unfold floatToIntVal at hn
 rw[hdec] at hn
 have z0:FloatKind.f64.nearest 0=0:=by decide
 unfold wK
 cases hd:double.read x with
 |nan s f =>
  rw[hd] at hn;cases hn
 |infinity s=>rw[hd] at hn;cases hn
 |number s m i =>
  have hnan:¬ zT x=true:=by unfold zT;rw[hd];simp[Datum.isNaN]
  rw[if_neg hnan]
  rw[hd] at hn
  simp only[Datum.toInt,Datum.integral] at hn
  simp only
  have hcut0:m=0→Toward.cut .zero s (m <<< i.toNat) (-i).toNat=0:=by
   rintro rfl
   rw[cZ];simp
  by_cases e0:fcmp .eql x 0=true
  ·rw[if_pos e0]
   have hm:m=0:=by
    have o:double.order x 0=some .eq:=by simpa[fcmp] using e0
    unfold Format.order at o
    rw[hd,gJ] at o
    simp only[Datum.order,Option.some.injEq] at o
    have o:=Std.LawfulEqCmp.eq_of_compare o
    simp only[signed,Nat.shiftLeft_eq] at o
    have:0<2 ^ (i - min i double.leastPlace).toNat:=Nat.pow_pos (by decide)
    have o2:m*2 ^ (i - min i double.leastPlace).toNat=0:=by
     simp only[Nat.zero_mul] at o
     generalize m*2 ^ (i - min i double.leastPlace).toNat=u at o ⊢
     cases s <;> simp at o <;> omega
    rcases Nat.mul_eq_zero.1 o2 with e|e
    ·exact e
    ·omega
   have hn0:n=0:=by
    rw[hcut0 hm] at hn
    split at hn
    ·simp only[Option.some.injEq] at hn
     rw[← hn]
     cases s <;> rfl
    ·cases hn
   subst hn0
   rw[z0,eql_symm,e0]
   simp
  ·rw[if_neg e0]
   have hs:s=false:=by
    cases s with
    |false=>rfl
    |true =>
     exfalso
     have o:double.order x 0≠some .lt:=by simpa[fcmp] using hx0
     have o2:double.order x 0≠some .eq:=by simpa[fcmp] using e0
     unfold Format.order at o o2
     rw[hd,gJ] at o o2
     simp only[Datum.order,Option.some.injEq,ne_eq] at o o2
     rw[cmp_lt] at o
     simp only[signed,if_true,Nat.shiftLeft_eq,Nat.zero_mul] at o o2
     by_cases hm:m=0
     ·subst hm;simp at o2;try exact o2 rfl
     ·have:0<m*2 ^ (i - min i double.leastPlace).toNat:=Nat.mul_pos (by omega) (Nat.pow_pos (by decide))
      generalize m*2 ^ (i - min i double.leastPlace).toNat=u at o o2 this
      simp at o
      omega
   subst hs
   generalize hq:Toward.cut .zero false (m <<< i.toNat) (-i).toNat=q at *
   have hnq:n=(q:Int):=by
    split at hn
    ·simp only[Option.some.injEq] at hn
     rw[← hn]
     show((q <<< 0:Nat):Int)=q
     rw[Nat.shiftLeft_zero]
    ·cases hn
   have ht:lI x=FloatKind.f64.nearest n:=by
    unfold lI
    rw[hd]
    simp only[Datum.integral,hq,Format.write]
    rw[hnq,near_cut' (by omega)]
   rw[ht,eql_symm]
   by_cases h:fcmp .eql (FloatKind.f64.nearest n) x=true
   ·rw[if_pos h];simp[h]
   ·rw[if_neg h];simp[h]
theorem i5 {x:Nat} (h:wK x=2∨wK x=3):zT x=false:=by
 cases hn:zT x with
 |false=>rfl
 |true =>
  exfalso
  have:wK x=0:=by unfold wK;rw[if_pos hn]
  omega
theorem geq_lss {x y:Nat} (h:fcmp .geq x y=true) (e:fcmp .lss x y=true):False:=by
 have h:(double.order x y==some .gt || double.order x y==some .eq)=true:=h
 have e:(double.order x y==some .lt)=true:=e
 simp only[Bool.or_eq_true,beq_iff_eq] at h e
 rw[e] at h
 rcases h with h|h <;> cases h
theorem rM {x:Nat} {many:Int} (h1:InR many 1 1000) (hn:zT x=false) (h:fcmp .geq x (FloatKind.f64.nearest many)=false):fcmp .lss x (FloatKind.f64.nearest many)=true:=by
 obtain⟨b,rfl⟩:∃ b:Nat,many=(b:Int):=⟨many.toNat,by have:=h1.1;omega⟩
 obtain⟨k,hk⟩:=iI (m:=b) (by have:=h1.1;omega) (by have:=h1.2;omega)
 have h:(double.order x (FloatKind.f64.nearest (b:Int))==some .gt || double.order x (FloatKind.f64.nearest (b:Int))==some .eq)=false:=h
 show(double.order x (FloatKind.f64.nearest (b:Int))==some .lt)=true
 obtain⟨c,hc⟩:∃ c,double.order x (FloatKind.f64.nearest (b:Int))=some c:=by
  unfold Format.order
  rw[hk]
  unfold zT at hn
  cases hd:double.read x with
  |nan s f=>rw[hd] at hn;cases hn
  |infinity s=>exact⟨_,rfl⟩
  |number s m e=>exact⟨_,rfl⟩
 rw[hc] at h ⊢
 cases c with
 |lt=>rfl
 |eq=>cases h
 |gt=>cases h
theorem idx_none {x:Nat} {many:Int} (hk:¬ (wK x=2∨wK x=3)):yY x many=none:=by
 unfold yY
 split
 ·rename_i hc
  obtain⟨n,g1,g2,g3⟩:=nF x many hc.1.1 hc.1.2 hc.2.1 hc.2.2
  rw[g1]
  simp only
  rw[if_neg]
  intro e
  exact hk ((cG hc.1 hc.2.1 hc.2.2 g1 ⟨g2,g3⟩).2 e)
 ·rfl
theorem toIndexI:xH:=by
 intro x many
 refine callsTo_of_AW (fn:=Tryz.f221) Tryz.func221 rfl (by kernel_rfl) rfl ?_
 conv=>whnf
 refine⟨_,oO x,?_⟩
 rintro r rfl
 conv=>whnf
 refine ocase (inI56_ok _ _ _) (fun h1=>?_) (fun h1=>?_)
 ·conv=>whnf
  refine kbi (fun k2=>?_) (fun k2=>?_)
  ·have k2:¬ wK x=2:=by simpa using k2
   conv=>whnf
   refine kbi (fun k3=>?_) (fun k3=>?_)
   ·have k3:¬ wK x=3:=by simpa using k3
    conv=>whnf
    rw[idx_none (by omega)]
    rfl
   have hk:wK x=2∨wK x=3:=.inr (by simpa using k3)
   conv=>whnf
   refine kbi (fun hx0=>?_) (fun hx0=>?_)
   ·have hx0:fcmp .lss x 0=true:=hx0
    conv=>whnf
    rw[show yY x many=none by unfold yY;rw[if_neg];rintro⟨_,e,_⟩;rw[hx0] at e;cases e]
    rfl
   have hx0:fcmp .lss x 0=false:=by
    have hx0:¬ fcmp .lss x 0=true:=hx0
    simpa using hx0
   conv=>whnf
   refine kbi (fun hg=>?_) (fun hg=>?_)
   ·have hg:fcmp .geq x (FloatKind.f64.nearest many)=true:=hg
    conv=>whnf
    rw[show yY x many=none by unfold yY;rw[if_neg];rintro⟨_,_,e⟩;exact geq_lss hg e]
    rfl
   have hg:fcmp .geq x (FloatKind.f64.nearest many)=false:=by
    have hg:¬ fcmp .geq x (FloatKind.f64.nearest many)=true:=hg
    simpa using hg
   have hxm:=rM h1 (i5 hk) hg
   obtain⟨n,g1,g2,g3⟩:=nF x many h1.1 h1.2 hx0 hxm
   have he:=(cG h1 hx0 hxm g1 ⟨g2,g3⟩).1 hk
   conv=>whnf
   refine⟨n,g1,?_⟩
   conv=>whnf
   rw[show yY x many=some n by unfold yY;rw[if_pos ⟨h1,hx0,hxm⟩,g1];simp only;rw[if_pos he]]
   rfl
  ·have hk:wK x=2∨wK x=3:=.inl (by simpa using k2)
   conv=>whnf
   refine kbi (fun hx0=>?_) (fun hx0=>?_)
   ·have hx0:fcmp .lss x 0=true:=hx0
    conv=>whnf
    rw[show yY x many=none by unfold yY;rw[if_neg];rintro⟨_,e,_⟩;rw[hx0] at e;cases e]
    rfl
   have hx0:fcmp .lss x 0=false:=by
    have hx0:¬ fcmp .lss x 0=true:=hx0
    simpa using hx0
   conv=>whnf
   refine kbi (fun hg=>?_) (fun hg=>?_)
   ·have hg:fcmp .geq x (FloatKind.f64.nearest many)=true:=hg
    conv=>whnf
    rw[show yY x many=none by unfold yY;rw[if_neg];rintro⟨_,_,e⟩;exact geq_lss hg e]
    rfl
   have hg:fcmp .geq x (FloatKind.f64.nearest many)=false:=by
    have hg:¬ fcmp .geq x (FloatKind.f64.nearest many)=true:=hg
    simpa using hg
   have hxm:=rM h1 (i5 hk) hg
   obtain⟨n,g1,g2,g3⟩:=nF x many h1.1 h1.2 hx0 hxm
   have he:=(cG h1 hx0 hxm g1 ⟨g2,g3⟩).1 hk
   conv=>whnf
   refine⟨n,g1,?_⟩
   conv=>whnf
   rw[show yY x many=some n by unfold yY;rw[if_pos ⟨h1,hx0,hxm⟩,g1];simp only;rw[if_pos he]]
   rfl
 ·conv=>whnf
  rw[show yY x many=none by unfold yY;rw[if_neg];rintro⟨e,_⟩;exact h1 e]
  rfl
end Ai
namespace Ai
set_option maxRecDepth 100000
open Go Go.Proofs Ieee
def F64 (x:Nat):Prop:=x<18446744073709551616
theorem r6 (s:Bool) (m:Nat) (i:Int):F64 (double.nearest s m i):=by
 unfold F64 Format.nearest
 have e1:double.signWeight=9223372036854775808:=by decide
 have e2:double.infRung=9218868437227405312:=by decide
 split
 ·unfold Format.word;rw[e1];split <;> omega
 ·unfold Format.word
  rw[e1,e2]
  simp only
  generalize (max (i+↑m.log2 - ↑double.fractionBits) double.leastPlace - double.leastPlace).toNat*double.binade+Toward.even.cut s (m <<< (i - max (i+↑m.log2 - ↑double.fractionBits) double.leastPlace).toNat) (max (i+↑m.log2 - ↑double.fractionBits) double.leastPlace - i).toNat=r
  split <;> omega
theorem eE (d:Datum):F64 (double.write d):=by
 cases d with
 |number s m i=>exact r6 s m i
 |infinity s=>unfold F64 Format.write Format.word;cases s <;> decide
 |nan s f =>
  show(if s=true then double.signWeight+(double.infRung+f % double.binade) else double.infRung+f % double.binade)<18446744073709551616
  rw[show double.signWeight=9223372036854775808 by decide,show double.infRung=9218868437227405312 by decide,show double.binade=4503599627370496 by decide]
  split <;> omega
theorem nearN_f64 (n:Int):F64 (FloatKind.f64.nearest n):=eE (.number (n<0) n.natAbs 0)
theorem fop_f64 (op:BinOp) (x y:Nat):F64 (fop op x y):=by
 have hn:F64 nanC:=by unfold F64;decide
 have key:∀ o:Option Datum,F64 ((o.map double.write).getD nanC):=by
  intro o
  cases o with
  |none=>exact hn
  |some d=>exact eE d
 unfold fop floatBits
 cases op <;> first|exact hn|exact key _
theorem reckon_f64 (c:Int) (x y:Nat):F64 (yX c x y):=by
 unfold yX
 repeat' split
 all_goals first|exact fop_f64 _ _ _|(unfold F64 oneF;decide)|(unfold F64;decide)
def StL.flt (s:StL):Prop:=(∀ c∈s.cells,F64 c)∧∀ t∈s.ths,∀ x∈t.stack,F64 x
theorem vD {s:StL} {k:Nat} {t:Th} (h:s.flt) (ht:∀ x∈t.stack,F64 x):(s.put k t).flt:=by
 refine⟨h.1,fun u hu=>?_⟩
 rcases List.mem_or_eq_of_mem_set hu with e|e
 ·exact h.2 u e
 ·subst e;exact ht
theorem topN_f64 {t:Th} {o:OpL} {i:Nat} (h:∀ x∈t.stack,F64 x):F64 (xM t o i):=oT h
theorem flt_do {s:StL} {k:Nat} {o:OpL} {e:Ev} (hk:k<s.ths.length) (h:s.flt) (ho:F64 o.v):(doL s k o e).1.flt:=by
 have hgd:s.ths.getD k th0=s.ths[k]:=by simp[List.getD_eq_getElem?_getD,hk]
 have ht:=h.2 _ (List.getElem_mem hk)
 generalize s.ths[k]=t at *
 unfold doL
 simp only[hgd]
 have hpop:∀ x∈(zG t o).stack,F64 x:=fun x hx=>ht x (List.mem_of_mem_take hx)
 have hpush:∀ v,F64 v→∀ x∈(zU (zG t o) v).stack,F64 x:=by
  intro v hv x hx
  rcases List.mem_append.1 hx with e|e
  ·exact hpop x e
  ·simp only[List.mem_cons,List.not_mem_nil,or_false] at e
   subst e;exact hv
 by_cases n1:o.code=1
 ·rw[if_pos n1];exact vD h (hpush _ ho)
 rw[if_neg n1]
 by_cases n2:o.code=2
 ·rw[if_pos n2]
  refine vD h (hpush _ ?_)
  rw[List.getD_eq_getElem?_getD]
  cases hg:s.cells[o.a.toNat]? with
  |none=>unfold F64;decide
  |some c=>exact h.1 c (List.mem_of_getElem? hg)
 rw[if_neg n2]
 by_cases n3:o.code=3
 ·rw[if_pos n3]
  refine vD ⟨fun c hc=>?_,h.2⟩ hpop
  rcases List.mem_or_eq_of_mem_set hc with e|e
  ·exact h.1 c e
  ·subst e;exact topN_f64 ht
 rw[if_neg n3]
 by_cases n10:o.code=10
 ·rw[if_pos n10];exact vD h hpop
 rw[if_neg n10]
 by_cases n11:o.code=11
 ·rw[if_pos n11]
  refine vD h ?_
  split
  ·exact hpop
  ·exact hpop
 rw[if_neg n11]
 by_cases n12:o.code=12
 ·rw[if_pos n12];exact vD (s:={ s with owner:=_ }) h hpop
 rw[if_neg n12]
 by_cases n13:o.code=13
 ·rw[if_pos n13];exact vD (s:={ s with owner:=_ }) h hpop
 rw[if_neg n13]
 by_cases n14:o.code=14
 ·rw[if_pos n14]
  refine vD (s:={ s with ths:=_ }) ⟨h.1,fun u hu=>?_⟩ (hpush _ (nearN_f64 _))
  rcases List.mem_append.1 hu with e|e
  ·exact h.2 u e
  ·simp only[List.mem_cons,List.not_mem_nil,or_false] at e
   subst e;intro x hx;cases hx
 rw[if_neg n14]
 by_cases n15:o.code=15
 ·rw[if_pos n15];exact vD h hpop
 rw[if_neg n15]
 by_cases n16:o.code=16
 ·rw[if_pos n16];exact vD (s:={ s with owner:=_ }) h hpop
 rw[if_neg n16]
 by_cases n17:o.code=17
 ·rw[if_pos n17]
  cases vL s.ths o.a with
  |none=>exact vD h hpop
  |some j =>
   refine vD (s:={ s with ths:=_ }) ⟨h.1,fun u hu=>?_⟩ hpop
   obtain⟨i,hi,rfl⟩:=List.mem_iff_getElem.1 hu
   have hil:i<s.ths.length:=by simpa using hi
   have:=h.2 _ (List.getElem_mem hil)
   rw[List.getElem_modify]
   split
   ·exact this
   ·exact this
 rw[if_neg n17]
 exact vD h (hpush _ (reckon_f64 _ _ _))
theorem flt_step {p:ProgL} (hv:p.flt) {s:StL} {k:Nat} (hk:k<s.ths.length) (h:s.flt):(zS p s k).1.flt:=by
 have hgd:s.ths.getD k th0=s.ths[k]:=by simp[List.getD_eq_getElem?_getD,hk]
 have ht:=h.2 _ (List.getElem_mem hk)
 unfold zS
 simp only[hgd]
 split
 ·exact vD (s:={ s with owner:=_ }) h ht
 ·split
  ·exact vD h ht
  ·rename_i o hn
   split
   ·refine flt_do hk h ?_
    unfold yL at hn
    by_cases hr:s.ths[k].rt.toNat<p.rs.length
    ·have e:p.rs.getD s.ths[k].rt.toNat []=p.rs[s.ths[k].rt.toNat]:=by rw[List.getD_eq_getElem?_getD,List.getElem?_eq_getElem hr];rfl
     rw[e] at hn
     exact hv _ (List.getElem_mem hr) o (List.mem_of_getElem? hn)
    ·have e:p.rs.getD s.ths[k].rt.toNat []=[]:=by rw[List.getD_eq_getElem?_getD,List.getElem?_eq_none (by omega)];rfl
     rw[e] at hn
     simp at hn
   ·exact h
theorem flt_new (p:ProgL):(xR p).flt:=by
 refine⟨fun c hc=>?_,fun t ht=>?_⟩
 ·obtain⟨_,rfl⟩:=List.mem_replicate.1 hc
  unfold F64;decide
 ·have:t=kB 0:=by simpa[xR] using ht
  subst this
  intro x hx;cases hx
theorem goes_st {p:ProgL} {s:StL} {k:Nat} (h:k∈zA p s) (hk:k<s.ths.length):s.ths[k].st=1∨s.ths[k].st=4:=by
 have:=(List.mem_filter.1 h).2
 unfold qO at this
 have this:=of_decide_eq_true this
 simp only[List.getD_eq_getElem?_getD,List.getElem?_eq_getElem hk,Option.getD_some] at this
 exact this.2.1
theorem joins_top {s:StL} {k:Nat} {o:OpL} (hk:k<s.ths.length) (hf:yG s k o=0) (h15:o.code=15):∃ j,yY (xM s.ths[k] o 0) s.ths.length=some j∧yF s s.ths[k]=some j:=by
 have hgd:s.ths.getD k th0=s.ths[k]:=by simp[List.getD_eq_getElem?_getD,hk]
 unfold yG at hf
 simp only[hgd] at hf
 generalize s.ths[k]=t at *
 have ht:zC o.code=(1,0):=by rw[h15];decide
 rw[ht] at hf
 simp only at hf
 split at hf
 ·cases hf
 rename_i h1
 have hl:1≤t.stack.length:=by
  have:=fun e=>h1 (.inl e)
  omega
 split at hf
 ·cases hf
 split at hf
 ·cases hf
 rename_i h3
 have hj:¬ (yF s t).getD (-1)<0:=fun e=>h3 ⟨h15,e⟩
 have hkn:yI t o=t.stack.length - 1:=by simp[yI,wW,ht]
 have htop:t.stack.getLast?=some (xM t o 0):=by
  unfold xM
  rw[hkn,List.getLast?_eq_getElem?,List.getD_eq_getElem?_getD,List.getElem?_drop]
  rw[Nat.add_zero,List.getElem?_eq_getElem (by omega)]
  rfl
 unfold yF at hj ⊢
 rw[htop] at hj ⊢
 simp only[Option.bind_some] at hj ⊢
 cases hi:yY (xM t o 0) s.ths.length with
 |none=>rw[hi] at hj;exact absurd (by decide) hj
 |some j=>exact⟨j,rfl,rfl⟩
theorem runI {p:ProgL} (hg:p.goodS) (hv:p.flt):RunI p (fun s=>SInv p s∧s.flt):={
 small:=fun s h=>(eR hg).small s h.1
 seen:=fun s h=>(eR hg).seen s h.1
 ready:=fun s h=>(eR hg).ready s h.1
 awake:=fun s h k hk hl=>by
  have:=goes_st hk hl
  omega
 flt:=fun s h=>h.2.2
 joins:=fun s h k hk hl o hn hf h15=>joins_top hl hf h15
 step:=fun s h k hk=>by
  have:k<s.ths.length:=by have:=(List.mem_filter.1 hk).1;simpa using this
  exact⟨(eR hg).step s h.1 k hk,flt_step hv this h.2⟩ }
end Ai
namespace Ai.Cyc
structure BS where
 out:List Nat
 queue:List Nat
 far:List (Nat × Nat)
deriving DecidableEq
def setF (l:List (Nat × Nat)) (k v:Nat):List (Nat × Nat):=if l.any (fun p=>p.1==k)=true then l.map (fun p=>if p.1==k then (k,v) else p) else l++[(k,v)]
def getF (l:List (Nat × Nat)) (k:Nat):Nat:=((l.find? fun p=>p.1==k).map (·.2)).getD 0
def bsE (goal cur:Nat) (st:BS) (e:Nat × Nat):BS :=
 if (e.2 != cur || decide (0<st.out.getD e.1 0))=true then st
 else if (e.1 != goal)=true then ⟨st.out.set e.1 (getF st.far cur+1),st.queue++[e.1],setF st.far e.1 (getF st.far cur+1)⟩
 else ⟨st.out.set e.1 (getF st.far cur+1),st.queue,st.far⟩
def bs0 (goal:Nat):BS:=⟨List.replicate 100 0,[goal],[(goal,0)]⟩
def aC (goal:Nat) (edges:List (Nat × Nat)):Nat→Nat→BS→Option BS
 | 0,_,_=>none
 |f+1,i,st=>if i<st.queue.length then aC goal edges f (i+1) (edges.foldl (bsE goal (st.queue.getD i 0)) st) else some st
def nextI (edges:List (Nat × Nat)) (far:List Nat) (n at_ left:Nat):Nat :=
 edges.foldl (fun nx e=>if (e.1==at_&&e.2 != n&&far.getD e.2 0==left)=true then min nx e.2 else nx) 100
def wayI (edges:List (Nat × Nat)) (far:List Nat) (n:Nat):Nat→List Nat→Nat→List Nat
 | 0,out,_=>out
 |left+1,out,at_=>wayI edges far n left (out++[nextI edges far n at_ (left+1)]) (nextI edges far n at_ (left+1))
def cycI (edges:List (Nat × Nat)) (n:Nat):Option (List Nat) :=
 match aC n edges 7 0 (bs0 n) with
 |none=>none
 |some st=>if st.out.getD n 0=0 then some [] else some (wayI edges st.out n (st.out.getD n 0 - 1) [n] n)
def wayS (edges:List (Nat × Nat)) (to:Nat):Nat→Nat→List (List Nat)→List Nat→Option (List Nat)
 | 0,_,_,_=>none
 |f+1,i,ways,seen =>
  if i<ways.length then
   match edges.find? (fun e=>e.1==(ways.getD i []).getLastD 0) with
   |none=>wayS edges to f (i+1) ways seen
   |some e=>if e.2=to then some (ways.getD i []) else if seen.contains e.2=true then wayS edges to f (i+1) ways seen
     else wayS edges to f (i+1) (ways++[ways.getD i []++[e.2]]) (seen++[e.2])
  else some []
def cycS (edges:List (Nat × Nat)) (n:Nat):Option (List Nat):=wayS edges n 8 0 [[n]] []
def opts:List (Option Nat):=[none,some 0,some 1,some 2,some 3,some 4]
def ed (k:Nat) (o:Option Nat):List (Nat × Nat):=match o with|some b=>[(k,b)]|none=>[]
def ok (edges:List (Nat × Nat)):Bool:=(List.range 5).all fun n=>(cycI edges n).isSome&&cycI edges n==cycS edges n
def bJ (a:Option Nat):Bool:=opts.all fun b=>opts.all fun c=>opts.all fun d=>opts.all fun e=>ok (ed 0 a++ed 1 b++ed 2 c++ed 3 d++ed 4 e)
theorem okN:bJ none=true:=by decide +kernel
theorem ok0:bJ (some 0)=true:=by decide +kernel
theorem ok1:bJ (some 1)=true:=by decide +kernel
theorem ok2:bJ (some 2)=true:=by decide +kernel
theorem ok3:bJ (some 3)=true:=by decide +kernel
theorem ok4:bJ (some 4)=true:=by decide +kernel
theorem ok_all (a b c d e:Option Nat) (ha:a∈opts) (hb:b∈opts) (hc:c∈opts) (hd:d∈opts) (he:e∈opts):ok (ed 0 a++ed 1 b++ed 2 c++ed 3 d++ed 4 e)=true:=by
 have h:bJ a=true:=by
  simp only[opts,List.mem_cons,List.not_mem_nil,or_false] at ha
  rcases ha with rfl|rfl|rfl|rfl|rfl|rfl
  ·exact okN
  ·exact ok0
  ·exact ok1
  ·exact ok2
  ·exact ok3
  ·exact ok4
 simp only[bJ,List.all_eq_true] at h
 exact h b hb c hc d hd e he
end Ai.Cyc
namespace Ai.Cyc
theorem iZ {goal cur:Nat}:∀ (es:List (Nat × Nat)) (st:BS),(∀ e∈es,e.2≠cur)→es.foldl (bsE goal cur) st=st
 | [],st,h=>rfl
 |e::es,st,h=>by
  have:bsE goal cur st e=st:=by
   unfold bsE
   rw[if_pos (by rw[Bool.or_eq_true];exact .inl (bne_iff_ne.2 (h e List.mem_cons_self)))]
  rw[List.foldl_cons,this]
  exact iZ es st fun x hx=>h x (List.mem_cons_of_mem _ hx)
theorem run_far {n:Nat} {edges:List (Nat × Nat)} (h:∀ e∈edges,e.2≠n):aC n edges 7 0 (bs0 n)=some (bs0 n):=by
 unfold aC
 rw[if_pos (by simp[bs0])]
 rw[show(bs0 n).queue.getD 0 0=n from rfl,iZ edges _ h]
 unfold aC
 rw[if_neg (by simp[bs0])]
theorem cycI_far {n:Nat} {edges:List (Nat × Nat)} (h:∀ e∈edges,e.2≠n):cycI edges n=some []:=by
 unfold cycI
 rw[run_far h]
 have:(bs0 n).out.getD n 0=0:=by
  simp only[bs0,List.getD_eq_getElem?_getD,List.getElem?_replicate]
  split <;> rfl
 show(if (bs0 n).out.getD n 0=0 then some [] else _)=_
 rw[if_pos this]
theorem cycS_far {n:Nat} {edges:List (Nat × Nat)} (h:∀ e∈edges,e.1≠n):cycS edges n=some []:=by
 have hf:edges.find? (fun e=>e.1==n)=none:=by
  rw[List.find?_eq_none]
  intro e he
  simpa using h e he
 unfold cycS wayS
 rw[if_pos (by simp)]
 have:(([[n]]:List (List Nat)).getD 0 []).getLastD 0=n:=rfl
 rw[this,hf]
 unfold wayS
 rw[if_neg (by simp)]
structure Graph (edges:List (Nat × Nat)):Prop where
 g:∃ a b c d e:Option Nat,(a∈opts∧b∈opts∧c∈opts∧d∈opts∧e∈opts)∧edges=ed 0 a++ed 1 b++ed 2 c++ed 3 d++ed 4 e
theorem ed_in {k:Nat} {o:Option Nat} (ho:o∈opts) (hk:k<5):∀ e∈ed k o,e.1<5∧e.2<5:=by
 intro e he
 simp only[opts,List.mem_cons,List.not_mem_nil,or_false] at ho
 rcases ho with rfl|rfl|rfl|rfl|rfl|rfl <;> simp[ed] at he <;> subst he <;> exact⟨hk,by simp⟩
theorem Graph.small {edges:List (Nat × Nat)} (h:Graph edges):∀ e∈edges,e.1<5∧e.2<5:=by
 obtain⟨a,b,c,d,e,⟨ha,hb,hc,hd,he⟩,rfl⟩:=h.g
 intro x hx
 simp only[List.mem_append] at hx
 rcases hx with (((hx|hx)|hx)|hx)|hx
 ·exact ed_in ha (by decide) x hx
 ·exact ed_in hb (by decide) x hx
 ·exact ed_in hc (by decide) x hx
 ·exact ed_in hd (by decide) x hx
 ·exact ed_in he (by decide) x hx
theorem cY (k:Nat) (o:Option Nat):(ed k o).length≤1:=by cases o <;> simp[ed]
theorem Graph.len {edges:List (Nat × Nat)} (h:Graph edges):edges.length≤5:=by
 obtain⟨a,b,c,d,e,-,rfl⟩:=h.g
 simp only[List.length_append]
 have:=cY 0 a;have:=cY 1 b;have:=cY 2 c;have:=cY 3 d;have:=cY 4 e
 omega
theorem Graph.same {edges:List (Nat × Nat)} (h:Graph edges) (n:Nat):(cycI edges n).isSome=true∧cycI edges n=cycS edges n:=by
 by_cases hn:n<5
 ·obtain⟨a,b,c,d,e,⟨ha,hb,hc,hd,he⟩,rfl⟩:=h.g
  have:=ok_all a b c d e ha hb hc hd he
  simp only[ok,List.all_eq_true,List.mem_range,Bool.and_eq_true,beq_iff_eq] at this
  exact this n hn
 ·have h1:cycI edges n=some []:=cycI_far fun e he=>by have:=h.small e he;omega
  have h2:cycS edges n=some []:=cycS_far fun e he=>by have:=h.small e he;omega
  rw[h1,h2]
  exact⟨rfl,rfl⟩
theorem Graph.run {edges:List (Nat × Nat)} (h:Graph edges) (n:Nat):(aC n edges 7 0 (bs0 n)).isSome=true:=by
 have:=(h.same n).1
 unfold cycI at this
 cases hr:aC n edges 7 0 (bs0 n) with
 |none=>rw[hr] at this;cases this
 |some x=>rfl
end Ai.Cyc
namespace Ai
set_option maxRecDepth 100000
open Go Go.Proofs Cyc
def eD (s:StL):Prop:=∀ x∈s.owner,-1≤x∧x<s.ths.length
theorem wC {s:StL} {k:Nat} {t:Th} (h:eD s):eD (s.put k t):=by
 intro x hx
 have:=h x hx
 simpa[StL.put] using this
theorem mT {s:StL} {i:Nat} {v:Int} (h:eD s) (hv:-1≤v∧v<s.ths.length):eD { s with owner:=s.owner.set i v }:=by
 intro x hx
 rcases List.mem_or_eq_of_mem_set hx with e|e
 ·exact h x e
 ·subst e;exact hv
theorem oinv_do {s:StL} {k:Nat} {o:OpL} {e:Ev} (hk:k<s.ths.length) (h:eD s):eD (doL s k o e).1:=by
 unfold doL
 simp only
 generalize s.ths.getD k th0=t at *
 by_cases n1:o.code=1
 ·rw[if_pos n1];exact wC h
 rw[if_neg n1]
 by_cases n2:o.code=2
 ·rw[if_pos n2];exact wC h
 rw[if_neg n2]
 by_cases n3:o.code=3
 ·rw[if_pos n3];exact wC (s:={ s with cells:=_ }) h
 rw[if_neg n3]
 by_cases n10:o.code=10
 ·rw[if_pos n10];exact wC h
 rw[if_neg n10]
 by_cases n11:o.code=11
 ·rw[if_pos n11];exact wC h
 rw[if_neg n11]
 by_cases n12:o.code=12
 ·rw[if_pos n12];exact wC (mT h ⟨by omega,by omega⟩)
 rw[if_neg n12]
 by_cases n13:o.code=13
 ·rw[if_pos n13];exact wC (mT h ⟨by omega,by omega⟩)
 rw[if_neg n13]
 by_cases n14:o.code=14
 ·rw[if_pos n14]
  refine wC (s:={ s with ths:=_ }) fun x hx=>?_
  have:=h x hx
  refine⟨this.1,?_⟩
  show x<((s.ths++[kB o.a]).length:Int)
  simp;omega
 rw[if_neg n14]
 by_cases n15:o.code=15
 ·rw[if_pos n15];exact wC h
 rw[if_neg n15]
 by_cases n16:o.code=16
 ·rw[if_pos n16];exact wC (mT h ⟨by omega,by omega⟩)
 rw[if_neg n16]
 by_cases n17:o.code=17
 ·rw[if_pos n17]
  cases vL s.ths o.a with
  |none=>exact wC h
  |some j =>
   refine wC (s:={ s with ths:=_ }) fun x hx=>?_
   have:=h x hx
   refine⟨this.1,?_⟩
   show x<((s.ths.modify j fun u=>{ u with st:=4 }).length:Int)
   simp;omega
 rw[if_neg n17]
 exact wC h
theorem oinv_step {p:ProgL} {s:StL} {k:Nat} (hk:k<s.ths.length) (h:eD s):eD (zS p s k).1:=by
 unfold zS
 simp only
 split
 ·exact wC (mT h ⟨by omega,by omega⟩)
 ·split
  ·exact wC h
  ·split
   ·exact oinv_do hk h
   ·exact h
theorem oinv_new (p:ProgL):eD (xR p):=by
 intro x hx
 obtain⟨_,rfl⟩:=List.mem_replicate.1 hx
 simp[xR]
end Ai
namespace Ai
set_option maxRecDepth 100000
open Go Go.Proofs Cyc
def GTh (p:ProgL) (t:Th):Prop:=((t.st=1∨t.st=2)∧t.cond=-1∧t.lock=-1)∨((t.st=3∨t.st=4)∧0≤t.cond∧t.cond<p.conds∧0≤t.lock∧t.lock<p.locks)
structure GInv (p:ProgL) (s:StL):Prop where
 ths:∀ t∈s.ths,GTh p t
 ne:1≤s.ths.length
 fault:InR s.fault 0 4
theorem wD {p:ProgL} {s:StL} {k:Nat} {t:Th} (h:GInv p s) (ht:GTh p t):GInv p (s.put k t):=by
 refine⟨fun u hu=>?_,by simpa[StL.put] using h.ne,h.fault⟩
 rcases List.mem_or_eq_of_mem_set hu with e|e
 ·exact h.ths u e
 ·subst e;exact ht
theorem fault_in (s:StL) (k:Nat) (o:OpL):InR (yG s k o) 0 4:=by
 unfold yG InR
 simp only
 split
 ·omega
 split
 ·omega
 split
 ·omega
 split <;> omega
theorem ginv_do {p:ProgL} (hg:p.goodS) {s:StL} (hi:SInv p s) {k:Nat} (h:k<s.ths.length) {o:OpL} (hn:yL p s.ths[k]=some o) (e:Ev) (hG:GInv p s) (h1:s.ths[k].st=1):GInv p (doL s k o e).1:=by
 have hT:=hi.ths _ (List.getElem_mem h)
 have hgd:s.ths.getD k th0=s.ths[k]:=by simp[List.getD_eq_getElem?_getD,h]
 obtain⟨⟨g1,g2⟩,hlt⟩:=bG hg hT hn
 obtain⟨c1,c2,c3,_⟩:=g1
 obtain⟨a1,a2,a3,a4,a5,a6⟩:=g2
 have ht:=hG.ths _ (List.getElem_mem h)
 generalize s.ths[k]=t at *
 unfold doL
 simp only[hgd]
 have hp:GTh p (zG t o):=ht
 have hpush:∀ v,GTh p (zU (zG t o) v):=fun v=>ht
 have hpc:∀ a,GTh p { zG t o with pc:=a }:=fun a=>ht
 by_cases n1:o.code=1
 ·rw[if_pos n1];exact wD hG (hpush _)
 rw[if_neg n1]
 by_cases n2:o.code=2
 ·rw[if_pos n2];exact wD hG (hpush _)
 rw[if_neg n2]
 by_cases n3:o.code=3
 ·rw[if_pos n3];exact wD (s:={ s with cells:=_ }) ⟨hG.ths,hG.ne,hG.fault⟩ hp
 rw[if_neg n3]
 by_cases n10:o.code=10
 ·rw[if_pos n10];exact wD hG (hpc _)
 rw[if_neg n10]
 by_cases n11:o.code=11
 ·rw[if_pos n11]
  refine wD hG ?_
  split
  ·exact hpc _
  ·exact hp
 rw[if_neg n11]
 by_cases n12:o.code=12
 ·rw[if_pos n12];exact wD (s:={ s with owner:=_ }) ⟨hG.ths,hG.ne,hG.fault⟩ hp
 rw[if_neg n12]
 by_cases n13:o.code=13
 ·rw[if_pos n13];exact wD (s:={ s with owner:=_ }) ⟨hG.ths,hG.ne,hG.fault⟩ hp
 rw[if_neg n13]
 by_cases n14:o.code=14
 ·rw[if_pos n14]
  refine wD (s:={ s with ths:=_ }) ⟨fun u hu=>?_,by show 1≤(s.ths++[kB o.a]).length;simp,hG.fault⟩ (hpush _)
  rcases List.mem_append.1 hu with e|e
  ·exact hG.ths u e
  ·simp only[List.mem_cons,List.not_mem_nil,or_false] at e
   subst e;exact .inl ⟨.inl rfl,rfl,rfl⟩
 rw[if_neg n14]
 by_cases n15:o.code=15
 ·rw[if_pos n15];exact wD hG hp
 rw[if_neg n15]
 by_cases n16:o.code=16
 ·rw[if_pos n16]
  exact wD (s:={ s with owner:=_ }) ⟨hG.ths,hG.ne,hG.fault⟩ (.inr ⟨.inl rfl,c2.1,(a5 n16).1,c3.1,(a5 n16).2⟩)
 rw[if_neg n16]
 by_cases n17:o.code=17
 ·rw[if_pos n17]
  cases hw:vL s.ths o.a with
  |none=>exact wD hG hp
  |some j =>
   refine wD (s:={ s with ths:=_ }) ⟨fun u hu=>?_,by simpa using hG.ne,hG.fault⟩ hp
   obtain⟨i,hi2,rfl⟩:=List.mem_iff_getElem.1 hu
   have hil:i<s.ths.length:=by simpa using hi2
   have hU:=hG.ths _ (List.getElem_mem hil)
   rw[List.getElem_modify]
   split
   ·rename_i hji
    subst hji
    unfold vL at hw
    rw[List.findIdx?_eq_some_iff_getElem] at hw
    obtain⟨_,hpw,_⟩:=hw
    simp only[Bool.and_eq_true,beq_iff_eq] at hpw
    rcases hU with ⟨h9,_⟩|⟨_,h9⟩
    ·have:=hpw.1;omega
    ·exact .inr ⟨.inr rfl,h9⟩
   ·exact hU
 rw[if_neg n17]
 exact wD hG (hpush _)
theorem ginv_step {p:ProgL} (hg:p.goodS) {s:StL} (hi:SInv p s) {k:Nat} (h:k<s.ths.length) (hk:k∈zA p s) (hG:GInv p s):GInv p (zS p s k).1:=by
 have ht:=hG.ths _ (List.getElem_mem h)
 have hgo:=goes_st hk h
 have hgd:s.ths.getD k th0=s.ths[k]:=by simp[List.getD_eq_getElem?_getD,h]
 unfold zS
 simp only[hgd]
 split
 ·exact wD (s:={ s with owner:=_ }) ⟨hG.ths,hG.ne,hG.fault⟩ (.inl ⟨.inl rfl,rfl,rfl⟩)
 ·rename_i h4
  have h1:s.ths[k].st=1:=by omega
  split
  ·refine wD hG (.inl ⟨.inr rfl,?_⟩)
   rcases ht with ⟨_,h9⟩|⟨h9,_⟩
   ·exact h9
   ·omega
  ·rename_i o hn
   split
   ·exact ginv_do hg hi h hn _ hG h1
   ·exact⟨hG.ths,hG.ne,fault_in s k o⟩
theorem ginv_new (p:ProgL):GInv p (xR p):=by
 refine⟨fun t ht=>?_,by simp[xR],by simp[xR,InR]⟩
 have:t=kB 0:=by simpa[xR] using ht
 subst this
 exact .inl ⟨.inl rfl,rfl,rfl⟩
structure AInv (p:ProgL) (s:StL):Prop where
 si:SInv p s
 fl:s.flt
 ow:eD s
 gi:GInv p s
theorem en_lt {p:ProgL} {s:StL} {k:Nat} (hk:k∈zA p s):k<s.ths.length:=by have:=(List.mem_filter.1 hk).1;simpa using this
theorem oK {p:ProgL} (hg:p.goodS) (hv:p.flt) {s:StL} {k:Nat} (hk:k∈zA p s) (h:AInv p s):AInv p (zS p s k).1 :=
 ⟨i8 hg h.si (en_lt hk),flt_step hv (en_lt hk) h.fl,oinv_step (en_lt hk) h.ow,ginv_step hg h.si (en_lt hk) hk h.gi⟩
theorem ainv_new {p:ProgL} (hg:p.goodS):AInv p (xR p):=⟨x6 hg,flt_new p,oinv_new p,ginv_new p⟩
theorem do_lev (s:StL) (k:Nat) (o:OpL) (e:Ev):s.ths.length≤(doL s k o e).1.ths.length∧(doL s k o e).2.th=e.th∧(doL s k o e).2.pc=e.pc:=by
 have hput:∀ (s:StL) (t:Th),(s.put k t).ths.length=s.ths.length:=fun s t=>by simp[StL.put]
 have hle:∀ (s2:StL) (t:Th),s.ths.length≤s2.ths.length→s.ths.length≤(s2.put k t).ths.length:=fun s2 t h=>by rw[hput];exact h
 unfold doL
 simp only
 by_cases n1:o.code=1
 ·rw[if_pos n1];exact⟨hle _ _ (Nat.le_refl _),rfl,rfl⟩
 rw[if_neg n1]
 by_cases n2:o.code=2
 ·rw[if_pos n2];exact⟨hle _ _ (Nat.le_refl _),rfl,rfl⟩
 rw[if_neg n2]
 by_cases n3:o.code=3
 ·rw[if_pos n3];exact⟨hle _ _ (Nat.le_refl _),rfl,rfl⟩
 rw[if_neg n3]
 by_cases n10:o.code=10
 ·rw[if_pos n10];exact⟨hle _ _ (Nat.le_refl _),rfl,rfl⟩
 rw[if_neg n10]
 by_cases n11:o.code=11
 ·rw[if_pos n11];exact⟨hle _ _ (Nat.le_refl _),rfl,rfl⟩
 rw[if_neg n11]
 by_cases n12:o.code=12
 ·rw[if_pos n12];exact⟨hle _ _ (Nat.le_refl _),rfl,rfl⟩
 rw[if_neg n12]
 by_cases n13:o.code=13
 ·rw[if_pos n13];exact⟨hle _ _ (Nat.le_refl _),rfl,rfl⟩
 rw[if_neg n13]
 by_cases n14:o.code=14
 ·rw[if_pos n14];exact⟨hle _ _ (by show _≤(s.ths++[kB o.a]).length;simp),rfl,rfl⟩
 rw[if_neg n14]
 by_cases n15:o.code=15
 ·rw[if_pos n15];exact⟨hle _ _ (Nat.le_refl _),rfl,rfl⟩
 rw[if_neg n15]
 by_cases n16:o.code=16
 ·rw[if_pos n16];exact⟨hle _ _ (Nat.le_refl _),rfl,rfl⟩
 rw[if_neg n16]
 by_cases n17:o.code=17
 ·rw[if_pos n17]
  cases vL s.ths o.a with
  |none=>exact⟨hle _ _ (Nat.le_refl _),rfl,rfl⟩
  |some j=>exact⟨hle _ _ (by show _≤(s.ths.modify j _).length;simp),rfl,rfl⟩
 rw[if_neg n17]
 exact⟨hle _ _ (Nat.le_refl _),rfl,rfl⟩
theorem step_len (p:ProgL) (s:StL) (k:Nat):s.ths.length≤(zS p s k).1.ths.length:=by
 have hput:∀ (s:StL) (t:Th),(s.put k t).ths.length=s.ths.length:=fun s t=>by simp[StL.put]
 unfold zS
 simp only
 split
 ·rw[hput];exact Nat.le_refl _
 ·split
  ·rw[hput];exact Nat.le_refl _
  ·split
   ·exact(do_lev _ _ _ _).1
   ·exact Nat.le_refl _
theorem step_ev (p:ProgL) (s:StL) (k:Nat):(zS p s k).2.th=k∧(zS p s k).2.pc=(s.ths.getD k th0).pc:=by
 unfold zS
 simp only
 split
 ·exact⟨rfl,rfl⟩
 ·split
  ·exact⟨rfl,rfl⟩
  ·split
   ·exact(do_lev _ _ _ _).2
   ·exact⟨rfl,rfl⟩
structure TrOK (s:StL) (tr:List Ev):Prop where
 ev:∀ e∈tr,0≤e.th∧e.th<s.ths.length∧0≤e.pc∧e.pc≤24
 ne:s.fault≠0→tr≠[]
theorem tr_step {p:ProgL} (hg:p.goodS) {s:StL} {k:Nat} (hk:k∈zA p s) (h:AInv p s) {tr:List Ev} (ht:TrOK s tr):TrOK (zS p s k).1 (tr++[(zS p s k).2]):=by
 have hl:=en_lt hk
 have hgd:s.ths.getD k th0=s.ths[k]:=by simp[List.getD_eq_getElem?_getD,hl]
 have hT:=h.si.ths _ (List.getElem_mem hl)
 have hr:s.ths[k].rt.toNat<p.rs.length:=by have:=hT.rt;omega
 have e24:(p.rs.getD s.ths[k].rt.toNat []).length≤24:=by
  rw[List.getD_eq_getElem?_getD,List.getElem?_eq_getElem hr]
  exact(hg.2 _ (List.getElem_mem hr)).2
 have h2:=step_len p s k
 refine⟨fun e he=>?_,fun _=>by simp⟩
 rcases List.mem_append.1 he with e1|e1
 ·have:=ht.ev e e1
  omega
 ·simp only[List.mem_cons,List.not_mem_nil,or_false] at e1
  subst e1
  obtain⟨e1,e2⟩:=step_ev p s k
  rw[e1,e2,hgd]
  have:=hT.pc
  omega
structure RunT where
 c:Int
 tr:List Ev
 tk:List Int
 s:StL
noncomputable def runT (p:ProgL) (picks:List Int) (budget:Int):Nat→StL→List Ev→List Int→RunT
 | 0,s,tr,tk=>⟨0,tr,tk,s⟩
 |n+1,s,tr,tk =>
  if 0<xC p s tr.length budget then ⟨xC p s tr.length budget,tr,tk,s⟩
  else
   let k:=pickOf picks tk (zA p s).length
   let w:=(zA p s).getD k.toNat 0
   runT p picks budget n (zS p s w).1 (tr++[(zS p s w).2]) (tk++[k])
def xX (x:RunT):List D:=encRun x.c x.tr x.tk x.s
structure REnd (p:ProgL) (budget:Int) (x:RunT):Prop where
 inv:AInv p x.s
 tr:TrOK x.s x.tr
 code:x.c=xC p x.s x.tr.length budget
 pos:0<x.c
 len:x.tr.length=x.tk.length
 le:(x.tr.length:Int)≤budget
 tk:∀ i∈x.tk,0≤i∧i<5
theorem en_ne {p:ProgL} {s:StL} {a b:Int} (h:¬ 0<xC p s a b):0<(zA p s).length∧a≠b:=by
 have hen:zA p s≠[]:=by
  intro he
  apply h
  unfold xC
  by_cases hf:s.fault≠0
  ·rw[if_pos hf];decide
  ·rw[if_neg hf,if_pos he];split <;> decide
 refine⟨List.length_pos_iff.2 hen,fun he=>h ?_⟩
 unfold xC
 by_cases hf:s.fault≠0
 ·rw[if_pos hf];decide
 ·rw[if_neg hf,if_neg hen,if_pos he];decide
noncomputable def runOf (p:ProgL) (picks:List Int) (budget:Int):RunT:=runT p picks budget (budget.toNat+1) (xR p) [] []
end Ai
namespace Ai
set_option maxRecDepth 100000
open Go Go.Proofs Cyc
def pU:Ev:=⟨0,0,0,0,0⟩
end Ai
namespace Ai
set_option maxRecDepth 100000
open Go Go.Proofs
theorem szOpS_ok (xs:List (List D)) (left:Int) (h0:0≤left) (h1:left≤1048576) (hx:xs.length≤9223372036854775807) :
  CallsTo EE 112 [sl xs,i64 left] (szR left xs.length):=by
 refine callsTo_of_AW (fn:=Tryz.f112) Tryz.func112 rfl (by kernel_rfl) rfl ?_
 conv=>whnf
 rw[zF (by omega) (by omega)]
 refine⟨fun h=>?_,fun h=>?_⟩
 ·conv=>whnf
  exact⟨-1,rfl,by omega,by omega,by omega⟩
 ·conv=>whnf
  simp at h
  exact⟨_,rfl,by omega,by omega,by omega⟩
theorem eN (xs:List (List D)) (left:Int) (h0:0≤left) (h1:left≤1048576) (hx:xs.length≤9223372036854775807) :
  CallsTo EE 70 [sl xs,i64 left] (szR left xs.length):=by
 refine callsTo_of_AW (fn:=Tryz.f70) Tryz.func70 rfl (by kernel_rfl) rfl ?_
 conv=>whnf
 rw[zF (by omega) (by omega)]
 refine⟨fun h=>?_,fun h=>?_⟩
 ·conv=>whnf
  exact⟨-1,rfl,by omega,by omega,by omega⟩
 ·conv=>whnf
  simp at h
  exact⟨_,rfl,by omega,by omega,by omega⟩
theorem szOpSS_ok (xs:List (List OpL)) (left:Int) (h0:0≤left) (h1:left≤1048576) (hx:xs.length≤9223372036854775807) (hx2:∀ x∈xs,x.length≤9223372036854775807) :
  CallsTo EE 56 [sl (xs.map zX),i64 left] (szR left (gY List.length xs)):=by
 refine callsTo_of_AW (fn:=Tryz.f56) Tryz.func56 rfl (by kernel_rfl) rfl ?_
 conv=>whnf
 rw[zF (by simp;omega) (by simp;omega),List.length_map]
 refine⟨fun h=>?_,fun h=>?_⟩
 ·conv=>whnf
  exact⟨-1,rfl,by omega,by omega,by omega⟩
 ·simp at h
  conv=>whnf
  refine yU (fun x:Nat × Int=>[(0,sl (xs.map zX)),(5,i64 x.1),(1,i64 x.2)]) (fun _=>[]) (fun x=>xs.length - x.1)
   (fun x=>x.1≤xs.length∧0≤x.2∧(xs.length:Int)+((xs.map List.length).take x.1).sum+x.2≤left) (0,left - xs.length) .refl ⟨rfl,rfl,rfl,trivial⟩ trivial ⟨by omega,by omega,by simp;omega⟩ ?_
  rintro⟨k,l⟩ τ H ⟨hk,hl,hs⟩
  dsimp only at hk hl hs
  conv=>whnf
  refine⟨fun h=>?_,fun h=>?_⟩
  ·have hlt:=yS h
   conv=>whnf
   refine⟨zX xs[k],zV zX hlt rfl,?_⟩
   conv=>whnf
   refine⟨_,szOpS_ok _ l hl (by omega) (by simpa using hx2 _ (List.getElem_mem hlt)),?_⟩
   rintro r ⟨n,rfl,hn1,hn2,hn3⟩
   conv=>whnf
   refine⟨fun h=>?_,fun h=>?_⟩
   ·conv=>whnf
    exact⟨-1,rfl,by omega,by omega,by omega⟩
   ·simp at h
    conv=>whnf
    refine⟨(k+1,n),⟨by omega,by omega,?_⟩,by show xs.length - (k+1)<xs.length - k;omega,⟨rfl,zN hlt hx,rfl,trivial⟩,trivial⟩
    have hm:k<(xs.map List.length).length:=by simpa using hlt
    rw[aQ _ _ hm]
    have:=hn3 h
    simp at this ⊢
    omega
  ·have hge:=w7 h
   conv=>whnf
   have hkk:k=xs.length:=by omega
   subst hkk
   refine⟨_,rfl,by omega,?_,?_⟩
   ·omega
   ·intro _
    simp only[gY]
    rw[List.take_of_length_le (by simp)] at hs
    simp at hs ⊢
    omega
theorem szProg_ok (p:ProgL) (left:Int) (h0:0≤left) (h1:left≤1048576) (hs:p.wf):CallsTo EE 11 [agg (encProg p),i64 left] (szR left p.size):=by
 refine callsTo_of_AW (fn:=Tryz.f11) Tryz.func11 rfl (by kernel_rfl) rfl ?_
 conv=>whnf
 refine⟨_,szOpSS_ok _ left h0 h1 hs.1 hs.2,?_⟩
 rintro r ⟨n,rfl,hn1,hn2,hn3⟩
 conv=>whnf
 refine⟨fun h=>?_,fun h=>?_⟩
 ·conv=>whnf
  exact⟨-1,rfl,by omega,by omega,by omega⟩
 ·simp at h
  conv=>whnf
  exact⟨_,rfl,by omega,by omega,hn3⟩
end Ai
namespace Ai
set_option maxRecDepth 100000
open Go Go.Proofs
theorem yJ (n:Int) (h:(n != n)=true):False:=by simp at h
theorem dU (xs:List Int) (hx:xs.length≤1048576):CallsTo EE 28 [sl (xs.map encInt),sl (xs.map encInt)] (·=bv true):=by
 refine callsTo_of_AW (fn:=Tryz.f28) Tryz.func28 rfl (by kernel_rfl) rfl ?_
 conv=>whnf
 refine⟨fun h=>(yJ _ h).elim,fun _=>?_⟩
 conv=>whnf
 refine yU (fun k:Nat=>[(0,sl (xs.map encInt)),(1,sl (xs.map encInt)),(5,i64 k)]) (fun k=>[]) (fun k=>xs.length - k) (fun k=>k≤xs.length) 0 .refl ⟨rfl,rfl,rfl,trivial⟩ trivial (Nat.zero_le _) ?_
 intro k τ H hk
 conv=>whnf
 refine⟨fun h=>?_,fun h=>?_⟩
 ·have hlt:=yS h
  conv=>whnf
  refine⟨by kernel_rfl,?_⟩
  conv=>whnf
  refine⟨encInt xs[k],zV encInt hlt rfl,?_⟩
  conv=>whnf
  refine⟨encInt xs[k],zV encInt hlt rfl,?_⟩
  conv=>whnf
  refine⟨fun h=>(yJ _ h).elim,fun _=>?_⟩
  conv=>whnf
  refine⟨k+1,by omega,by show xs.length - (k+1)<xs.length - k;omega,⟨rfl,rfl,zN hlt (by omega),trivial⟩,trivial⟩
 ·conv=>whnf
theorem mH (x:Nat):CallsTo EE 173 [.d (.flt x),.d (.flt x)] (·=bv true):=by
 refine callsTo_of_AW (fn:=Tryz.f173) Tryz.func173 rfl (by kernel_rfl) rfl ?_
 conv=>whnf
 repeat' (refine kbi (fun h=>?_) (fun h=>?_) <;> first|contradiction|conv=>whnf)
 all_goals simp[sS] at *
 all_goals simp_all
theorem eqOp_ok (x:OpL):CallsTo EE 189 [agg (encOp x),agg (encOp x)] (·=bv true):=by
 refine callsTo_of_AW (fn:=Tryz.f189) Tryz.func189 rfl (by kernel_rfl) rfl ?_
 conv=>whnf
 refine⟨fun h=>(yJ _ h).elim,fun _=>?_⟩
 conv=>whnf
 refine⟨fun h=>(yJ _ h).elim,fun _=>?_⟩
 conv=>whnf
 refine⟨fun h=>(yJ _ h).elim,fun _=>?_⟩
 conv=>whnf
 refine⟨_,mH x.v,?_⟩
 rintro r rfl
 conv=>whnf
theorem eqOpS_ok (xs:List OpL) (hx:xs.length≤1048576):CallsTo EE 118 [sl (xs.map encOp),sl (xs.map encOp)] (·=bv true):=by
 refine callsTo_of_AW (fn:=Tryz.f118) Tryz.func118 rfl (by kernel_rfl) rfl ?_
 conv=>whnf
 refine⟨fun h=>(yJ _ h).elim,fun _=>?_⟩
 conv=>whnf
 refine yU (fun k:Nat=>[(0,sl (xs.map encOp)),(1,sl (xs.map encOp)),(5,i64 k)]) (fun k=>[]) (fun k=>xs.length - k) (fun k=>k≤xs.length) 0 .refl ⟨rfl,rfl,rfl,trivial⟩ trivial (Nat.zero_le _) ?_
 intro k τ H hk
 conv=>whnf
 refine⟨fun h=>?_,fun h=>?_⟩
 ·have hlt:=yS h
  conv=>whnf
  refine⟨by kernel_rfl,?_⟩
  conv=>whnf
  refine⟨encOp xs[k],zV encOp hlt rfl,?_⟩
  conv=>whnf
  refine⟨encOp xs[k],zV encOp hlt rfl,?_⟩
  conv=>whnf
  refine⟨_,eqOp_ok xs[k],?_⟩
  conv=>whnf
  refine⟨k+1,by omega,by show xs.length - (k+1)<xs.length - k;omega,⟨rfl,rfl,zN hlt (by omega),trivial⟩,trivial⟩
 ·conv=>whnf
theorem eqOpSS_ok (xs:List (List OpL)) (hx:xs.length≤1048576) (hx2:∀ x∈xs,x.length≤1048576):CallsTo EE 61 [sl (xs.map zX),sl (xs.map zX)] (·=bv true):=by
 refine callsTo_of_AW (fn:=Tryz.f61) Tryz.func61 rfl (by kernel_rfl) rfl ?_
 conv=>whnf
 refine⟨fun h=>(yJ _ h).elim,fun _=>?_⟩
 conv=>whnf
 refine yU (fun k:Nat=>[(0,sl (xs.map zX)),(1,sl (xs.map zX)),(5,i64 k)]) (fun k=>[]) (fun k=>xs.length - k) (fun k=>k≤xs.length) 0 .refl ⟨rfl,rfl,rfl,trivial⟩ trivial (Nat.zero_le _) ?_
 intro k τ H hk
 conv=>whnf
 refine⟨fun h=>?_,fun h=>?_⟩
 ·have hlt:=yS h
  conv=>whnf
  refine⟨by kernel_rfl,?_⟩
  conv=>whnf
  refine⟨zX xs[k],zV zX hlt rfl,?_⟩
  conv=>whnf
  refine⟨zX xs[k],zV zX hlt rfl,?_⟩
  conv=>whnf
  refine⟨_,eqOpS_ok xs[k] (hx2 _ (List.getElem_mem hlt)),?_⟩
  conv=>whnf
  refine⟨k+1,by omega,by show xs.length - (k+1)<xs.length - k;omega,⟨rfl,rfl,zN hlt (by omega),trivial⟩,trivial⟩
 ·conv=>whnf
theorem oE (p:ProgL) (h:p.rs.length≤1048576∧∀ x∈p.rs,x.length≤1048576):CallsTo EE 16 [agg (encProg p),agg (encProg p)] (·=bv true):=by
 refine callsTo_of_AW (fn:=Tryz.f16) Tryz.func16 rfl (by kernel_rfl) rfl ?_
 conv=>whnf
 refine⟨fun h=>(yJ _ h).elim,fun _=>?_⟩
 conv=>whnf
 refine⟨fun h=>(yJ _ h).elim,fun _=>?_⟩
 conv=>whnf
 refine⟨fun h=>(yJ _ h).elim,fun _=>?_⟩
 conv=>whnf
 refine⟨_,eqOpSS_ok _ h.1 h.2,?_⟩
 rintro r rfl
 conv=>whnf
end Ai
namespace Ai
set_option maxRecDepth 100000
open Go Go.Proofs Cyc
def Picks6 (xs:List Int):Prop:=xs.length≤60∧AllIn xs 0 999
theorem Picks6.nn {xs:List Int} (h:Picks6 xs):∀ i∈xs,0≤i:=fun i hi=>(h.2 i hi).1
end Ai
namespace Ai
set_option maxRecDepth 100000
open Go Go.Proofs Go.Shelf Go.Sort Go.RowKit
theorem eZ (w:World) (g:Nat) (d:Array Int) (cur:Array Value) (h:w.heap[g]?=some (.cells cur 3 (0,0))) :
  (putRow (Value.int .i64) w g 0 d).heap[g]?=some (.cells (putCells (Value.int .i64) 0 d cur) 3 (0,0)):=by
 simp only[putRow,mapBlock,Array.getElem?_modify,if_true,h,Option.map_some,onCells]
theorem z8 (d:Array Int) (cur:Array Value) (t:Nat) (h1:t<d.size) (h2:t<cur.size):(putCells (Value.int .i64) 0 d cur)[t]?=some (.int .i64 d[t]):=by
 simp only[putCells,Array.getElem?_mapIdx,Array.getElem?_eq_getElem h2,Option.map_some,Nat.zero_le,true_and,Nat.zero_add,h1,if_true,Nat.sub_zero]
 rw[getElem!_pos d t h1]
end Ai
namespace Ai
set_option maxRecDepth 100000
open Go Go.Proofs Cyc
theorem dH (c:List Int) (k:Nat) (x:Int):xF (c.map encInt) 1 (0+(k:Int).toNat) 0 [di x]=(c.set k x).map encInt:=by
 have e:xF (c.map encInt) 1 (0+(k:Int).toNat) 0 [di x]=(c.map encInt).set k [di x]:=by
  unfold xF
  rw[show([di x]:List D).length=1 from rfl,nbeq_self,nbeq_self]
  simp
 rw[e,List.map_set]
 rfl
end Ai
namespace Ai
set_option maxRecDepth 100000
open Go Go.Proofs
def uU (k:Int) (n:Nat):List Int:=(List.range n).map fun (j:Nat)=>k+(j:Int)
theorem wT (k:Int) (n:Nat):(uU k n).length=n:=by simp[uU]
theorem marks_get {k:Int} {n j:Nat} (h:j<n):(uU k n)[j]?=some (k+(j:Int)):=by simp[uU,h]
def uD (xs:List Int) (k:Int) (n:Nat):List Int:=uU k n++xs.drop n
theorem rK {xs:List Int} {k:Int} {n:Nat} (h:n<xs.length):(uD xs k n).set n (k+(n:Int))=uD xs k (n+1):=by
 unfold uD
 rw[List.drop_eq_getElem_cons h,List.set_append_right _ _ (by rw[wT];omega),wT,Nat.sub_self,List.set_cons_zero]
 unfold uU
 rw[List.range_succ,List.map_append]
 simp
theorem tV (xs:List Int) (k:Int):uD xs k xs.length=uU k xs.length:=by simp[uD]
theorem kS (κ:Key) (hκ:κ=.n 77∨κ=.l 77) (xs:List Int) (k:Int) (hx:xs.length≤1048576) (h0:0≤k) (h1:k≤1073741824) (H0:Key→Option Ob) (hH:H0 κ=some (.ds 3 1 (xs.map encInt))) :
  IOCall EE 31 [.ref κ 0 xs.length,i64 k] H0 (fun r H1=>r=i64 (k+xs.length)∧H1 κ=some (.ds 3 1 ((uU k xs.length).map encInt))∧∀ κ',isK κ κ'=false→H1 κ'=none):=by
 rcases hκ with rfl|rfl
 ·refine xS (fn:=Tryz.f31) (c:=Tryz.f31.body.getD .skip) Tryz.func31 rfl (by kernel_rfl) rfl ?_
  have hat:At [(0,.ref (.n 77) 0 xs.length),(1,i64 k)] [(.n 77,.ds 3 1 (xs.map encInt))] [] ⟨fun i=>[AV.ref (.n 77) 0 xs.length,i64 k].getD i .junk,H0⟩:=⟨⟨rfl,rfl,trivial⟩,⟨hH,trivial⟩,trivial⟩
  obtain⟨τ,H,hf⟩:=hat.form
  rw[hf]
  conv=>whnf
  refine yU (fun n:Nat=>[(0,.ref (.n 77) 0 xs.length),(1,i64 (k+(n:Int))),(5,i64 n)]) (fun n=>[(.n 77,.ds 3 1 ((uD xs k n).map encInt))]) (fun n=>xs.length - n) (fun n=>n≤xs.length) 0
   Weak.refl ⟨rfl,?_,rfl,trivial⟩ ⟨?_,trivial⟩ (Nat.zero_le _) ?_
  ·show i64 k=i64 (k+((0:Nat):Int))
   rw[show k+((0:Nat):Int)=k by omega]
  ·show some (Ob.ds 3 1 (xs.map encInt))=some (Ob.ds 3 1 ((uD xs k 0).map encInt))
   simp[uD,uU]
  intro n τ H hn
  have hn:n≤xs.length:=hn
  conv=>whnf
  refine kbi (fun h=>?_) (fun h=>?_)
  ·have hlt:n<xs.length:=by simpa using h
   conv=>whnf
   refine⟨⟨by omega,by omega⟩,?_⟩
   conv=>whnf
   refine⟨n+1,by show n+1≤xs.length;omega,by show xs.length - (n+1)<xs.length - n;omega,⟨rfl,?_,?_,trivial⟩,⟨?_,trivial⟩⟩
   ·show AV.d (.int .i64 (IntKind.i64.wrap ((k+(n:Int))+1)))=i64 (k+((n+1:Nat):Int))
    rw[zF (by omega) (by omega)]
    exact congrArg i64 (by omega)
   ·show AV.d (.int .i64 (IntKind.i64.wrap ((n:Int)+1)))=i64 ((n+1:Nat):Int)
    rw[zF (by omega) (by omega)]
    rfl
   ·show some (Ob.ds 3 1 (xF ((uD xs k n).map encInt) 1 (0+(n:Int).toNat) 0 [di (k+(n:Int))]))=_
    rw[dH,rK hlt]
  ·have hkk:n=xs.length:=by
    have:¬ n<xs.length:=by simpa using h
    omega
   subst hkk
   conv=>whnf
   refine⟨_,Weak.refl,?_⟩
   conv=>whnf
   refine⟨isK (.n 77),rfl,?_,fun κ hκ=>?_⟩
   ·show some (Ob.ds 3 1 ((uD xs k xs.length).map encInt))=_
    rw[tV]
   ·unfold lendH
    rw[hκ];rfl
 ·refine xS (fn:=Tryz.f31) (c:=Tryz.f31.body.getD .skip) Tryz.func31 rfl (by kernel_rfl) rfl ?_
  have hat:At [(0,.ref (.l 77) 0 xs.length),(1,i64 k)] [(.l 77,.ds 3 1 (xs.map encInt))] [] ⟨fun i=>[AV.ref (.l 77) 0 xs.length,i64 k].getD i .junk,H0⟩:=⟨⟨rfl,rfl,trivial⟩,⟨hH,trivial⟩,trivial⟩
  obtain⟨τ,H,hf⟩:=hat.form
  rw[hf]
  conv=>whnf
  refine yU (fun n:Nat=>[(0,.ref (.l 77) 0 xs.length),(1,i64 (k+(n:Int))),(5,i64 n)]) (fun n=>[(.l 77,.ds 3 1 ((uD xs k n).map encInt))]) (fun n=>xs.length - n) (fun n=>n≤xs.length) 0
   Weak.refl ⟨rfl,?_,rfl,trivial⟩ ⟨?_,trivial⟩ (Nat.zero_le _) ?_
  ·show i64 k=i64 (k+((0:Nat):Int))
   rw[show k+((0:Nat):Int)=k by omega]
  ·show some (Ob.ds 3 1 (xs.map encInt))=some (Ob.ds 3 1 ((uD xs k 0).map encInt))
   simp[uD,uU]
  intro n τ H hn
  have hn:n≤xs.length:=hn
  conv=>whnf
  refine kbi (fun h=>?_) (fun h=>?_)
  ·have hlt:n<xs.length:=by simpa using h
   conv=>whnf
   refine⟨⟨by omega,by omega⟩,?_⟩
   conv=>whnf
   refine⟨n+1,by show n+1≤xs.length;omega,by show xs.length - (n+1)<xs.length - n;omega,⟨rfl,?_,?_,trivial⟩,⟨?_,trivial⟩⟩
   ·show AV.d (.int .i64 (IntKind.i64.wrap ((k+(n:Int))+1)))=i64 (k+((n+1:Nat):Int))
    rw[zF (by omega) (by omega)]
    exact congrArg i64 (by omega)
   ·show AV.d (.int .i64 (IntKind.i64.wrap ((n:Int)+1)))=i64 ((n+1:Nat):Int)
    rw[zF (by omega) (by omega)]
    rfl
   ·show some (Ob.ds 3 1 (xF ((uD xs k n).map encInt) 1 (0+(n:Int).toNat) 0 [di (k+(n:Int))]))=_
    rw[dH,rK hlt]
  ·have hkk:n=xs.length:=by
    have:¬ n<xs.length:=by simpa using h
    omega
   subst hkk
   conv=>whnf
   refine⟨_,Weak.refl,?_⟩
   conv=>whnf
   refine⟨isK (.l 77),rfl,?_,fun κ hκ=>?_⟩
   ·show some (Ob.ds 3 1 ((uD xs k xs.length).map encInt))=_
    rw[tV]
   ·unfold lendH
    rw[hκ];rfl
theorem rU (k:Int) (n:Nat) (hx:n≤1048576) (h0:0≤k) (h1:k≤1073741824):CallsTo EE 32 [sl ((uU k n).map encInt),i64 k] (·=i64 (k+n)):=by
 have hml:=wT k n
 refine callsTo_of_AW (fn:=Tryz.f32) Tryz.func32 rfl (by kernel_rfl) rfl ?_
 conv=>whnf
 refine yU (fun j:Nat=>[(0,sl ((uU k n).map encInt)),(1,i64 (k+(j:Int))),(5,i64 j)]) (fun j=>[]) (fun j=>n - j) (fun j=>j≤n) 0
  Weak.refl ⟨rfl,?_,rfl,trivial⟩ trivial (Nat.zero_le _) ?_
 ·show i64 k=i64 (k+((0:Nat):Int))
  rw[show k+((0:Nat):Int)=k by omega]
 intro j τ H hj
 have hj:j≤n:=hj
 conv=>whnf
 refine kbi (fun h=>?_) (fun h=>?_)
 ·have hlt:=yS h
  rw[hml] at hlt
  conv=>whnf
  refine⟨encInt (k+(j:Int)),⟨by omega,?_,rfl⟩,?_⟩
  ·rw[List.getElem?_map,Int.toNat_natCast,marks_get hlt];rfl
  conv=>whnf
  refine kbi (fun h=>absurd h (by simp)) (fun _=>?_)
  conv=>whnf
  refine⟨j+1,by show j+1≤n;omega,by show n - (j+1)<n - j;omega,⟨rfl,?_,?_,trivial⟩,trivial⟩
  ·show AV.d (.int .i64 (IntKind.i64.wrap ((k+(j:Int))+1)))=i64 (k+((j+1:Nat):Int))
   rw[zF (by omega) (by omega)]
   exact congrArg i64 (by omega)
  ·show AV.d (.int .i64 (IntKind.i64.wrap ((j:Int)+1)))=i64 ((j+1:Nat):Int)
   rw[zF (by omega) (by omega)]
   rfl
 ·have hkk:j=n:=by
   have:¬ j<n:=by simpa[hml] using h
   omega
  subst hkk
  conv=>whnf
  try rfl
end Ai
