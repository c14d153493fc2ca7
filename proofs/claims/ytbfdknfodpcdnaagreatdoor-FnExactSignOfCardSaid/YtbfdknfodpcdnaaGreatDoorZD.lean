import Derived.Test.YtbfdknfodpcdnaaGreatDoorZC
set_option maxHeartbeats 8000000
set_option linter.unusedVariables false
set_option linter.unusedSimpArgs false
namespace Ai
set_option maxRecDepth 100000
open Go Go.Proofs
def zG (t:Th) (o:OpL):Th:={ t with pc:=t.pc+1,stack:=t.stack.take (yH t o) }
def xC (t:Th) (o:OpL) (i:Nat):Nat:=(t.stack.drop (yH t o)).getD i 0
def zS (t:Th) (x:Nat):Th:={ t with stack:=t.stack++[x] }
def qV (r:Int):Th:=⟨r,0,1,-1,-1,[]⟩
def wO (l:List Th) (a:Int):Option Nat:=l.findIdx? fun t=>t.st==3&&t.cond==a
def StL.put (s:StL) (k:Nat) (t:Th):StL:={ s with ths:=s.ths.set k t }
noncomputable def doL (s:StL) (k:Nat) (o:OpL) (e:Ev):StL × Ev :=
 let t0:=s.ths.getD k th0
 let t:=zG t0 o
 let e:={ e with kind:=1 }
 if o.code=1 then (s.put k (zS t o.v),e)
 else if o.code=2 then (s.put k (zS t (s.cells.getD o.a.toNat 0)),{ e with kind:=2,obj:=o.a })
 else if o.code=3 then ({ s with cells:=s.cells.set o.a.toNat (xC t0 o 0) }.put k t,{ e with kind:=3,obj:=o.a })
 else if o.code=10 then (s.put k { t with pc:=o.a },e)
 else if o.code=11 then (s.put k (if zO (xC t0 o 0)=true∨fcmp .eql (xC t0 o 0) 0=true then { t with pc:=o.a } else t),e)
 else if o.code=12 then ({ s with owner:=s.owner.set o.a.toNat k }.put k t,{ e with kind:=4,obj:=o.a })
 else if o.code=13 then ({ s with owner:=s.owner.set o.a.toNat (-1) }.put k t,{ e with kind:=5,obj:=o.a })
 else if o.code=14 then ({ s with ths:=s.ths++[qV o.a] }.put k (zS t (FloatKind.f64.nearest (s.ths.length:Int))),{ e with kind:=6,obj:=s.ths.length })
 else if o.code=15 then (s.put k t,{ e with kind:=7,obj:=(yC s t0).getD (-1) })
 else if o.code=16 then ({ s with owner:=s.owner.set o.b.toNat (-1) }.put k { t with st:=3,cond:=o.a,lock:=o.b,pc:=t.pc - 1 },{ e with kind:=8,obj:=o.a,lock:=o.b })
 else if o.code=17 then
  (match wO s.ths o.a with
  |some j=>({ s with ths:=s.ths.modify j fun u=>{ u with st:=4 } }.put k t,{ e with kind:=10,obj:=o.a,lock:=j })
  |none=>(s.put k t,{ e with kind:=10,obj:=o.a }))
 else (s.put k (zS t (yP o.code (xC t0 o 0) (xC t0 o 1))),e)
theorem qB {s':StL} {l:List Th} {k:Nat} {t:Th} {e':Ev} {els:List (List D)} {R c10:List AV} {rows:List (List AV)} {S:St}
  (hat:At [(1,i64 k),(4,.ptr (.n 4) 0),(7,.ptr (.n 7) 0),(8,.ptr (.n 8) 0),(9,.ptr (.n 9) 0),(10,.ptr (.n 10) 0)]
   [(.n 4,.vs 44 R),(.n 7,.vs 107 ((encEv e').map .d)),(.n 8,.vs 44 [.d .nil,.d .nil,.d .nil,i64 0]),(.n 9,.vs 107 [i64 0,i64 0,i64 0,i64 0,i64 0]),(.n 10,.vs 109 c10),
    (.n 900,.rs 109 6 rows),(.n 901,.ds 100 1 (s'.cells.map encF)),(.n 902,.ds 3 1 (s'.owner.map encInt))] [(900,kH l k els)] S)
  (hR:R=stRef s') (h10:c10=thRow 900 k t) (hk:k<l.length) (hths:s'.ths=l.set k t) (hels:els.take t.stack.length=stk t)
  (hrow:∀ j t0,j≠k→l[j]?=some t0→rows[j]?=some (thRow 900 j t0)):Do2 l s' k e' S:=by
 subst hR h10
 refine⟨t,rows,els,?_,fun j t' hj hj'=>?_,hels,hat⟩
 ·rw[hths];simp[hk]
 ·rw[hths,List.getElem?_set_ne (Ne.symm hj)] at hj'
  exact⟨_,hrow j t' hj hj',.inl ⟨t',hj',rfl,rfl⟩⟩
theorem rows_app {X N:List (List AV)} {n j:Nat} {c:List AV} (h:X[j]?=some c) (hj:j<n):(X.take n++N)[j]?=some c:=by
 have h1:=(List.getElem?_eq_some_iff.1 h).1
 rw[List.getElem?_append_left (by simp;omega),List.getElem?_take,if_pos hj];exact h
theorem rows_new {X N:List (List AV)} {n:Nat} {c:List AV} (h:X.length=n) (hN:N=[c]):(X.take n++N)[n]?=some c:=by
 subst hN h;simp
theorem do2_fork {s':StL} {l:List Th} {k:Nat} {t nt:Th} {e':Ev} {els:List (List D)} {R c10:List AV} {rows:List (List AV)} {S:St}
  (hat:At [(1,i64 k),(4,.ptr (.n 4) 0),(7,.ptr (.n 7) 0),(8,.ptr (.n 8) 0),(9,.ptr (.n 9) 0),(10,.ptr (.n 10) 0)]
   [(.n 4,.vs 44 R),(.n 7,.vs 107 ((encEv e').map .d)),(.n 8,.vs 44 [.d .nil,.d .nil,.d .nil,i64 0]),(.n 9,.vs 107 [i64 0,i64 0,i64 0,i64 0,i64 0]),(.n 10,.vs 109 c10),
    (.n 900,.rs 109 6 rows),(.n 901,.ds 100 1 (s'.cells.map encF)),(.n 902,.ds 3 1 (s'.owner.map encInt))] [(900,kH l k els)] S)
  (hR:R=stRef s') (h10:c10=thRow 900 k t) (hk:k<l.length) (hths:s'.ths=(l++[nt]).set k t) (hnt:nt.stack=[]) (hels:els.take t.stack.length=stk t)
  (hrow:∀ j t0,j≠k→l[j]?=some t0→rows[j]?=some (thRow 900 j t0)) (hnew:rows[l.length]?=some (x9 nt)):Do2 l s' k e' S:=by
 subst hR h10
 refine⟨t,rows,els,?_,fun j t' hj hj'=>?_,hels,hat⟩
 ·rw[hths];simp[show k<l.length+1 by omega]
 ·rw[hths,List.getElem?_set_ne (Ne.symm hj)] at hj'
  by_cases h1:j<l.length
  ·rw[List.getElem?_append_left h1] at hj'
   exact⟨_,hrow j t' hj hj',.inl ⟨t',hj',rfl,rfl⟩⟩
  ·rw[List.getElem?_append_right (by omega)] at hj'
   have h2:j - l.length=0:=by
    have:=(List.getElem?_eq_some_iff.1 hj').1
    simp at this;omega
   rw[h2] at hj'
   simp only[List.getElem?_cons_zero,Option.some.injEq] at hj'
   subst hj'
   have h3:j=l.length:=by omega
   subst h3
   exact⟨_,hnew,.inr ⟨hnt,rfl⟩⟩
theorem rows_mod {X:List (List AV)} {i j:Nat} {t:Th} (h:X[j]?=some (thRow 900 j t)):(X.modify i fun c=>zY c 2 [i64 4])[j]?=some (thRow 900 j (if i=j then { t with st:=4 } else t)):=by
 rw[List.getElem?_modify,h]
 by_cases hij:i=j
 ·simp only[if_pos hij];rfl
 ·simp only[if_neg hij];rfl
theorem do2_wake {s':StL} {l:List Th} {k i:Nat} {t:Th} {e':Ev} {els:List (List D)} {R c10:List AV} {rows:List (List AV)} {S:St}
  (hat:At [(1,i64 k),(4,.ptr (.n 4) 0),(7,.ptr (.n 7) 0),(8,.ptr (.n 8) 0),(9,.ptr (.n 9) 0),(10,.ptr (.n 10) 0)]
   [(.n 4,.vs 44 R),(.n 7,.vs 107 ((encEv e').map .d)),(.n 8,.vs 44 [.d .nil,.d .nil,.d .nil,i64 0]),(.n 9,.vs 107 [i64 0,i64 0,i64 0,i64 0,i64 0]),(.n 10,.vs 109 c10),
    (.n 900,.rs 109 6 rows),(.n 901,.ds 100 1 (s'.cells.map encF)),(.n 902,.ds 3 1 (s'.owner.map encInt))] [(900,kH l k els)] S)
  (hR:R=stRef s') (h10:c10=thRow 900 k t) (hk:k<l.length) (hths:s'.ths=(l.modify i fun u=>{ u with st:=4 }).set k t) (hels:els.take t.stack.length=stk t)
  (hrow:∀ j t0,j≠k→l[j]?=some t0→rows[j]?=some (thRow 900 j (if i=j then { t0 with st:=4 } else t0))):Do2 l s' k e' S:=by
 subst hR h10
 refine⟨t,rows,els,?_,fun j t' hj hj'=>?_,hels,hat⟩
 ·rw[hths];simp[hk]
 ·rw[hths,List.getElem?_set_ne (Ne.symm hj),List.getElem?_modify] at hj'
  obtain⟨t0,h1,h2⟩:=Option.map_eq_some_iff.1 hj'
  refine⟨_,hrow j t0 hj h1,.inl ⟨t0,h1,?_,?_⟩⟩
  ·by_cases hij:i=j
   ·simp only[if_pos hij] at h2;subst h2;rfl
   ·simp only[if_neg hij] at h2;subst h2;rfl
  ·by_cases hij:i=j
   ·simp only[if_pos hij] at h2 ⊢;subst h2;rfl
   ·simp only[if_neg hij] at h2 ⊢;subst h2;rfl
def OpL.fits (o:OpL) (s:StL) (t:Th):Prop:=InR o.code 1 17∧((o.code=2∨o.code=3)→0≤o.a∧o.a<s.cells.length)∧((o.code=12∨o.code=13)→0≤o.a∧o.a<s.owner.length)∧(o.code=16→0≤o.b∧o.b<s.owner.length) ∧
 (zC o.code).1≤t.stack.length
theorem xD {o j:Nat} {l:List Th} {t:Th} (h:l[j]?=some t):(thRows o l)[j]?=some (thRow o j t):=by
 obtain⟨h1,rfl⟩:=List.getElem?_eq_some_iff.1 h
 exact yY h1
theorem isK_s0 {j k:Nat} (h:j≠k):Key.beq (.s 900 j) (.s 900 k)=false:=by
 show(Nat.beq 900 900&&Nat.beq j k)=false
 rw[nbeq_ne h];rfl
theorem kb_ne {j k:Nat} (h:j≠k):Key.beq (.s 900 j) (.s 900 k)=false:=isK_s0 h
theorem kC {l:List Th} {k j:Nat} {els:List (List D)} (h:j≠k):kH l k els j=zP l j:=by
 unfold kH;rw[nbeq_ne h];rfl
theorem qW {j k:Nat} (h:j≠k):isK (.s 900 k) (.s 900 j)=false:=by
 show(Nat.beq 900 900&&Nat.beq j k)=false
 rw[nbeq_ne h];rfl
theorem qF {t:Th} {o:OpL} {i:Nat} (h:(zC o.code).1≤t.stack.length) (hi:i<wN o):((t.stack.drop (yH t o)).map encF)[i]?=some (encF (xC t o i)):=by
 have h1:yH t o+i<t.stack.length:=by unfold yH;unfold wN at *;omega
 simp[xC,List.getD_eq_getElem?_getD,h1]
theorem cell_get {l:List Nat} {a:Int} (h:0≤a∧a<l.length):(l.map encF)[a.toNat]?=some (encF (l.getD a.toNat 0)):=by
 have:a.toNat<l.length:=by omega
 simp[this,List.getD_eq_getElem?_getD]
theorem l3Do_sw (s:StL) (k:Nat) (o:OpL) (e:Ev) (hk:k<s.ths.length) (h5:s.ths.length≤5) (hs:s.small) (ho:o.fits s s.ths[k]) (hpc:InR s.ths[k].pc 0 1048576)
  (Q:AX→St→Prop) (K:St→Prop) (S:St) (hS:At (doL1 s k o s.ths[k]) (doO1 s k o e s.ths[k]) [(900,kH s.ths k (stk s.ths[k]))] S) (hK:∀ S',Do2 s.ths (doL s k o e).1 k (doL s k o e).2 S'→K S') :
  rT EE Tryz.f150.ntmps K Q 1 (dropC 8 (Tryz.f150.body.getD .skip)) S:=by
 have hst:=hs.2.1 _ (List.getElem_mem hk)
 have hg:s.ths.getD k th0=s.ths[k]:=by simp[List.getD_eq_getElem?_getD,hk]
 generalize ht0:s.ths[k]=t at *
 obtain⟨τ,H,rfl⟩:=hS.form
 clear hS
 obtain⟨o1,o2,o3,o4,o5⟩:=ho
 have hkn:yH t o≤t.stack.length:=Nat.sub_le _ _
 obtain⟨K0,hK0⟩:∃ K0,K0=k:=⟨k,rfl⟩
 obtain⟨K1,hK1⟩:∃ K1,K1=k:=⟨k,rfl⟩
 obtain rfl|rfl|rfl|rfl|rfl:k=0∨k=1∨k=2∨k=3∨k=4:=by omega
 all_goals
  conv=>whnf
  refine kbi (fun hc=>?_) (fun hc=>?_)
  ·have hc:o.code=1:=by simpa using hc
   conv=>whnf
   refine⟨⟨rfl,by simp;omega,by simp;omega⟩,?_⟩
   conv=>whnf
   have hd:doL s K0 o e=(s.put K0 (zS (zG t o) o.v),{ e with kind:=1 }):=by rw[hK0];unfold doL;rw[hg];simp[hc]
   rw[hK0] at hd
   rw[hd] at hK
   refine hK _ (qB (t:=zS (zG t o) o.v) (els:=stk (zS (zG t o) o.v)) ⟨⟨rfl,rfl,rfl,rfl,rfl,rfl,trivial⟩,⟨rfl,rfl,rfl,rfl,rfl,rfl,rfl,rfl,trivial⟩,⟨fun j=>?_,trivial⟩⟩ ?_ ?_ hk rfl ?_ ?_)
   ·by_cases hj:j=K0 <;> rw[hK0] at hj
    ·subst hj
     conv=>lhs;whnf
     show some (Ob.ds 100 1 _)=some (Ob.ds 100 1 _)
     simp[stk,zS,zG,encF]
    ·rw[kC hj]
     conv=>lhs;whnf
     repeat (first|(rw[kb_ne hj];conv=>lhs;whnf)|(refine hscrO ?_ (yE _ _ _);conv=>lhs;whnf))
     exact kC hj
   ·show stRef s=_
    simp[stRef,StL.put]
   ·have en:(zS (zG t o) o.v).stack.length=yH t o+1:=by simp[zS,zG];omega
    show _=[_,_,_,_,_,AV.ref _ 0 (zS (zG t o) o.v).stack.length]
    rw[en]
    rfl
   ·simp[stk,List.take_of_length_le,zG,zS]
   ·intro j t0 hj h
    repeat (first|exact xD h|refine xX ?_ (zU (by first|rfl|exact qW hj)))
  have n1:¬ o.code=1:=by simpa using hc
  clear hc
  conv=>whnf
  refine kbi (fun hc=>?_) (fun hc=>?_)
  ·have hc:o.code=2:=by simpa using hc
   conv=>whnf
   have hr:=o2 (.inl hc)
   refine .inr (.inl ⟨9,[],?_⟩)
   conv=>whnf
   refine⟨⟨by omega,by omega⟩,?_⟩
   conv=>whnf
   refine⟨encF (s.cells.getD o.a.toNat 0),⟨by rw[Nat.zero_add];exact cell_get hr,by simp[encF]⟩,?_⟩
   conv=>whnf
   refine⟨by kernel_rfl,?_⟩
   conv=>whnf
   refine⟨⟨rfl,by simp;omega,by simp;omega⟩,?_⟩
   conv=>whnf
   have hd:doL s K0 o e=(s.put K0 (zS (zG t o) (s.cells.getD o.a.toNat 0)),{ e with kind:=2,obj:=o.a }):=by rw[hK0];unfold doL;rw[hg];simp[hc]
   rw[hK0] at hd
   rw[hd] at hK
   refine hK _ (qB (t:=zS (zG t o) (s.cells.getD o.a.toNat 0)) (els:=stk (zS (zG t o) (s.cells.getD o.a.toNat 0))) ⟨⟨rfl,rfl,rfl,rfl,rfl,rfl,trivial⟩,⟨rfl,rfl,rfl,rfl,rfl,rfl,rfl,rfl,trivial⟩,⟨fun j=>?_,trivial⟩⟩ ?_ ?_ hk rfl ?_ ?_)
   ·by_cases hj:j=K0 <;> rw[hK0] at hj
    ·subst hj
     conv=>lhs;whnf
     show some (Ob.ds 100 1 _)=some (Ob.ds 100 1 _)
     simp[stk,zS,zG,encF]
    ·rw[kC hj]
     conv=>lhs;whnf
     repeat (first|(rw[kb_ne hj];conv=>lhs;whnf)|(refine hscrO ?_ (yE _ _ _);conv=>lhs;whnf))
     exact kC hj
   ·show stRef s=_
    simp[stRef,StL.put]
   ·have en:(zS (zG t o) (s.cells.getD o.a.toNat 0)).stack.length=yH t o+1:=by simp[zS,zG];omega
    show _=[_,_,_,_,_,AV.ref _ 0 (zS (zG t o) (s.cells.getD o.a.toNat 0)).stack.length]
    rw[en]
    rfl
   ·simp[stk,List.take_of_length_le,zG,zS]
   ·intro j t0 hj h
    repeat (first|exact xD h|refine xX ?_ (zU (by first|rfl|exact qW hj)))
  have n2:¬ o.code=2:=by simpa using hc
  clear hc
  conv=>whnf
  refine kbi (fun hc=>?_) (fun hc=>?_)
  ·have hc:o.code=3:=by simpa using hc
   conv=>whnf
   have hr:=o2 (.inr hc)
   have htk:wN o=1:=by simp[wN,zC,hc]
   refine .inr (.inl ⟨7,[],?_⟩)
   conv=>whnf
   refine⟨⟨by omega,by omega⟩,?_⟩
   conv=>whnf
   refine⟨encF (xC t o 0),⟨qF o5 (by omega),by simp[encF]⟩,?_⟩
   conv=>whnf
   refine⟨by kernel_rfl,?_⟩
   conv=>whnf
   refine⟨⟨by omega,by omega⟩,?_⟩
   conv=>whnf
   have hd:doL s K0 o e=({ s with cells:=s.cells.set o.a.toNat (xC t o 0) }.put K0 (zG t o),{ e with kind:=3,obj:=o.a }):=by rw[hK0];unfold doL;rw[hg];simp[hc]
   rw[hK0] at hd
   rw[hd] at hK
   refine hK _ (qB (t:=zG t o) (els:=stk t) ⟨⟨rfl,rfl,rfl,rfl,rfl,rfl,trivial⟩,⟨rfl,rfl,rfl,rfl,rfl,rfl,?_,rfl,trivial⟩,⟨fun j=>?_,trivial⟩⟩ ?_ ?_ hk rfl ?_ ?_)
   ·conv=>lhs;whnf
    show some (Ob.ds 100 1 ((s.cells.map encF).set (0+o.a.toNat) (encF (xC t o 0))))=some (Ob.ds 100 1 ((s.cells.set o.a.toNat (xC t o 0)).map encF))
    rw[Nat.zero_add,List.map_set]
   ·((conv=>lhs;whnf);(repeat (refine hscrO ?_ (famK_scr _ _ _ _ _);conv=>lhs;whnf));rfl)
   ·show stRef s=_
    simp[stRef,StL.put]
   ·have en:(zG t o).stack.length=yH t o:=by simp[zS,zG];omega
    show _=[_,_,_,_,_,AV.ref _ 0 (zG t o).stack.length]
    rw[en]
    rfl
   ·simp[stk,List.take_of_length_le,zG,zS]
   ·intro j t0 hj h
    repeat (first|exact xD h|refine xX ?_ (zU (by first|rfl|exact qW hj)))
  have n3:¬ o.code=3:=by simpa using hc
  clear hc
  conv=>whnf
  refine kbi (fun hc=>?_) (fun hc=>?_)
  ·have hc:o.code=10:=by simpa using hc
   conv=>whnf
   have hd:doL s K0 o e=(s.put K0 { zG t o with pc:=o.a },{ e with kind:=1 }):=by rw[hK0];unfold doL;rw[hg];simp[hc]
   rw[hK0] at hd
   rw[hd] at hK
   refine hK _ (qB (t:={ zG t o with pc:=o.a }) (els:=stk t) ⟨⟨rfl,rfl,rfl,rfl,rfl,rfl,trivial⟩,⟨rfl,rfl,rfl,rfl,rfl,rfl,rfl,rfl,trivial⟩,⟨fun j=>?_,trivial⟩⟩ ?_ ?_ hk rfl ?_ ?_)
   ·((conv=>lhs;whnf);(repeat (refine hscrO ?_ (famK_scr _ _ _ _ _);conv=>lhs;whnf));rfl)
   ·show stRef s=_
    simp[stRef,StL.put]
   ·have en:({ zG t o with pc:=o.a }).stack.length=yH t o:=by simp[zS,zG];omega
    show _=[_,_,_,_,_,AV.ref _ 0 ({ zG t o with pc:=o.a }).stack.length]
    rw[en]
    rfl
   ·simp[stk,List.take_of_length_le,zG,zS]
   ·intro j t0 hj h
    repeat (first|exact xD h|refine xX ?_ (zU (by first|rfl|exact qW hj)))
  have n10:¬ o.code=10:=by simpa using hc
  clear hc
  conv=>whnf
  refine kbi (fun hc=>?_) (fun hc=>?_)
  ·have hc:o.code=11:=by simpa using hc
   conv=>whnf
   have htk:wN o=1:=by simp[wN,zC,hc]
   refine⟨⟨by omega,by omega⟩,?_⟩
   conv=>whnf
   refine⟨encF (xC t o 0),⟨qF o5 (by omega),by simp[encF]⟩,?_⟩
   conv=>whnf
   refine ocase (vT _) (fun hn=>?_) (fun hn=>?_)
   ·conv=>whnf
    have hn':zO (xC t o 0)=true:=hn
    have hd:doL s K0 o e=(s.put K0 { zG t o with pc:=o.a },{ e with kind:=1 }):=by rw[hK0];unfold doL;rw[hg];simp[hc,hn']
    rw[hK0] at hd
    rw[hd] at hK
    refine hK _ (qB (t:={ zG t o with pc:=o.a }) (els:=stk t) ⟨⟨rfl,rfl,rfl,rfl,rfl,rfl,trivial⟩,⟨rfl,rfl,rfl,rfl,rfl,rfl,rfl,rfl,trivial⟩,⟨fun j=>?_,trivial⟩⟩ ?_ ?_ hk rfl ?_ ?_)
    ·((conv=>lhs;whnf);(repeat (refine hscrO ?_ (famK_scr _ _ _ _ _);conv=>lhs;whnf));rfl)
    ·show stRef s=_
     simp[stRef,StL.put]
    ·have en:({ zG t o with pc:=o.a }).stack.length=yH t o:=by simp[zS,zG];omega
     show _=[_,_,_,_,_,AV.ref _ 0 ({ zG t o with pc:=o.a }).stack.length]
     rw[en]
     rfl
    ·simp[stk,List.take_of_length_le,zG,zS]
    ·intro j t0 hj h
     repeat (first|exact xD h|refine xX ?_ (zU (by first|rfl|exact qW hj)))
   conv=>whnf
   refine⟨⟨by omega,by omega⟩,?_⟩
   conv=>whnf
   refine⟨encF (xC t o 0),⟨qF o5 (by omega),by simp[encF]⟩,?_⟩
   conv=>whnf
   refine kbi (fun hz=>?_) (fun hz=>?_)
   ·conv=>whnf
    have hz':fcmp .eql (xC t o 0) 0=true:=hz
    have hd:doL s K0 o e=(s.put K0 { zG t o with pc:=o.a },{ e with kind:=1 }):=by rw[hK0];unfold doL;rw[hg];simp[hc,hz']
    rw[hK0] at hd
    rw[hd] at hK
    refine hK _ (qB (t:={ zG t o with pc:=o.a }) (els:=stk t) ⟨⟨rfl,rfl,rfl,rfl,rfl,rfl,trivial⟩,⟨rfl,rfl,rfl,rfl,rfl,rfl,rfl,rfl,trivial⟩,⟨fun j=>?_,trivial⟩⟩ ?_ ?_ hk rfl ?_ ?_)
    ·((conv=>lhs;whnf);(repeat (refine hscrO ?_ (famK_scr _ _ _ _ _);conv=>lhs;whnf));rfl)
    ·show stRef s=_
     simp[stRef,StL.put]
    ·have en:({ zG t o with pc:=o.a }).stack.length=yH t o:=by simp[zS,zG];omega
     show _=[_,_,_,_,_,AV.ref _ 0 ({ zG t o with pc:=o.a }).stack.length]
     rw[en]
     rfl
    ·simp[stk,List.take_of_length_le,zG,zS]
    ·intro j t0 hj h
     repeat (first|exact xD h|refine xX ?_ (zU (by first|rfl|exact qW hj)))
   conv=>whnf
   have hz':¬ (zO (xC t o 0)=true∨fcmp .eql (xC t o 0) 0=true):=fun e=>e.elim hn hz
   have hd:doL s K0 o e=(s.put K0 (zG t o),{ e with kind:=1 }):=by rw[hK0];unfold doL;rw[hg];simp[hc];rw[if_neg hz']
   rw[hK0] at hd
   rw[hd] at hK
   refine hK _ (qB (t:=zG t o) (els:=stk t) ⟨⟨rfl,rfl,rfl,rfl,rfl,rfl,trivial⟩,⟨rfl,rfl,rfl,rfl,rfl,rfl,rfl,rfl,trivial⟩,⟨fun j=>?_,trivial⟩⟩ ?_ ?_ hk rfl ?_ ?_)
   ·((conv=>lhs;whnf);(repeat (refine hscrO ?_ (famK_scr _ _ _ _ _);conv=>lhs;whnf));rfl)
   ·show stRef s=_
    simp[stRef,StL.put]
   ·have en:(zG t o).stack.length=yH t o:=by simp[zS,zG];omega
    show _=[_,_,_,_,_,AV.ref _ 0 (zG t o).stack.length]
    rw[en]
    rfl
   ·simp[stk,List.take_of_length_le,zG,zS]
   ·intro j t0 hj h
    repeat (first|exact xD h|refine xX ?_ (zU (by first|rfl|exact qW hj)))
  have n11:¬ o.code=11:=by simpa using hc
  clear hc
  conv=>whnf
  refine kbi (fun hc=>?_) (fun hc=>?_)
  ·have hc:o.code=12:=by simpa using hc
   conv=>whnf
   have hr:=o3 (.inl hc)
   refine⟨⟨by omega,by omega⟩,?_⟩
   conv=>whnf
   have hd:doL s K0 o e=({ s with owner:=s.owner.set o.a.toNat ((K0:Nat):Int) }.put K0 (zG t o),{ e with kind:=4,obj:=o.a }):=by rw[hK0];unfold doL;rw[hg];simp[hc]
   rw[hK0] at hd
   rw[hd] at hK
   refine hK _ (qB (t:=zG t o) (els:=stk t) ⟨⟨rfl,rfl,rfl,rfl,rfl,rfl,trivial⟩,⟨rfl,rfl,rfl,rfl,rfl,rfl,rfl,?_,trivial⟩,⟨fun j=>?_,trivial⟩⟩ ?_ ?_ hk rfl ?_ ?_)
   ·conv=>lhs;whnf
    show some (Ob.ds 3 1 ((s.owner.map encInt).set (0+o.a.toNat) (encInt _)))=some (Ob.ds 3 1 ((s.owner.set o.a.toNat _).map encInt))
    rw[Nat.zero_add,List.map_set]
   ·((conv=>lhs;whnf);(repeat (refine hscrO ?_ (famK_scr _ _ _ _ _);conv=>lhs;whnf));rfl)
   ·show stRef s=_
    simp[stRef,StL.put]
   ·have en:(zG t o).stack.length=yH t o:=by simp[zS,zG];omega
    show _=[_,_,_,_,_,AV.ref _ 0 (zG t o).stack.length]
    rw[en]
    rfl
   ·simp[stk,List.take_of_length_le,zG,zS]
   ·intro j t0 hj h
    repeat (first|exact xD h|refine xX ?_ (zU (by first|rfl|exact qW hj)))
  have n12:¬ o.code=12:=by simpa using hc
  clear hc
  conv=>whnf
  refine kbi (fun hc=>?_) (fun hc=>?_)
  ·have hc:o.code=13:=by simpa using hc
   conv=>whnf
   have hr:=o3 (.inr hc)
   refine⟨⟨by omega,by omega⟩,?_⟩
   conv=>whnf
   have hd:doL s K0 o e=({ s with owner:=s.owner.set o.a.toNat (-1) }.put K0 (zG t o),{ e with kind:=5,obj:=o.a }):=by rw[hK0];unfold doL;rw[hg];simp[hc]
   rw[hK0] at hd
   rw[hd] at hK
   refine hK _ (qB (t:=zG t o) (els:=stk t) ⟨⟨rfl,rfl,rfl,rfl,rfl,rfl,trivial⟩,⟨rfl,rfl,rfl,rfl,rfl,rfl,rfl,?_,trivial⟩,⟨fun j=>?_,trivial⟩⟩ ?_ ?_ hk rfl ?_ ?_)
   ·conv=>lhs;whnf
    show some (Ob.ds 3 1 ((s.owner.map encInt).set (0+o.a.toNat) (encInt (-1))))=some (Ob.ds 3 1 ((s.owner.set o.a.toNat (-1)).map encInt))
    rw[Nat.zero_add,List.map_set]
   ·((conv=>lhs;whnf);(repeat (refine hscrO ?_ (famK_scr _ _ _ _ _);conv=>lhs;whnf));rfl)
   ·show stRef s=_
    simp[stRef,StL.put]
   ·have en:(zG t o).stack.length=yH t o:=by simp[zS,zG];omega
    show _=[_,_,_,_,_,AV.ref _ 0 (zG t o).stack.length]
    rw[en]
    rfl
   ·simp[stk,List.take_of_length_le,zG,zS]
   ·intro j t0 hj h
    repeat (first|exact xD h|refine xX ?_ (zU (by first|rfl|exact qW hj)))
  have n13:¬ o.code=13:=by simpa using hc
  clear hc
  conv=>whnf
  refine kbi (fun hc=>?_) (fun hc=>?_)
  ·have hc:o.code=14:=by simpa using hc
   conv=>whnf
   refine⟨⟨rfl,by simp;omega,by simp;omega⟩,?_⟩
   conv=>whnf
   refine .inr (.inl ⟨6,[],?_⟩)
   conv=>whnf
   refine⟨_,dN o.a,?_⟩
   conv=>whnf
   refine⟨by kernel_rfl,?_⟩
   conv=>whnf
   refine⟨⟨fun c hc'=>?_,?_,?_⟩,?_⟩
   ·have hc':c∈[[i64 o.a,i64 0,i64 1,i64 (-1),i64 (-1),AV.d (.sl [])]]:=hc'
    simp only[List.mem_singleton] at hc'
    subst hc';rfl
   ·show(s.ths.length+1)*64≤_
    omega
   ·show s.ths.length+1≤_
    omega
   conv=>whnf
   have hd:doL s K0 o e=({ s with ths:=s.ths++[qV o.a] }.put K0 (zS (zG t o) (FloatKind.f64.nearest (s.ths.length:Int))),{ e with kind:=6,obj:=s.ths.length }):=by rw[hK0];unfold doL;rw[hg];simp[hc]
   rw[hK0] at hd
   rw[hd] at hK
   refine hK _ (do2_fork (t:=zS (zG t o) (FloatKind.f64.nearest (s.ths.length:Int))) (nt:=qV o.a) (els:=stk (zS (zG t o) (FloatKind.f64.nearest (s.ths.length:Int)))) ⟨⟨rfl,rfl,rfl,rfl,rfl,rfl,trivial⟩,⟨rfl,rfl,rfl,rfl,rfl,rfl,rfl,rfl,trivial⟩,⟨fun j=>?_,trivial⟩⟩ ?_ ?_ hk rfl rfl ?_ ?_ ?_)
   ·by_cases hj:j=K0 <;> rw[hK0] at hj
    ·subst hj
     conv=>lhs;whnf
     show some (Ob.ds 100 1 _)=some (Ob.ds 100 1 _)
     simp[stk,zS,zG,encF]
    ·rw[kC hj]
     conv=>lhs;whnf
     repeat (first|(rw[kb_ne hj];conv=>lhs;whnf)|(refine hscrO ?_ (yE _ _ _);conv=>lhs;whnf))
     exact kC hj
   ·show[AV.dref (.n 900) (s.ths.length+1),AV.ref (.n 901) 0 s.cells.length,AV.ref (.n 902) 0 s.owner.length,i64 s.fault]=_
    simp[stRef,StL.put]
   ·have en:(zS (zG t o) (FloatKind.f64.nearest (s.ths.length:Int))).stack.length=yH t o+1:=by simp[zS,zG];omega
    show _=[_,_,_,_,_,AV.ref _ 0 (zS (zG t o) (FloatKind.f64.nearest (s.ths.length:Int))).stack.length]
    rw[en]
    rfl
   ·simp[stk,List.take_of_length_le,zG,zS]
   ·intro j t0 hj h
    have hjl:=(List.getElem?_eq_some_iff.1 h).1
    refine xX ?_ (zU (by first|rfl|exact qW hj))
    refine rows_app ?_ hjl
    repeat (first|exact xD h|refine xX ?_ (zU (by first|rfl|exact qW hj)))
   ·refine xX ?_ rfl
    refine rows_new (by simp[zR]) ?_
    rfl
  have n14:¬ o.code=14:=by simpa using hc
  clear hc
  conv=>whnf
  refine kbi (fun hc=>?_) (fun hc=>?_)
  ·have hc:o.code=15:=by simpa using hc
   conv=>whnf
   have hd:doL s K0 o e=(s.put K0 (zG t o),{ e with kind:=7,obj:=(yC s t).getD (-1) }):=by rw[hK0];unfold doL;rw[hg];simp[hc]
   rw[hK0] at hd
   rw[hd] at hK
   refine hK _ (qB (t:=zG t o) (els:=stk t) ⟨⟨rfl,rfl,rfl,rfl,rfl,rfl,trivial⟩,⟨rfl,rfl,rfl,rfl,rfl,rfl,rfl,rfl,trivial⟩,⟨fun j=>?_,trivial⟩⟩ ?_ ?_ hk rfl ?_ ?_)
   ·((conv=>lhs;whnf);(repeat (refine hscrO ?_ (famK_scr _ _ _ _ _);conv=>lhs;whnf));rfl)
   ·show stRef s=_
    simp[stRef,StL.put]
   ·have en:(zG t o).stack.length=yH t o:=by simp[zS,zG];omega
    show _=[_,_,_,_,_,AV.ref _ 0 (zG t o).stack.length]
    rw[en]
    rfl
   ·simp[stk,List.take_of_length_le,zG,zS]
   ·intro j t0 hj h
    repeat (first|exact xD h|refine xX ?_ (zU (by first|rfl|exact qW hj)))
  have n15:¬ o.code=15:=by simpa using hc
  clear hc
  conv=>whnf
  refine kbi (fun hc=>?_) (fun hc=>?_)
  ·have hc:o.code=16:=by simpa using hc
   conv=>whnf
   have hr:=o4 hc
   refine⟨⟨by omega,by omega⟩,?_⟩
   conv=>whnf
   have hd:doL s K0 o e=({ s with owner:=s.owner.set o.b.toNat (-1) }.put K0 { zG t o with st:=3,cond:=o.a,lock:=o.b,pc:=(zG t o).pc - 1 },{ e with kind:=8,obj:=o.a,lock:=o.b }):=by rw[hK0];unfold doL;rw[hg];simp[hc]
   rw[hK0] at hd
   rw[hd] at hK
   refine hK _ (qB (t:={ zG t o with st:=3,cond:=o.a,lock:=o.b,pc:=(zG t o).pc - 1 }) (els:=stk t) ⟨⟨rfl,rfl,rfl,rfl,rfl,rfl,trivial⟩,⟨rfl,rfl,rfl,rfl,rfl,rfl,rfl,?_,trivial⟩,⟨fun j=>?_,trivial⟩⟩ ?_ ?_ hk rfl ?_ ?_)
   ·conv=>lhs;whnf
    show some (Ob.ds 3 1 ((s.owner.map encInt).set (0+o.b.toNat) (encInt (-1))))=some (Ob.ds 3 1 ((s.owner.set o.b.toNat (-1)).map encInt))
    rw[Nat.zero_add,List.map_set]
   ·((conv=>lhs;whnf);(repeat (refine hscrO ?_ (famK_scr _ _ _ _ _);conv=>lhs;whnf));rfl)
   ·show stRef s=_
    simp[stRef,StL.put]
   ·have en:({ zG t o with st:=3,cond:=o.a,lock:=o.b,pc:=(zG t o).pc - 1 }).stack.length=yH t o:=by simp[zS,zG];omega
    have ew:IntKind.i64.wrap (t.pc+1 - 1)=t.pc+1 - 1:=zM (by have:=hpc.1;omega) (by have:=hpc.2;omega)
    show[_,AV.d (.int .i64 (IntKind.i64.wrap (t.pc+1 - 1))),_,_,_,_]=[_,_,_,_,_,AV.ref _ 0 ({ zG t o with st:=3,cond:=o.a,lock:=o.b,pc:=(zG t o).pc - 1 }).stack.length]
    rw[en,ew]
    rfl
   ·simp[stk,List.take_of_length_le,zG,zS]
   ·intro j t0 hj h
    repeat (first|exact xD h|refine xX ?_ (zU (by first|rfl|exact qW hj)))
  have n16:¬ o.code=16:=by simpa using hc
  clear hc
  conv=>whnf
  refine kbi (fun hc=>?_) (fun hc=>?_)
  ·have hc:o.code=17:=by simpa using hc
   conv=>whnf
   have hen:(zG t o).stack.length=yH t o:=by simp[zG];omega
   refine pE (fun i:Nat=>[(1,i64 ((K0:Nat):Int)),(4,.ptr (.n 4) 0),(6,.ptr (.n 6) 0),(7,.ptr (.n 7) 0),(8,.ptr (.n 8) 0),(9,.ptr (.n 9) 0),(10,.ptr (.n 10) 0),(215,.dref (.n 900) s.ths.length),(216,i64 s.ths.length),(217,i64 i)])
    (fun i=>[(.n 4,.vs 44 (stRef s)),(.n 6,.vs 102 ((encOp o).map .d)),(.n 7,.vs 107 ((encEv { e with kind:=10,obj:=o.a }).map .d)),(.n 8,.vs 44 [.d .nil,.d .nil,.d .nil,i64 0]),(.n 9,.vs 107 [i64 0,i64 0,i64 0,i64 0,i64 0]),
     (.n 10,.vs 109 (thRow 900 K0 (zG t o))),(.n 900,.rs 109 6 (thRows 900 s.ths)),(.n 901,.ds 100 1 (s.cells.map encF)),(.n 902,.ds 3 1 (s.owner.map encInt))])
    (fun i=>[(900,kH s.ths K0 (stk t))]) (fun i=>s.ths.length - i) (fun i=>i≤s.ths.length∧∀ j u,j<i→s.ths[j]?=some u→¬ (u.st=3∧u.cond=o.a)) 0 Weak.refl ?_ ?_ ?_ ⟨Nat.zero_le _,fun j u hj=>by omega⟩ ?_
   all_goals subst hK0
   ·exact⟨rfl,rfl,rfl,rfl,rfl,rfl,rfl,rfl,rfl,rfl,trivial⟩
   ·refine⟨rfl,rfl,rfl,rfl,rfl,?_,?_,rfl,rfl,trivial⟩
    ·show _=some (Ob.vs 109 [_,_,_,_,_,AV.ref _ 0 (zG t o).stack.length])
     rw[hen]
     rfl
    ·first|((conv=>lhs;whnf);refine congrArg some ?_;repeat (first|rfl|refine xJ ?_ (by exact congrArg _ (yB fun _ _=>rfl))))|rfl
   ·refine⟨fun j=>?_,trivial⟩
    ((conv=>lhs;whnf);(repeat (refine hscrO ?_ (famK_scr _ _ _ _ _);conv=>lhs;whnf));rfl)
   rintro i τ H ⟨hi,hno⟩
   conv=>whnf
   refine kbi (fun hl=>?_) (fun hl=>?_)
   ·have hlt:i<s.ths.length:=by simpa using hl
    conv=>whnf
    refine⟨⟨by omega,by omega⟩,?_⟩
    conv=>whnf
    refine⟨thRow 900 i s.ths[i],⟨by repeat (first|exact pP hlt rfl|refine xX ?_ rfl),by simp[thRow]⟩,?_⟩
    conv=>whnf
    have nxt:¬ (s.ths[i].st=3∧s.ths[i].cond=o.a)→∀ j u,j<i+1→s.ths[j]?=some u→¬ (u.st=3∧u.cond=o.a):=by
     intro hx j u hj hu
     by_cases hji:j=i
     ·subst hji
      rw[List.getElem?_eq_getElem hlt] at hu
      simp only[Option.some.injEq] at hu
      subst hu;exact hx
     ·exact hno j u (by omega) hu
    refine kbi (fun h3=>?_) (fun h3=>?_)
    ·have h3:s.ths[i].st=3:=by simpa using h3
     conv=>whnf
     refine kbi (fun h4=>?_) (fun h4=>?_)
     ·have h4:s.ths[i].cond=o.a:=by simpa using h4
      conv=>whnf
      refine⟨⟨by omega,by omega⟩,?_⟩
      conv=>whnf
      have hw:wO s.ths o.a=some i:=by
       unfold wO
       rw[List.findIdx?_eq_some_iff_getElem]
       refine⟨hlt,by simp[h3,h4],fun j hj=>?_⟩
       have:=hno j _ hj (List.getElem?_eq_getElem (by omega))
       simpa using this
      have hd:doL s K1 o e=({ s with ths:=s.ths.modify i fun u=>{ u with st:=4 } }.put K1 (zG t o),{ e with kind:=10,obj:=o.a,lock:=i }):=by rw[hK1];unfold doL;rw[hg];simp[hc,hw]
      rw[hK1] at hd
      rw[hd] at hK
      refine hK _ (do2_wake (i:=i) (t:=zG t o) (els:=stk t) ⟨⟨rfl,rfl,rfl,rfl,rfl,rfl,trivial⟩,⟨rfl,rfl,rfl,rfl,rfl,rfl,rfl,rfl,trivial⟩,⟨fun j=>?_,trivial⟩⟩ ?_ rfl hk rfl ?_ ?_)
      ·((conv=>lhs;whnf);(repeat (refine hscrO ?_ (famK_scr _ _ _ _ _);conv=>lhs;whnf));rfl)
      ·show stRef s=_
       simp[stRef,StL.put]
      ·simp[stk,List.take_of_length_le,zG]
      ·intro j t0 hj h
       refine rows_mod (X:=(thRows 900 s.ths).map (scrPL (isK (.n 16)))) (i:=i) ?_
       repeat (first|exact xD h|refine xX ?_ (zU (by first|rfl|exact qW hj)))
     ·have h4:¬ s.ths[i].cond=o.a:=by simpa using h4
      conv=>whnf
      refine⟨i+1,_,Weak.refl,⟨by omega,nxt (fun hx=>h4 hx.2)⟩,by show s.ths.length - (i+1)<s.ths.length - i;omega,⟨rfl,rfl,rfl,rfl,rfl,rfl,rfl,rfl,rfl,zF hlt (by omega),trivial⟩,⟨rfl,rfl,rfl,rfl,rfl,rfl,?_,rfl,rfl,trivial⟩,⟨fun j=>?_,trivial⟩⟩
      ·((conv=>lhs;whnf);refine congrArg some ?_;repeat (first|rfl|refine xJ ?_ (by exact congrArg _ (yB fun _ _=>rfl))))
      ·((conv=>lhs;whnf);(repeat (refine hscrO ?_ (famK_scr _ _ _ _ _);conv=>lhs;whnf));rfl)
    ·have h3:¬ s.ths[i].st=3:=by simpa using h3
     conv=>whnf
     refine⟨i+1,_,Weak.refl,⟨by omega,nxt (fun hx=>h3 hx.1)⟩,by show s.ths.length - (i+1)<s.ths.length - i;omega,⟨rfl,rfl,rfl,rfl,rfl,rfl,rfl,rfl,rfl,zF hlt (by omega),trivial⟩,⟨rfl,rfl,rfl,rfl,rfl,rfl,?_,rfl,rfl,trivial⟩,⟨fun j=>?_,trivial⟩⟩
     ·((conv=>lhs;whnf);refine congrArg some ?_;repeat (first|rfl|refine xJ ?_ (by exact congrArg _ (yB fun _ _=>rfl))))
     ·((conv=>lhs;whnf);(repeat (refine hscrO ?_ (famK_scr _ _ _ _ _);conv=>lhs;whnf));rfl)
   ·have hge:s.ths.length≤i:=by simpa using hl
    conv=>whnf
    have hw:wO s.ths o.a=none:=by
     unfold wO
     rw[List.findIdx?_eq_none_iff]
     intro u hu
     obtain⟨j,hj,rfl⟩:=List.mem_iff_getElem.1 hu
     have:=hno j _ (by omega) (List.getElem?_eq_getElem hj)
     simp only[Bool.and_eq_false_iff,beq_eq_false_iff_ne]
     by_cases h3:s.ths[j].st=3
     ·exact .inr fun h4=>this ⟨h3,h4⟩
     ·exact .inl h3
    have hd:doL s K1 o e=(s.put K1 (zG t o),{ e with kind:=10,obj:=o.a }):=by rw[hK1];unfold doL;rw[hg];simp[hc,hw]
    rw[hK1] at hd
    rw[hd] at hK
    refine hK _ (qB (t:=zG t o) (els:=stk t) ⟨⟨rfl,rfl,rfl,rfl,rfl,rfl,trivial⟩,⟨rfl,rfl,rfl,rfl,rfl,rfl,rfl,rfl,trivial⟩,⟨fun j=>?_,trivial⟩⟩ ?_ rfl hk rfl ?_ ?_)
    ·((conv=>lhs;whnf);(repeat (refine hscrO ?_ (famK_scr _ _ _ _ _);conv=>lhs;whnf));rfl)
    ·show stRef s=_
     simp[stRef,StL.put]
    ·simp[stk,List.take_of_length_le,zG]
    ·intro j t0 hj h
     repeat (first|exact xD h|refine xX ?_ (zU (by first|rfl|exact qW hj)))
  have n17:¬ o.code=17:=by simpa using hc
  clear hc
  conv=>whnf
  have hcode:4≤o.code∧o.code≤9:=by have:=o1.1;have:=o1.2;omega
  have htk:wN o=2:=by simp only[wN,zC];rw[if_neg (by omega),if_neg (by omega),if_pos hcode];rfl
  refine .inr (.inl ⟨12,[],?_⟩)
  conv=>whnf
  refine⟨⟨by omega,by omega⟩,?_⟩
  conv=>whnf
  refine⟨encF (xC t o 0),⟨qF o5 (by omega),by simp[encF]⟩,?_⟩
  conv=>whnf
  refine⟨⟨by omega,by omega⟩,?_⟩
  conv=>whnf
  refine⟨encF (xC t o 1),⟨qF o5 (by omega),by simp[encF]⟩,?_⟩
  conv=>whnf
  refine⟨_,l3Reckon_ok _ _ _,?_⟩
  conv=>whnf
  refine⟨by kernel_rfl,?_⟩
  conv=>whnf
  refine⟨⟨rfl,by simp;omega,by simp;omega⟩,?_⟩
  conv=>whnf
  have hd:doL s K0 o e=(s.put K0 (zS (zG t o) (yP o.code (xC t o 0) (xC t o 1))),{ e with kind:=1 }):=by rw[hK0];unfold doL;rw[hg];simp[n1,n2,n3,n10,n11,n12,n13,n14,n15,n16,n17]
  rw[hK0] at hd
  rw[hd] at hK
  refine hK _ (qB (t:=zS (zG t o) (yP o.code (xC t o 0) (xC t o 1))) (els:=stk (zS (zG t o) (yP o.code (xC t o 0) (xC t o 1)))) ⟨⟨rfl,rfl,rfl,rfl,rfl,rfl,trivial⟩,⟨rfl,rfl,rfl,rfl,rfl,rfl,rfl,rfl,trivial⟩,⟨fun j=>?_,trivial⟩⟩ ?_ ?_ hk rfl ?_ ?_)
  ·by_cases hj:j=K0 <;> rw[hK0] at hj
   ·subst hj
    conv=>lhs;whnf
    show some (Ob.ds 100 1 _)=some (Ob.ds 100 1 _)
    simp[stk,zS,zG,encF]
   ·rw[kC hj]
    conv=>lhs;whnf
    repeat (first|(rw[kb_ne hj];conv=>lhs;whnf)|(refine hscrO ?_ (yE _ _ _);conv=>lhs;whnf))
    exact kC hj
  ·show stRef s=_
   simp[stRef,StL.put]
  ·have en:(zS (zG t o) (yP o.code (xC t o 0) (xC t o 1))).stack.length=yH t o+1:=by simp[zS,zG];omega
   show _=[_,_,_,_,_,AV.ref _ 0 (zS (zG t o) (yP o.code (xC t o 0) (xC t o 1))).stack.length]
   rw[en]
   rfl
  ·simp[stk,List.take_of_length_le,zG,zS]
  ·intro j t0 hj h
   repeat (first|exact xD h|refine xX ?_ (zU (by first|rfl|exact qW hj)))
end Ai
namespace Ai
set_option maxRecDepth 100000
open Go Go.Proofs
theorem famK_self {l:List Th} {k j:Nat} (hk:k<l.length):kH l k (stk l[k]) j=zP l j:=by
 unfold kH
 by_cases hj:j=k
 ·subst hj
  rw[show Nat.beq j j=true from Nat.beq_refl j]
  simp[zP,hk]
 ·rw[nbeq_ne hj];rfl
theorem l3Do_ok (hI:xB) (s:StL) (k:Nat) (o:OpL) (e:Ev) (hk:k<s.ths.length) (h5:s.ths.length≤5) (hs:s.small) (ho:o.fits s s.ths[k]) (hpc:InR s.ths[k].pc 0 1048576) (H0:Key→Option Ob) (hH:StH s H0) :
  IOCall EE 150 [.agg (stRef s),i64 k,agg (encOp o),agg (encEv e)] H0 (doPost (doL s k o e).1 (doL s k o e).2):=by
 obtain⟨g1,g2,g3,g4⟩:=hH
 refine fZ (fn:=Tryz.f150) (c:=Tryz.f150.body.getD .skip) Tryz.func150 rfl (by kernel_rfl) rfl ?_
 have hat:At [(0,.agg (stRef s)),(1,i64 k),(2,agg (encOp o)),(3,agg (encEv e))] [(.n 900,.rs 109 6 (thRows 900 s.ths)),(.n 901,.ds 100 1 (s.cells.map encF)),(.n 902,.ds 3 1 (s.owner.map encInt))] [(900,kH s.ths k (stk s.ths[k]))]
   ⟨fun i=>[AV.agg (stRef s),i64 k,agg (encOp o),agg (encEv e)].getD i .junk,H0⟩ :=
  ⟨⟨rfl,rfl,rfl,rfl,trivial⟩,⟨g1,g3,g4,trivial⟩,⟨fun j=>by rw[famK_self hk];exact g2 j,trivial⟩⟩
 obtain⟨τ,H,hf⟩:=hat.form
 rw[hf]
 refine m5 8 (At (doL1 s k o s.ths[k]) (doO1 s k o e s.ths[k]) [(900,kH s.ths k (stk s.ths[k]))]) (fun K hK=>l3Do_pre hI s k o e hk h5 hs ho.2.2.2.2 hpc τ H _ K hK) (fun S hS=>?_)
 refine m5 1 (Do2 s.ths (doL s k o e).1 k (doL s k o e).2) (fun K hK=>l3Do_sw s k o e hk h5 hs ho hpc _ K S hS hK) (fun S' hS'=>?_)
 exact l3Do_fin s.ths _ k _ (by omega) S' hS'
end Ai
namespace Ai
set_option maxRecDepth 100000
open Go Go.Proofs
def ev0 (k:Nat) (t:Th):Ev:=⟨k,0,-1,-1,t.pc⟩
noncomputable def zQ (p:ProgL) (s:StL) (k:Nat):StL × Ev :=
 let t:=s.ths.getD k th0
 if t.st=4 then
  ({ s with owner:=s.owner.set t.lock.toNat k }.put k { t with st:=1,cond:=-1,lock:=-1,pc:=if (yL p t).isSome then t.pc+1 else t.pc },{ ev0 k t with kind:=9,obj:=t.cond,lock:=t.lock })
 else match yL p t with
  |none=>(s.put k { t with st:=2 },{ ev0 k t with kind:=11 })
  |some o=>if yD s k o=0 then doL s k o (ev0 k t) else ({ s with fault:=yD s k o },{ ev0 k t with kind:=12,obj:=yD s k o })
structure Th.ready (t:Th) (p:ProgL) (s:StL) (k:Nat):Prop where
 inP:t.inP p
 pc:InR t.pc 0 1048576
 lock:t.st=4→0≤t.lock∧t.lock<s.owner.length
 op:∀ o,yL p t=some o→o.inS s∧(yD s k o=0→o.fits s t)
theorem lK {X:List (List AV)} {sz k off j:Nat} {xs c:List AV} (hj:j≠k) (h:X[j]?=some c):(yZ X sz k off xs)[j]?=some c:=by
 unfold yZ
 cases (Nat.beq off 0&&Nat.beq xs.length sz) with
 |true=>simp only[cond_true];rw[List.getElem?_set_ne (Ne.symm hj)];exact h
 |false=>simp only[cond_false];rw[List.getElem?_modify,h];simp[Ne.symm hj]
theorem vE {X:List (List AV)} {sz k off:Nat} {xs c c':List AV} (h:X[k]?=some c) (e:(bif Nat.beq off 0&&Nat.beq xs.length sz then xs else zY c off xs)=c'):(yZ X sz k off xs)[k]?=some c':=by
 unfold yZ
 subst e
 have hk:=(List.getElem?_eq_some_iff.1 h).1
 cases (Nat.beq off 0&&Nat.beq xs.length sz) with
 |true=>simp only[cond_true];rw[List.getElem?_set_self hk]
 |false=>simp only[cond_false];rw[List.getElem?_modify,h];simp
theorem fz_st3 {s:StL} {S:St} {rows:List (List AV)} {n m l:Nat} (h1:S.H (.n 900)=some (.rs 109 6 rows)) (hv:∀ (j:Nat) (row:List AV) (t:Th),s.ths[j]?=some t→rows[j]?=some row→fz1s S row=some (zD t))
  (h3:S.H (.n 901)=some (.ds 100 1 (s.cells.map encF))) (h4:S.H (.n 902)=some (.ds 3 1 (s.owner.map encInt))) (hn:n=s.ths.length) (hm:m=s.cells.length) (hl:l=s.owner.length) :
  FzC S [.dref (.n 900) n,.ref (.n 901) 0 m,.ref (.n 902) 0 l,i64 s.fault] (zZ s):=by
 subst hn hm hl;exact fz_st2 h1 hv h3 h4
theorem l3Step_4 (hI:xB) (p:ProgL) (s:StL) (k:Nat) (hp:p.wf) (hk:k<s.ths.length) (h5:s.ths.length≤5) (hs:s.small) (hr:s.ths[k].ready p s k) (h40:s.ths[k].st=4) :
  CallsTo EE 101 [agg (encProg p),agg (zZ s),i64 k] (·=.tup [agg (zZ (zQ p s k).1),agg (encEv (zQ p s k).2)]):=by
 refine callsTo_of_AW (fn:=Tryz.f101) Tryz.func101 rfl (by kernel_rfl) rfl ?_
 have hg:s.ths.getD k th0=s.ths[k]:=by simp[List.getD_eq_getElem?_getD,hk]
 conv=>whnf
 refine⟨zD s.ths[k],zL zD hk rfl,?_⟩
 conv=>whnf
 refine⟨_,nQ p s.ths[k] hp hr.inP,?_⟩
 rintro r rfl
 conv=>whnf
 refine kbi (fun h4=>?_) (fun h4=>?_)
 ·have h4:s.ths[k].st=4:=by simpa using h4
  conv=>whnf
  refine⟨_,mH s hs,?_⟩
  rintro r rfl
  conv=>whnf
  have hl:=hr.lock h4
  refine⟨⟨hl.1,by simp;omega⟩,?_⟩
  conv=>whnf
  refine⟨⟨by omega,by simp;omega⟩,?_⟩
  conv=>whnf
  refine⟨⟨by omega,by simp;omega⟩,?_⟩
  conv=>whnf
  refine⟨⟨by omega,by simp;omega⟩,?_⟩
  conv=>whnf
  cases hn:yL p s.ths[k] with
  |none =>
   conv=>whnf
   refine .inr (.inl ⟨4,[],?_⟩)
   conv=>whnf
   refine⟨by kernel_rfl,?_⟩
   conv=>whnf
   have hd:zQ p s k=({ s with owner:=s.owner.set s.ths[k].lock.toNat k }.put k { s.ths[k] with st:=1,cond:=-1,lock:=-1 },{ ev0 k s.ths[k] with kind:=9,obj:=s.ths[k].cond,lock:=s.ths[k].lock }):=by
    unfold zQ;rw[hg];simp[h4,hn]
   rw[hd]
   refine .inl ?_
   conv=>whnf
   refine⟨[agg (zZ _),agg (encEv _)],⟨_,_,rfl,⟨_,rfl,?_⟩,_,_,rfl,⟨_,rfl,?_⟩,rfl⟩,rfl⟩
   ·refine @fz_st3 _ _ ?_ _ _ _ ?_ ?_ ?_ ?_ ?_ ?_ ?_
    rotate_left 1
    ·conv=>lhs;whnf
     rfl
    ·intro j row t' ht hrr
     have hjl:j<s.ths.length:=by have:=(List.getElem?_eq_some_iff.1 ht).1;simpa[StL.put] using this
     have r0:=xD (o:=900) (List.getElem?_eq_getElem hjl)
     by_cases hj:j=k
     ·subst hj
      have e:t'={ s.ths[j] with st:=1,cond:=-1,lock:=-1 }:=by simpa[StL.put,hjl] using ht.symm
      subst e
      have e2:row=thRow 900 j { s.ths[j] with st:=1,cond:=-1,lock:=-1 }:=by
       refine Option.some.inj (hrr.symm.trans ?_)
       refine xX ?_ (zU rfl)
       refine vE (c:=[i64 s.ths[j].rt,i64 s.ths[j].pc,i64 1,i64 (-1),i64 s.ths[j].lock,.ref (.s 900 j) 0 s.ths[j].stack.length]) ?_ rfl
       refine vE (c:=[i64 s.ths[j].rt,i64 s.ths[j].pc,i64 1,i64 s.ths[j].cond,i64 s.ths[j].lock,.ref (.s 900 j) 0 s.ths[j].stack.length]) ?_ rfl
       refine vE (c:=thRow 900 j s.ths[j]) ?_ rfl
       repeat (first|exact r0|refine xX ?_ (zU rfl))
      subst e2
      refine fz_rowT (els:=stk s.ths[j]) ?_ (by simp[stk,List.take_of_length_le])
      conv=>lhs;whnf
      repeat (refine hscr ?_ rfl;conv=>lhs;whnf)
      rw[uZ hjl]
     ·have e:t'=s.ths[j]:=by
       have:(s.ths.set k _)[j]?=some t':=ht
       rw[List.getElem?_set_ne (Ne.symm hj),List.getElem?_eq_getElem hjl] at this
       exact(Option.some.inj this).symm
      subst e
      have e2:row=thRow 900 j s.ths[j]:=by
       refine Option.some.inj (hrr.symm.trans ?_)
       repeat (first|exact r0|refine xX ?_ (zU rfl)|refine lK hj ?_)
      subst e2
      refine fz_rowT (els:=stk s.ths[j]) ?_ (by simp[stk,List.take_of_length_le])
      conv=>lhs;whnf
      repeat (refine hscr ?_ rfl;conv=>lhs;whnf)
      rw[uZ hjl]
    ·conv=>lhs;whnf
     rfl
    ·conv=>lhs;whnf
     show some (Ob.ds 3 1 ((s.owner.map encInt).set (0+s.ths[k].lock.toNat) (encInt k)))=some (Ob.ds 3 1 ((s.owner.set s.ths[k].lock.toNat k).map encInt))
     rw[Nat.zero_add,List.map_set]
    ·simp[StL.put]
    ·simp[StL.put]
    ·simp[StL.put]
   ·exact fz_ev k 9 s.ths[k].cond s.ths[k].lock s.ths[k].pc
  |some o =>
   conv=>whnf
   refine⟨⟨by omega,by simp;omega⟩,?_⟩
   conv=>whnf
   have r0:=xD (o:=900) (List.getElem?_eq_getElem hk)
   refine⟨[i64 s.ths[k].rt,i64 s.ths[k].pc,i64 1,i64 (-1),i64 (-1),.ref (.s 900 k) 0 s.ths[k].stack.length],⟨?_,by simp⟩,?_⟩
   ·refine vE (c:=[i64 s.ths[k].rt,i64 s.ths[k].pc,i64 1,i64 (-1),i64 s.ths[k].lock,.ref (.s 900 k) 0 s.ths[k].stack.length]) ?_ rfl
    refine vE (c:=[i64 s.ths[k].rt,i64 s.ths[k].pc,i64 1,i64 s.ths[k].cond,i64 s.ths[k].lock,.ref (.s 900 k) 0 s.ths[k].stack.length]) ?_ rfl
    refine vE (c:=thRow 900 k s.ths[k]) ?_ rfl
    repeat (first|exact r0|refine xX ?_ (zU rfl))
   conv=>whnf
   rw[zM (by have:=hr.pc.1;omega) (by have:=hr.pc.2;omega)]
   refine⟨⟨by omega,by simp;omega⟩,?_⟩
   conv=>whnf
   refine .inr (.inl ⟨4,[],?_⟩)
   conv=>whnf
   refine⟨by kernel_rfl,?_⟩
   conv=>whnf
   have hd:zQ p s k=({ s with owner:=s.owner.set s.ths[k].lock.toNat k }.put k { s.ths[k] with st:=1,cond:=-1,lock:=-1,pc:=s.ths[k].pc+1 },{ ev0 k s.ths[k] with kind:=9,obj:=s.ths[k].cond,lock:=s.ths[k].lock }):=by
    unfold zQ;rw[hg];simp[h4,hn]
   rw[hd]
   refine .inl ?_
   conv=>whnf
   refine⟨[agg (zZ _),agg (encEv _)],⟨_,_,rfl,⟨_,rfl,?_⟩,_,_,rfl,⟨_,rfl,?_⟩,rfl⟩,rfl⟩
   ·refine @fz_st3 _ _ ?_ _ _ _ ?_ ?_ ?_ ?_ ?_ ?_ ?_
    rotate_left 1
    ·conv=>lhs;whnf
     rfl
    ·intro j row t' ht hrr
     have hjl:j<s.ths.length:=by have:=(List.getElem?_eq_some_iff.1 ht).1;simpa[StL.put] using this
     have r0:=xD (o:=900) (List.getElem?_eq_getElem hjl)
     by_cases hj:j=k
     ·subst hj
      have e:t'={ s.ths[j] with st:=1,cond:=-1,lock:=-1,pc:=s.ths[j].pc+1 }:=by simpa[StL.put,hjl] using ht.symm
      subst e
      have e2:row=thRow 900 j { s.ths[j] with st:=1,cond:=-1,lock:=-1,pc:=s.ths[j].pc+1 }:=by
       refine Option.some.inj (hrr.symm.trans ?_)
       refine xX ?_ (zU rfl)
       refine vE (c:=[i64 s.ths[j].rt,i64 s.ths[j].pc,i64 1,i64 (-1),i64 (-1),.ref (.s 900 j) 0 s.ths[j].stack.length]) ?_ rfl
       refine vE (c:=[i64 s.ths[j].rt,i64 s.ths[j].pc,i64 1,i64 (-1),i64 s.ths[j].lock,.ref (.s 900 j) 0 s.ths[j].stack.length]) ?_ rfl
       refine vE (c:=[i64 s.ths[j].rt,i64 s.ths[j].pc,i64 1,i64 s.ths[j].cond,i64 s.ths[j].lock,.ref (.s 900 j) 0 s.ths[j].stack.length]) ?_ rfl
       refine vE (c:=thRow 900 j s.ths[j]) ?_ rfl
       repeat (first|exact r0|refine xX ?_ (zU rfl))
      subst e2
      refine fz_rowT (els:=stk s.ths[j]) ?_ (by simp[stk,List.take_of_length_le])
      conv=>lhs;whnf
      repeat (refine hscr ?_ rfl;conv=>lhs;whnf)
      rw[uZ hjl]
     ·have e:t'=s.ths[j]:=by
       have:(s.ths.set k _)[j]?=some t':=ht
       rw[List.getElem?_set_ne (Ne.symm hj),List.getElem?_eq_getElem hjl] at this
       exact(Option.some.inj this).symm
      subst e
      have e2:row=thRow 900 j s.ths[j]:=by
       refine Option.some.inj (hrr.symm.trans ?_)
       repeat (first|exact r0|refine xX ?_ (zU rfl)|refine lK hj ?_)
      subst e2
      refine fz_rowT (els:=stk s.ths[j]) ?_ (by simp[stk,List.take_of_length_le])
      conv=>lhs;whnf
      repeat (refine hscr ?_ rfl;conv=>lhs;whnf)
      rw[uZ hjl]
    ·conv=>lhs;whnf
     rfl
    ·conv=>lhs;whnf
     show some (Ob.ds 3 1 ((s.owner.map encInt).set (0+s.ths[k].lock.toNat) (encInt k)))=some (Ob.ds 3 1 ((s.owner.set s.ths[k].lock.toNat k).map encInt))
     rw[Nat.zero_add,List.map_set]
    ·simp[StL.put]
    ·simp[StL.put]
    ·simp[StL.put]
   ·exact fz_ev k 9 s.ths[k].cond s.ths[k].lock s.ths[k].pc
 ·exact absurd (by simpa using h40) h4
end Ai
namespace Ai
open Go Go.Proofs
section
variable {S:St} {H1:Key→Option Ob} {L:Key→Bool} {f:Key→Key}
theorem mM (hS:∀ κ,L κ=true→S.H κ=(H1 κ).map (renO f)) (hf:∀ κ,L κ=true→f κ=κ) (h0:∀ κ,L κ=false→H1 κ=none) {v:AV} {d:D} (h:fz1 ⟨fun _=>.junk,H1⟩ v=some d):fz1 S (ren f v)=some d:=by
 cases v with
 |d x=>cases x <;> exact h
 |ref o off n =>
  have ho:L o=true:=by
   cases hl:L o with
   |true=>rfl
   |false =>
    have:=h0 o hl
    simp[fz1,this] at h
  simp only[ren,hf o ho,fz1,hS o ho]
  simp only[fz1] at h
  cases hH:H1 o with
  |none=>rw[hH] at h;cases h
  |some ob =>
   rw[hH] at h
   cases ob with
   |ds e sz els=>exact h
   |vs e cs=>cases h
   |rs e sz rows=>cases h
   |mp ag ps=>cases h
 | _=>cases h
theorem iU (hS:∀ κ,L κ=true→S.H κ=(H1 κ).map (renO f)) (hf:∀ κ,L κ=true→f κ=κ) (h0:∀ κ,L κ=false→H1 κ=none):∀ {vs:List AV} {ds:List D},fz1s ⟨fun _=>.junk,H1⟩ vs=some ds→fz1s S (renL f vs)=some ds
 | [],ds,h=>h
 |v::vs,ds,h=>by
  simp only[fz1s] at h
  split at h
  ·rename_i x hx
   split at h
   ·rename_i xs hxs
    simp only[renL,fz1s,mM hS hf h0 hx,iU hS hf h0 hxs]
    exact h
   ·cases h
  ·cases h
theorem FzC_back (hS:∀ κ,L κ=true→S.H κ=(H1 κ).map (renO f)) (hf:∀ κ,L κ=true→f κ=κ) (h0:∀ κ,L κ=false→H1 κ=none):∀ {vs:List AV} {ds:List D},FzC ⟨fun _=>.junk,H1⟩ vs ds→FzC S (renL f vs) ds
 | [],ds,h=>h
 |v::vs,ds,h=>by
  obtain⟨x,xs,rfl,hx,hxs⟩:=h
  refine⟨x,xs,rfl,?_,FzC_back hS hf h0 hxs⟩
  cases v with
  |dref o n =>
   obtain⟨els,rfl,hv⟩:=hx
   refine⟨els,rfl,?_⟩
   unfold jU at hv ⊢
   simp only at hv
   have ho:L o=true:=by
    cases hl:L o with
    |true=>rfl
    |false=>rw[h0 o hl] at hv;exact hv.elim
   rw[hf o ho,hS o ho]
   cases hH:H1 o with
   |none=>rw[hH] at hv;exact hv.elim
   |some ob =>
    rw[hH] at hv
    cases ob with
    |ds e sz els=>exact hv.elim
    |vs e cs=>exact hv.elim
    |mp ag ps=>exact hv.elim
    |rs e sz rows =>
     refine⟨hv.1,fun j row hj hr=>?_⟩
     have hr:(rows.map (renL f))[j]?=some row:=hr
     rw[List.getElem?_map] at hr
     obtain⟨r0,g1,rfl⟩:=Option.map_eq_some_iff.1 hr
     obtain⟨d,g2,g3⟩:=hv.2 j r0 hj g1
     exact⟨d,g2,iU hS hf h0 g3⟩
  |d x=>exact mM hS hf h0 hx
  |ref o off n=>exact mM hS hf h0 hx
  | _=>exact mM hS hf h0 hx
end
end Ai
namespace Ai
set_option maxRecDepth 100000
open Go Go.Proofs
theorem jY (a b o:Nat) (l:List Th):(thRows o l).map (renL (swp (.n a) (.l b)))=thRows o l:=by
 apply List.ext_getElem?
 intro i
 rw[List.getElem?_map]
 by_cases hj:i<l.length
 ·rw[yY hj]
  rfl
 ·rw[List.getElem?_eq_none (by rw[zR];omega)]
  rfl
theorem hrenO {x X:Option Ob} {f:Key→Key} (h:x=X) (hp:X.map (renO f)=X):x.map (renO f)=X:=by rw[h];exact hp
theorem own_fam (s:StL) (j:Nat):(match ownH (vA s) (.s 900 j) with|some ob=>some ob|none=>(none:Option Ob))=zP s.ths j:=by
 show(match ((s.ths.map stk)[j]?).map (Ob.ds 100 1) with|some ob=>some ob|none=>(none:Option Ob))=(s.ths[j]?).map fun t=>.ds 100 1 (stk t)
 rw[List.getElem?_map]
 cases s.ths[j]? <;> rfl
theorem l3Step_n (hI:xB) (p:ProgL) (s:StL) (k:Nat) (hp:p.wf) (hk:k<s.ths.length) (h5:s.ths.length≤5) (hs:s.small) (hr:s.ths[k].ready p s k) (h40:¬ s.ths[k].st=4) :
  CallsTo EE 101 [agg (encProg p),agg (zZ s),i64 k] (·=.tup [agg (zZ (zQ p s k).1),agg (encEv (zQ p s k).2)]):=by
 refine callsTo_of_AW (fn:=Tryz.f101) Tryz.func101 rfl (by kernel_rfl) rfl ?_
 have hg:s.ths.getD k th0=s.ths[k]:=by simp[List.getD_eq_getElem?_getD,hk]
 conv=>whnf
 refine⟨zD s.ths[k],zL zD hk rfl,?_⟩
 conv=>whnf
 refine⟨_,nQ p s.ths[k] hp hr.inP,?_⟩
 rintro r rfl
 conv=>whnf
 refine kbi (fun h4=>?_) (fun h4=>?_)
 ·exact absurd (by simpa using h4) h40
 ·conv=>whnf
  cases hn:yL p s.ths[k] with
  |none =>
   conv=>whnf
   refine⟨_,mH s hs,?_⟩
   rintro r rfl
   conv=>whnf
   refine⟨⟨by omega,by simp;omega⟩,?_⟩
   conv=>whnf
   refine .inr (.inl ⟨4,[],?_⟩)
   conv=>whnf
   refine⟨by kernel_rfl,?_⟩
   conv=>whnf
   have hd:zQ p s k=(s.put k { s.ths[k] with st:=2 },{ ev0 k s.ths[k] with kind:=11 }):=by
    unfold zQ;rw[hg];simp[h40,hn]
   rw[hd]
   refine .inl ?_
   conv=>whnf
   refine⟨[agg (zZ _),agg (encEv _)],⟨_,_,rfl,⟨_,rfl,?_⟩,_,_,rfl,⟨_,rfl,?_⟩,rfl⟩,rfl⟩
   ·refine @fz_st3 _ _ ?_ _ _ _ ?_ ?_ ?_ ?_ ?_ ?_ ?_
    rotate_left 1
    ·conv=>lhs;whnf
     rfl
    ·intro j row t' ht hrr
     have hjl:j<s.ths.length:=by have:=(List.getElem?_eq_some_iff.1 ht).1;simpa[StL.put] using this
     have r0:=xD (o:=900) (List.getElem?_eq_getElem hjl)
     by_cases hj:j=k
     ·subst hj
      have e:t'={ s.ths[j] with st:=2 }:=by simpa[StL.put,hjl] using ht.symm
      subst e
      have e2:row=thRow 900 j { s.ths[j] with st:=2 }:=by
       refine Option.some.inj (hrr.symm.trans ?_)
       refine xX ?_ (zU rfl)
       refine vE (c:=thRow 900 j s.ths[j]) ?_ rfl
       repeat (first|exact r0|refine xX ?_ (zU rfl))
      subst e2
      refine fz_rowT (els:=stk s.ths[j]) ?_ (by simp[stk,List.take_of_length_le])
      conv=>lhs;whnf
      repeat (refine hscr ?_ rfl;conv=>lhs;whnf)
      rw[uZ hjl]
     ·have e:t'=s.ths[j]:=by
       have:(s.ths.set k _)[j]?=some t':=ht
       rw[List.getElem?_set_ne (Ne.symm hj),List.getElem?_eq_getElem hjl] at this
       exact(Option.some.inj this).symm
      subst e
      have e2:row=thRow 900 j s.ths[j]:=by
       refine Option.some.inj (hrr.symm.trans ?_)
       repeat (first|exact r0|refine xX ?_ (zU rfl)|refine lK hj ?_)
      subst e2
      refine fz_rowT (els:=stk s.ths[j]) ?_ (by simp[stk,List.take_of_length_le])
      conv=>lhs;whnf
      repeat (refine hscr ?_ rfl;conv=>lhs;whnf)
      rw[uZ hjl]
    ·conv=>lhs;whnf
     rfl
    ·conv=>lhs;whnf
     rfl
    ·simp[StL.put]
    ·simp[StL.put]
    ·simp[StL.put]
   ·exact fz_ev k 11 (-1) (-1) s.ths[k].pc
  |some o =>
   conv=>whnf
   refine⟨_,l3Code_ok hI s k o hk hs (hr.op o hn).1,?_⟩
   rintro r rfl
   conv=>whnf
   refine kbi (fun h6=>?_) (fun h6=>?_)
   ·have h6:¬ yD s k o=0:=by simpa using h6
    conv=>whnf
    refine⟨_,l3Fault_ok s (ev0 k s.ths[k]) _ hs,?_⟩
    rintro r rfl
    conv=>whnf
    have hd:zQ p s k=({ s with fault:=yD s k o },{ ev0 k s.ths[k] with kind:=12,obj:=yD s k o }):=by
     unfold zQ;rw[hg];simp[h40,hn,h6]
    rw[hd]
    rfl
   ·have h6:yD s k o=0:=by simpa using h6
    conv=>whnf
    have hd:zQ p s k=doL s k o (ev0 k s.ths[k]):=by
     unfold zQ;rw[hg];simp[h40,hn,h6]
    rw[hd]
    refine .inr (.inl ⟨5,[2700,2701,2703,2706],?_⟩)
    conv=>whnf
    refine⟨_,mH s hs,?_⟩
    conv=>whnf
    refine⟨by kernel_rfl,?_⟩
    conv=>whnf
    refine .inr (.inl ⟨999,0,lendK,doPost (doL s k o (ev0 k s.ths[k])).1 (doL s k o (ev0 k s.ths[k])).2,?_,rfl,?_⟩)
    ·show IOCall EE 150 [.agg [.dref (.n 900) (s.ths.map vL).length,.ref (.n 901) 0 (s.cells.map encF).length,.ref (.n 902) 0 (s.owner.map encInt).length,i64 s.fault],i64 k,agg (encOp o),agg (encEv (ev0 k s.ths[k]))] _ _
     rw[List.length_map,List.length_map,List.length_map]
     refine l3Do_ok hI s k o (ev0 k s.ths[k]) hk h5 hs ((hr.op o hn).2 h6) hr.pc _ ⟨?_,fun j=>?_,?_,?_⟩
     ·conv=>lhs;whnf
      refine congrArg some ?_
      refine xJ ?_ (by exact congrArg _ (yB fun _ _=>rfl))
      exact congrArg (Ob.rs 109 6) (jY 999 0 900 s.ths)
     ·conv=>lhs;whnf
      repeat (first|(refine hscrO ?_ (yE _ _ _);conv=>lhs;whnf)|(refine hrenO ?_ (thFam_ren _ _ _);conv=>lhs;whnf))
      exact own_fam s j
     ·conv=>lhs;whnf
      rfl
     ·conv=>lhs;whnf
      rfl
    ·rintro r H1 ⟨rfl,q1,q2⟩
     refine⟨q2,(fun n hn=>by cases hn),?_⟩
     conv=>whnf
     refine .inl ?_
     conv=>whnf
     refine⟨[agg (zZ (doL s k o (ev0 k s.ths[k])).1),agg (encEv (doL s k o (ev0 k s.ths[k])).2)],⟨_,_,rfl,⟨_,rfl,?_⟩,_,_,rfl,⟨_,rfl,?_⟩,rfl⟩,rfl⟩
     ·refine FzC_back (f:=swp (.n 999) (.l 0)) (vs:=stRef (doL s k o (ev0 k s.ths[k])).1) (L:=lendK) (fun κ hκ=>?_) (fun κ hκ=>?_) q2 q1
      ·cases κ with
       |n i =>
        have:i=900∨i=901∨i=902:=by
         simp only[lendK,Bool.or_eq_true,Nat.beq_eq] at hκ
         omega
        rcases this with rfl|rfl|rfl
        ·rfl
        ·rfl
        ·rfl
       |s i j =>
        have:i=900:=by simpa only[lendK,Nat.beq_eq] using hκ
        subst this
        rfl
       |l i=>cases hκ
      ·cases κ with
       |n i =>
        have:i=900∨i=901∨i=902:=by
         simp only[lendK,Bool.or_eq_true,Nat.beq_eq] at hκ
         omega
        rcases this with rfl|rfl|rfl <;> rfl
       |s i j=>rfl
       |l i=>cases hκ
     ·exact fz_ev _ _ _ _ _
end Ai
namespace Ai
set_option maxRecDepth 100000
open Go Go.Proofs
def jW:Prop:=∀ (x:Nat) (many n:Int),yV x many=some n→0≤n∧n<many
theorem kB (hR:jW) {s:StL} {t:Th} {n:Int} (h:yC s t=some n):0≤n∧n<s.ths.length:=by
 unfold yC at h
 cases hl:t.stack.getLast? with
 |none=>rw[hl] at h;cases h
 |some x=>rw[hl] at h;exact hR x _ n h
def zH (p:ProgL) (s:StL) (t:Th):Int :=
 if t.st=4 then s.owner.getD t.lock.toNat 0
 else match yL p t with
  |none=>-1
  |some o=>if t.st=1 then
    (if o.code=12 then s.owner.getD o.a.toNat 0
    else if o.code=15 then (match yC s t with|some k=>if (s.ths.getD k.toNat th0).st=2 then -1 else k|none=>-1)
    else -1)
   else -1
structure Th.seen (t:Th) (p:ProgL) (s:StL):Prop where
 inP:t.inP p
 lock:t.st=4→0≤t.lock∧t.lock<s.owner.length
 op:∀ o,yL p t=some o→o.code=12→0≤o.a∧o.a<s.owner.length
theorem fX (hI:xB) (hR:jW) (p:ProgL) (s:StL) (t:Th) (hp:p.wf) (ht:t.stack.length≤1048576) (hv:t.seen p s) :
  CallsTo EE 145 [agg (encProg p),agg (zZ s),agg (zD t)] (·=i64 (zH p s t)):=by
 refine callsTo_of_AW (fn:=Tryz.f145) Tryz.func145 rfl (by kernel_rfl) rfl ?_
 have own_get:∀ (a:Int),0≤a∧a<s.owner.length→0≤a∧(s.owner.map encInt)[a.toNat]?=some (encInt (s.owner.getD a.toNat 0))∧(encInt (s.owner.getD a.toNat 0)).length=1:=by
  intro a ha
  refine⟨ha.1,?_,rfl⟩
  have:a.toNat<s.owner.length:=by omega
  simp[this,List.getD_eq_getElem?_getD]
 conv=>whnf
 refine kbi (fun h4=>?_) (fun h4=>?_)
 ·have h4:t.st=4:=by simpa using h4
  conv=>whnf
  refine⟨_,own_get t.lock (hv.lock h4),?_⟩
  conv=>whnf
  simp only[zH,if_pos h4]
 have h4:¬ t.st=4:=by simpa using h4
 conv=>whnf
 refine⟨_,nQ p t hp hv.inP,?_⟩
 rintro r rfl
 conv=>whnf
 refine kbi (fun h1=>?_) (fun h1=>?_)
 ·have h1:¬ t.st=1:=by simpa using h1
  conv=>whnf
  have:zH p s t=-1:=by
   unfold zH;rw[if_neg h4]
   cases yL p t with
   |none=>rfl
   |some o=>simp[h1]
  rw[this]
 have h1:t.st=1:=by simpa using h1
 cases hn:yL p t with
 |none =>
  conv=>whnf
  have:zH p s t=-1:=by
   unfold zH;rw[if_neg h4,hn]
  rw[this]
 |some o =>
  conv=>whnf
  refine kbi (fun h2=>?_) (fun h2=>?_)
  ·have h2:o.code=12:=by simpa using h2
   conv=>whnf
   refine⟨_,own_get o.a (hv.op o hn h2),?_⟩
   conv=>whnf
   simp[zH,h4,hn,h1,h2]
  have h2:¬ o.code=12:=by simpa using h2
  conv=>whnf
  refine kbi (fun h3=>?_) (fun h3=>?_)
  ·have h3:o.code=15:=by simpa using h3
   conv=>whnf
   refine⟨_,lB hI s t ht,?_⟩
   rintro r rfl
   conv=>whnf
   cases hj:yC s t with
   |none =>
    conv=>whnf
    refine kbi (fun h5=>absurd h5 (by decide)) (fun h5=>?_)
    conv=>whnf
    simp[zH,h4,hn,h1,h2,h3,hj]
   |some k =>
    obtain⟨k1,k2⟩:=kB hR hj
    have hk:k.toNat<s.ths.length:=by omega
    conv=>whnf
    refine kbi (fun h5=>?_) (fun h5=>?_)
    ·conv=>whnf
     refine⟨zD s.ths[k.toNat],⟨k1,by simp[hk],rfl⟩,?_⟩
     conv=>whnf
     refine kbi (fun h6=>?_) (fun h6=>?_)
     ·have h6:¬ s.ths[k.toNat].st=2:=by simpa using h6
      conv=>whnf
      simp[zH,h4,hn,h1,h2,h3,hj,List.getD_eq_getElem?_getD,hk,h6]
     ·have h6:s.ths[k.toNat].st=2:=by simpa using h6
      conv=>whnf
      simp[zH,h4,hn,h1,h2,h3,hj,List.getD_eq_getElem?_getD,hk,h6]
    ·exact absurd (by simpa using k1) h5
  have h3:¬ o.code=15:=by simpa using h3
  conv=>whnf
  simp[zH,h4,hn,h1,h2,h3]
end Ai
namespace Ai
set_option maxRecDepth 100000
open Go Go.Proofs
open Classical in
/-- may this thread go? -/
noncomputable def qA (p:ProgL) (s:StL) (k:Nat):Bool:=decide (s.fault=0∧((s.ths.getD k th0).st=1∨(s.ths.getD k th0).st=4)∧zH p s (s.ths.getD k th0)<0)
noncomputable def zI (p:ProgL) (s:StL) (n:Nat):List Nat:=(List.range n).filter (qA p s)
noncomputable def zA (p:ProgL) (s:StL):List Nat:=zI p s s.ths.length
def wK (k:Nat):List D:=[di k]
theorem yQ {p:ProgL} {s:StL} {n:Nat}:zI p s (n+1)=zI p s n++(if qA p s n=true then [n] else []):=by
 unfold zI
 rw[List.range_succ,List.filter_append]
 congr 1
 cases h:qA p s n <;> simp[h]
theorem jE {p:ProgL} {s:StL} {n:Nat}:(zI p s n).length≤n:=by
 unfold zI
 have:=List.length_filter_le (qA p s) (List.range n)
 simpa using this
theorem mI (hI:xB) (hR:jW) (p:ProgL) (s:StL) (hp:p.wf) (hs:s.small) (hv:∀ t∈s.ths,t.seen p s) :
  CallsTo EE 100 [agg (encProg p),agg (zZ s)] (·=.uq 3 1 ((zA p s).map wK)):=by
 refine callsTo_of_AW (fn:=Tryz.f100) Tryz.func100 rfl (by kernel_rfl) rfl ?_
 conv=>whnf
 refine yJ (fun k:Nat=>[(2,.ptr (.n 2) 0),(3,.ptr (.n 3) 0),(5,.ref (.n 5) 0 (zI p s k).length),(9,sl (s.ths.map zD)),(10,i64 (s.ths.map zD).length),(11,i64 k)])
  (fun k=>[(.n 2,.vs 39 ((encProg p).map .d)),(.n 3,.vs 44 ((zZ s).map .d)),(.n 5,.ds 3 1 ((zI p s k).map wK))]) (fun k=>s.ths.length - k) (fun k=>k≤s.ths.length) 0
  (sH 5 (.n 5) 3 1 rfl) ?_ ?_ (Nat.zero_le _) ?_
 ·exact⟨rfl,rfl,rfl,rfl,rfl,rfl,trivial⟩
 ·exact⟨rfl,rfl,rfl,trivial⟩
 rintro k τ H hk
 conv=>whnf
 refine kbi (fun h=>?_) (fun h=>?_)
 ·have hlt:=yF h
  conv=>whnf
  refine⟨zD s.ths[k],zL zD hlt rfl,?_⟩
  conv=>whnf
  have hg:s.ths.getD k th0=s.ths[k]:=by simp[List.getD_eq_getElem?_getD,hlt]
  have hle:(zI p s k).length≤k:=jE
  have hn:=hs.1
  refine kbi (fun hf=>?_) (fun hf=>?_)
  ·have hf:s.fault=0:=by simpa using hf
   conv=>whnf
   refine kbi (fun h1=>?_) (fun h1=>?_)
   ·have h1:s.ths[k].st=1:=by simpa using h1
    conv=>whnf
    refine⟨_,fX hI hR p s s.ths[k] hp (hs.2.1 _ (List.getElem_mem hlt)) (hv _ (List.getElem_mem hlt)),?_⟩
    rintro r rfl
    conv=>whnf
    refine kbi (fun hb=>?_) (fun hb=>?_)
    ·have hb:zH p s s.ths[k]<0:=by simpa using hb
     conv=>whnf
     refine⟨⟨rfl,by simp;omega,by simp;omega⟩,?_⟩
     conv=>whnf
     have hgo:qA p s k=true:=by unfold qA;rw[hg];exact decide_eq_true ⟨hf,.inl h1,hb⟩
     have hsk:zI p s (k+1)=zI p s k++[k]:=by rw[yQ,hgo];simp
     refine⟨k+1,by omega,by show s.ths.length - (k+1)<s.ths.length - k;omega,⟨rfl,rfl,?_,rfl,rfl,zF hlt (by omega),trivial⟩,⟨rfl,rfl,?_,trivial⟩⟩
     ·rw[hsk]
      show AV.ref (.n 5) 0 ((zI p s k).length+1)=_
      simp
     ·rw[hsk]
      show some (Ob.ds 3 1 (((zI p s k).map wK).take (zI p s k).length++[[di k]]))=_
      rw[List.take_of_length_le (by simp)]
      simp[wK]
    ·have hb:¬ zH p s s.ths[k]<0:=by simpa using hb
     conv=>whnf
     have hgo:qA p s k=false:=by unfold qA;rw[hg];exact decide_eq_false fun e=>hb e.2.2
     have hsk:zI p s (k+1)=zI p s k:=by rw[yQ,hgo];simp
     refine⟨k+1,by omega,by show s.ths.length - (k+1)<s.ths.length - k;omega,⟨rfl,rfl,?_,rfl,rfl,zF hlt (by omega),trivial⟩,⟨rfl,rfl,?_,trivial⟩⟩
     ·rw[hsk];rfl
     ·rw[hsk];rfl
   ·have h1:¬ s.ths[k].st=1:=by simpa using h1
    conv=>whnf
    refine kbi (fun h4=>?_) (fun h4=>?_)
    ·have h4:s.ths[k].st=4:=by simpa using h4
     conv=>whnf
     refine⟨_,fX hI hR p s s.ths[k] hp (hs.2.1 _ (List.getElem_mem hlt)) (hv _ (List.getElem_mem hlt)),?_⟩
     rintro r rfl
     conv=>whnf
     refine kbi (fun hb=>?_) (fun hb=>?_)
     ·have hb:zH p s s.ths[k]<0:=by simpa using hb
      conv=>whnf
      refine⟨⟨rfl,by simp;omega,by simp;omega⟩,?_⟩
      conv=>whnf
      have hgo:qA p s k=true:=by unfold qA;rw[hg];exact decide_eq_true ⟨hf,.inr h4,hb⟩
      have hsk:zI p s (k+1)=zI p s k++[k]:=by rw[yQ,hgo];simp
      refine⟨k+1,by omega,by show s.ths.length - (k+1)<s.ths.length - k;omega,⟨rfl,rfl,?_,rfl,rfl,zF hlt (by omega),trivial⟩,⟨rfl,rfl,?_,trivial⟩⟩
      ·rw[hsk]
       show AV.ref (.n 5) 0 ((zI p s k).length+1)=_
       simp
      ·rw[hsk]
       show some (Ob.ds 3 1 (((zI p s k).map wK).take (zI p s k).length++[[di k]]))=_
       rw[List.take_of_length_le (by simp)]
       simp[wK]
     ·have hb:¬ zH p s s.ths[k]<0:=by simpa using hb
      conv=>whnf
      have hgo:qA p s k=false:=by unfold qA;rw[hg];exact decide_eq_false fun e=>hb e.2.2
      have hsk:zI p s (k+1)=zI p s k:=by rw[yQ,hgo];simp
      refine⟨k+1,by omega,by show s.ths.length - (k+1)<s.ths.length - k;omega,⟨rfl,rfl,?_,rfl,rfl,zF hlt (by omega),trivial⟩,⟨rfl,rfl,?_,trivial⟩⟩
      ·rw[hsk];rfl
      ·rw[hsk];rfl
    ·have h4:¬ s.ths[k].st=4:=by simpa using h4
     conv=>whnf
     have hgo:qA p s k=false:=by unfold qA;rw[hg];exact decide_eq_false fun e=>e.2.1.elim h1 h4
     have hsk:zI p s (k+1)=zI p s k:=by rw[yQ,hgo];simp
     refine⟨k+1,by omega,by show s.ths.length - (k+1)<s.ths.length - k;omega,⟨rfl,rfl,?_,rfl,rfl,zF hlt (by omega),trivial⟩,⟨rfl,rfl,?_,trivial⟩⟩
     ·rw[hsk];rfl
     ·rw[hsk];rfl
  ·have hf:¬ s.fault=0:=by simpa using hf
   conv=>whnf
   have hgo:qA p s k=false:=by unfold qA;exact decide_eq_false fun e=>hf e.1
   have hsk:zI p s (k+1)=zI p s k:=by rw[yQ,hgo];simp
   refine⟨k+1,by omega,by show s.ths.length - (k+1)<s.ths.length - k;omega,⟨rfl,rfl,?_,rfl,rfl,zF hlt (by omega),trivial⟩,⟨rfl,rfl,?_,trivial⟩⟩
   ·rw[hsk];rfl
   ·rw[hsk];rfl
 ·have hge:s.ths.length≤k:=by simpa using h
  have hkk:k=s.ths.length:=by omega
  subst hkk
  conv=>whnf
  refine congrArg (AV.uq 3 1) ?_
  rw[List.take_of_length_le (by simp)]
  rfl
end Ai
namespace Ai
set_option maxRecDepth 100000
open Go Go.Proofs
open Classical in
/-- how a run stands -/
noncomputable def yI (p:ProgL) (s:StL) (steps budget:Int):Int :=
 if s.fault≠0 then 2 else if zA p s=[] then (if ∃ t∈s.ths,t.st≠2 then 3 else 1) else if steps=budget then 4 else 0
theorem l4Code_ok (hI:xB) (hR:jW) (p:ProgL) (s:StL) (steps budget:Int) (hp:p.wf) (hs:s.small) (hv:∀ t∈s.ths,t.seen p s) :
  CallsTo EE 99 [agg (encProg p),agg (zZ s),i64 steps,i64 budget] (·=i64 (yI p s steps budget)):=by
 refine callsTo_of_AW (fn:=Tryz.f99) Tryz.func99 rfl (by kernel_rfl) rfl ?_
 have hn:=hs.1
 conv=>whnf
 refine kbi (fun hf=>?_) (fun hf=>?_)
 ·have hf:s.fault≠0:=by simpa using hf
  conv=>whnf
  unfold yI
  rw[if_pos hf]
 have hf:¬ s.fault≠0:=by simpa using hf
 conv=>whnf
 refine⟨_,mI hI hR p s hp hs hv,?_⟩
 rintro r rfl
 refine .inl ?_
 conv=>whnf
 refine kbi (fun h0=>?_) (fun h0=>?_)
 ·have h0:zA p s=[]:=by
   have:(((zA p s).map wK).length:Int)=0:=by simpa using h0
   simp at this
   exact this
  conv=>whnf
  refine yJ (fun k:Nat=>[(8,i64 0),(20,sl (s.ths.map zD)),(21,i64 (s.ths.map zD).length),(22,i64 k)]) (fun k=>[]) (fun k=>s.ths.length - k) (fun k=>k≤s.ths.length∧∀ j u,j<k→s.ths[j]?=some u→u.st=2) 0
   Weak.refl ⟨rfl,rfl,rfl,rfl,trivial⟩ trivial ⟨Nat.zero_le _,fun j u hj=>by omega⟩ ?_
  rintro k τ H ⟨hk,hall⟩
  conv=>whnf
  refine kbi (fun h=>?_) (fun h=>?_)
  ·have hlt:=yF h
   conv=>whnf
   refine⟨zD s.ths[k],zL zD hlt rfl,?_⟩
   conv=>whnf
   refine kbi (fun h2=>?_) (fun h2=>?_)
   ·have h2:s.ths[k].st≠2:=by simpa using h2
    conv=>whnf
    unfold yI
    rw[if_neg hf,if_pos h0,if_pos ⟨_,List.getElem_mem hlt,h2⟩]
   ·have h2:s.ths[k].st=2:=by simpa using h2
    conv=>whnf
    refine⟨k+1,⟨by omega,fun j u hj hu=>?_⟩,by show s.ths.length - (k+1)<s.ths.length - k;omega,⟨rfl,rfl,rfl,zF hlt (by omega),trivial⟩,trivial⟩
    by_cases hjk:j=k
    ·subst hjk
     rw[List.getElem?_eq_getElem hlt] at hu
     simp only[Option.some.injEq] at hu
     subst hu;exact h2
    ·exact hall j u (by omega) hu
  ·have hge:s.ths.length≤k:=by simpa using h
   conv=>whnf
   unfold yI
   rw[if_neg hf,if_pos h0,if_neg]
   rintro⟨t,ht,h2⟩
   obtain⟨j,hj,rfl⟩:=List.mem_iff_getElem.1 ht
   exact h2 (hall j _ (by omega) (List.getElem?_eq_getElem hj))
 have h0:¬ zA p s=[]:=fun e=>h0 (by rw[e];rfl)
 conv=>whnf
 refine kbi (fun h1=>?_) (fun h1=>?_)
 ·have h1:steps=budget:=by simpa using h1
  conv=>whnf
  unfold yI
  rw[if_neg hf,if_neg h0,if_pos h1]
 ·have h1:¬ steps=budget:=by simpa using h1
  conv=>whnf
  unfold yI
  rw[if_neg hf,if_neg h0,if_neg h1]
end Ai
namespace Ai
set_option maxRecDepth 100000
open Go Go.Proofs
theorem iM (hI:xB) (p:ProgL) (s:StL) (k:Nat) (hp:p.wf) (hk:k<s.ths.length) (h5:s.ths.length≤5) (hs:s.small) (hr:s.ths[k].ready p s k) :
  CallsTo EE 101 [agg (encProg p),agg (zZ s),i64 k] (·=.tup [agg (zZ (zQ p s k).1),agg (encEv (zQ p s k).2)]):=by
 by_cases h:s.ths[k].st=4
 ·exact l3Step_4 hI p s k hp hk h5 hs hr h
 ·exact l3Step_n hI p s k hp hk h5 hs hr h
end Ai
namespace Ai
set_option maxRecDepth 100000
open Go Go.Proofs
def xY (p:ProgL):StL:=⟨[qV 0],List.replicate p.cells.toNat 0,List.replicate p.locks.toNat (-1),0⟩
theorem jJ (p:Key→Bool) (k:Nat) (x:D):(List.replicate k [AV.d x]).map (scrPL p)=List.replicate k [AV.d x]:=by simp[scrPL,scrP]
def oN (p:ProgL) (k:Nat) (c2:AV):List (Key × Ob):=[(.n 1,.vs 39 ((encProg p).map .d)),(.n 2,.vs 44 [.d .nil,.d .nil,.d .nil,i64 0]),(.n 3,.vs 44 [.ref (.n 7) 0 1,.dref (.n 50) k,c2,i64 0]),(.n 7,.ds 109 6 [zD (qV 0)]),(.n 50,.rs 100 1 (List.replicate k [.d (.flt 0)]))]
def oN2 (p:ProgL) (k j:Nat):List (Key × Ob):=[(.n 1,.vs 39 ((encProg p).map .d)),(.n 2,.vs 44 [.d .nil,.d .nil,.d .nil,i64 0]),(.n 3,.vs 44 [.ref (.n 7) 0 1,.dref (.n 50) k,.dref (.n 51) j,i64 0]),(.n 7,.ds 109 6 [zD (qV 0)]),(.n 50,.rs 100 1 (List.replicate k [.d (.flt 0)])),
 (.n 51,.rs 3 1 (List.replicate j [i64 (-1)]))]
theorem n5 {S:St} {o:Key} {n:Nat} {e:TypeId} {sz:Nat} {els:List (List D)} {rows:List (List AV)} (h:S.H o=some (.rs e sz rows)) (hl:els.length=n) (hr:rows.length=n) (hv:∀ (j:Nat) (row:List AV) (d:List D),rows[j]?=some row→els[j]?=some d→fz1s S row=some d):jU S o n els:=by
 unfold jU
 rw[h]
 refine⟨hl,fun j row hj hrow=>?_⟩
 have:j<els.length:=by omega
 exact⟨els[j],List.getElem?_eq_getElem this,hv j row _ hrow (List.getElem?_eq_getElem this)⟩
theorem l3New_ok (p:ProgL) (h1:InR p.cells 0 1048576) (h2:InR p.locks 0 1048576):CallsTo EE 78 [agg (encProg p)] (·=agg (zZ (xY p))):=by
 refine callsTo_of_AW (fn:=Tryz.f78) Tryz.func78 rfl (by kernel_rfl) rfl ?_
 conv=>whnf
 refine⟨_,dN 0,?_⟩
 rintro r rfl
 conv=>whnf
 refine yJ (fun k:Nat=>[(1,.ptr (.n 1) 0),(2,.ptr (.n 2) 0),(3,.ptr (.n 3) 0),(4,i64 k)]) (fun k=>oN p k (.d .nil)) (fun k=>p.cells.toNat - k) (fun k=>(k:Int)≤p.cells) 0
  (kK (.n 3) (.n 50) 44 100 1 1 _ (by intro n h;cases h) (by intro h;cases h) rfl rfl) ⟨rfl,rfl,rfl,rfl,trivial⟩ ⟨rfl,rfl,rfl,rfl,rfl,trivial⟩ h1.1 ?_
 rintro k τ H hk
 conv=>whnf
 refine kbi (fun h=>?_) (fun h=>?_)
 ·have hlt:(k:Int)<p.cells:=by simpa using h
  have:=h1.2
  conv=>whnf
  refine⟨⟨fun c hc=>?_,by show(k+1)*8≤_;omega,by show k+1≤_;omega⟩,?_⟩
  ·have hc:c∈[[AV.d (.flt (canon 0))]]:=hc
   simp only[List.mem_singleton] at hc
   subst hc;rfl
  conv=>whnf
  refine⟨k+1,by omega,by show p.cells.toNat - (k+1)<p.cells.toNat - k;omega,⟨rfl,rfl,rfl,w8 (by rw[zM (by omega) (by omega)];rfl),trivial⟩,⟨rfl,rfl,rfl,rfl,?_,trivial⟩⟩
  show some (Ob.rs 100 1 (((((List.replicate k [AV.d (.flt 0)]).map (scrPL (isK (.n 17)))).take k++[[AV.d (.flt (canon 0))]]).map (scrPL (isK (.n 50))))))=_
  rw[jJ,List.take_of_length_le (by simp),List.map_append,jJ,List.replicate_succ']
  rfl
 ·have hge:¬ (k:Int)<p.cells:=by simpa using h
  have hkc:k=p.cells.toNat:=by omega
  conv=>whnf
  refine yJ (fun j:Nat=>[(1,.ptr (.n 1) 0),(2,.ptr (.n 2) 0),(3,.ptr (.n 3) 0),(5,i64 j)]) (fun j=>oN2 p k j) (fun j=>p.locks.toNat - j) (fun j=>(j:Int)≤p.locks) 0
   (kK (.n 3) (.n 51) 44 3 1 2 _ (by intro n h;cases h) (by intro h;cases h) rfl rfl) ⟨rfl,rfl,rfl,rfl,trivial⟩ ⟨rfl,rfl,rfl,rfl,?_,rfl,trivial⟩ h2.1 ?_
  ·show some (Ob.rs 100 1 ((List.replicate k [AV.d (.flt 0)]).map (scrPL (isK (.n 51)))))=_
   rw[jJ]
  rintro j τ H hj
  conv=>whnf
  refine kbi (fun h=>?_) (fun h=>?_)
  ·have hlt:(j:Int)<p.locks:=by simpa using h
   have:=h2.2
   conv=>whnf
   refine⟨⟨fun c hc=>?_,by show(j+1)*8≤_;omega,by show j+1≤_;omega⟩,?_⟩
   ·have hc:c∈[[i64 (-1)]]:=hc
    simp only[List.mem_singleton] at hc
    subst hc;rfl
   conv=>whnf
   refine⟨j+1,by omega,by show p.locks.toNat - (j+1)<p.locks.toNat - j;omega,⟨rfl,rfl,rfl,w8 (by rw[zM (by omega) (by omega)];rfl),trivial⟩,⟨rfl,rfl,rfl,rfl,?_,?_,trivial⟩⟩
   ·show some (Ob.rs 100 1 (((List.replicate k [AV.d (.flt 0)]).map (scrPL (isK (.n 28)))).map (scrPL (isK (.n 51)))))=_
    rw[jJ,jJ]
   ·show some (Ob.rs 3 1 (((((List.replicate j [i64 (-1)]).map (scrPL (isK (.n 28)))).take j++[[i64 (-1)]]).map (scrPL (isK (.n 51))))))=_
    rw[jJ,List.take_of_length_le (by simp),List.map_append,jJ,List.replicate_succ']
    rfl
  ·have hge:¬ (j:Int)<p.locks:=by simpa using h
   have hjc:j=p.locks.toNat:=by omega
   subst hkc hjc
   conv=>whnf
   refine .inr (.inl ⟨agg (zZ (xY p)),⟨_,rfl,?_⟩,rfl⟩)
   refine⟨.sl ([qV 0].map zD),_,rfl,rfl,.sl ((List.replicate p.cells.toNat 0).map encF),_,rfl,⟨_,rfl,?_⟩,.sl ((List.replicate p.locks.toNat (-1)).map encInt),_,rfl,⟨_,rfl,?_⟩,di 0,[],rfl,rfl,rfl⟩
   ·refine n5 (rows:=List.replicate p.cells.toNat [.d (.flt 0)]) (by rfl) (by simp) (by simp) ?_
    intro i row d hr hd
    simp only[List.getElem?_map,List.getElem?_replicate] at hr hd
    split at hr
    ·simp only[Option.some.injEq] at hr
     subst hr
     rw[if_pos ‹_›] at hd
     simp only[Option.map_some,Option.some.injEq] at hd
     subst hd;rfl
    ·cases hr
   ·refine n5 (rows:=List.replicate p.locks.toNat [i64 (-1)]) (by rfl) (by simp) (by simp) ?_
    intro i row d hr hd
    simp only[List.getElem?_map,List.getElem?_replicate] at hr hd
    split at hr
    ·simp only[Option.some.injEq] at hr
     subst hr
     rw[if_pos ‹_›] at hd
     simp only[Option.map_some,Option.some.injEq] at hd
     subst hd;rfl
    ·cases hr
end Ai
namespace Ai
set_option maxRecDepth 100000
open Go Go.Proofs
def vW (c:Int) (tr:List Ev) (tk:List Int) (s:StL):List D:=[di c,.sl (tr.map encEv),.sl (tk.map encInt),.sl (s.ths.map zD),.sl (s.cells.map encF),.sl (s.owner.map encInt),di s.fault]
def wJ (picks tk:List Int) (n:Nat):Int:=if tk.length<picks.length then (picks.getD tk.length 0).tmod n else 0
noncomputable def gJ (p:ProgL) (picks:List Int) (budget:Int):Nat→StL→List Ev→List Int→List D
 | 0,s,tr,tk=>vW 0 tr tk s
 |n+1,s,tr,tk =>
  if 0<yI p s tr.length budget then vW (yI p s tr.length budget) tr tk s
  else
   let k:=wJ picks tk (zA p s).length
   let w:=(zA p s).getD k.toNat 0
   gJ p picks budget n (zQ p s w).1 (tr++[(zQ p s w).2]) (tk++[k])
structure RunOK (p:ProgL) (Inv:StL→Prop):Prop where
 small:∀ s,Inv s→s.small∧s.ths.length≤5
 seen:∀ s,Inv s→∀ t∈s.ths,t.seen p s
 ready:∀ s,Inv s→∀ k,k∈zA p s→(h:k<s.ths.length)→s.ths[k].ready p s k
 step:∀ s,Inv s→∀ k∈zA p s,Inv (zQ p s k).1
def uQ (tr:List Ev):List (List AV):=tr.map fun e=>(encEv e).map .d
def uP (tk:List Int):List (List AV):=tk.map fun i=>[i64 i]
def oR (p:ProgL) (s:StL) (tr:List Ev) (tk:List Int):List (Key × Ob):=[(.n 3,.vs 39 ((encProg p).map .d)),(.n 6,.vs 46 [i64 0,.d .nil,.d .nil,.d .nil,.d .nil,.d .nil,i64 0]),
 (.n 7,.vs 46 [i64 0,.dref (.n 50) tr.length,.dref (.n 51) tk.length,sl (s.ths.map zD),sl (s.cells.map encF),sl (s.owner.map encInt),i64 s.fault]),(.n 50,.rs 107 5 (uQ tr)),(.n 51,.rs 3 1 (uP tk))]
theorem evRows_view {S:St} {tr:List Ev} (j:Nat) (row:List AV) (d:List D) (h1:(uQ tr)[j]?=some row) (h2:(tr.map encEv)[j]?=some d):fz1s S row=some d:=by
 simp only[uQ,List.getElem?_map] at h1 h2
 cases h:tr[j]? with
 |none=>rw[h] at h1;cases h1
 |some e =>
  rw[h] at h1 h2
  simp only[Option.map_some,Option.some.injEq] at h1 h2
  subst h1 h2
  rfl
theorem inRows_view {S:St} {tk:List Int} (j:Nat) (row:List AV) (d:List D) (h1:(uP tk)[j]?=some row) (h2:(tk.map encInt)[j]?=some d):fz1s S row=some d:=by
 simp only[uP,List.getElem?_map] at h1 h2
 cases h:tk[j]? with
 |none=>rw[h] at h1;cases h1
 |some e =>
  rw[h] at h1 h2
  simp only[Option.map_some,Option.some.injEq] at h1 h2
  subst h1 h2
  rfl
theorem en_get {l:List Nat} {k:Nat} (h:k<l.length):(l.map wK)[k]?=some (wK (l.getD k 0)):=by simp[h,List.getD_eq_getElem?_getD]
theorem gT (q:Key→Bool) (tr:List Ev):(uQ tr).map (scrPL q)=uQ tr:=by
 unfold uQ;rw[List.map_map];rfl
theorem gO (q:Key→Bool) (tk:List Int):(uP tk).map (scrPL q)=uP tk:=by
 unfold uP;rw[List.map_map];rfl
theorem codeL_nn (p:ProgL) (s:StL) (a b:Int):0≤yI p s a b:=by
 unfold yI
 split
 ·decide
 ·split
  ·split <;> decide
  ·split <;> decide
theorem ev_scr' {X:List (List AV)} {q:Key→Bool} {tr:List Ev} (h:X=uQ tr):X.map (scrPL q)=uQ tr:=by rw[h];exact gT q tr
theorem in_scr' {X:List (List AV)} {q:Key→Bool} {tk:List Int} (h:X=uP tk):X.map (scrPL q)=uP tk:=by rw[h];exact gO q tk
theorem ev_push {X:List (List AV)} {q:Key→Bool} {tr:List Ev} {e:Ev} (h:X=uQ tr):(X.take tr.length++[(encEv e).map AV.d]).map (scrPL q)=uQ (tr++[e]):=by
 rw[h,List.take_of_length_le (by simp[uQ]),List.map_append,gT]
 simp only[uQ,List.map_append]
 rfl
theorem in_push {X:List (List AV)} {q:Key→Bool} {tk:List Int} {i:Int} (h:X=uP tk):(X.take tk.length++[[i64 i]]).map (scrPL q)=uP (tk++[i]):=by
 rw[h,List.take_of_length_le (by simp[uP]),List.map_append,gO]
 simp only[uP,List.map_append]
 rfl
theorem l4Run_ok (hI:xB) (hR:jW) (p:ProgL) (hp:p.wf) (h1:InR p.cells 0 1048576) (h2:InR p.locks 0 1048576) (Inv:StL→Prop) (hI0:Inv (xY p)) (hok:RunOK p Inv) (picks:List Int) (budget:Int) (hpk:∀ i∈picks,0≤i) (hl:picks.length≤1048576) (hb:InR budget 0 1048576) :
  CallsTo EE 59 [agg (encProg p),sl (picks.map encInt),i64 budget] (·=agg (gJ p picks budget (budget.toNat+1) (xY p) [] [])):=by
 refine callsTo_of_AW (fn:=Tryz.f59) Tryz.func59 rfl (by kernel_rfl) rfl ?_
 conv=>whnf
 refine⟨_,l3New_ok p h1 h2,?_⟩
 rintro r rfl
 conv=>whnf
 refine yJ (fun x:StL × List Ev × List Int=>[(1,sl (picks.map encInt)),(2,i64 budget),(3,.ptr (.n 3) 0),(6,.ptr (.n 6) 0),(7,.ptr (.n 7) 0)]) (fun x=>oR p x.1 x.2.1 x.2.2) (fun x=>budget.toNat - x.2.1.length)
  (fun x=>Inv x.1∧x.2.1.length=x.2.2.length∧(x.2.1.length:Int)≤budget∧gJ p picks budget (budget.toNat+1 - x.2.1.length) x.1 x.2.1 x.2.2=gJ p picks budget (budget.toNat+1) (xY p) [] []) (xY p,[],[])
  ((kK (.n 7) (.n 50) 46 107 5 1 _ (by intro n h;cases h) (by intro h;cases h) rfl rfl).trans (kK (.n 7) (.n 51) 46 3 1 2 _ (by intro n h;cases h) (by intro h;cases h) rfl rfl))
  ⟨rfl,rfl,rfl,rfl,rfl,trivial⟩ ⟨rfl,rfl,rfl,rfl,rfl,trivial⟩ ⟨hI0,rfl,hb.1,rfl⟩ ?_
 rintro⟨s,tr,tk⟩ τ H ⟨hinv,hlen,hle,hrun⟩
 have hs:=hok.small s hinv
 conv=>whnf
 refine⟨_,l4Code_ok hI hR p s tr.length budget hp hs.1 (hok.seen s hinv),?_⟩
 rintro r rfl
 have hfuel:budget.toNat+1 - tr.length=(budget.toNat - tr.length)+1:=by
  have:(tr.length:Int)≤budget:=hle
  omega
 have hrun:gJ p picks budget (budget.toNat+1 - tr.length) s tr tk=_:=hrun
 rw[hfuel] at hrun
 conv=>whnf
 refine kbi (fun hc=>?_) (fun hc=>?_)
 ·have hc:0<yI p s tr.length budget:=by simpa using hc
  conv=>whnf
  refine .inr (.inl ⟨agg (vW (yI p s tr.length budget) tr tk s),⟨_,rfl,?_⟩,?_⟩)
  ·refine⟨di _,_,rfl,rfl,.sl (tr.map encEv),_,rfl,⟨_,rfl,n5 (rows:=uQ tr) (by rfl) (by simp) (by simp[uQ]) ?_⟩,.sl (tk.map encInt),_,rfl,⟨_,rfl,n5 (rows:=uP tk) (by rfl) (by simp) (by simp[uP]) ?_⟩,_,_,rfl,rfl,_,_,rfl,rfl,_,_,rfl,rfl,_,_,rfl,rfl,rfl⟩
   ·exact evRows_view
   ·exact inRows_view
  ·rw[← hrun]
   simp only[gJ,if_pos hc]
 have hc:¬ 0<yI p s tr.length budget:=by simpa using hc
 conv=>whnf
 refine⟨_,mI hI hR p s hp hs.1 (hok.seen s hinv),?_⟩
 rintro r rfl
 refine .inl ?_
 conv=>whnf
 have hc0:yI p s tr.length budget=0:=by have:=codeL_nn p s tr.length budget;omega
 have hen:zA p s≠[]:=by
  intro he
  apply hc
  unfold yI
  by_cases hf:s.fault≠0
  ·rw[if_pos hf];decide
  ·rw[if_neg hf,if_pos he];split <;> decide
 have hlb:(tr.length:Int)≠budget:=by
  intro he
  apply hc
  unfold yI
  by_cases hf:s.fault≠0
  ·rw[if_pos hf];decide
  ·rw[if_neg hf,if_neg hen,if_pos he];decide
 have hepos:0<(zA p s).length:=List.length_pos_iff.2 hen
 have hrun2:gJ p picks budget (budget.toNat - tr.length) (zQ p s ((zA p s).getD (wJ picks tk (zA p s).length).toNat 0)).1 (tr++[(zQ p s ((zA p s).getD (wJ picks tk (zA p s).length).toNat 0)).2]) (tk++[wJ picks tk (zA p s).length])=gJ p picks budget (budget.toNat+1) (xY p) [] []:=by
  rw[← hrun];simp only[gJ,if_neg hc]
 refine kbi (fun hp1=>?_) (fun hp1=>?_)
 ·have hp1:tk.length<picks.length:=by simpa using hp1
  conv=>whnf
  refine⟨encInt picks[tk.length],⟨by omega,by simp[hp1],rfl⟩,?_⟩
  have hnz:(((zA p s).map wK).length:Int)≠0:=by simp;omega
  conv=>whnf
  refine⟨hnz,?_⟩
  conv=>whnf
  have hpn:0≤picks[tk.length]:=hpk _ (List.getElem_mem hp1)
  have hkk:wJ picks tk (zA p s).length=picks[tk.length].tmod ((zA p s).map wK).length:=by
   simp[wJ,hp1,List.getD_eq_getElem?_getD]
  have hk1:0≤picks[tk.length].tmod ((zA p s).map wK).length:=Int.tmod_nonneg _ hpn
  have hk2:picks[tk.length].tmod ((zA p s).map wK).length<(zA p s).length:=by
   have:=Int.tmod_lt_of_pos picks[tk.length] (b:=(((zA p s).map wK).length:Int)) (by simp;omega)
   simpa using this
  rw[hkk] at hrun2
  generalize hkv:picks[tk.length].tmod ((zA p s).map wK).length=kk at *
  have hkl:kk.toNat<(zA p s).length:=by omega
  have hmem:(zA p s).getD kk.toNat 0∈zA p s:=by rw[List.getD_eq_getElem?_getD,List.getElem?_eq_getElem hkl];exact List.getElem_mem hkl
  have hwl:(zA p s).getD kk.toNat 0<s.ths.length:=by have:=(List.mem_filter.1 hmem).1;simpa using this
  refine .inr (.inl ⟨15,[],?_⟩)
  conv=>whnf
  refine⟨wK ((zA p s).getD kk.toNat 0),⟨hk1,en_get hkl,rfl⟩,?_⟩
  conv=>whnf
  refine⟨_,iM hI p s ((zA p s).getD kk.toNat 0) hp hwl hs.2 hs.1 (hok.ready s hinv _ hmem hwl),?_⟩
  conv=>whnf
  refine⟨by kernel_rfl,?_⟩
  conv=>whnf
  generalize hst:zQ p s ((zA p s).getD kk.toNat 0)=st at *
  have hle':(tr.length:Int)≤budget:=hle
  have hlen':tr.length=tk.length:=hlen
  have hb2:=hb.2
  refine⟨⟨fun c hc'=>?_,by show(tr.length+1)*40≤_;omega,by show tr.length+1≤_;omega⟩,?_⟩
  ·have hc':c∈[(encEv st.2).map AV.d]:=hc'
   simp only[List.mem_singleton] at hc'
   subst hc';rfl
  conv=>whnf
  refine⟨⟨fun c hc'=>?_,by show(tk.length+1)*8≤_;omega,by show tk.length+1≤_;omega⟩,?_⟩
  ·have hc':c∈[[i64 kk]]:=hc'
   simp only[List.mem_singleton] at hc'
   subst hc';rfl
  conv=>whnf
  refine⟨(st.1,tr++[st.2],tk++[kk]),⟨hst▸hok.step s hinv _ hmem,by simp;exact hlen',by simp;omega,?_⟩,?_,⟨rfl,rfl,rfl,rfl,rfl,trivial⟩,⟨rfl,rfl,?_,?_,?_,trivial⟩⟩
  ·show gJ p picks budget (budget.toNat+1 - (tr++[st.2]).length) st.1 (tr++[st.2]) (tk++[kk])=_
   rw[show budget.toNat+1 - (tr++[st.2]).length=budget.toNat - tr.length by simp]
   exact hrun2
  ·show budget.toNat - (tr++[st.2]).length<budget.toNat - tr.length
   simp;omega
  ·show some (Ob.vs 46 [i64 (yI p s tr.length budget),.dref (.n 50) (tr.length+1),.dref (.n 51) (tk.length+1),_,_,_,_])=some (Ob.vs 46 [i64 0,.dref (.n 50) (tr++[st.2]).length,.dref (.n 51) (tk++[kk]).length,_,_,_,_])
   rw[hc0,List.length_append,List.length_append]
   rfl
  ·conv=>lhs;whnf
   refine congrArg some ?_
   repeat (refine xJ ?_ (congrArg (Ob.rs 107 5) (gT _ _)))
   refine congrArg (Ob.rs 107 5) (ev_push (tr:=tr) (e:=st.2) ?_)
   repeat (first|rfl|refine ev_scr' ?_)
  ·conv=>lhs;whnf
   refine congrArg some ?_
   repeat (refine xJ ?_ (congrArg (Ob.rs 3 1) (gO _ _)))
   refine congrArg (Ob.rs 3 1) (in_push (tk:=tk) (i:=kk) ?_)
   repeat (first|rfl|refine in_scr' ?_)
 ·have hp1:¬ tk.length<picks.length:=by simpa using hp1
  conv=>whnf
  have hk0:wJ picks tk (zA p s).length=0:=by simp[wJ,hp1]
  rw[hk0,Int.toNat_zero] at hrun2
  have hmem:(zA p s).getD 0 0∈zA p s:=by rw[List.getD_eq_getElem?_getD,List.getElem?_eq_getElem hepos];exact List.getElem_mem hepos
  have hwl:(zA p s).getD 0 0<s.ths.length:=by have:=(List.mem_filter.1 hmem).1;simpa using this
  refine .inr (.inl ⟨15,[],?_⟩)
  conv=>whnf
  refine⟨wK ((zA p s).getD 0 0),⟨by omega,en_get hepos,rfl⟩,?_⟩
  conv=>whnf
  refine⟨_,iM hI p s ((zA p s).getD 0 0) hp hwl hs.2 hs.1 (hok.ready s hinv _ hmem hwl),?_⟩
  conv=>whnf
  refine⟨by kernel_rfl,?_⟩
  conv=>whnf
  generalize hst:zQ p s ((zA p s).getD 0 0)=st at *
  have hle':(tr.length:Int)≤budget:=hle
  have hlen':tr.length=tk.length:=hlen
  have hb2:=hb.2
  refine⟨⟨fun c hc'=>?_,by show(tr.length+1)*40≤_;omega,by show tr.length+1≤_;omega⟩,?_⟩
  ·have hc':c∈[(encEv st.2).map AV.d]:=hc'
   simp only[List.mem_singleton] at hc'
   subst hc';rfl
  conv=>whnf
  refine⟨⟨fun c hc'=>?_,by show(tk.length+1)*8≤_;omega,by show tk.length+1≤_;omega⟩,?_⟩
  ·have hc':c∈[[i64 0]]:=hc'
   simp only[List.mem_singleton] at hc'
   subst hc';rfl
  conv=>whnf
  refine⟨(st.1,tr++[st.2],tk++[0]),⟨hst▸hok.step s hinv _ hmem,by simp;exact hlen',by simp;omega,?_⟩,?_,⟨rfl,rfl,rfl,rfl,rfl,trivial⟩,⟨rfl,rfl,?_,?_,?_,trivial⟩⟩
  ·show gJ p picks budget (budget.toNat+1 - (tr++[st.2]).length) st.1 (tr++[st.2]) (tk++[0])=_
   rw[show budget.toNat+1 - (tr++[st.2]).length=budget.toNat - tr.length by simp]
   exact hrun2
  ·show budget.toNat - (tr++[st.2]).length<budget.toNat - tr.length
   simp;omega
  ·show some (Ob.vs 46 [i64 (yI p s tr.length budget),.dref (.n 50) (tr.length+1),.dref (.n 51) (tk.length+1),_,_,_,_])=some (Ob.vs 46 [i64 0,.dref (.n 50) (tr++[st.2]).length,.dref (.n 51) (tk++[0]).length,_,_,_,_])
   rw[hc0,List.length_append,List.length_append]
   rfl
  ·conv=>lhs;whnf
   refine congrArg some ?_
   repeat (refine xJ ?_ (congrArg (Ob.rs 107 5) (gT _ _)))
   refine congrArg (Ob.rs 107 5) (ev_push (tr:=tr) (e:=st.2) ?_)
   repeat (first|rfl|refine ev_scr' ?_)
  ·conv=>lhs;whnf
   refine congrArg some ?_
   repeat (refine xJ ?_ (congrArg (Ob.rs 3 1) (gO _ _)))
   refine congrArg (Ob.rs 3 1) (in_push (tk:=tk) (i:=0) ?_)
   repeat (first|rfl|refine in_scr' ?_)
end Ai
namespace Ai
set_option maxRecDepth 100000
open Go Go.Proofs
def m4:Prop:=∀ (x:Nat) (many:Int),1≤many→many≤1000→fcmp .lss x 0=false→fcmp .lss x (FloatKind.f64.nearest many)=true→∃ n,floatToIntVal .f64 x .i64=some n∧0≤n∧n<many
theorem idxRange_of (h:m4):jW:=by
 intro x many n hi
 unfold yV at hi
 split at hi
 ·rename_i hc
  obtain⟨m,h1,h2,h3⟩:=h x many hc.1.1 hc.1.2 hc.2.1 hc.2.2
  rw[h1] at hi
  simp only at hi
  split at hi
  ·simp only[Option.some.injEq] at hi
   subst hi;exact⟨h2,h3⟩
  ·cases hi
 ·cases hi
theorem sL (hF:m4):xB:=by
 intro x many
 refine callsTo_of_AW (fn:=Tryz.f241) Tryz.func241 rfl (by kernel_rfl) rfl ?_
 conv=>whnf
 refine ocase (jB _ _ _) (fun h1=>?_) (fun h1=>?_)
 ·conv=>whnf
  refine kbi (fun h2=>?_) (fun h2=>?_)
  ·have h2:fcmp .lss x 0=true:=h2
   conv=>whnf
   have:yV x many=none:=by
    unfold yV;rw[if_neg]
    rintro⟨_,e,_⟩
    rw[h2] at e
    cases e
   rw[this]
   rfl
  have h2:fcmp .lss x 0=false:=by
   have h2:¬ fcmp .lss x 0=true:=h2
   simpa using h2
  conv=>whnf
  refine kbi (fun h3=>?_) (fun h3=>?_)
  ·have h3:fcmp .lss x (FloatKind.f64.nearest many)=true:=h3
   conv=>whnf
   obtain⟨n,g1,g2,g3⟩:=hF x many h1.1 h1.2 h2 h3
   refine⟨n,g1,?_⟩
   conv=>whnf
   refine kbi (fun h4=>?_) (fun h4=>?_)
   ·conv=>whnf
    have:yV x many=none:=by
     unfold yV;rw[if_pos ⟨h1,h2,h3⟩,g1]
     simp only
     rw[if_neg]
     intro e
     have h4:fcmp .neq (FloatKind.f64.nearest n) x=true:=h4
     rw[j3,e] at h4
     cases h4
    rw[this]
    rfl
   ·conv=>whnf
    refine⟨n,g1,?_⟩
    conv=>whnf
    have:yV x many=some n:=by
     unfold yV;rw[if_pos ⟨h1,h2,h3⟩,g1]
     simp only
     rw[if_pos]
     have h4:¬ fcmp .neq (FloatKind.f64.nearest n) x=true:=h4
     rw[j3] at h4
     simpa using h4
    rw[this]
    rfl
  ·have h3:¬ fcmp .lss x (FloatKind.f64.nearest many)=true:=h3
   conv=>whnf
   have:yV x many=none:=by
    unfold yV;rw[if_neg]
    rintro⟨_,_,e⟩
    exact h3 e
   rw[this]
   rfl
 ·conv=>whnf
  have:yV x many=none:=by
   unfold yV;rw[if_neg]
   rintro⟨e,_⟩
   exact h1 e
  rw[this]
  rfl
end Ai
namespace Ai
set_option maxRecDepth 100000
open Go Go.Proofs Ieee
def nearB (m:Nat):Bool:=double.read (FloatKind.f64.nearest ((m:Nat):Int))==.number false (m <<< (52 - m.log2)) (-((52 - m.log2:Nat):Int))
theorem near_all:(List.range 1001).all (fun m=>m==0 || nearB m)=true:=by decide +kernel
theorem iF {m:Nat} (h1:1≤m) (h2:m≤1000):∃ k:Nat,double.read (FloatKind.f64.nearest ((m:Nat):Int))=.number false (m <<< k) (-(k:Int)):=by
 have:=near_all
 simp only[List.all_eq_true,List.mem_range] at this
 have:=this m (by omega)
 simp only[Bool.or_eq_true,beq_iff_eq] at this
 rcases this with h|h
 ·omega
 ·unfold nearB at h
  exact⟨_,by simpa using h⟩
theorem cO (s:Bool) (n d:Nat):Toward.cut .zero s n d=n / (1 <<< min d (n.log2+2)):=by
 simp[Toward.cut]
theorem cut_lt {m d b:Nat} (hb:0<b) (h:m<b*2 ^ d):Toward.cut .zero false m d<b:=by
 rw[cO,Nat.shiftLeft_eq,Nat.one_mul]
 by_cases hd:d≤m.log2+2
 ·rw[Nat.min_eq_left hd]
  exact(Nat.div_lt_iff_lt_mul (Nat.pow_pos (by decide))).2 h
 ·rw[Nat.min_eq_right (by omega)]
  have h1:m<2 ^ (m.log2+2):=Nat.lt_of_lt_of_le Nat.lt_log2_self (Nat.pow_le_pow_right (by decide) (by omega))
  rw[Nat.div_eq_of_lt h1];exact hb
theorem cmp_lt (a b:Int):compare a b=.lt↔a<b:=by
 show compareOfLessAndEq a b=.lt↔a<b
 unfold compareOfLessAndEq
 by_cases h:a<b
 ·simp[h]
 ·by_cases h2:a=b
  ·simp[h2]
  ·simp[h,h2]
theorem mN:m4:=by
 intro x many h1 h2 hx0 hxm
 obtain⟨b,rfl⟩:∃ b:Nat,many=(b:Int):=⟨many.toNat,by omega⟩
 obtain⟨k,hk⟩:=iF (m:=b) (by omega) (by omega)
 have o1:double.order x 0≠some .lt:=by simpa[fcmp] using hx0
 have o2:double.order x (FloatKind.f64.nearest (b:Int))=some .lt:=by simpa[fcmp] using hxm
 unfold Format.order at o1 o2
 rw[kS] at o1
 rw[hk] at o2
 have hdec:FloatKind.f64.decode x=double.read x:=rfl
 unfold floatToIntVal
 rw[hdec]
 cases hd:double.read x with
 |nan s f=>rw[hd] at o2;cases o2
 |infinity s =>
  rw[hd] at o1 o2
  simp only[Datum.order] at o1 o2
  exact absurd o2 o1
 |number s m i =>
  rw[hd] at o1 o2
  simp only[Datum.order,Option.some.injEq,ne_eq] at o1 o2
  rw[cmp_lt] at o1 o2
  have hs:s=false∨m=0:=by
   cases s with
   |false=>exact .inl rfl
   |true =>
    right
    simp only[signed,if_true,Nat.shiftLeft_eq] at o1
    by_cases hm:m=0
    ·exact hm
    ·exfalso
     apply o1
     have:0<m*2 ^ (i - min i double.leastPlace).toNat:=Nat.mul_pos (by omega) (Nat.pow_pos (by decide))
     simp
     omega
  rcases hs with rfl|rfl
  ·simp only[signed,Bool.false_eq_true,if_false,Nat.shiftLeft_eq,Int.ofNat_lt] at o2
   have o2:m*2 ^ (i - min i (-(k:Int))).toNat<b*2 ^ k*2 ^ (-(k:Int) - min i (-(k:Int))).toNat:=by exact_mod_cast o2
   have hlt:Toward.cut .zero false (m <<< i.toNat) (-i).toNat<b:=by
    refine cut_lt (by omega) ?_
    rw[Nat.shiftLeft_eq]
    by_cases hi:0≤i
    ·rw[Int.min_eq_right (by omega)] at o2
     have e1:(i - -(k:Int)).toNat=i.toNat+k:=by omega
     have e2:(-(k:Int) - -(k:Int)).toNat=0:=by omega
     rw[e1,e2,Nat.pow_add,Nat.pow_zero,Nat.mul_one,← Nat.mul_assoc] at o2
     have e3:(-i).toNat=0:=by omega
     rw[e3,Nat.pow_zero,Nat.mul_one]
     exact Nat.lt_of_mul_lt_mul_right o2
    ·have e3:i.toNat=0:=by omega
     rw[e3,Nat.pow_zero,Nat.mul_one]
     by_cases hik:i≤-(k:Int)
     ·rw[Int.min_eq_left hik] at o2
      have e1:(i - i).toNat=0:=by omega
      have e2:(-i).toNat=k+(-(k:Int) - i).toNat:=by omega
      rw[e1,Nat.pow_zero,Nat.mul_one,Nat.mul_assoc,← Nat.pow_add] at o2
      rw[e2];exact o2
     ·rw[Int.min_eq_right (by omega)] at o2
      have e1:k=(-i).toNat+(i - -(k:Int)).toNat:=by omega
      have e2:(-(k:Int) - -(k:Int)).toNat=0:=by omega
      rw[e2,Nat.pow_zero,Nat.mul_one] at o2
      generalize hq:(i - -(k:Int)).toNat=q at *
      rw[e1,Nat.pow_add,← Nat.mul_assoc] at o2
      exact Nat.lt_of_mul_lt_mul_right o2
   simp only[Datum.toInt,Datum.integral,signed,Bool.false_eq_true,if_false,Nat.shiftLeft_zero]
   rw[if_pos]
   ·exact⟨_,rfl,by omega,by omega⟩
   ·have e4:IntKind.i64.min=-9223372036854775808:=by decide
    have e5:IntKind.i64.max=9223372036854775807:=by decide
    rw[e4,e5]
    omega
  ·have hc:Toward.cut .zero s (0 <<< i.toNat) (-i).toNat=0:=by rw[cO];simp
   simp only[Datum.toInt,Datum.integral,hc,signed]
   refine⟨0,?_,by omega,by omega⟩
   cases s <;> decide
theorem p7:xB:=sL mN
theorem bA:jW:=idxRange_of mN
end Ai
namespace Ai
set_option maxRecDepth 100000
open Go Go.Proofs
structure TInv (p:ProgL) (t:Th):Prop where
 rt:0≤t.rt∧t.rt<p.rs.length
 pc:0≤t.pc∧t.pc≤(p.rs.getD t.rt.toNat []).length
 st:t.stack.length≤8
 lock:t.st=3∨t.st=4→0≤t.lock∧t.lock<p.locks
structure SInv (p:ProgL) (s:StL):Prop where
 len:s.ths.length≤5
 cells:(s.cells.length:Int)=p.cells
 owner:(s.owner.length:Int)=p.locks
 ths:∀ t∈s.ths,TInv p t
theorem fU {p:ProgL} (hg:p.goodS) {t:Th} (h:TInv p t) {o:OpL} (hn:yL p t=some o):o.goodS p (p.rs.getD t.rt.toNat []).length∧t.pc<(p.rs.getD t.rt.toNat []).length:=by
 have hr:t.rt.toNat<p.rs.length:=by have:=h.rt;omega
 have e:p.rs.getD t.rt.toNat []=p.rs[t.rt.toNat]:=by simp[List.getD_eq_getElem?_getD,hr]
 unfold yL at hn
 rw[e] at hn ⊢
 obtain⟨h1,h2⟩:=List.getElem?_eq_some_iff.1 hn
 refine⟨(hg.2 _ (List.getElem_mem hr)).1 o (h2▸List.getElem_mem h1),?_⟩
 have:=h.pc;omega
theorem iQ {p:ProgL} (hg:p.goodS) {s:StL} (hi:SInv p s) {k:Nat} (h:k<s.ths.length):s.ths[k].ready p s k:=by
 have ht:=hi.ths _ (List.getElem_mem h)
 have hgd:s.ths.getD k th0=s.ths[k]:=by simp[List.getD_eq_getElem?_getD,h]
 have hr:s.ths[k].rt.toNat<p.rs.length:=by have:=ht.rt;omega
 have e:p.rs.getD s.ths[k].rt.toNat []=p.rs[s.ths[k].rt.toNat]:=by simp[List.getD_eq_getElem?_getD,hr]
 have h24:(p.rs.getD s.ths[k].rt.toNat []).length≤24:=by rw[e];exact(hg.2 _ (List.getElem_mem hr)).2
 refine⟨⟨⟨ht.rt.1,by have:=ht.rt.2;omega⟩,ht.pc.1,ht.pc.2⟩,⟨ht.pc.1,by have:=ht.pc.2;omega⟩,fun h4=>?_,fun o ho=>?_⟩
 ·have:=ht.lock (.inr h4)
  rw[hi.owner];exact this
 ·obtain⟨⟨g1,g2⟩,hlt⟩:=fU hg ht ho
  obtain⟨c1,c2,c3,_⟩:=g1
  obtain⟨a1,a2,a3,a4,a5,a6⟩:=g2
  refine⟨⟨fun hc=>?_,fun hc=>?_⟩,fun hf=>⟨c1,fun hc=>?_,fun hc=>?_,fun hc=>?_,?_⟩⟩
  ·exact⟨c2.1,by rw[hi.owner];exact a3 (.inr hc)⟩
  ·exact⟨c3.1,by rw[hi.owner];exact(a5 hc).2⟩
  ·exact⟨c2.1,by rw[hi.cells];exact a1 hc⟩
  ·exact⟨c2.1,by rw[hi.owner];exact a3 hc⟩
  ·exact⟨c3.1,by rw[hi.owner];exact(a5 hc).2⟩
  ·unfold yD at hf
   simp only[hgd] at hf
   split at hf
   ·cases hf
   ·omega
end Ai
namespace Ai
set_option maxRecDepth 100000
open Go Go.Proofs
theorem wU {p:ProgL} {s:StL} {k:Nat} {t:Th} (hi:SInv p s) (ht:TInv p t):SInv p (s.put k t):=by
 refine⟨by simpa[StL.put] using hi.len,hi.cells,hi.owner,fun u hu=>?_⟩
 rcases List.mem_or_eq_of_mem_set hu with h|h
 ·exact hi.ths u h
 ·subst h;exact ht
theorem inv_cells {p:ProgL} {s:StL} (hi:SInv p s) (i:Nat) (x:Nat):SInv p { s with cells:=s.cells.set i x }:=⟨hi.len,by simpa using hi.cells,hi.owner,hi.ths⟩
theorem dC {p:ProgL} {s:StL} (hi:SInv p s) (i:Nat) (x:Int):SInv p { s with owner:=s.owner.set i x }:=⟨hi.len,hi.cells,by simpa using hi.owner,hi.ths⟩
theorem inv_pop {p:ProgL} {t:Th} {o:OpL} (h:TInv p t) (hlt:t.pc<(p.rs.getD t.rt.toNat []).length):TInv p (zG t o):=by
 refine⟨h.rt,⟨by have:=h.pc;show 0≤t.pc+1;omega,by show t.pc+1≤_;exact hlt⟩,?_,h.lock⟩
 show(t.stack.take _).length≤8
 have:=h.st
 simp;omega
theorem inv_push {p:ProgL} {t:Th} {o:OpL} {x:Nat} (h:TInv p t) (hlt:t.pc<(p.rs.getD t.rt.toNat []).length) (h1:(zC o.code).1≤t.stack.length) (h8:(t.stack.length:Int) - (zC o.code).1+1≤8) (ht:0≤(zC o.code).1):TInv p (zS (zG t o) x):=by
 have hp:=inv_pop (o:=o) h hlt
 refine⟨hp.rt,hp.pc,?_,hp.lock⟩
 show(t.stack.take (yH t o)++[x]).length≤8
 simp[yH,wN];omega
theorem inv_do {p:ProgL} (hg:p.goodS) {s:StL} (hi:SInv p s) {k:Nat} (h:k<s.ths.length) {o:OpL} (hn:yL p s.ths[k]=some o) (hf:yD s k o=0) (e:Ev):SInv p (doL s k o e).1:=by
 have ht:=hi.ths _ (List.getElem_mem h)
 have hgd:s.ths.getD k th0=s.ths[k]:=by simp[List.getD_eq_getElem?_getD,h]
 obtain⟨⟨g1,g2⟩,hlt⟩:=fU hg ht hn
 obtain⟨c1,c2,c3,_⟩:=g1
 obtain⟨a1,a2,a3,a4,a5,a6⟩:=g2
 have htk:0≤(zC o.code).1:=by
  unfold zC;split
  ·decide
  ·split
   ·decide
   ·split <;> decide
 unfold yD at hf
 simp only[hgd] at hf
 generalize s.ths[k]=t at *
 split at hf
 ·cases hf
 rename_i hst
 split at hf
 ·cases hf
 split at hf
 ·cases hf
 split at hf
 ·cases hf
 rename_i h14
 have hp:=inv_pop (o:=o) ht hlt
 have push:∀ x,(zC o.code).2=1→TInv p (zS (zG t o) x):=fun x h2=>inv_push ht hlt (by omega) (by omega) htk
 unfold doL
 simp only[hgd]
 have jump:((o.code=10∨o.code=11)→TInv p { zG t o with pc:=o.a }):=fun hc=>⟨hp.rt,⟨c2.1,a2 hc⟩,hp.st,hp.lock⟩
 by_cases n1:o.code=1
 ·rw[if_pos n1];exact wU hi (push _ (by simp[zC,n1]))
 rw[if_neg n1]
 by_cases n2:o.code=2
 ·rw[if_pos n2];exact wU hi (push _ (by simp[zC,n2]))
 rw[if_neg n2]
 by_cases n3:o.code=3
 ·rw[if_pos n3];exact wU (inv_cells hi _ _) hp
 rw[if_neg n3]
 by_cases n10:o.code=10
 ·rw[if_pos n10];exact wU hi (jump (.inl n10))
 rw[if_neg n10]
 by_cases n11:o.code=11
 ·rw[if_pos n11]
  refine wU hi ?_
  split
  ·exact jump (.inr n11)
  ·exact hp
 rw[if_neg n11]
 by_cases n12:o.code=12
 ·rw[if_pos n12];exact wU (dC hi _ _) hp
 rw[if_neg n12]
 by_cases n13:o.code=13
 ·rw[if_pos n13];exact wU (dC hi _ _) hp
 rw[if_neg n13]
 by_cases n14:o.code=14
 ·rw[if_pos n14]
  have h5:s.ths.length≤4:=by
   have:=hi.len
   have:s.ths.length≠5:=fun e=>h14 ⟨n14,e⟩
   omega
  refine wU ⟨by simp;omega,hi.cells,hi.owner,fun u hu=>?_⟩ (push _ (by simp[zC,n14]))
  rcases List.mem_append.1 hu with h|h
  ·exact hi.ths u h
  ·simp only[List.mem_singleton] at h
   subst h
   exact⟨⟨c2.1,a4 n14⟩,⟨Int.le_refl _,Int.natCast_nonneg _⟩,Nat.zero_le _,fun e=>by rcases e with e|e <;> cases e⟩
 rw[if_neg n14]
 by_cases n15:o.code=15
 ·rw[if_pos n15];exact wU hi hp
 rw[if_neg n15]
 by_cases n16:o.code=16
 ·rw[if_pos n16]
  refine wU (dC hi _ _) ⟨hp.rt,⟨?_,?_⟩,hp.st,fun _=>⟨c3.1,(a5 n16).2⟩⟩
  ·show 0≤t.pc+1 - 1
   have:=ht.pc;omega
  ·show t.pc+1 - 1≤_
   have:=ht.pc;show _≤((p.rs.getD t.rt.toNat []).length:Int);omega
 rw[if_neg n16]
 by_cases n17:o.code=17
 ·rw[if_pos n17]
  cases hw:wO s.ths o.a with
  |none=>exact wU hi hp
  |some j =>
   refine wU ⟨by simpa using hi.len,hi.cells,hi.owner,fun u hu=>?_⟩ hp
   obtain⟨i,hi2,rfl⟩:=List.mem_iff_getElem.1 hu
   have hil:i<s.ths.length:=by simpa using hi2
   have hT:=hi.ths _ (List.getElem_mem hil)
   rw[List.getElem_modify]
   split
   ·rename_i hji
    subst hji
    unfold wO at hw
    rw[List.findIdx?_eq_some_iff_getElem] at hw
    obtain⟨_,hpw,_⟩:=hw
    simp only[Bool.and_eq_true,beq_iff_eq] at hpw
    exact⟨hT.rt,hT.pc,hT.st,fun _=>hT.lock (.inl hpw.1)⟩
   ·exact hT
 rw[if_neg n17]
 refine wU hi (push _ ?_)
 have:4≤o.code∧o.code≤9:=by have:=c1.1;have:=c1.2;omega
 simp only[zC]
 rw[if_neg (by omega),if_neg (by omega),if_pos this]
theorem inv_step {p:ProgL} (hg:p.goodS) {s:StL} (hi:SInv p s) {k:Nat} (h:k<s.ths.length):SInv p (zQ p s k).1:=by
 have ht:=hi.ths _ (List.getElem_mem h)
 have hgd:s.ths.getD k th0=s.ths[k]:=by simp[List.getD_eq_getElem?_getD,h]
 unfold zQ
 simp only[hgd]
 split
 ·rename_i h4
  refine wU (dC hi _ _) ⟨ht.rt,?_,ht.st,fun e=>by rcases e with e|e <;> cases e⟩
  cases hn:yL p s.ths[k] with
  |none=>exact ht.pc
  |some o =>
   have:=(fU hg ht hn).2
   have:=ht.pc
   refine⟨?_,?_⟩
   ·show 0≤s.ths[k].pc+1
    omega
   ·show s.ths[k].pc+1≤((p.rs.getD s.ths[k].rt.toNat []).length:Int)
    omega
 ·split
  ·exact wU hi ⟨ht.rt,ht.pc,ht.st,fun e=>by rcases e with e|e <;> cases e⟩
  ·rename_i o hn
   split
   ·rename_i hf
    exact inv_do hg hi h hn hf _
   ·exact⟨hi.len,hi.cells,hi.owner,hi.ths⟩
theorem w6 {p:ProgL} (hg:p.goodS):SInv p (xY p):=by
 obtain⟨b1,b2,b3,b4⟩:=hg.1
 refine⟨by simp[xY],?_,?_,fun t ht=>?_⟩
 ·have:=b1.1;simp[xY];omega
 ·have:=b2.1;simp[xY];omega
 ·have:t=qV 0:=by simpa[xY] using ht
  subst this
  refine⟨⟨Int.le_refl _,?_⟩,⟨Int.le_refl _,Int.natCast_nonneg _⟩,Nat.zero_le _,fun e=>by rcases e with e|e <;> cases e⟩
  have:=b4.1
  show(0:Int)<p.rs.length
  omega
theorem pR {p:ProgL} (hg:p.goodS):RunOK p (SInv p):=by
 obtain⟨b1,b2,b3,b4⟩:=hg.1
 refine⟨fun s hi=>⟨⟨by have:=hi.len;omega,fun t ht=>by have:=(hi.ths t ht).st;omega,?_,?_⟩,hi.len⟩,fun s hi t ht=>?_,fun s hi k hk h=>iQ hg hi h,fun s hi k hk=>?_⟩
 ·have:=hi.cells;have:=b1.2;omega
 ·have:=hi.owner;have:=b2.2;omega
 ·obtain⟨j,hj,rfl⟩:=List.mem_iff_getElem.1 ht
  have hr:=iQ hg hi hj
  refine⟨hr.inP,hr.lock,fun o ho hc=>?_⟩
  obtain⟨⟨g1,g2⟩,_⟩:=fU hg (hi.ths _ ht) ho
  have:=g1.2.1.1
  have:=g2.2.2.1 (.inl hc)
  rw[hi.owner]
  exact⟨by assumption,by assumption⟩
 ·have:k<s.ths.length:=by have:=(List.mem_filter.1 hk).1;simpa using this
  exact inv_step hg hi this
theorem l4Run_good (p:ProgL) (hp:p.wf) (hg:p.goodS) (picks:List Int) (budget:Int) (hpk:∀ i∈picks,0≤i) (hl:picks.length≤1048576) (hb:InR budget 0 1048576) :
  CallsTo EE 59 [agg (encProg p),sl (picks.map encInt),i64 budget] (·=agg (gJ p picks budget (budget.toNat+1) (xY p) [] [])):=by
 obtain⟨b1,b2,b3,b4⟩:=hg.1
 exact l4Run_ok p7 bA p hp ⟨b1.1,by have:=b1.2;omega⟩ ⟨b2.1,by have:=b2.2;omega⟩ (SInv p) (w6 hg) (pR hg) picks budget hpk hl hb
end Ai
namespace Ai
set_option maxRecDepth 100000
open Go Go.Proofs
theorem eI (o:OpL):CallsTo EE 220 [agg (encOp o)] (·=.tup [i64 (zC o.code).1,i64 (zC o.code).2]):=by
 refine callsTo_of_AW (fn:=Tryz.f220) Tryz.func220 rfl (by kernel_rfl) rfl ?_
 have go1:(o.code=1∨o.code=2∨o.code=14)→zC o.code=(0,1):=fun h=>by simp[zC,h]
 have go2:¬ (o.code=1∨o.code=2∨o.code=14)→(o.code=3∨o.code=11∨o.code=15)→zC o.code=(1,0):=fun h1 h=>by simp[zC,h1,h]
 conv=>whnf
 refine kbi (fun h1=>?_) (fun h1=>?_)
 ·have:o.code=1:=by simpa using h1
  conv=>whnf
  rw[go1 (.inl this)]
 conv=>whnf
 refine kbi (fun h2=>?_) (fun h2=>?_)
 ·have:o.code=2:=by simpa using h2
  conv=>whnf
  rw[go1 (.inr (.inl this))]
 conv=>whnf
 refine kbi (fun h3=>?_) (fun h3=>?_)
 ·have:o.code=14:=by simpa using h3
  conv=>whnf
  rw[go1 (.inr (.inr this))]
 have hn:¬ (o.code=1∨o.code=2∨o.code=14):=by simp at h1 h2 h3;omega
 conv=>whnf
 refine kbi (fun g1=>?_) (fun g1=>?_)
 ·have:o.code=3:=by simpa using g1
  conv=>whnf
  rw[go2 hn (.inl this)]
 conv=>whnf
 refine kbi (fun g2=>?_) (fun g2=>?_)
 ·have:o.code=11:=by simpa using g2
  conv=>whnf
  rw[go2 hn (.inr (.inl this))]
 conv=>whnf
 refine kbi (fun g3=>?_) (fun g3=>?_)
 ·have:o.code=15:=by simpa using g3
  conv=>whnf
  rw[go2 hn (.inr (.inr this))]
 have hn2:¬ (o.code=3∨o.code=11∨o.code=15):=by simp at g1 g2 g3;omega
 have go3:4≤o.code∧o.code≤9→zC o.code=(2,1):=fun h=>by simp only[zC,if_neg hn,if_neg hn2];exact if_pos h
 have go4:¬ (4≤o.code∧o.code≤9)→zC o.code=(0,0):=fun h=>by simp only[zC,if_neg hn,if_neg hn2];exact if_neg h
 conv=>whnf
 refine kbi (fun k1=>?_) (fun k1=>?_)
 ·have:o.code=4:=by simpa using k1
  conv=>whnf
  rw[go3 (by omega)]
 conv=>whnf
 refine kbi (fun k2=>?_) (fun k2=>?_)
 ·have:o.code=5:=by simpa using k2
  conv=>whnf
  rw[go3 (by omega)]
 conv=>whnf
 refine kbi (fun k3=>?_) (fun k3=>?_)
 ·have:o.code=6:=by simpa using k3
  conv=>whnf
  rw[go3 (by omega)]
 conv=>whnf
 refine kbi (fun k4=>?_) (fun k4=>?_)
 ·have:o.code=7:=by simpa using k4
  conv=>whnf
  rw[go3 (by omega)]
 conv=>whnf
 refine kbi (fun k5=>?_) (fun k5=>?_)
 ·have:o.code=8:=by simpa using k5
  conv=>whnf
  rw[go3 (by omega)]
 conv=>whnf
 refine kbi (fun k6=>?_) (fun k6=>?_)
 ·have:o.code=9:=by simpa using k6
  conv=>whnf
  rw[go3 (by omega)]
 conv=>whnf
 rw[go4 (by simp at k1 k2 k3 k4 k5 k6;omega)]
theorem o0 (p:ProgL) (t:Th) (hp:p.wf) (h:t.inP p):CallsTo EE 160 [agg (encProg p),agg (zD t)] (·=.tup [agg (encOp ((yL p t).getD op0)),bv (yL p t).isSome]):=by
 refine callsTo_of_AW (fn:=Tryz.f160) Tryz.func160 rfl (by kernel_rfl) rfl ?_
 obtain⟨⟨a1,a2⟩,b1,b2⟩:=h
 have hr:t.rt.toNat<p.rs.length:=by omega
 conv=>whnf
 refine⟨zT p.rs[t.rt.toNat],⟨a1,?_,rfl⟩,?_⟩
 ·show(p.rs.map zT)[t.rt.toNat]?=_
  simp[hr]
 conv=>whnf
 have hrow:p.rs.getD t.rt.toNat []=p.rs[t.rt.toNat]:=by simp[List.getD_eq_getElem?_getD,hr]
 rw[hrow] at b2
 refine kbi (fun h=>?_) (fun h=>?_)
 ·have h1:t.pc.toNat<p.rs[t.rt.toNat].length:=by simp at h;omega
  have h2:yL p t=some p.rs[t.rt.toNat][t.pc.toNat]:=by unfold yL;rw[hrow];simp[h1]
  conv=>whnf
  refine⟨encOp p.rs[t.rt.toNat][t.pc.toNat],⟨b1,?_,rfl⟩,?_⟩
  ·simp[h1]
  conv=>whnf
  rw[h2]
  rfl
 ·have h1:t.pc=(p.rs[t.rt.toNat].length:Int):=by simp at h;omega
  have h2:yL p t=none:=by unfold yL;rw[hrow,h1];simp
  conv=>whnf
  rw[h2]
  rfl
end Ai
namespace Ai
set_option maxRecDepth 100000
open Go Go.Proofs
def yX:Prop:=∀ (x:Nat) (many:Int),CallsTo EE 209 [.d (.flt x),i64 many] (·=.tup [i64 ((yV x many).getD 0),bv (yV x many).isSome])
theorem tQ (hI:yX) (s:StL) (t:Th) (ht:t.stack.length≤1048576):CallsTo EE 161 [.fp (zZ s),agg (zD t)] (·=.tup [i64 ((yC s t).getD 0),bv (yC s t).isSome]):=by
 refine callsTo_of_AW (fn:=Tryz.f161) Tryz.func161 rfl (by kernel_rfl) rfl ?_
 conv=>whnf
 refine kbi (fun h=>?_) (fun h=>?_)
 ·have h1:t.stack=[]:=by
   have:(t.stack.map encF).length=0:=by simpa using h
   simpa using this
  conv=>whnf
  simp[yC,h1]
 ·have hne:t.stack≠[]:=fun e=>h (by rw[e];rfl)
  have hpos:0<t.stack.length:=List.length_pos_iff.2 hne
  conv=>whnf
  refine .inr (.inl ⟨18,[],?_⟩)
  conv=>whnf
  refine⟨encF (t.stack.getLast hne),⟨?_,?_,rfl⟩,?_⟩
  ·rw[zM (by simp;omega) (by simp;omega)];simp;omega
  ·rw[zM (by simp;omega) (by simp;omega)]
   have e:((((t.stack.map encF).length:Int) - 1).toNat)=t.stack.length - 1:=by simp
   rw[e,List.getElem?_map,← List.getLast?_eq_getElem?,List.getLast?_eq_some_getLast hne]
   rfl
  conv=>whnf
  refine⟨_,hI _ _,?_⟩
  conv=>whnf
  have hj:yC s t=yV (t.stack.getLast hne) (s.ths.map zD).length:=by
   unfold yC
   rw[List.getLast?_eq_some_getLast hne]
   simp
  rw[← hj]
  refine⟨by kernel_rfl,?_⟩
  conv=>whnf
end Ai
namespace Ai
set_option maxRecDepth 100000
open Go Go.Proofs
open Classical in
/-- impl.(*State).waits: whether a thread waits -/
theorem eE (hI:yX) (p:ProgL) (s:StL) (t:Th) (hp:p.wf) (ht:t.stack.length≤1048576) (hv:t.seen p s) :
  CallsTo EE 110 [.fp (zZ s),agg (encProg p),agg (zD t)] (fun r=>∃ w:Int,r=.tup [i64 w,bp (0≤zH p s t)]∧(0≤zH p s t→w=zH p s t)):=by
 refine callsTo_of_AW (fn:=Tryz.f110) Tryz.func110 rfl (by kernel_rfl) rfl ?_
 have own_get:∀ (a:Int),0≤a∧a<s.owner.length→0≤a∧(s.owner.map encInt)[a.toNat]?=some (encInt (s.owner.getD a.toNat 0))∧(encInt (s.owner.getD a.toNat 0)).length=1:=by
  intro a ha
  refine⟨ha.1,?_,rfl⟩
  have:a.toNat<s.owner.length:=by omega
  simp[this,List.getD_eq_getElem?_getD]
 conv=>whnf
 refine kbi (fun h4=>?_) (fun h4=>?_)
 ·have h4:t.st=4:=by simpa using h4
  have hb:zH p s t=s.owner.getD t.lock.toNat 0:=by simp only[zH,if_pos h4]
  conv=>whnf
  refine .inr (.inl ⟨19,[],?_⟩)
  conv=>whnf
  refine⟨_,own_get t.lock (hv.lock h4),?_⟩
  conv=>whnf
  refine⟨_,own_get t.lock (hv.lock h4),?_⟩
  conv=>whnf
  refine kbi (fun h0=>?_) (fun h0=>?_)
  ·have h0:0≤s.owner.getD (t.lock).toNat 0:=by simpa using h0
   conv=>whnf
   refine⟨by kernel_rfl,?_⟩
   conv=>whnf
   exact⟨_,by rw[hb];simp only[bp,tC h0],fun _=>hb.symm⟩
  ·have h0:¬ 0≤s.owner.getD (t.lock).toNat 0:=by simpa using h0
   conv=>whnf
   refine⟨by kernel_rfl,?_⟩
   conv=>whnf
   exact⟨_,by rw[hb];simp only[bp,x3 h0],fun _=>hb.symm⟩
 have h4:¬ t.st=4:=by simpa using h4
 have none_:zH p s t=-1→∃ w:Int,AV.tup [i64 0,bv false]=.tup [i64 w,bp (0≤zH p s t)]∧(0≤zH p s t→w=zH p s t):=fun e =>
  ⟨0,by rw[e];simp only[bp,x3 (show ¬ (0:Int)≤-1 by decide)],fun h=>by rw[e] at h;exact absurd h (by decide)⟩
 conv=>whnf
 refine kbi (fun h1=>?_) (fun h1=>?_)
 ·have h1:t.st=1:=by simpa using h1
  conv=>whnf
  refine⟨_,o0 p t hp hv.inP,?_⟩
  rintro r rfl
  conv=>whnf
  cases hn:yL p t with
  |none =>
   conv=>whnf
   exact none_ (by unfold zH;rw[if_neg h4,hn])
  |some o =>
   conv=>whnf
   refine kbi (fun h2=>?_) (fun h2=>?_)
   ·have h2:o.code=12:=by simpa using h2
    have hb:zH p s t=s.owner.getD o.a.toNat 0:=by simp[zH,h4,hn,h1,h2]
    conv=>whnf
    refine .inr (.inl ⟨19,[],?_⟩)
    conv=>whnf
    refine⟨_,own_get o.a (hv.op o hn h2),?_⟩
    conv=>whnf
    refine⟨_,own_get o.a (hv.op o hn h2),?_⟩
    conv=>whnf
    refine kbi (fun h0=>?_) (fun h0=>?_)
    ·have h0:0≤s.owner.getD (o.a).toNat 0:=by simpa using h0
     conv=>whnf
     refine⟨by kernel_rfl,?_⟩
     conv=>whnf
     exact⟨_,by rw[hb];simp only[bp,tC h0],fun _=>hb.symm⟩
    ·have h0:¬ 0≤s.owner.getD (o.a).toNat 0:=by simpa using h0
     conv=>whnf
     refine⟨by kernel_rfl,?_⟩
     conv=>whnf
     exact⟨_,by rw[hb];simp only[bp,x3 h0],fun _=>hb.symm⟩
   have h2:¬ o.code=12:=by simpa using h2
   conv=>whnf
   refine kbi (fun h3=>?_) (fun h3=>?_)
   ·have h3:o.code=15:=by simpa using h3
    conv=>whnf
    refine⟨_,tQ hI s t ht,?_⟩
    rintro r rfl
    conv=>whnf
    cases hj:yC s t with
    |none =>
     conv=>whnf
     refine .inr (.inl ⟨15,[],?_⟩)
     conv=>whnf
     refine⟨by kernel_rfl,?_⟩
     conv=>whnf
     exact none_ (by simp[zH,h4,hn,h1,h2,h3,hj])
    |some k =>
     obtain⟨k1,k2⟩:=kB bA hj
     have hk:k.toNat<s.ths.length:=by omega
     conv=>whnf
     refine .inr (.inl ⟨15,[],?_⟩)
     conv=>whnf
     refine⟨zD s.ths[k.toNat],⟨k1,by simp[hk],rfl⟩,?_⟩
     conv=>whnf
     refine kbi (fun h6=>?_) (fun h6=>?_)
     ·have h6:¬ s.ths[k.toNat].st=2:=by simpa using h6
      conv=>whnf
      refine⟨by kernel_rfl,?_⟩
      conv=>whnf
      have hb:zH p s t=k:=by simp[zH,h4,hn,h1,h2,h3,hj,List.getD_eq_getElem?_getD,hk,h6]
      exact⟨k,by rw[hb];simp only[bp,tC k1];rfl,fun _=>hb.symm⟩
     ·have h6:s.ths[k.toNat].st=2:=by simpa using h6
      conv=>whnf
      refine⟨by kernel_rfl,?_⟩
      conv=>whnf
      have hb:zH p s t=-1:=by simp[zH,h4,hn,h1,h2,h3,hj,List.getD_eq_getElem?_getD,hk,h6]
      exact⟨k,by rw[hb];simp only[bp,x3 (show ¬ (0:Int)≤-1 by decide)];rfl,fun h=>by rw[hb] at h;exact absurd h (by decide)⟩
   ·have h3:¬ o.code=15:=by simpa using h3
    conv=>whnf
    exact none_ (by simp[zH,h4,hn,h1,h2,h3])
 ·have h1:¬ t.st=1:=by simpa using h1
  conv=>whnf
  exact none_ (by
   unfold zH;rw[if_neg h4]
   cases yL p t with
   |none=>rfl
   |some o=>simp[h1])
end Ai
namespace Ai
set_option maxRecDepth 100000
open Go Go.Proofs
theorem enabledI_ok (hI:yX) (p:ProgL) (s:StL) (hp:p.wf) (hs:s.small) (hv:∀ t∈s.ths,t.seen p s) :
  CallsTo EE 124 [.fp (zZ s),agg (encProg p)] (·=.uq 3 1 ((zA p s).map wK)):=by
 refine callsTo_of_AW (fn:=Tryz.f124) Tryz.func124 rfl (by kernel_rfl) rfl ?_
 conv=>whnf
 refine yJ (fun k:Nat=>[(0,.fp (zZ s)),(3,.ptr (.n 3) 0),(5,.ref (.n 10) 0 (zI p s k).length),(14,sl (s.ths.map zD)),(15,i64 (s.ths.map zD).length),(16,i64 k)])
  (fun k=>[(.n 3,.vs 39 ((encProg p).map .d)),(.n 10,.ds 3 1 ((zI p s k).map wK))]) (fun k=>s.ths.length - k) (fun k=>k≤s.ths.length) 0
  Weak.refl ⟨rfl,rfl,rfl,rfl,rfl,rfl,trivial⟩ ⟨rfl,rfl,trivial⟩ (Nat.zero_le _) ?_
 rintro k τ H hk
 conv=>whnf
 refine kbi (fun h=>?_) (fun h=>?_)
 ·have hlt:=yF h
  conv=>whnf
  refine⟨zD s.ths[k],zL zD hlt rfl,?_⟩
  conv=>whnf
  have hg:s.ths.getD k th0=s.ths[k]:=by simp[List.getD_eq_getElem?_getD,hlt]
  have hle:(zI p s k).length≤k:=jE
  have hn:=hs.1
  refine⟨_,eE hI p s s.ths[k] hp (hs.2.1 _ (List.getElem_mem hlt)) (hv _ (List.getElem_mem hlt)),?_⟩
  rintro r ⟨w,rfl,-⟩
  conv=>whnf
  refine kbi (fun hf=>?_) (fun hf=>?_)
  ·have hf:s.fault=0:=by simpa using hf
   by_cases hb:0≤zH p s s.ths[k]
   ·simp only[bp,tC hb]
    conv=>whnf
    have hgo:qA p s k=false:=by unfold qA;rw[hg];exact decide_eq_false fun e=>by have:=e.2.2;omega
    have hsk:zI p s (k+1)=zI p s k:=by rw[yQ,hgo];simp
    refine⟨k+1,by omega,by show s.ths.length - (k+1)<s.ths.length - k;omega,⟨rfl,rfl,?_,rfl,rfl,zF hlt (by omega),trivial⟩,⟨rfl,?_,trivial⟩⟩
    ·rw[hsk];rfl
    ·rw[hsk];rfl
   ·simp only[bp,x3 hb]
    conv=>whnf
    refine kbi (fun h1=>?_) (fun h1=>?_)
    ·have h1:s.ths[k].st=1:=by simpa using h1
     conv=>whnf
     refine⟨⟨rfl,by simp;omega,by simp;omega⟩,?_⟩
     conv=>whnf
     have hgo:qA p s k=true:=by unfold qA;rw[hg];exact decide_eq_true ⟨hf,.inl h1,by omega⟩
     have hsk:zI p s (k+1)=zI p s k++[k]:=by rw[yQ,hgo];simp
     refine⟨k+1,by omega,by show s.ths.length - (k+1)<s.ths.length - k;omega,⟨rfl,rfl,?_,rfl,rfl,zF hlt (by omega),trivial⟩,⟨rfl,?_,trivial⟩⟩
     ·rw[hsk]
      show AV.ref (.n 10) 0 ((zI p s k).length+1)=_
      simp
     ·rw[hsk]
      show some (Ob.ds 3 1 (((zI p s k).map wK).take (zI p s k).length++[[di k]]))=_
      rw[List.take_of_length_le (by simp)]
      simp[wK]
    ·have h1:¬ s.ths[k].st=1:=by simpa using h1
     conv=>whnf
     refine kbi (fun h4=>?_) (fun h4=>?_)
     ·have h4:s.ths[k].st=4:=by simpa using h4
      conv=>whnf
      refine⟨⟨rfl,by simp;omega,by simp;omega⟩,?_⟩
      conv=>whnf
      have hgo:qA p s k=true:=by unfold qA;rw[hg];exact decide_eq_true ⟨hf,.inr h4,by omega⟩
      have hsk:zI p s (k+1)=zI p s k++[k]:=by rw[yQ,hgo];simp
      refine⟨k+1,by omega,by show s.ths.length - (k+1)<s.ths.length - k;omega,⟨rfl,rfl,?_,rfl,rfl,zF hlt (by omega),trivial⟩,⟨rfl,?_,trivial⟩⟩
      ·rw[hsk]
       show AV.ref (.n 10) 0 ((zI p s k).length+1)=_
       simp
      ·rw[hsk]
       show some (Ob.ds 3 1 (((zI p s k).map wK).take (zI p s k).length++[[di k]]))=_
       rw[List.take_of_length_le (by simp)]
       simp[wK]
     ·have h4:¬ s.ths[k].st=4:=by simpa using h4
      conv=>whnf
      have hgo:qA p s k=false:=by unfold qA;rw[hg];exact decide_eq_false fun e=>e.2.1.elim h1 h4
      have hsk:zI p s (k+1)=zI p s k:=by rw[yQ,hgo];simp
      refine⟨k+1,by omega,by show s.ths.length - (k+1)<s.ths.length - k;omega,⟨rfl,rfl,?_,rfl,rfl,zF hlt (by omega),trivial⟩,⟨rfl,?_,trivial⟩⟩
      ·rw[hsk];rfl
      ·rw[hsk];rfl
  ·have hf:¬ s.fault=0:=by simpa using hf
   conv=>whnf
   have hgo:qA p s k=false:=by unfold qA;exact decide_eq_false fun e=>hf e.1
   have hsk:zI p s (k+1)=zI p s k:=by rw[yQ,hgo];simp
   refine⟨k+1,by omega,by show s.ths.length - (k+1)<s.ths.length - k;omega,⟨rfl,rfl,?_,rfl,rfl,zF hlt (by omega),trivial⟩,⟨rfl,?_,trivial⟩⟩
   ·rw[hsk];rfl
   ·rw[hsk];rfl
 ·have hge:s.ths.length≤k:=by simpa using h
  have hkk:k=s.ths.length:=by omega
  subst hkk
  conv=>whnf
  refine congrArg (AV.uq 3 1) ?_
  rw[List.take_of_length_le (by simp)]
  rfl
end Ai
namespace Ai
set_option maxRecDepth 100000
open Go Go.Proofs
theorem faultI_ok (hI:yX) (s:StL) (k:Nat) (o:OpL) (hk:k<s.ths.length) (hs:s.small) (ho:o.inS s):CallsTo EE 175 [.fp (zZ s),i64 k,agg (encOp o)] (·=i64 (yD s k o)):=by
 refine callsTo_of_AW (fn:=Tryz.f175) Tryz.func175 rfl (by kernel_rfl) rfl ?_
 have hg:s.ths.getD k th0=s.ths[k]:=by simp[List.getD_eq_getElem?_getD,hk]
 have hst:=hs.2.1 _ (List.getElem_mem hk)
 conv=>whnf
 refine⟨zD s.ths[k],zL zD hk rfl,?_⟩
 conv=>whnf
 refine⟨_,eI o,?_⟩
 rintro r rfl
 conv=>whnf
 have ht:0≤(zC o.code).1∧(zC o.code).1≤2∧0≤(zC o.code).2∧(zC o.code).2≤1:=by
  unfold zC;split
  ·decide
  ·split
   ·decide
   ·split <;> decide
 have e1:(IntKind.i64.wrap ((s.ths[k].stack.length:Int) - (zC o.code).1))=(s.ths[k].stack.length:Int) - (zC o.code).1:=zM (by omega) (by omega)
 refine kbi (fun h1=>?_) (fun h1=>?_)
 ·conv=>whnf
  have h1:(s.ths[k].stack.length:Int)<(zC o.code).1:=by simpa using h1
  simp only[yD,hg]
  rw[if_pos (.inl h1)]
 have h1:¬ (s.ths[k].stack.length:Int)<(zC o.code).1:=by simpa using h1
 conv=>whnf
 rw[show(List.map encF s.ths[k].stack).length=s.ths[k].stack.length by simp,e1,zM (by omega) (by omega)]
 refine kbi (fun h2=>?_) (fun h2=>?_)
 ·have h2:8<(s.ths[k].stack.length:Int) - (zC o.code).1+(zC o.code).2:=by simpa using h2
  conv=>whnf
  simp only[yD,hg]
  rw[if_pos (.inr h2)]
 have h2:¬ 8<(s.ths[k].stack.length:Int) - (zC o.code).1+(zC o.code).2:=by simpa using h2
 have hn1:¬ ((s.ths[k].stack.length:Int)<(zC o.code).1∨8<(s.ths[k].stack.length:Int) - (zC o.code).1+(zC o.code).2):=fun e=>e.elim h1 h2
 conv=>whnf
 have fin:∀ n:Int,(if (o.code=13∧s.owner.getD o.a.toNat 0≠k)∨(o.code=16∧s.owner.getD o.b.toNat 0≠k) then 2
   else if o.code=15∧(yC s s.ths[k]).getD (-1)<0 then 3
   else if o.code=14∧s.ths.length=5 then 4 else 0)=n→AV.d (.int .i64 n)=i64 (yD s k o):=by
  intro n hn
  rw[← hn]
  simp only[yD,hg]
  rw[if_neg hn1]
 have own_get:∀ (a:Int),0≤a∧a<s.owner.length→0≤a∧(s.owner.map encInt)[a.toNat]?=some (encInt (s.owner.getD a.toNat 0))∧(encInt (s.owner.getD a.toNat 0)).length=1:=by
  intro a ha
  refine⟨ha.1,?_,rfl⟩
  have:a.toNat<s.owner.length:=by omega
  simp[this,List.getD_eq_getElem?_getD]
 refine kbi (fun h3=>?_) (fun h3=>?_)
 ·have h3:o.code=13:=by simpa using h3
  conv=>whnf
  refine .inr (.inl ⟨10,[],?_⟩)
  conv=>whnf
  refine⟨_,own_get o.a (ho.1 h3),?_⟩
  conv=>whnf
  refine kbi (fun h4=>?_) (fun h4=>?_)
  ·have h4:s.owner.getD o.a.toNat 0≠k:=by simpa using h4
   conv=>whnf
   refine⟨by kernel_rfl,?_⟩
   conv=>whnf
   exact fin 2 (by rw[if_pos (.inl ⟨h3,h4⟩)])
  have h4:¬ s.owner.getD o.a.toNat 0≠k:=by simpa using h4
  conv=>whnf
  refine⟨by kernel_rfl,?_⟩
  conv=>whnf
  exact fin 0 (by rw[if_neg (by rintro(⟨_,e⟩|⟨e,_⟩);exact h4 e;omega),if_neg (by omega),if_neg (by omega)])
 have h3:¬ o.code=13:=by simpa using h3
 conv=>whnf
 refine kbi (fun h4=>?_) (fun h4=>?_)
 ·have h4:o.code=16:=by simpa using h4
  conv=>whnf
  refine .inr (.inl ⟨10,[],?_⟩)
  conv=>whnf
  refine⟨_,own_get o.b (ho.2 h4),?_⟩
  conv=>whnf
  refine kbi (fun h5=>?_) (fun h5=>?_)
  ·have h5:s.owner.getD o.b.toNat 0≠k:=by simpa using h5
   conv=>whnf
   refine⟨by kernel_rfl,?_⟩
   conv=>whnf
   exact fin 2 (by rw[if_pos (.inr ⟨h4,h5⟩)])
  have h5:¬ s.owner.getD o.b.toNat 0≠k:=by simpa using h5
  conv=>whnf
  refine⟨by kernel_rfl,?_⟩
  conv=>whnf
  exact fin 0 (by rw[if_neg (by rintro(⟨e,_⟩|⟨_,e⟩);exact h3 e;exact h5 e),if_neg (by omega),if_neg (by omega)])
 have h4:¬ o.code=16:=by simpa using h4
 have hn2:¬ ((o.code=13∧s.owner.getD o.a.toNat 0≠k)∨(o.code=16∧s.owner.getD o.b.toNat 0≠k)):=by
  rintro(⟨e,_⟩|⟨e,_⟩)
  ·exact h3 e
  ·exact h4 e
 conv=>whnf
 refine kbi (fun h5=>?_) (fun h5=>?_)
 ·have h5:o.code=15:=by simpa using h5
  conv=>whnf
  refine⟨_,tQ hI s s.ths[k] hst,?_⟩
  rintro r rfl
  conv=>whnf
  cases hj:yC s s.ths[k] with
  |none =>
   conv=>whnf
   exact fin 3 (by rw[if_neg hn2,if_pos ⟨h5,by rw[hj];decide⟩])
  |some n =>
   conv=>whnf
   have:=kB bA hj
   exact fin 0 (by rw[if_neg hn2,if_neg (fun e=>by have e2:=e.2;rw[hj] at e2;simp only[Option.getD_some] at e2;omega),if_neg (by omega)])
 have h5:¬ o.code=15:=by simpa using h5
 conv=>whnf
 refine kbi (fun h6=>?_) (fun h6=>?_)
 ·have h6:o.code=14:=by simpa using h6
  conv=>whnf
  refine kbi (fun h7=>?_) (fun h7=>?_)
  ·have h7:s.ths.length=5:=by
    have:((s.ths.map zD).length:Int)=5:=by simpa using h7
    simp at this;omega
   conv=>whnf
   exact fin 4 (by rw[if_neg hn2,if_neg (fun e=>h5 e.1),if_pos ⟨h6,h7⟩])
  have h7:¬ s.ths.length=5:=fun e=>h7 (by simp[e])
  conv=>whnf
  exact fin 0 (by rw[if_neg hn2,if_neg (fun e=>h5 e.1),if_neg (fun e=>h7 e.2)])
 have h6:¬ o.code=14:=by simpa using h6
 conv=>whnf
 exact fin 0 (by rw[if_neg hn2,if_neg (fun e=>h5 e.1),if_neg (fun e=>h6 e.1)])
end Ai
namespace Ai
set_option maxRecDepth 100000
open Go Go.Proofs
def onP (p:ProgL) (k:Nat):List (Key × Ob):=[(.n 2,.vs 44 [.d .nil,.d .nil,.d .nil,i64 0]),(.n 3,.vs 44 [.dref (.n 6) 1,.ref (.n 9) 0 p.cells.toNat,.ref (.n 12) 0 p.locks.toNat,i64 0]),
 (.n 6,.rs 109 6 [[i64 0,i64 0,i64 1,i64 (-1),i64 (-1),.ref (.n 905) 0 0]]),(.n 905,.ds 100 1 []),(.n 9,.ds 100 1 (List.replicate p.cells.toNat [.flt 0])),(.n 12,.ds 3 1 (List.replicate k [di (-1)]++List.replicate (p.locks.toNat - k) [di 0]))]
theorem repl_step {n k:Nat} {d:D} {b:List D} (h:k<n):kN (List.replicate k [d]++List.replicate (n - k) b) 1 (0+((k:Nat):Int).toNat) 0 [d]=List.replicate (k+1) [d]++List.replicate (n - (k+1)) b:=by
 have e1:0+((k:Nat):Int).toNat=k:=by omega
 have e2:n - k=(n - (k+1))+1:=by omega
 rw[e1]
 unfold kN
 rw[show(Nat.beq 0 0&&Nat.beq [d].length 1)=true from rfl,cond_true,List.set_append,List.length_replicate,if_neg (by omega),Nat.sub_self,e2,List.replicate_succ,List.set_cons_zero,List.replicate_succ']
 simp
theorem start_ok (p:ProgL) (h1:InR p.cells 0 1048576) (h2:InR p.locks 0 1048576):CallsTo EE 82 [agg (encProg p)] (·=.own (vA (xY p))):=by
 refine callsTo_of_AW (fn:=Tryz.f82) Tryz.func82 rfl (by kernel_rfl) rfl ?_
 have a1:=h1.1
 have a2:=h1.2
 have b1:=h2.1
 have b2:=h2.2
 conv=>whnf
 refine .inr (.inl ⟨10,[2715],?_⟩)
 conv=>whnf
 refine⟨_,dO 0,?_⟩
 conv=>whnf
 refine⟨⟨by omega,by omega,by show 8*p.cells≤_;omega,by omega⟩,?_⟩
 conv=>whnf
 refine⟨⟨by omega,by omega,by show 8*p.locks≤_;omega,by omega⟩,?_⟩
 conv=>whnf
 refine⟨by kernel_rfl,?_⟩
 conv=>whnf
 refine yJ (fun k:Nat=>[(2,.ptr (.n 2) 0),(3,.ptr (.n 3) 0),(16,i64 p.locks.toNat),(17,i64 k)]) (fun k=>onP p k) (fun k=>p.locks.toNat - k) (fun k=>k≤p.locks.toNat) 0
  Weak.refl ⟨rfl,rfl,rfl,rfl,trivial⟩ ⟨rfl,rfl,rfl,rfl,rfl,rfl,trivial⟩ (Nat.zero_le _) ?_
 rintro k τ H hk
 conv=>whnf
 refine kbi (fun h=>?_) (fun h=>?_)
 ·have hlt:k<p.locks.toNat:=lt_of_dec h
  conv=>whnf
  refine⟨⟨by omega,by omega⟩,?_⟩
  conv=>whnf
  refine⟨k+1,by omega,by show p.locks.toNat - (k+1)<p.locks.toNat - k;omega,⟨rfl,rfl,rfl,zF hlt (by omega),trivial⟩,⟨rfl,rfl,rfl,rfl,rfl,?_,trivial⟩⟩
  exact congrArg (fun x=>some (Ob.ds 3 1 x)) (repl_step hlt)
 ·have hge:p.locks.toNat≤k:=ge_of_dec (by simpa using h)
  have hkc:k=p.locks.toNat:=by omega
  subst hkc
  conv=>whnf
  refine .inr (.inr ⟨vA (xY p),_,(wI 6 900).trans ((kJ 905 900 0).trans ((wI 9 901).trans (wI 12 902))),?_,?_,gK ⟨⟨rfl,fun j q hq=>?_⟩,?_,?_,trivial,trivial⟩,rfl⟩)
  ·show some [AV.agg [.dref 900 1,.ref 901 0 p.cells.toNat,.ref 902 0 p.locks.toNat,i64 0]]=_
   simp[ownR,ownR1,vA,jH,xY]
   exact⟨rfl,rfl,rfl⟩
  ·intro v hv
   simp only[vA,List.mem_cons,List.not_mem_nil,or_false] at hv
   rcases hv with rfl|rfl|rfl|rfl
   ·rfl
   ·trivial
   ·trivial
   ·trivial
  ·match j,hq with
   | 0,hq=>injection hq with hq;subst hq;rfl
   |j+1,hq=>cases hq
  ·show some (Ob.ds 100 1 (List.replicate p.cells.toNat [.flt 0]))=some (Ob.ds 100 1 ((List.replicate p.cells.toNat 0).map encF))
   rw[List.map_replicate];rfl
  ·show some (Ob.ds 3 1 (List.replicate p.locks.toNat [di (-1)]++List.replicate (p.locks.toNat - p.locks.toNat) [di 0]))=some (Ob.ds 3 1 ((List.replicate p.locks.toNat (-1)).map encInt))
   rw[List.map_replicate,Nat.sub_self]
   exact congrArg (fun x=>some (Ob.ds 3 1 x)) (List.append_nil _)
end Ai
namespace Ai
set_option maxRecDepth 100000
open Go Go.Proofs
def fixI (o:Option Nat):Int:=match o with|some k=>k|none=>-1
theorem cE {α:Type} {f:α→Bool} {l:List α} {k:Nat} (hk:k<l.length) (h:∀ x∈l.take k,f x=false) (hf:f l[k]=true):l.findIdx? f=some k:=by
 rw[List.findIdx?_eq_some_iff_getElem]
 refine⟨hk,hf,fun j hj=>?_⟩
 have:=h l[j] (List.mem_take_iff_getElem.2 ⟨j,by omega,rfl⟩)
 simp[this]
theorem cF {α:Type} {f:α→Bool} {l:List α} (h:∀ x∈l,f x=false):l.findIdx? f=none:=by
 rw[List.findIdx?_eq_none_iff];exact h
theorem dU (l:List Th) (hl:l.length≤1048576) (g:FuncId) (caps:List AV) (hc:caps=[]∨∃ c,caps=[.fp c]) (f:Th→Bool) (hg:∀ t∈l,CallsTo EE g (agg (zD t)::caps) (·=bv (f t))) :
  CallsTo EE 219 [sl (l.map zD),.fn g caps] (·=i64 (fixI (l.findIdx? f))):=by
 refine callsTo_of_AW (fn:=Tryz.f219) Tryz.func219 rfl (by kernel_rfl) rfl ?_
 rcases hc with rfl|⟨c,rfl⟩
 ·conv=>whnf
  refine yJ (fun k:Nat=>[(0,sl (l.map zD)),(1,.fn g []),(7,i64 (l.map zD).length),(8,i64 k)]) (fun k=>[]) (fun k=>l.length - k) (fun k=>k≤l.length∧∀ x∈l.take k,f x=false) 0
   Weak.refl ⟨rfl,rfl,rfl,rfl,trivial⟩ trivial ⟨Nat.zero_le _,by simp⟩ ?_
  rintro k τ H ⟨hk,hall⟩
  conv=>whnf
  refine kbi (fun h=>?_) (fun h=>?_)
  ·have hlt:=yF h
   conv=>whnf
   refine⟨zD l[k],zL zD hlt rfl,?_⟩
   conv=>whnf
   refine⟨_,hg _ (List.getElem_mem hlt),?_⟩
   rintro r rfl
   cases hf:f l[k] with
   |true =>
    conv=>whnf
    rw[cE hlt hall hf];rfl
   |false =>
    conv=>whnf
    exact⟨k+1,⟨by omega,jA hall hlt hf⟩,by show l.length - (k+1)<l.length - k;omega,⟨rfl,rfl,rfl,zF hlt (by omega),trivial⟩,trivial⟩
  ·have hge:l.length≤k:=by simpa using h
   conv=>whnf
   rw[cF (gI hall hge)];rfl
 ·conv=>whnf
  refine yJ (fun k:Nat=>[(0,sl (l.map zD)),(1,.fn g [.fp c]),(7,i64 (l.map zD).length),(8,i64 k)]) (fun k=>[]) (fun k=>l.length - k) (fun k=>k≤l.length∧∀ x∈l.take k,f x=false) 0
   Weak.refl ⟨rfl,rfl,rfl,rfl,trivial⟩ trivial ⟨Nat.zero_le _,by simp⟩ ?_
  rintro k τ H ⟨hk,hall⟩
  conv=>whnf
  refine kbi (fun h=>?_) (fun h=>?_)
  ·have hlt:=yF h
   conv=>whnf
   refine⟨zD l[k],zL zD hlt rfl,?_⟩
   conv=>whnf
   refine⟨_,hg _ (List.getElem_mem hlt),?_⟩
   rintro r rfl
   cases hf:f l[k] with
   |true =>
    conv=>whnf
    rw[cE hlt hall hf];rfl
   |false =>
    conv=>whnf
    exact⟨k+1,⟨by omega,jA hall hlt hf⟩,by show l.length - (k+1)<l.length - k;omega,⟨rfl,rfl,rfl,zF hlt (by omega),trivial⟩,trivial⟩
  ·have hge:l.length≤k:=by simpa using h
   conv=>whnf
   rw[cF (gI hall hge)];rfl
theorem fixI_nn {α:Type} {f:α→Bool} {l:List α}:decide (fixI (l.findIdx? f)≥0)=l.any f:=by
 cases h:l.findIdx? f with
 |none =>
  rw[List.findIdx?_eq_none_iff] at h
  have:l.any f=false:=by
   rw[List.any_eq_false];intro x hx;simp[h x hx]
  rw[this];rfl
 |some k =>
  rw[List.findIdx?_eq_some_iff_getElem] at h
  obtain⟨hk,hf,_⟩:=h
  have:l.any f=true:=List.any_eq_true.2 ⟨_,List.getElem_mem hk,hf⟩
  rw[this]
  simp[fixI]
theorem pL (l:List Th) (hl:l.length≤1048576) (g:FuncId) (f:Th→Bool) (hg:∀ t∈l,CallsTo EE g [agg (zD t)] (·=bv (f t))) :
  CallsTo EE 170 [sl (l.map zD),.fn g []] (·=bv (l.any f)):=by
 refine callsTo_of_AW (fn:=Tryz.f170) Tryz.func170 rfl (by kernel_rfl) rfl ?_
 conv=>whnf
 refine⟨_,dU l hl g [] (.inl rfl) f hg,?_⟩
 rintro r rfl
 conv=>whnf
 rw[← fixI_nn]
 refine kbi (fun h=>?_) (fun h=>?_)
 ·conv=>whnf
  rw[h]
 ·conv=>whnf
  rw[show decide (fixI (l.findIdx? f)≥0)=false by simpa using h]
theorem codeOf1_ok (t:Th):CallsTo EE 171 [agg (zD t)] (·=bv (t.st != 2)):=by
 refine callsTo_of_AW (fn:=Tryz.f171) Tryz.func171 rfl (by kernel_rfl) rfl ?_
 conv=>whnf
 refine kbi (fun h=>?_) (fun h=>?_)
 ·conv=>whnf
  have:t.st≠2:=by simpa using h
  simp[this]
 ·conv=>whnf
  have:t.st=2:=by simpa using h
  simp[this]
theorem codeOf_ok (p:ProgL) (s:StL) (steps budget:Int) (hs:s.small) :
  CallsTo EE 125 [agg (encProg p),.fp (zZ s),sl ((zA p s).map wK),i64 steps,i64 budget] (·=i64 (yI p s steps budget)):=by
 refine callsTo_of_AW (fn:=Tryz.f125) Tryz.func125 rfl (by kernel_rfl) rfl ?_
 have hn:=hs.1
 conv=>whnf
 refine kbi (fun hf=>?_) (fun hf=>?_)
 ·have hf:s.fault≠0:=by simpa using hf
  conv=>whnf
  unfold yI
  rw[if_pos hf]
 have hf:¬ s.fault≠0:=by simpa using hf
 conv=>whnf
 refine kbi (fun h0=>?_) (fun h0=>?_)
 ·have h0:zA p s=[]:=by
   have:(((zA p s).map wK).length:Int)=0:=by simpa using h0
   simp at this
   exact this
  conv=>whnf
  refine⟨_,pL s.ths hn 171 _ (fun t _=>codeOf1_ok t),?_⟩
  rintro r rfl
  cases hany:s.ths.any (fun t=>t.st != 2) with
  |true =>
   conv=>whnf
   obtain⟨t,ht,h2⟩:=List.any_eq_true.1 hany
   unfold yI
   rw[if_neg hf,if_pos h0,if_pos ⟨t,ht,by simpa using h2⟩]
  |false =>
   conv=>whnf
   rw[List.any_eq_false] at hany
   unfold yI
   rw[if_neg hf,if_pos h0,if_neg]
   rintro⟨t,ht,h2⟩
   exact hany t ht (by simpa using h2)
 have h0:¬ zA p s=[]:=fun e=>h0 (by rw[e];rfl)
 conv=>whnf
 refine kbi (fun h1=>?_) (fun h1=>?_)
 ·have h1:steps=budget:=by simpa using h1
  conv=>whnf
  unfold yI
  rw[if_neg hf,if_neg h0,if_pos h1]
 ·have h1:¬ steps=budget:=by simpa using h1
  conv=>whnf
  unfold yI
  rw[if_neg hf,if_neg h0,if_neg h1]
end Ai
namespace Ai
set_option maxRecDepth 100000
open Go Go.Proofs
def kO (l:List Th) (k:Nat):List (List AV):=thRows 900 (l.take k)++(l.drop k).map fun t=>(zD t).map .d
theorem renL_d (f:Key→Key):∀ xs:List D,renL f (xs.map .d)=xs.map .d
 | []=>rfl
 |x::xs=>by simp only[List.map_cons,renL,ren,renL_d f xs]
theorem scrL_d (p:Key→Bool):∀ xs:List D,scrPL p (xs.map .d)=xs.map .d
 | []=>rfl
 |x::xs=>by simp only[List.map_cons,scrPL,scrP,scrL_d p xs]
theorem oG {α:Type} (f:Key→Key) (enc:α→List D) (l:List α):(l.map fun t=>(enc t).map AV.d).map (renL f)=l.map fun t=>(enc t).map AV.d:=by
 rw[List.map_map];exact List.map_congr_left fun t _=>renL_d f _
theorem dRows_scr {α:Type} (p:Key→Bool) (enc:α→List D) (l:List α):(l.map fun t=>(enc t).map AV.d).map (scrPL p)=l.map fun t=>(enc t).map AV.d:=by
 rw[List.map_map];exact List.map_congr_left fun t _=>scrL_d p _
theorem rowsK_scr {p:Key→Bool} (l:List Th) (k:Nat) (h:∀ j,p (.s 900 j)=false):(kO l k).map (scrPL p)=kO l k:=by
 unfold kO
 rw[List.map_append,yB fun j _=>h j,dRows_scr]
theorem rowsK_get {l:List Th} {k:Nat} (h:k<l.length):(kO l k)[k]?=some ((zD l[k]).map .d):=by
 unfold kO
 have hl:(thRows 900 (l.take k)).length=k:=by rw[zR];simp;omega
 rw[List.getElem?_append_right (by omega),hl,Nat.sub_self,List.getElem?_map,List.getElem?_drop,Nat.add_zero,List.getElem?_eq_getElem h]
 rfl
theorem s5 {l:List Th} {k a:Nat} {X:List (List AV)} {v:AV} (h:k<l.length) (hX:X=kO l k) (hv:v=.ref (.n a) 0 l[k].stack.length) :
  (yZ X 6 ((k:Nat):Int).toNat (0+5) [v]).map (renL (swp (.n a) (.s 900 k)))=kO l (k+1):=by
 subst hX hv
 have hl:(l.take k).length=k:=by simp;omega
 have hd:l.drop k=l[k]::l.drop (k+1):=List.drop_eq_getElem_cons h
 have e2:swp (.n a) (.s 900 k) (.n a)=.s 900 k:=by simp[swp,zE]
 unfold yZ kO
 rw[show(Nat.beq (0+5) 0&&Nat.beq [AV.ref (.n a) 0 l[k].stack.length].length 6)=false from rfl,cond_false,show((k:Nat):Int).toNat=k from rfl,hd,List.map_cons]
 have hm:∀ (A:List (List AV)) (x:List AV) (B:List (List AV)) (f:List AV→List AV),A.length=k→(A++x::B).modify k f=A++f x::B:=by
  intro A x B f hA
  apply List.ext_getElem?
  intro j
  rw[List.getElem?_modify]
  rcases Nat.lt_trichotomy j k with hj|hj|hj
  ·rw[List.getElem?_append_left (by omega),List.getElem?_append_left (by omega)]
   simp only[if_neg (show ¬ k=j by omega)];simp
  ·subst hj
   rw[List.getElem?_append_right (by omega),List.getElem?_append_right (by omega),hA];simp
  ·rw[List.getElem?_append_right (by omega),List.getElem?_append_right (by omega)]
   simp only[if_neg (show ¬ k=j by omega)]
   rw[show j - A.length=(j - k - 1)+1 by omega];simp
 rw[hm _ _ _ _ (by rw[zR];exact hl),List.map_append,dW (by omega),List.map_cons,oG,bT l k h,pO,hl,List.append_assoc,List.singleton_append]
 congr 2
 simp[zD,zY,renL,ren,thRow,e2]
theorem copied_ok (s:StL) (hs:s.small):CallsTo EE 128 [agg (zZ s)] (·=.own (vA s)):=by
 obtain⟨s1,s2,s3,s4⟩:=hs
 refine callsTo_of_AW (fn:=Tryz.f128) Tryz.func128 rfl (by kernel_rfl) rfl ?_
 conv=>whnf
 refine .inr (.inl ⟨13,[],?_⟩)
 conv=>whnf
 refine⟨_,pM s.cells s3,.inr ⟨_,rfl,?_⟩⟩
 conv=>whnf
 refine⟨_,CloneI_ok s.owner s4,.inr ⟨_,rfl,?_⟩⟩
 conv=>whnf
 refine⟨_,CloneT_ok s.ths s1,.inr ⟨_,rfl,?_⟩⟩
 conv=>whnf
 refine⟨by kernel_rfl,?_⟩
 conv=>whnf
 refine pE (fun k:Nat=>[(2,.ptr 2 0),(3,.ptr 3 0),(19,i64 s.ths.length),(20,i64 k)])
  (fun k=>[(2,.vs 44 [.d .nil,.d .nil,.d .nil,i64 0]),(3,.vs 44 [.dref 900 s.ths.length,.ref 7 0 s.cells.length,.ref 10 0 s.owner.length,i64 s.fault]),(7,.ds 100 1 (s.cells.map encF)),(10,.ds 3 1 (s.owner.map encInt)),(900,.rs 109 6 (kO s.ths k))])
  (fun k=>[(900,zP (s.ths.take k))]) (fun k=>s.ths.length - k) (fun k=>k≤s.ths.length) 0 ((sI (.n 15) (els:=s.ths.map zD) rfl).trans (wI 15 900)) ?_ ?_ ?_ (Nat.zero_le _) ?_
 ·refine⟨rfl,rfl,?_,rfl,trivial⟩
  show i64 (s.ths.map zD).length=_
  rw[List.length_map]
 ·refine⟨rfl,?_,rfl,rfl,?_,trivial⟩
  ·show some (Ob.vs 44 [.dref 900 (s.ths.map zD).length,.ref 7 0 (s.cells.map encF).length,.ref 10 0 (s.owner.map encInt).length,i64 s.fault])=_
   simp
  ·show some (Ob.rs 109 6 (((s.ths.map zD).map (List.map .d)).map (renL (swp (.n 15) (.n 900)))))=_
   rw[List.map_map (f:=zD),show(List.map AV.d ∘ zD)=fun t=>(zD t).map AV.d from rfl,oG]
   simp[kO,thRows,ownRows]
 ·refine⟨fun j=>?_,trivial⟩
  simp[zP]
  rfl
 rintro k τ H hk
 conv=>whnf
 refine kbi (fun h=>?_) (fun h=>?_)
 ·have hlt:k<s.ths.length:=by simpa using h
  have ht:=s2 _ (List.getElem_mem hlt)
  conv=>whnf
  refine .inr (.inl ⟨11,[],?_⟩)
  conv=>whnf
  refine⟨⟨by omega,by omega,by decide,by omega⟩,?_⟩
  conv=>whnf
  refine⟨⟨by omega,by omega⟩,?_⟩
  conv=>whnf
  refine⟨(zD s.ths[k]).map .d,⟨?_,by simp[zD]⟩,?_⟩
  ·repeat (first|exact rowsK_get hlt|refine xX ?_ (scrL_d _ _))
  conv=>whnf
  refine⟨⟨by simp[encF],by simp;omega,by simp;omega⟩,?_⟩
  conv=>whnf
  refine⟨by kernel_rfl,?_⟩
  conv=>whnf
  refine⟨⟨by omega,by omega⟩,?_⟩
  conv=>whnf
  refine⟨k+1,_,kJ 26 900 k,by omega,by show s.ths.length - (k+1)<s.ths.length - k;omega,⟨rfl,rfl,rfl,zF hlt (by omega),trivial⟩,⟨rfl,rfl,rfl,rfl,?_,trivial⟩,⟨fun j=>?_,trivial⟩⟩
  ·conv=>lhs;whnf
   refine congrArg some ?_
   refine congrArg (Ob.rs 109 6) (s5 hlt ?_ ?_)
   ·exact rowsK_scr _ _ fun j=>rfl
   ·conv=>lhs;whnf
    show AV.ref (.n 26) 0 (0+(s.ths[k].stack.map encF).length)=_
    rw[List.length_map,Nat.zero_add]
  ·have hl:(s.ths.take k).length=k:=by simp;omega
   by_cases hj:j=k
   ·subst hj
    have e:swp (.n 26) (.s 900 j) (.s 900 j)=.n 26:=by simp[swp,Key.beq]
    show(St.H _ (swp (.n 26) (.s 900 j) (.s 900 j))).map _=_
    rw[e]
    show some (Ob.ds 100 ti100.sz (List.take 0 []++List.map encF s.ths[j].stack))=_
    rw[zP,bT s.ths j hlt,List.getElem?_append_right (by omega),hl]
    simp[stk]
   ·have e:swp (.n 26) (.s 900 k) (.s 900 j)=.s 900 j:=by simp[swp,Key.beq,nbeq_ne hj]
    show(St.H _ (swp (.n 26) (.s 900 k) (.s 900 j))).map _=_
    rw[e]
    refine Eq.trans (hrenO (X:=zP (s.ths.take k) j) ?_ (thFam_ren _ _ _)) (sN hj)
    conv=>lhs;whnf
    repeat (refine hscrO ?_ (yE _ _ _);conv=>lhs;whnf)
    rfl
 ·have hge:s.ths.length≤k:=by simpa using h
  have hkk:k=s.ths.length:=by omega
  subst hkk
  conv=>whnf
  refine .inr (.inr ⟨vA s,_,(wI 7 901).trans (wI 10 902),?_,?_,gK ⟨⟨?_,fun j q hq=>?_⟩,rfl,rfl,trivial,trivial⟩,rfl⟩)
  ·show some [AV.agg [.dref 900 s.ths.length,.ref 901 0 s.cells.length,.ref 902 0 s.owner.length,i64 s.fault]]=_
   simp[ownR,ownR1,vA,jH]
   exact⟨rfl,rfl,rfl⟩
  ·intro v hv
   simp only[vA,List.mem_cons,List.not_mem_nil,or_false] at hv
   rcases hv with rfl|rfl|rfl|rfl
   ·show(s.ths.map vL).length=(s.ths.map stk).length
    simp
   ·trivial
   ·trivial
   ·trivial
  ·show some (Ob.rs 109 6 (((kO s.ths s.ths.length).map (renL (swp (.n 7) (.n 901)))).map (renL (swp (.n 10) (.n 902)))))=some (Ob.rs 109 6 (thRows 900 s.ths))
   have e:kO s.ths s.ths.length=thRows 900 s.ths:=by simp[kO]
   rw[e,wL,wL]
  ·show((zP (s.ths.take s.ths.length) j).map (renO _)).map (renO _)=_
   rw[thFam_ren,thFam_ren,List.take_length,zP]
   rw[List.getElem?_map] at hq
   obtain⟨t,ht,rfl⟩:=Option.map_eq_some_iff.1 hq
   rw[ht];rfl
end Ai
namespace Ai
set_option maxRecDepth 100000
open Go Go.Proofs
structure Inert (x:AV):Prop where
 scr:∀ p,scrP p x=x
 ren:∀ f,ren f x=x
 cut:∀ κ q,cut κ q x=x
def xP (t:Th):List AV:=[i64 t.rt,i64 t.pc,i64 t.st,i64 t.cond,i64 t.lock,.ref (.n 899) 0 t.stack.length]
def rowsA (l:List Th) (k:Nat) (t:Th):List (List AV):=(thRows 900 l).set k (xP t)
theorem rowsA_len (l:List Th) (k:Nat) (t:Th):(rowsA l k t).length=l.length:=by simp[rowsA,zR]
theorem yU {l:List Th} {k:Nat} {t:Th} (h:k<l.length):(rowsA l k t)[((k:Nat):Int).toNat]?=some (xP t):=by
 show(rowsA l k t)[k]?=_
 unfold rowsA
 rw[List.getElem?_set_self (by rw[zR];exact h)]
theorem rowsA_ne {l:List Th} {k j:Nat} {t:Th} (h:j≠k):(rowsA l k t)[j]?=(thRows 900 l)[j]?:=by
 unfold rowsA
 rw[List.getElem?_set_ne (Ne.symm h)]
theorem xM {p:Key→Bool} (h:p (.n 899)=false) (t:Th):scrPL p (xP t)=xP t:=by simp[xP,scrPL,scrP,h]
theorem uW {p:Key→Bool} (h1:p (.n 899)=false) (h2:∀ j,p (.s 900 j)=false) (l:List Th) (k:Nat) (t:Th):(rowsA l k t).map (scrPL p)=rowsA l k t:=by
 unfold rowsA
 rw[List.map_set,yB fun j _=>h2 j,xM h1]
theorem eU {l:List Th} {k off:Nat} {t t':Th} {v:AV} {X:List (List AV)} (hk:k<l.length) (hX:X=rowsA l k t) (h:zY (xP t) off [v]=xP t'):yZ X 6 ((k:Nat):Int).toNat off [v]=rowsA l k t':=by
 subst hX
 have hf:yZ (rowsA l k t) 6 ((k:Nat):Int).toNat off [v]=(rowsA l k t).modify k fun c=>zY c off [v]:=by
  unfold yZ
  rw[show(Nat.beq off 0&&Nat.beq [v].length 6)=false from Bool.and_false _]
  rfl
 rw[hf]
 unfold rowsA
 apply List.ext_getElem?
 intro j
 rw[List.getElem?_modify]
 by_cases hj:k=j
 ·subst hj
  rw[List.getElem?_set_self (by rw[zR];exact hk),List.getElem?_set_self (by rw[zR];exact hk)];simp[h]
 ·rw[List.getElem?_set_ne hj,List.getElem?_set_ne hj];simp[hj]
theorem xK {E:TypeId} {x0 x1 x2:AV} (i0:Inert x0) (i1:Inert x1) (i2:Inert x2) (s:StL) {p:Key→Bool} (h:(p (.n 900) || p (.n 901) || p (.n 902))=false):scrPO p (.vs E ([x0,x1,x2]++stRef s))=.vs E ([x0,x1,x2]++stRef s):=by
 simp only[Bool.or_eq_false_iff] at h
 simp[scrPO,scrPL,scrP,stRef,i0.scr,i1.scr,i2.scr,h.1.1,h.1.2,h.2]
def doI1 (OFF:Nat) (k:Nat) (o:OpL) (t:Th):List (Nat × AV):=[(0,.ptr (.l 0) OFF),(1,i64 k),(6,.ptr (.n 6) 0),(7,.ptr (.n 7) 0),(8,.ptr (.n 8) 0),(9,.dptr (.n 900) k 0),(13,sl ((t.stack.drop (yH t o)).map encF))]
def doIO (E:TypeId) (pre:List AV) (s:StL) (k:Nat) (o:OpL) (e:Ev) (t t':Th):List (Key × Ob):=[(.l 0,.vs E (pre++stRef s)),(.n 6,.vs 102 ((encOp o).map .d)),(.n 7,.vs 107 ((encEv e).map .d)),
 (.n 8,.vs 107 [i64 0,i64 0,i64 0,i64 0,i64 0]),(.n 899,.ds 100 1 (stk t)),(.n 900,.rs 109 6 (rowsA s.ths k t')),(.n 901,.ds 100 1 (s.cells.map encF)),(.n 902,.ds 3 1 (s.owner.map encInt))]
theorem doI_preB (E:TypeId) (x0 x1 x2:AV) (i0:Inert x0) (i1:Inert x1) (i2:Inert x2) (g:Nat→Option Ob) (hg:∀ p j,(g j).map (scrPO p)=g j) (s:StL) (k:Nat) (o:OpL) (e:Ev) (hk:k<s.ths.length) (t:Th) (htk:(zC o.code).1≤t.stack.length) (ht8:t.stack.length≤1048576) (hpc:InR t.pc 0 1048576)
  (τ:Nat→AV) (H:Key→Option Ob) (Q:AX→St→Prop) (K:St→Prop) (hK:∀ s',At (doI1 3 k o t) (doIO E [x0,x1,x2] s k o e t (zG t o)) [(900,g)] s'→K s') :
  rT EE Tryz.f176.ntmps K Q 7 (Tryz.f176.body.getD .skip) (tB [(0,.ptr (.l 0) 3),(1,i64 k),(2,agg (encOp o)),(3,agg (encEv e))] (sS [(.l 0,.vs E ([x0,x1,x2]++stRef s)),(.n 899,.ds 100 1 (stk t)),(.n 900,.rs 109 6 (rowsA s.ths k t)),(.n 901,.ds 100 1 (s.cells.map encF)),(.n 902,.ds 3 1 (s.owner.map encInt))] (dL [(900,g)] ⟨τ,H⟩))):=by
 have ht:0≤(zC o.code).1∧(zC o.code).1≤2∧0≤(zC o.code).2∧(zC o.code).2≤1:=by
  unfold zC;split
  ·decide
  ·split
   ·decide
   ·split <;> decide
 have e1:(IntKind.i64.wrap ((t.stack.length:Int) - (zC o.code).1))=(t.stack.length:Int) - (zC o.code).1:=zM (by omega) (by omega)
 have e2:((t.stack.length:Int) - (zC o.code).1).toNat=yH t o:=by unfold yH wN;omega
 have allLen:∀ a b:Nat,(((stk t).drop a).take b).all (fun c=>c.length==1)=true:=by
  intro a b
  simp only[List.all_eq_true]
  intro x hx
  have hx:=List.mem_of_mem_drop (List.mem_of_mem_take hx)
  obtain⟨y,_,rfl⟩:=List.mem_map.1 hx
  rfl
 conv=>whnf
 refine⟨⟨by omega,by omega⟩,?_⟩
 conv=>whnf
 refine⟨_,eI o,?_⟩
 rintro r rfl
 conv=>whnf
 refine⟨xP t,⟨?_,by simp[xP]⟩,?_⟩
 ·repeat (first|exact yU hk|refine xX ?_ (xM rfl t))
 conv=>whnf
 refine⟨xP t,⟨?_,by simp[xP]⟩,?_⟩
 ·repeat (first|exact yU hk|refine xX ?_ (xM rfl t))
 conv=>whnf
 rw[e1]
 have e3:((stk t).drop (0+((t.stack.length:Int) - (zC o.code).1).toNat)).take ((t.stack.length:Int).toNat - ((t.stack.length:Int) - (zC o.code).1).toNat)=(t.stack.drop (yH t o)).map encF:=by
  rw[e2,Nat.zero_add,List.take_of_length_le (by simp[stk]),stk,List.map_drop]
 have hlen:(t.stack.drop (yH t o)).length≤1048576:=by simp;omega
 rcases Int.lt_or_eq_of_le ht.1 with h0|h0
 refine .inl ⟨⟨by omega,by omega,by omega,.inr (by omega)⟩,?_⟩
 conv=>whnf
 refine .inl ⟨(·=.uq 100 1 ((t.stack.drop (yH t o)).map encF)),Eq.mp (congrArg (fun x=>CallsTo EE 173 [sl x] _) e3.symm) (pM (t.stack.drop (yH t o)) hlen),?_⟩
 rintro r rfl
 refine⟨fun c hc=>?_,.inl ?_⟩
 ·obtain⟨y,_,rfl⟩:=List.mem_map.1 hc
  rfl
 conv=>whnf
 rotate_left 1
 refine .inr ⟨⟨by omega,by omega,by omega⟩,?_⟩
 conv=>whnf
 refine⟨(·=.uq 100 1 ((t.stack.drop (yH t o)).map encF)),Eq.mp (congrArg (fun x=>CallsTo EE 173 [sl x] _) (by simp[yH,wN,← h0])) (pM (t.stack.drop (yH t o)) hlen),?_⟩
 rintro r rfl
 refine .inl ?_
 conv=>whnf
 all_goals
  refine⟨xP t,⟨by repeat (first|exact yU hk|refine xX ?_ (xM rfl t)),by simp[xP]⟩,?_⟩
  conv=>whnf
  refine .inl ⟨⟨by omega,by omega,by omega,.inl rfl⟩,?_⟩
  conv=>whnf
  have e5:((t.stack.length:Int) - (zC o.code).1).toNat - (0:Int).toNat=yH t o:=by rw[e2];rfl
  refine⟨[i64 t.rt,i64 t.pc,i64 t.st,i64 t.cond,i64 t.lock,.ref (.n 899) 0 (yH t o)],⟨?_,by simp⟩,?_⟩
  ·refine vE (c:=xP t) (by repeat (first|exact yU hk|refine xX ?_ (xM rfl t))) ?_
   conv=>lhs;whnf
   rw[← e5]
   rfl
  conv=>whnf
  refine hK _ ⟨?_,?_,?_⟩
  ·exact⟨rfl,rfl,rfl,rfl,rfl,rfl,rfl,trivial⟩
  ·refine⟨?_,rfl,rfl,rfl,rfl,?_,rfl,rfl,trivial⟩
   ·conv=>lhs;whnf
    refine congrArg some ?_
    repeat (refine xJ ?_ (xK i0 i1 i2 s rfl))
    rfl
   ·conv=>lhs;whnf
    refine congrArg (fun x=>some (Ob.rs 109 6 x)) ?_
    have hkl:(t.stack.take (yH t o)).length=yH t o:=by simp[yH]
    refine eU hk (eU hk (t:=t) (t':={ t with stack:=t.stack.take (yH t o) }) (by repeat (first|rfl|refine Eq.trans (congrArg (List.map (scrPL _)) ?_) (uW rfl (fun _=>rfl) _ _ _))) ?_) ?_
    ·show[_,_,_,_,_,AV.ref (.n 899) 0 (((t.stack.length:Int) - (zC o.code).1).toNat - (0:Int).toNat)]=[_,_,_,_,_,AV.ref (.n 899) 0 (t.stack.take (yH t o)).length]
     rw[e5,hkl]
    ·show[_,AV.d (.int .i64 (IntKind.i64.wrap (t.pc+1))),_,_,_,AV.ref (.n 899) 0 (t.stack.take (yH t o)).length]=[_,i64 (t.pc+1),_,_,_,AV.ref (.n 899) 0 (t.stack.take (yH t o)).length]
     rw[zM (by have:=hpc.1;omega) (by have:=hpc.2;omega)]
     rfl
  ·refine⟨fun j=>?_,trivial⟩
   repeat (first|exact rfl|refine hscrO ?_ (hg _ _)|conv=>lhs;whnf)
end Ai
namespace Ai
set_option maxRecDepth 100000
open Go Go.Proofs Ieee
theorem gtr_max {c:Nat}:fcmp .gtr c 9218868437227405311=(match double.read c with|.infinity false=>true|_=>false):=by
 unfold fcmp Format.order
 rw[show double.read 9218868437227405311=.number false 9007199254740991 971 by decide]
 have bound:∀ s m e,double.read c=.number s m e→m<9007199254740992∧-1074≤e∧e≤971:=by
  intro s m e h
  unfold Format.read at h
  rw[show double.signWeight=9223372036854775808 by decide,show double.binade=4503599627370496 by decide,show double.infRung=9218868437227405312 by decide,show double.leastPlace=-1074 by decide] at h
  simp only at h
  split at h
  ·simp only[Datum.number.injEq] at h
   obtain⟨_,h1,h2⟩:=h
   omega
  ·split at h
   ·simp only[Datum.number.injEq] at h
    obtain⟨_,h1,h2⟩:=h
    omega
   ·split at h <;> cases h
 cases h:double.read c with
 |nan s f=>rfl
 |infinity s=>cases s <;> rfl
 |number s m e =>
  obtain⟨b1,b2,b3⟩:=bound s m e h
  simp only[Datum.order]
  have hm:Min.min e 971=e:=by omega
  rw[hm]
  have h2:9007199254740991≤9007199254740991 <<< (971 - e).toNat:=by
   rw[Nat.shiftLeft_eq];exact Nat.le_mul_of_pos_right _ (Nat.pow_pos (by decide))
  have h3:signed s m (e - e).toNat≤9007199254740991:=by
   rw[Int.sub_self]
   show signed s m 0≤_
   unfold signed
   rw[Nat.shiftLeft_zero]
   split <;> omega
  have h4:signed false 9007199254740991 (971 - e).toNat=((9007199254740991 <<< (971 - e).toNat:Nat):Int):=rfl
  have hle:signed s m (e - e).toNat≤signed false 9007199254740991 (971 - e).toNat:=by
   rw[h4];omega
  generalize signed s m (e - e).toNat=u at hle
  generalize signed false 9007199254740991 (971 - e).toNat=v at hle
  show(some (compare u v)==some .gt)=false
  have:compare u v≠.gt:=by
   rw[Int.compare_eq_ite_lt]
   split
   ·decide
   ·split
    ·omega
    ·decide
  cases hc:compare u v with
  |gt=>exact absurd hc this
  |lt=>rfl
  |eq=>rfl
theorem lV {c:Nat} {s:Bool} {m:Nat} {e:Int} (hc:c<18446744073709551616) (h:double.read c=.number s m e) :
  (c % 9223372036854775808=m∧m<4503599627370496∧e=-1074∧(s=true↔9223372036854775808≤c)) ∨
  (4503599627370496≤m∧m<9007199254740992∧-1074≤e∧c % 9223372036854775808=(e+1075).toNat*4503599627370496+(m - 4503599627370496)∧(s=true↔9223372036854775808≤c)):=by
 unfold Format.read at h
 rw[show double.signWeight=9223372036854775808 by decide,show double.binade=4503599627370496 by decide,show double.infRung=9218868437227405312 by decide,show double.leastPlace=-1074 by decide] at h
 simp only at h
 have hs:(c / 9223372036854775808 % 2==1)=true↔9223372036854775808≤c:=by
  simp only[beq_iff_eq];omega
 split at h
 ·simp only[Datum.number.injEq] at h
  obtain⟨h0,h1,h2⟩:=h
  subst h0
  exact .inl ⟨h1,by omega,by omega,hs⟩
 ·split at h
  ·simp only[Datum.number.injEq] at h
   obtain⟨h0,h1,h2⟩:=h
   subst h0
   exact .inr ⟨by omega,by omega,by omega,by omega,hs⟩
  ·split at h <;> cases h
theorem num_eq {c d:Nat} {s t:Bool} {m n:Nat} {e i:Int} (hc:c<18446744073709551616) (hd:d<18446744073709551616) (h1:double.read c=.number s m e) (h2:double.read d=.number t n i)
  (h:double.order c d=some .eq) (h0:¬ (m=0∧n=0)):c=d:=by
 unfold Format.order at h
 rw[h1,h2] at h
 simp only[Datum.order,Option.some.injEq] at h
 have h:=Std.LawfulEqCmp.eq_of_compare h
 simp only[signed,Nat.shiftLeft_eq] at h
 have p1:0<2 ^ (e - Min.min e i).toNat:=Nat.pow_pos (by decide)
 have p2:0<2 ^ (i - Min.min e i).toNat:=Nat.pow_pos (by decide)
 have key:m*2 ^ (e - Min.min e i).toNat=n*2 ^ (i - Min.min e i).toNat∧s=t:=by
  have q1:m=0∨0<m*2 ^ (e - Min.min e i).toNat:=by
   rcases Nat.eq_zero_or_pos m with a|a
   ·exact .inl a
   ·exact .inr (Nat.mul_pos a p1)
  have q2:n=0∨0<n*2 ^ (i - Min.min e i).toNat:=by
   rcases Nat.eq_zero_or_pos n with a|a
   ·exact .inl a
   ·exact .inr (Nat.mul_pos a p2)
  have z1:m=0→m*2 ^ (e - Min.min e i).toNat=0:=fun a=>by rw[a,Nat.zero_mul]
  have z2:n=0→n*2 ^ (i - Min.min e i).toNat=0:=fun a=>by rw[a,Nat.zero_mul]
  generalize m*2 ^ (e - Min.min e i).toNat=u at *
  generalize n*2 ^ (i - Min.min e i).toNat=v at *
  cases s <;> cases t <;> simp at h ⊢ <;> omega
 obtain⟨k1,rfl⟩:=key
 have hei:∀ (a b:Nat) (j:Nat),4503599627370496≤b→a<9007199254740992→a=b*2 ^ (j+1)→False:=by
  intro a b j hb ha he
  rw[Nat.pow_succ] at he
  have:0<2 ^ j:=Nat.pow_pos (by decide)
  have:b*1≤b*2 ^ j:=Nat.mul_le_mul_left _ this
  have:a=b*2 ^ j*2:=by rw[he,Nat.mul_assoc]
  omega
 have r1:=lV hc h1
 have r2:=lV hd h2
 have ee:e=i:=by
  rcases Int.lt_trichotomy e i with hlt|heq|hgt
  ·exfalso
   rcases r2 with r2|r2
   ·rcases r1 with r1|r1 <;> omega
   obtain⟨j,hj⟩:∃ j:Nat,(i - Min.min e i).toNat=j+1:=⟨(i - Min.min e i).toNat - 1,by omega⟩
   have hz:(e - Min.min e i).toNat=0:=by omega
   rw[hz,hj,Nat.pow_zero,Nat.mul_one] at k1
   exact hei m n j r2.1 (by rcases r1 with r1|r1 <;> omega) k1
  ·exact heq
  ·exfalso
   rcases r1 with r1|r1
   ·rcases r2 with r2|r2 <;> omega
   obtain⟨j,hj⟩:∃ j:Nat,(e - Min.min e i).toNat=j+1:=⟨(e - Min.min e i).toNat - 1,by omega⟩
   have hz:(i - Min.min e i).toNat=0:=by omega
   rw[hz,hj,Nat.pow_zero,Nat.mul_one] at k1
   exact hei n m j r1.1 (by rcases r2 with r2|r2 <;> omega) k1.symm
 subst ee
 have:m=n:=by
  have hz:(e - Min.min e e).toNat=0:=by omega
  rw[hz,Nat.pow_zero,Nat.mul_one,Nat.mul_one] at k1
  exact k1
 subst this
 have hsg:(9223372036854775808≤c↔9223372036854775808≤d):=by
  have a1:s=true↔9223372036854775808≤c:=r1.elim (fun r=>r.2.2.2) fun r=>r.2.2.2.2
  have a2:s=true↔9223372036854775808≤d:=r2.elim (fun r=>r.2.2.2) fun r=>r.2.2.2.2
  rw[← a1,← a2]
 have hmd:c % 9223372036854775808=d % 9223372036854775808:=by
  rcases r1 with r1|r1 <;> rcases r2 with r2|r2 <;> omega
 by_cases hh:9223372036854775808≤c
 ·have:=hsg.1 hh
  omega
 ·have:¬ 9223372036854775808≤d:=fun e=>hh (hsg.2 e)
  omega
theorem s6 {c:Nat} {s:Bool} (hc:c<18446744073709551616) (h:double.read c=.infinity s):c=if s=true then 18442240474082181120 else 9218868437227405312:=by
 unfold Format.read at h
 rw[show double.signWeight=9223372036854775808 by decide,show double.binade=4503599627370496 by decide,show double.infRung=9218868437227405312 by decide,show double.leastPlace=-1074 by decide] at h
 simp only at h
 split at h
 ·cases h
 ·split at h
  ·cases h
  ·split at h
   ·simp only[Datum.infinity.injEq] at h
    subst h
    by_cases hh:9223372036854775808≤c
    ·have h1:c / 9223372036854775808=1:=by omega
     rw[h1]
     simp
     omega
    ·have h1:c / 9223372036854775808=0:=by omega
     rw[h1]
     simp
     omega
   ·cases h
theorem eql_refl {x:Nat} (h:zO x=false):fcmp .eql x x=true:=by
 have:=hY x
 rw[h] at this
 simpa[fcmp] using this
theorem lO {x y:Nat} (hx:x<18446744073709551616) (hy:y<18446744073709551616) (nx:zO x=false) (ny:zO y=false):(fcmp .eql x y=true∧(jV x↔jV y))↔x=y:=by
 refine⟨fun ⟨h1,h2⟩=>?_,fun e=>by subst e;exact⟨eql_refl nx,Iff.rfl⟩⟩
 have h3:double.order x y=some .eq:=by simpa[fcmp] using h1
 have m1:jV 9223372036854775808:=.inr ⟨by decide,by decide⟩
 have m0:¬ jV 0:=by unfold jV;decide
 cases rx:double.read x with
 |nan s f=>unfold zO at nx;rw[rx] at nx;cases nx
 |infinity s =>
  cases ry:double.read y with
  |nan s f=>unfold zO at ny;rw[ry] at ny;cases ny
  |number t n i=>unfold Format.order at h3;rw[rx,ry] at h3;cases s <;> cases h3
  |infinity t =>
   unfold Format.order at h3
   rw[rx,ry] at h3
   have e1:=s6 hx rx
   have e2:=s6 hy ry
   cases s <;> cases t <;> first|exact e1.trans e2.symm|cases h3
 |number s m e =>
  cases ry:double.read y with
  |nan s f=>unfold zO at ny;rw[ry] at ny;cases ny
  |infinity t=>unfold Format.order at h3;rw[rx,ry] at h3;cases t <;> cases h3
  |number t n i =>
   by_cases h0:m=0∧n=0
   ·obtain⟨rfl,rfl⟩:=h0
    have r1:=lV hx rx
    have r2:=lV hy ry
    have c1:x=0∨x=9223372036854775808:=by rcases r1 with r1|r1 <;> omega
    have c2:y=0∨y=9223372036854775808:=by rcases r2 with r2|r2 <;> omega
    rcases c1 with rfl|rfl <;> rcases c2 with rfl|rfl
    ·rfl
    ·exact absurd (h2.2 m1) m0
    ·exact absurd (h2.1 m1) m0
    ·rfl
   ·exact num_eq hx hy rx ry h3 h0
end Ai
namespace Ai
set_option maxRecDepth 100000
open Go Go.Proofs Ieee
theorem pK (x:Nat):CallsTo EE 235 [.d (.flt x)] (·=bp (zO x=true)):=by
 refine callsTo_of_AW (fn:=Tryz.f235) Tryz.func235 rfl (by kernel_rfl) rfl ?_
 conv=>whnf
 refine kbi (fun h=>?_) (fun h=>?_)
 ·conv=>whnf
  exact bpt (by rw[← hY];exact h)
 ·conv=>whnf
  exact bpf (by rw[← hY];exact h)
theorem bitsI_run (b:Nat) (w:World):(callFunc 243 #[.float .f64 b]).run Tryz.prog w=.ok (.value (.int .u64 b)) w:=by
 kernel_rfl
theorem lE {b:Nat} (h:zO (canon b)=false):canon b=b:=by
 unfold canon at *
 cases hn:zO b with
 |true=>rw[hn] at h;exact absurd (show zO nanC=false from h) (by decide)
 |false=>rfl
theorem vD (x:Nat):CallsTo EE 243 [.d (.flt x)] (fun r=>∃ b:Nat,r=.d (.int .u64 b)∧canon b=x):=by
 intro w A vs hI hA
 obtain⟨hl,hr⟩:=hA
 have h1:vs.size=1:=hl.symm
 obtain⟨v,hv⟩:∃ v,vs=#[v]:=⟨vs[0],by apply Array.ext (by simp[h1]);intro i h2 h3;simp at h3;subst h3;rfl⟩
 subst hv
 have:=hr 0 _ v rfl rfl
 cases this with
 |d _ _ hd=>cases hd with
  |flt b =>
   unfold Invokes
   rw[show Sem.run EE.P (callFunc 243 #[Value.float .f64 b]) w=_ from bitsI_run b w]
   exact⟨_,⟨b,rfl,rfl⟩,RowKit.Below.refl _ _,.d _ _ (.int _ _)⟩
theorem j2 (n:Int) (w:World):(callFunc 260 #[.int .u64 n]).run Tryz.prog w=.ok (.value (.float .f64 n.toNat)) w:=by
 kernel_rfl
theorem frombits_ok (n:Int):CallsTo EE 260 [.d (.int .u64 n)] (·=.d (.flt (canon n.toNat))):=by
 intro w A vs hI hA
 obtain⟨hl,hr⟩:=hA
 have h1:vs.size=1:=hl.symm
 obtain⟨v,hv⟩:∃ v,vs=#[v]:=⟨vs[0],by apply Array.ext (by simp[h1]);intro i h2 h3;simp at h3;subst h3;rfl⟩
 subst hv
 have:=hr 0 _ v rfl rfl
 cases this with
 |d _ _ hd=>cases hd with
  |int =>
   unfold Invokes
   rw[show Sem.run EE.P (callFunc 260 #[Value.int .u64 n]) w=_ from j2 n w]
   exact⟨_,rfl,RowKit.Below.refl _ _,.d _ _ (.flt _)⟩
theorem trunc_next:Extern.findNext Tryz.f252=none:=by kernel_rfl
theorem trunc_find : Extern.find Tryz.f252 = some (Extern.MathFloor.toIntegral "math.archTrunc" .zero) := by kernel_rfl
theorem trunc_ng : (Tryz.f252.name == "runtime.NumGoroutine") = false := by kernel_rfl
theorem trunc_nb:Tryz.f252.body.isNone=true:=by kernel_rfl
theorem trunc_run (b : Nat) (w : World) : (callFunc 252 #[.float .f64 b]).run Tryz.prog w = (((Extern.MathFloor.toIntegral "math.archTrunc" .zero #[.float .f64 b]).run Tryz.prog w).andThen fun v w => .ok (.value v) w) := by
 unfold callFunc
 simp only[Sem.run_bind,run_program,Result.andThen_ok,Tryz.func252,trunc_ng,trunc_nb,trunc_next,trunc_find,Bool.false_eq_true,if_false,if_true,run_mark,Sem.run_pure]
def dV (x:Nat):Nat:=canon (double.write ((double.read x).integral .zero))
theorem b7 (x:Nat) (hx:zO x=false):CallsTo EE 252 [.d (.flt x)] (·=.d (.flt (dV x))):=by
 intro w A vs hI hA
 obtain⟨hl,hr⟩:=hA
 have h1:vs.size=1:=hl.symm
 obtain⟨v,hv⟩:∃ v,vs=#[v]:=⟨vs[0],by apply Array.ext (by simp[h1]);intro i h2 h3;simp at h3;subst h3;rfl⟩
 subst hv
 have:=hr 0 _ v rfl rfl
 cases this with
 |d _ _ hd =>
  cases hd with
  |flt b =>
   have hb:canon b=b:=lE hx
   unfold Invokes
   have hrun:Sem.run EE.P (callFunc 252 #[Value.float .f64 b]) w=.ok (.value (.float .f64 (double.write ((double.read b).integral .zero)))) w:=by
    rw[show Sem.run EE.P (callFunc 252 #[Value.float .f64 b]) w=_ from trunc_run b w]
    have hdec:FloatKind.f64.decode b=double.read b:=rfl
    have hn:zO b=false:=by rw[hb] at hx;exact hx
    unfold zO at hn
    have ht : Extern.MathFloor.toIntegral "math.archTrunc" .zero #[Value.float .f64 b] = pure (.float .f64 (double.write ((double.read b).integral .zero))) := by
     show(match FloatKind.f64.decode b with
      | .nan s t=>_
      |d=>_)=_
     rw[hdec]
     cases hd:double.read b with
     |nan s f=>rw[hd] at hn;cases hn
     |infinity s=>rfl
     |number s m i=>rfl
    rw[ht]
    rfl
   rw[hrun]
   refine⟨_,rfl,RowKit.Below.refl _ _,?_⟩
   rw[hb]
   exact .d _ _ (.flt _)
theorem Trunc_ok (x:Nat) (hx:zO x=false):CallsTo EE 237 [.d (.flt x)] (·=.d (.flt (dV x))):=by
 refine callsTo_of_AW (fn:=Tryz.f237) Tryz.func237 rfl (by kernel_rfl) rfl ?_
 conv=>whnf
 refine⟨_,b7 x hx,?_⟩
 rintro r rfl
 conv=>whnf
def rV (b:Nat):Nat:=(IntKind.u64.wrap (BitVec.ofInt 64 b &&& ~~~BitVec.ofInt 64 9223372036854775808).toNat).toNat
theorem Abs_ok (x:Nat):CallsTo EE 251 [.d (.flt x)] (fun r=>∃ b,canon b=x∧r=.d (.flt (canon (rV b)))):=by
 refine callsTo_of_AW (fn:=Tryz.f251) Tryz.func251 rfl (by kernel_rfl) rfl ?_
 conv=>whnf
 refine⟨_,vD x,?_⟩
 rintro r ⟨b,rfl,hb⟩
 conv=>whnf
 refine⟨_,frombits_ok _,?_⟩
 rintro r rfl
 conv=>whnf
 exact⟨b,hb,rfl⟩
theorem IsInf_ok (x:Nat):CallsTo EE 236 [.d (.flt x),i64 0] (fun r=>∃ b,canon b=x∧r=bv (fcmp .gtr (canon (rV b)) 9218868437227405311)):=by
 refine callsTo_of_AW (fn:=Tryz.f236) Tryz.func236 rfl (by kernel_rfl) rfl ?_
 conv=>whnf
 refine kbi (fun _=>?_) (fun h=>absurd rfl h)
 conv=>whnf
 refine⟨_,Abs_ok x,?_⟩
 rintro r ⟨b,hb,rfl⟩
 conv=>whnf
 refine kbi (fun h=>?_) (fun h=>?_)
 ·conv=>whnf
  exact⟨b,hb,congrArg bv (show true=_ from (show fcmp .gtr (canon (rV b)) 9218868437227405311=true from h).symm)⟩
 ·conv=>whnf
  exact⟨b,hb,congrArg bv (show false=_ from (Bool.not_eq_true _▸(show ¬ fcmp .gtr (canon (rV b)) 9218868437227405311=true from h):fcmp .gtr (canon (rV b)) 9218868437227405311=false).symm)⟩
def wE (x:Nat):Int:=if zO x=true then 0 else (match double.read x with|.infinity _=>1|_=>if fcmp .eql x 0=true then 2 else if fcmp .eql x (dV x)=true then 3 else 4)
theorem absB_mod (b:Nat):rV b=b % 9223372036854775808:=by
 unfold rV
 have h1:(BitVec.ofInt 64 (b:Int) &&& ~~~BitVec.ofInt 64 9223372036854775808).toNat=b % 9223372036854775808:=by
  rw[BitVec.toNat_and,show(~~~BitVec.ofInt 64 9223372036854775808).toNat=2 ^ 63 - 1 by decide,Nat.and_two_pow_sub_one_eq_mod,BitVec.toNat_ofInt]
  omega
 rw[h1]
 have:IntKind.u64.wrap (((b % 9223372036854775808:Nat)):Int)=((b % 9223372036854775808:Nat):Int):=by
  unfold IntKind.wrap
  simp[IntKind.bits,IntKind.signed]
  omega
 rw[this]
 rfl
theorem oO {b:Nat}:double.read (rV b)=(match double.read b with|.number _ m i=>.number false m i|.infinity _=>.infinity false|.nan _ f=>.nan false f):=by
 rw[absB_mod]
 unfold Format.read
 rw[show double.signWeight=9223372036854775808 by decide]
 have h1:b % 9223372036854775808 / 9223372036854775808 % 2=0:=by omega
 simp only[h1,Nat.mod_mod]
 split
 ·rfl
 ·split
  ·rfl
  ·split <;> rfl
theorem oQ (x:Nat):CallsTo EE 195 [.d (.flt x)] (·=i64 (wE x)):=by
 refine callsTo_of_AW (fn:=Tryz.f195) Tryz.func195 rfl (by kernel_rfl) rfl ?_
 conv=>whnf
 refine ocase (pK x) (fun h=>?_) (fun h=>?_)
 ·conv=>whnf
  unfold wE
  rw[if_pos h]
 have h':zO x=false:=by simpa using h
 conv=>whnf
 refine⟨_,IsInf_ok x,?_⟩
 rintro r ⟨b,hb,rfl⟩
 have hbb:canon b=b:=lE (by rw[hb];exact h')
 have hxb:b=x:=by rw[← hb,hbb]
 subst hxb
 have hinf:fcmp .gtr (canon (rV b)) 9218868437227405311=(match double.read b with|.infinity _=>true|_=>false):=by
  have hnb:zO (rV b)=false:=by
   have:=h'
   unfold zO at this ⊢
   rw[oO]
   cases hd:double.read b <;> rw[hd] at this <;> first|rfl|cases this
  have hcn:canon (rV b)=rV b:=by unfold canon;rw[hnb];rfl
  rw[hcn,gtr_max,oO]
  cases double.read b <;> rfl
 rw[hinf]
 cases hd:double.read b with
 |nan s f=>unfold zO at h';rw[hd] at h';cases h'
 |infinity s =>
  conv=>whnf
  unfold wE
  rw[if_neg h,hd]
 |number s m i =>
  conv=>whnf
  refine kbi (fun h0=>?_) (fun h0=>?_)
  ·have h0:fcmp .eql b 0=true:=h0
   conv=>whnf
   unfold wE
   rw[if_neg h,hd]
   simp only
   rw[if_pos h0]
  have h0:¬ fcmp .eql b 0=true:=h0
  conv=>whnf
  refine⟨_,Trunc_ok b h',?_⟩
  rintro r rfl
  conv=>whnf
  refine kbi (fun h1=>?_) (fun h1=>?_)
  ·have h1:fcmp .eql b (dV b)=true:=h1
   conv=>whnf
   unfold wE
   rw[if_neg h,hd]
   simp only
   rw[if_neg h0,if_pos h1]
  ·have h1:¬ fcmp .eql b (dV b)=true:=h1
   conv=>whnf
   unfold wE
   rw[if_neg h,hd]
   simp only
   rw[if_neg h0,if_neg h1]
end Ai
namespace Ai
set_option maxRecDepth 100000
open Go Go.Proofs Ieee
theorem inf_eql0 {x:Nat} {s:Bool} (h:double.read x=.infinity s):fcmp .eql x 0=false:=by
 unfold fcmp Format.order
 rw[h,kS]
 cases s <;> rfl
theorem isNo_ok (x:Nat):CallsTo EE 221 [.d (.flt x)] (·=bp (zO x=true∨fcmp .eql x 0=true)):=by
 refine callsTo_of_AW (fn:=Tryz.f221) Tryz.func221 rfl (by kernel_rfl) rfl ?_
 conv=>whnf
 refine⟨_,oQ x,?_⟩
 rintro r rfl
 conv=>whnf
 refine kbi (fun h1=>?_) (fun h1=>?_)
 ·have h1:wE x=0:=by simpa using h1
  conv=>whnf
  refine bpt (.inl ?_)
  unfold wE at h1
  split at h1
  ·assumption
  ·split at h1
   ·cases h1
   ·split at h1
    ·cases h1
    ·split at h1 <;> cases h1
 have h1:¬ wE x=0:=by simpa using h1
 have hn:¬ zO x=true:=fun e=>h1 (by unfold wE;rw[if_pos e])
 conv=>whnf
 refine kbi (fun h2=>?_) (fun h2=>?_)
 ·have h2:wE x=2:=by simpa using h2
  conv=>whnf
  refine bpt (.inr ?_)
  unfold wE at h2
  rw[if_neg hn] at h2
  split at h2
  ·cases h2
  ·split at h2
   ·assumption
   ·split at h2 <;> cases h2
 ·have h2:¬ wE x=2:=by simpa using h2
  conv=>whnf
  refine bpf fun e=>e.elim hn fun e=>h2 ?_
  unfold wE
  rw[if_neg hn]
  split
  ·rename_i s hs
   rw[inf_eql0 hs] at e;cases e
  ·rw[if_pos e]
theorem jS (b:Bool):CallsTo EE 141 [bv b] (·=i64 (if b=true then 1 else 0)):=by
 refine callsTo_of_AW (fn:=Tryz.f141) Tryz.func141 rfl (by kernel_rfl) rfl ?_
 cases b
 ·conv=>whnf
  rfl
 ·conv=>whnf
  rfl
theorem rM (x y:Nat) (hx:x<18446744073709551616) (hy:y<18446744073709551616):CallsTo EE 206 [.d (.flt x),.d (.flt y)] (·=bp (gF x y)):=by
 refine callsTo_of_AW (fn:=Tryz.f206) Tryz.func206 rfl (by kernel_rfl) rfl ?_
 have bits:∀ {z b:Nat},zO z=false→canon b=z→b=z:=fun {z b} h e=>by
  have:=lE (b:=b) (by rw[e];exact h)
  rw[← e,this]
 have rest:∀ (hn:¬ (zO x=true∧zO y=true)) (b c:Nat),canon b=x→canon c=y→((b:Int)=(c:Int)↔gF x y):=by
  intro hn b c hb hc
  have key:(b=c)↔gF x y:=by
   by_cases h:zO x=true∨zO y=true
   ·constructor
    ·rintro rfl
     exfalso
     have:x=y:=hb.symm.trans hc
     subst this
     exact hn ⟨h.elim id id,h.elim id id⟩
    ·rintro(e|e)
     ·exact absurd e.2 hn
     ·exact absurd h e.1
   ·have nx:zO x=false:=by simpa using fun e=>h (.inl e)
    have ny:zO y=false:=by simpa using fun e=>h (.inr e)
    rw[bits nx hb,bits ny hc]
    constructor
    ·intro e
     exact .inr ⟨h,(lO hx hy nx ny).2 e⟩
    ·rintro(e|e)
     ·exact absurd e.1 h
     ·exact(lO hx hy nx ny).1 e.2
  rw[← key]
  omega
 conv=>whnf
 refine ocase (pK x) (fun h=>?_) (fun h=>?_)
 ·conv=>whnf
  refine ocase (pK y) (fun h2=>?_) (fun h2=>?_)
  ·conv=>whnf
   exact bpt (.inl ⟨.inl h,h,h2⟩)
  ·conv=>whnf
   refine⟨_,vD x,?_⟩
   rintro r ⟨b,rfl,hb⟩
   conv=>whnf
   refine⟨_,vD y,?_⟩
   rintro r ⟨c,rfl,hc⟩
   conv=>whnf
   have:=rest (fun e=>h2 e.2) b c hb hc
   refine kbi (fun h3=>?_) (fun h3=>?_)
   ·conv=>whnf
    exact bpt (this.1 (by simpa using h3))
   ·conv=>whnf
    exact bpf (fun e=>absurd (this.2 e) (by simpa using h3))
 ·conv=>whnf
  refine⟨_,vD x,?_⟩
  rintro r ⟨b,rfl,hb⟩
  conv=>whnf
  refine⟨_,vD y,?_⟩
  rintro r ⟨c,rfl,hc⟩
  conv=>whnf
  have:=rest (fun e=>h e.1) b c hb hc
  refine kbi (fun h3=>?_) (fun h3=>?_)
  ·conv=>whnf
   exact bpt (this.1 (by simpa using h3))
  ·conv=>whnf
   exact bpf (fun e=>absurd (this.2 e) (by simpa using h3))
theorem worked_ok (c:Int) (x y:Nat) (hc:4≤c∧c≤9) (hx:x<18446744073709551616) (hy:y<18446744073709551616):CallsTo EE 223 [i64 c,.d (.flt x),.d (.flt y)] (·=.d (.flt (yP c x y))):=by
 refine callsTo_of_AW (fn:=Tryz.f223) Tryz.func223 rfl (by kernel_rfl) rfl ?_
 conv=>whnf
 refine kbi (fun h1=>?_) (fun h1=>?_)
 ·have:c=4:=by simpa using h1
  conv=>whnf
  subst this;rfl
 have h1:¬ c=4:=by simpa using h1
 conv=>whnf
 refine kbi (fun h2=>?_) (fun h2=>?_)
 ·have:c=5:=by simpa using h2
  conv=>whnf
  subst this;rfl
 have h2:¬ c=5:=by simpa using h2
 conv=>whnf
 refine kbi (fun h3=>?_) (fun h3=>?_)
 ·have:c=6:=by simpa using h3
  conv=>whnf
  subst this;rfl
 have h3:¬ c=6:=by simpa using h3
 conv=>whnf
 refine kbi (fun h4=>?_) (fun h4=>?_)
 ·have:c=7:=by simpa using h4
  conv=>whnf
  subst this;rfl
 have h4:¬ c=7:=by simpa using h4
 conv=>whnf
 refine kbi (fun h5=>?_) (fun h5=>?_)
 ·have:c=8:=by simpa using h5
  conv=>whnf
  refine kbi (fun hl=>?_) (fun hl=>?_)
  ·conv=>whnf
   refine⟨_,jS true,?_⟩
   rintro r rfl
   conv=>whnf
   simp[yP,this,hl];rfl
  ·conv=>whnf
   refine⟨_,jS false,?_⟩
   rintro r rfl
   conv=>whnf
   simp[yP,this,hl];rfl
 have h5:¬ c=8:=by simpa using h5
 conv=>whnf
 refine ocase (rM x y hx hy) (fun h=>?_) (fun h=>?_)
 ·conv=>whnf
  refine⟨_,jS true,?_⟩
  rintro r rfl
  conv=>whnf
  simp[yP,h1,h2,h3,h4,h5,h];rfl
 ·conv=>whnf
  refine⟨_,jS false,?_⟩
  rintro r rfl
  conv=>whnf
  simp[yP,h1,h2,h3,h4,h5,h];rfl
end Ai
namespace Ai
set_option maxRecDepth 100000
open Go Go.Proofs
theorem oY {t:Th} {o:OpL} {i:Nat} (h:∀ x∈t.stack,x<18446744073709551616):xC t o i<18446744073709551616:=by
 unfold xC
 rw[List.getD_eq_getElem?_getD]
 cases hg:(t.stack.drop (yH t o))[i]? with
 |none=>decide
 |some x=>exact h x (List.mem_of_mem_drop (List.mem_of_getElem? hg))
theorem n0 {x0 x1 x2:AV} (i0:Inert x0) (i1:Inert x1) (i2:Inert x2) (s:StL) {p:Key→Bool} (h:(p (.n 900) || p (.n 901) || p (.n 902))=false):scrPL p ([x0,x1,x2]++stRef s)=[x0,x1,x2]++stRef s:=by
 have:=xK (E:=0) i0 i1 i2 s h
 simpa[scrPO] using this
theorem hscrL {L X:List AV} {p:Key→Bool} (h:L=X) (hp:scrPL p X=X):scrPL p L=X:=by rw[h];exact hp
theorem spawn_vs3 {x0 x1 x2:AV} (i0:Inert x0) (i1:Inert x1) (i2:Inert x2) {s s':StL} {L:List AV} {v:AV} (hv:v=.dref (.n 900) s'.ths.length) (hL:L=[x0,x1,x2]++stRef s) (hc:s'.cells.length=s.cells.length) (ho:s'.owner.length=s.owner.length) (hf:s'.fault=s.fault) :
  zY (scrPL (isK (.n 900)) L) (3+0) [v]=[x0,x1,x2]++stRef s':=by
 subst hv hL
 simp only[stRef,List.cons_append,List.nil_append,scrPL,i0.scr,i1.scr,i2.scr,hc,ho,hf]
 rfl
theorem sJ {S:St} {l:List Th} {k:Nat} {t:Th} {els:List (List D)} (hk:k<l.length) (h9:S.H (.n 900)=some (.rs 109 6 (rowsA l k t))) (hfam:∀ j,j≠k→(h:j<l.length)→S.H (.s 900 j)=some (.ds 100 1 (stk l[j])))
  (h8:S.H (.n 899)=some (.ds 100 1 els)) (he:els.take t.stack.length=stk t):jU S (.n 900) l.length ((l.set k t).map zD):=by
 unfold jU
 rw[h9]
 refine⟨by simp,fun j row hj hr=>?_⟩
 by_cases hjk:j=k
 ·subst hjk
  have:(rowsA l j t)[j]?=some (xP t):=yU hk
  rw[this] at hr
  simp only[Option.some.injEq] at hr
  subst hr
  refine⟨zD t,by simp[hj],?_⟩
  simp[xP,fz1s,fz1,h8,i64,zD,he]
  rfl
 ·have:(rowsA l k t)[j]?=some (thRow 900 j l[j]):=by
   unfold rowsA
   rw[List.getElem?_set_ne (fun e=>hjk e.symm)]
   exact yY hj
  rw[this] at hr
  simp only[Option.some.injEq] at hr
  subst hr
  exact⟨zD l[j],by rw[List.getElem?_map,List.getElem?_set_ne (fun e=>hjk e.symm)];simp[hj],fz_row (hfam j hjk hj)⟩
theorem r6 (t:Th) (o:OpL):CallsTo EE 222 [agg (zD t),.fp (encOp o)] (·=bv (t.st==3&&t.cond==o.a)):=by
 refine callsTo_of_AW (fn:=Tryz.f222) Tryz.func222 rfl (by kernel_rfl) rfl ?_
 conv=>whnf
 refine kbi (fun h1=>?_) (fun h1=>?_)
 ·have h1:t.st=3:=by simpa using h1
  conv=>whnf
  refine kbi (fun h2=>?_) (fun h2=>?_)
  ·have h2:t.cond=o.a:=by simpa using h2
   conv=>whnf
   rw[h1,h2];simp
  ·have h2:¬ t.cond=o.a:=by simpa using h2
   conv=>whnf
   rw[h1];simp[h2]
 ·have h1:¬ t.st=3:=by simpa using h1
  conv=>whnf
  simp[h1]
theorem wakeIx_set {l:List Th} {k:Nat} (hk:k<l.length) {t':Th} (a:Int) (h1:t'.st≠3) (h2:l[k].st≠3):(l.set k t').findIdx? (fun t=>t.st==3&&t.cond==a)=wO l a:=by
 unfold wO
 have:∀ (m:List Th) (k:Nat) (hk:k<m.length),m[k].st≠3→(m.set k t').findIdx? (fun t=>t.st==3&&t.cond==a)=m.findIdx? (fun t=>t.st==3&&t.cond==a):=by
  intro m
  induction m with
  |nil=>intro k hk;cases hk
  |cons x m ih =>
   intro k hk h2
   cases k with
   |zero=>simp[List.findIdx?_cons,h1,show x.st≠3 from h2]
   |succ k=>simp[List.findIdx?_cons,ih k (by simpa using hk) (by simpa using h2)]
 exact this l k hk h2
theorem dY {X:List (List AV)} {p:Key→Bool} {l:List Th} {k:Nat} {t:Th} (hX:X=rowsA l k t) (h1:p (.n 899)=false) (h2:∀ j,p (.s 900 j)=false):X.map (scrPL p)=rowsA l k t:=by
 rw[hX];exact uW h1 h2 l k t
theorem uB (l:List Th) (i:Nat):(thRows 900 l)[i]?=(l[i]?).map (thRow 900 i):=by
 by_cases h:i<l.length
 ·rw[yY h,List.getElem?_eq_getElem h];rfl
 ·rw[List.getElem?_eq_none (by rw[zR];omega),List.getElem?_eq_none (by omega)];rfl
theorem rowsA_wake {l:List Th} {k j:Nat} {t:Th} {X:List (List AV)} (hj:j<l.length) (hjk:j≠k) (hX:X=rowsA l k t) :
  yZ X 6 ((j:Nat):Int).toNat (0+2) [i64 4]=rowsA (l.modify j fun u=>{ u with st:=4 }) k t:=by
 subst hX
 have hf:yZ (rowsA l k t) 6 ((j:Nat):Int).toNat (0+2) [i64 4]=(rowsA l k t).modify j fun c=>zY c 2 [i64 4]:=by
  unfold yZ
  rfl
 rw[hf]
 apply List.ext_getElem?
 intro i
 rw[List.getElem?_modify]
 by_cases hik:i=k
 ·subst hik
  have h1:(rowsA l i t)[i]?=(if i<l.length then some (xP t) else none):=by
   unfold rowsA;rw[List.getElem?_set,zR];simp
  have h2:(rowsA (l.modify j fun u=>{ u with st:=4 }) i t)[i]?=(if i<l.length then some (xP t) else none):=by
   unfold rowsA;rw[List.getElem?_set,zR];simp
  rw[h1,h2]
  simp[hjk]
 ·have h1:∀ (m:List Th),(rowsA m k t)[i]?=(thRows 900 m)[i]?:=fun m=>by unfold rowsA;rw[List.getElem?_set_ne (fun e=>hik e.symm)]
  rw[h1,h1]
  simp only[uB,List.getElem?_modify]
  by_cases hij:j=i
  ·subst hij
   simp[hj,thRow,zY]
  ·simp[hij]
theorem thFam_wake {l:List Th} {j:Nat} (i:Nat):zP (l.modify j fun u=>{ u with st:=4 }) i=zP l i:=by
 unfold zP
 simp only[List.getElem?_modify]
 cases l[i]? with
 |none=>rfl
 |some u=>by_cases h:j=i <;> simp[h,stk]
theorem m9 {l:List Th} {a:Int} {j:Nat} (h:wO l a=some j):∃ h:j<l.length,l[j].st=3∧l[j].cond=a:=by
 unfold wO at h
 rw[List.findIdx?_eq_some_iff_getElem] at h
 obtain⟨h1,h2,_⟩:=h
 exact⟨h1,by simpa using h2⟩
theorem uL (t:Th) (o:OpL):(stk t).take (zG t o).stack.length=stk (zG t o):=by
 simp[stk,zG,List.map_take]
theorem lI (t:Th):(stk t).take t.stack.length=stk t:=by simp[stk,List.take_of_length_le]
def lR (l:List Th) (k:Nat) (r:List AV):List (List AV):=(thRows 900 l).set k r
theorem qQ {l:List Th} {k off:Nat} {X:List (List AV)} {r:List AV} {v:AV} (hk:k<l.length) (hX:X=lR l k r):yZ X 6 ((k:Nat):Int).toNat off [v]=lR l k (zY r off [v]):=by
 subst hX
 have hf:yZ (lR l k r) 6 ((k:Nat):Int).toNat off [v]=(lR l k r).modify k fun c=>zY c off [v]:=by
  unfold yZ
  rw[show(Nat.beq off 0&&Nat.beq [v].length 6)=false from Bool.and_false _]
  rfl
 rw[hf]
 unfold lR
 apply List.ext_getElem?
 intro j
 rw[List.getElem?_modify]
 by_cases hj:k=j
 ·subst hj
  rw[List.getElem?_set_self (by rw[zR];exact hk),List.getElem?_set_self (by rw[zR];exact hk)];simp
 ·rw[List.getElem?_set_ne hj,List.getElem?_set_ne hj];simp[hj]
theorem qP {l:List Th} {k:Nat} {X:List (List AV)} {r:List AV} {p:Key→Bool} (hp:∀ j,p (.s 900 j)=false) (hX:X=lR l k r):X.map (scrPL p)=lR l k (scrPL p r):=by
 subst hX
 unfold lR
 rw[List.map_set,yB fun j _=>hp j]
theorem spawn_rows {l:List Th} {k n:Nat} {X N:List (List AV)} {t:Th} {row:List AV} (hn:n=l.length) (hX:X=rowsA l k t) (hN:N=[row]) (hq:scrPL (isK (.n 900)) row=row) :
  (X.take n++N).map (scrPL (isK (.n 900)))=rowsA l k t++[row]:=by
 subst hn hX hN
 rw[List.take_of_length_le (by rw[rowsA_len];exact Nat.le_refl _),List.map_append,uW rfl (fun _=>rfl)]
 simp[hq]
theorem bO {l:List Th} {k:Nat} {X:List (List AV)} {r:List AV} {t:Th} (h1:X=lR l k r) (h2:r=xP t):X=rowsA l k t:=by subst h1 h2;rfl
def DoIE (E:TypeId) (pre:List AV) (g:Nat→Option Ob) (k:Nat) (s':StL) (t':Th) (e':Ev) (S:St):Prop :=
 ∃ (l':List Th) (els:List (List D)),k<l'.length∧s'.ths=l'.set k t'∧(∀ j,j≠k→g j=zP l' j)∧els.take t'.stack.length=stk t' ∧
  ((l'.length=s'.ths.length∧At [(7,.ptr (.n 7) 0),(8,.ptr (.n 8) 0)] [(.l 0,.vs E (pre++stRef s')),(.n 7,.vs 107 ((encEv e').map .d)),(.n 8,.vs 107 [i64 0,i64 0,i64 0,i64 0,i64 0]),(.n 899,.ds 100 1 els),(.n 900,.rs 109 6 (rowsA l' k t')),(.n 901,.ds 100 1 (s'.cells.map encF)),(.n 902,.ds 3 1 (s'.owner.map encInt))] [(900,g)] S))
def DoIF (E:TypeId) (pre:List AV) (g:Nat→Option Ob) (k:Nat) (s':StL) (l':List Th) (t':Th) (r:Int) (e':Ev) (S:St):Prop :=
 k<l'.length∧s'.ths=l'.set k t'++[qV r]∧(∀ j,j≠k→g j=zP l' j) ∧
  At [(7,.ptr (.n 7) 0),(8,.ptr (.n 8) 0)] [(.l 0,.vs E (pre++stRef s')),(.n 7,.vs 107 ((encEv e').map .d)),(.n 8,.vs 107 [i64 0,i64 0,i64 0,i64 0,i64 0]),(.n 899,.ds 100 1 (stk t')),(.n 900,.rs 109 6 (rowsA l' k t'++[[i64 r,i64 0,i64 1,i64 (-1),i64 (-1),.ref (.n 905) 0 0]])),(.n 901,.ds 100 1 (s'.cells.map encF)),(.n 902,.ds 3 1 (s'.owner.map encInt)),(.n 905,.ds 100 1 [])] [(900,g)] S
def DoI2 (E:TypeId) (pre:List AV) (g:Nat→Option Ob) (k:Nat) (s':StL) (e':Ev) (S:St):Prop :=
 (∃ t',DoIE E pre g k s' t' e' S)∨∃ l' t' r,DoIF E pre g k s' l' t' r e' S
theorem doI_swB (hI:yX) (E:TypeId) (x0 x1 x2:AV) (i0:Inert x0) (i1:Inert x1) (i2:Inert x2) (g:Nat→Option Ob) (hg:∀ p j,(g j).map (scrPO p)=g j) (s:StL) (k:Nat) (o:OpL) (e:Ev) (hk:k<s.ths.length) (h5:s.ths.length≤5) (hgj:∀ j,j≠k→g j=zP s.ths j)
  (hs:s.small) (ho:o.fits s s.ths[k]) (hpc:InR s.ths[k].pc 0 1048576) (hst3:s.ths[k].st≠3) (he:e.kind=1) (hel:e.lock=-1) (hfl:∀ x∈s.ths[k].stack,x<18446744073709551616) (hjo:o.code=15→∃ j,yV (xC s.ths[k] o 0) s.ths.length=some j∧yC s s.ths[k]=some j)
  (Q:AX→St→Prop) (K:St→Prop) (S:St) (hS:At (doI1 3 k o s.ths[k]) (doIO E [x0,x1,x2] s k o e s.ths[k] (zG s.ths[k] o)) [(900,g)] S) (hK:∀ S',DoI2 E [x0,x1,x2] g k (doL s k o e).1 (doL s k o e).2 S'→K S') :
  rT EE Tryz.f176.ntmps K Q 1 (dropC 7 (Tryz.f176.body.getD .skip)) S:=by
 have hst:=hs.2.1 _ (List.getElem_mem hk)
 have hgd:s.ths.getD k th0=s.ths[k]:=by simp[List.getD_eq_getElem?_getD,hk]
 generalize ht0:s.ths[k]=t at *
 obtain⟨τ,H,rfl⟩:=hS.form
 clear hS
 obtain⟨o1,o2,o3,o4,o5⟩:=ho
 obtain⟨eth,ekind,eobj,elock,epc⟩:=e
 have he:ekind=1:=he
 subst he
 have hel:elock=-1:=hel
 subst hel
 have hkn:yH t o≤t.stack.length:=Nat.sub_le _ _
 have hkl:(t.stack.take (yH t o)).length=yH t o:=by simp;omega
 have hpl:(zG t o).stack.length=yH t o:=hkl
 conv=>whnf
 refine kbi (fun hc=>?_) (fun hc=>?_)
 ·have hc:o.code=1:=by simpa using hc
  conv=>whnf
  refine .inr (.inr (.inr ⟨[0],by kernel_rfl,8,[],?_⟩))
  conv=>whnf
  refine⟨xP (zG t o),⟨by repeat (first|exact yU hk|refine xX ?_ (xM rfl _)),by simp[xP]⟩,?_⟩
  conv=>whnf
  refine⟨by kernel_rfl,?_⟩
  conv=>whnf
  refine⟨⟨rfl,by rw[hpl];simp;omega,by rw[hpl];simp;omega⟩,?_⟩
  conv=>whnf
  have hd:doL s k o ⟨eth,1,eobj,-1,epc⟩=(s.put k (zS (zG t o) o.v),⟨eth,1,eobj,-1,epc⟩):=by unfold doL;rw[hgd];simp[hc]
  rw[hd] at hK
  dsimp only at hK
  refine hK _ (.inl ⟨zS (zG t o) o.v,s.ths,stk (zS (zG t o) o.v),hk,rfl,hgj,lI _,by simp[StL.put],⟨rfl,rfl,trivial⟩,⟨?_,?_,rfl,?_,?_,?_,?_,trivial⟩,⟨fun j=>?_,trivial⟩⟩)
  ·rw[show stRef _=stRef s by simp[stRef,StL.put]]
   conv=>lhs;whnf
   all_goals (
    refine congrArg some ?_
    repeat (refine xJ ?_ (xK i0 i1 i2 s rfl))
    all_goals rfl)
  ·rfl
  ·conv=>lhs;whnf
   show some (Ob.ds 100 1 _)=some (Ob.ds 100 1 _)
   simp[stk,zS,zG,encF]
  ·conv=>lhs;whnf
   all_goals (
    refine congrArg (fun x=>some (Ob.rs 109 6 x)) ?_
    apply bO
    ·repeat (first|exact rfl|apply qQ hk|apply qP (fun _=>rfl))
    ·show[_,_,_,_,_,AV.ref (.n 899) 0 ((zG t o).stack.length+1)]=_
     simp[xP,zS]
     exact⟨rfl,rfl,rfl,rfl,rfl⟩)
  ·rfl
  ·rfl
  ·repeat (first|exact rfl|refine hscrO ?_ (hg _ _)|conv=>lhs;whnf)
 have n1:¬ o.code=1:=by simpa using hc
 clear hc
 conv=>whnf
 refine kbi (fun hc=>?_) (fun hc=>?_)
 ·have hc:o.code=2:=by simpa using hc
  have hr:=o2 (.inl hc)
  conv=>whnf
  refine .inr (.inl ⟨4,[],?_⟩)
  conv=>whnf
  refine⟨by kernel_rfl,?_⟩
  conv=>whnf
  refine .inr (.inr (.inr ⟨[0],by kernel_rfl,14,[],?_⟩))
  conv=>whnf
  refine⟨xP (zG t o),⟨by repeat (first|exact yU hk|refine xX ?_ (xM rfl _)),by simp[xP]⟩,?_⟩
  conv=>whnf
  refine⟨⟨by omega,by omega⟩,?_⟩
  conv=>whnf
  refine⟨encF (s.cells.getD o.a.toNat 0),⟨by rw[Nat.zero_add];exact cell_get hr,by simp[encF]⟩,?_⟩
  conv=>whnf
  refine⟨by kernel_rfl,?_⟩
  conv=>whnf
  refine⟨⟨rfl,by rw[hpl];simp;omega,by rw[hpl];simp;omega⟩,?_⟩
  conv=>whnf
  have hd:doL s k o ⟨eth,1,eobj,-1,epc⟩=(s.put k (zS (zG t o) (s.cells.getD o.a.toNat 0)),⟨eth,2,o.a,(-1),epc⟩):=by unfold doL;rw[hgd];simp[hc]
  rw[hd] at hK
  dsimp only at hK
  refine hK _ (.inl ⟨zS (zG t o) (s.cells.getD o.a.toNat 0),s.ths,stk (zS (zG t o) (s.cells.getD o.a.toNat 0)),hk,rfl,hgj,lI _,by simp[StL.put],⟨rfl,rfl,trivial⟩,⟨?_,?_,rfl,?_,?_,?_,?_,trivial⟩,⟨fun j=>?_,trivial⟩⟩)
  ·rw[show stRef _=stRef s by simp[stRef,StL.put]]
   conv=>lhs;whnf
   all_goals (
    refine congrArg some ?_
    repeat (refine xJ ?_ (xK i0 i1 i2 s rfl))
    all_goals rfl)
  ·rfl
  ·conv=>lhs;whnf
   show some (Ob.ds 100 1 _)=some (Ob.ds 100 1 _)
   simp[stk,zS,zG,encF]
  ·conv=>lhs;whnf
   all_goals (
    refine congrArg (fun x=>some (Ob.rs 109 6 x)) ?_
    apply bO
    ·repeat (first|exact rfl|apply qQ hk|apply qP (fun _=>rfl))
    ·show[_,_,_,_,_,AV.ref (.n 899) 0 ((zG t o).stack.length+1)]=_
     simp[xP,zS]
     exact⟨rfl,rfl,rfl,rfl,rfl⟩)
  ·rfl
  ·rfl
  ·repeat (first|exact rfl|refine hscrO ?_ (hg _ _)|conv=>lhs;whnf)
 have n2:¬ o.code=2:=by simpa using hc
 clear hc
 conv=>whnf
 refine kbi (fun hc=>?_) (fun hc=>?_)
 ·have hc:o.code=3:=by simpa using hc
  have hr:=o2 (.inr hc)
  have htk:wN o=1:=by simp[wN,zC,hc]
  conv=>whnf
  refine .inr (.inl ⟨4,[],?_⟩)
  conv=>whnf
  refine⟨by kernel_rfl,?_⟩
  conv=>whnf
  refine .inr (.inl ⟨9,[],?_⟩)
  conv=>whnf
  refine⟨encF (xC t o 0),⟨by omega,qF o5 (by omega),by simp[encF]⟩,?_⟩
  conv=>whnf
  refine⟨by kernel_rfl,?_⟩
  conv=>whnf
  refine⟨⟨by omega,by omega⟩,?_⟩
  conv=>whnf
  have hd:doL s k o ⟨eth,1,eobj,-1,epc⟩=({ s with cells:=s.cells.set o.a.toNat (xC t o 0) }.put k (zG t o),⟨eth,3,o.a,(-1),epc⟩):=by unfold doL;rw[hgd];simp[hc]
  rw[hd] at hK
  dsimp only at hK
  refine hK _ (.inl ⟨zG t o,s.ths,stk t,hk,rfl,hgj,uL t o,by simp[StL.put],⟨rfl,rfl,trivial⟩,⟨?_,?_,rfl,?_,?_,?_,?_,trivial⟩,⟨fun j=>?_,trivial⟩⟩)
  ·rw[show stRef _=stRef s by simp[stRef,StL.put]]
   conv=>lhs;whnf
   all_goals (
    refine congrArg some ?_
    repeat (refine xJ ?_ (xK i0 i1 i2 s rfl))
    all_goals rfl)
  ·rfl
  ·rfl
  ·conv=>lhs;whnf
   all_goals (
    refine congrArg (fun x=>some (Ob.rs 109 6 x)) ?_
    apply bO
    ·repeat (first|exact rfl|apply qQ hk|apply qP (fun _=>rfl))
    ·rfl)
  ·conv=>lhs;whnf
   show some (Ob.ds 100 1 ((s.cells.map encF).set (0+o.a.toNat) (encF (xC t o 0))))=some (Ob.ds 100 1 ((s.cells.set o.a.toNat (xC t o 0)).map encF))
   rw[Nat.zero_add,List.map_set]
  ·rfl
  ·repeat (first|exact rfl|refine hscrO ?_ (hg _ _)|conv=>lhs;whnf)
 have n3:¬ o.code=3:=by simpa using hc
 clear hc
 conv=>whnf
 refine kbi (fun hc=>?_) (fun hc=>?_)
 ·have hc:o.code=10:=by simpa using hc
  conv=>whnf
  have hd:doL s k o ⟨eth,1,eobj,-1,epc⟩=(s.put k ({ zG t o with pc:=o.a }),⟨eth,1,eobj,-1,epc⟩):=by unfold doL;rw[hgd];simp[hc]
  rw[hd] at hK
  dsimp only at hK
  refine hK _ (.inl ⟨({ zG t o with pc:=o.a }),s.ths,stk t,hk,rfl,hgj,uL t o,by simp[StL.put],⟨rfl,rfl,trivial⟩,⟨?_,?_,rfl,?_,?_,?_,?_,trivial⟩,⟨fun j=>?_,trivial⟩⟩)
  ·rw[show stRef _=stRef s by simp[stRef,StL.put]]
   conv=>lhs;whnf
   all_goals (
    refine congrArg some ?_
    repeat (refine xJ ?_ (xK i0 i1 i2 s rfl))
    all_goals rfl)
  ·rfl
  ·rfl
  ·conv=>lhs;whnf
   all_goals (
    refine congrArg (fun x=>some (Ob.rs 109 6 x)) ?_
    apply bO
    ·repeat (first|exact rfl|apply qQ hk|apply qP (fun _=>rfl))
    ·rfl)
  ·rfl
  ·rfl
  ·repeat (first|exact rfl|refine hscrO ?_ (hg _ _)|conv=>lhs;whnf)
 have n10:¬ o.code=10:=by simpa using hc
 clear hc
 conv=>whnf
 refine kbi (fun hc=>?_) (fun hc=>?_)
 ·have hc:o.code=11:=by simpa using hc
  have htk:wN o=1:=by simp[wN,zC,hc]
  conv=>whnf
  refine⟨encF (xC t o 0),⟨by omega,qF o5 (by omega),by simp[encF]⟩,?_⟩
  conv=>whnf
  refine ocase (isNo_ok _) (fun hn=>?_) (fun hn=>?_)
  ·conv=>whnf
   have hd:doL s k o ⟨eth,1,eobj,-1,epc⟩=(s.put k ({ zG t o with pc:=o.a }),⟨eth,1,eobj,-1,epc⟩):=by unfold doL;rw[hgd];simp[hc];rw[if_pos hn]
   rw[hd] at hK
   dsimp only at hK
   refine hK _ (.inl ⟨({ zG t o with pc:=o.a }),s.ths,stk t,hk,rfl,hgj,uL t o,by simp[StL.put],⟨rfl,rfl,trivial⟩,⟨?_,?_,rfl,?_,?_,?_,?_,trivial⟩,⟨fun j=>?_,trivial⟩⟩)
   ·rw[show stRef _=stRef s by simp[stRef,StL.put]]
    conv=>lhs;whnf
    all_goals (
     refine congrArg some ?_
     repeat (refine xJ ?_ (xK i0 i1 i2 s rfl))
     all_goals rfl)
   ·rfl
   ·rfl
   ·conv=>lhs;whnf
    all_goals (
     refine congrArg (fun x=>some (Ob.rs 109 6 x)) ?_
     apply bO
     ·repeat (first|exact rfl|apply qQ hk|apply qP (fun _=>rfl))
     ·rfl)
   ·rfl
   ·rfl
   ·repeat (first|exact rfl|refine hscrO ?_ (hg _ _)|conv=>lhs;whnf)
  ·conv=>whnf
   have hd:doL s k o ⟨eth,1,eobj,-1,epc⟩=(s.put k (zG t o),⟨eth,1,eobj,-1,epc⟩):=by unfold doL;rw[hgd];simp[hc];rw[if_neg hn]
   rw[hd] at hK
   dsimp only at hK
   refine hK _ (.inl ⟨zG t o,s.ths,stk t,hk,rfl,hgj,uL t o,by simp[StL.put],⟨rfl,rfl,trivial⟩,⟨?_,?_,rfl,?_,?_,?_,?_,trivial⟩,⟨fun j=>?_,trivial⟩⟩)
   ·rw[show stRef _=stRef s by simp[stRef,StL.put]]
    conv=>lhs;whnf
    all_goals (
     refine congrArg some ?_
     repeat (refine xJ ?_ (xK i0 i1 i2 s rfl))
     all_goals rfl)
   ·rfl
   ·rfl
   ·conv=>lhs;whnf
    all_goals (
     refine congrArg (fun x=>some (Ob.rs 109 6 x)) ?_
     apply bO
     ·repeat (first|exact rfl|apply qQ hk|apply qP (fun _=>rfl))
     ·rfl)
   ·rfl
   ·rfl
   ·repeat (first|exact rfl|refine hscrO ?_ (hg _ _)|conv=>lhs;whnf)
 have n11:¬ o.code=11:=by simpa using hc
 clear hc
 conv=>whnf
 refine kbi (fun hc=>?_) (fun hc=>?_)
 ·have hc:o.code=12:=by simpa using hc
  have hr:=o3 (.inl hc)
  conv=>whnf
  refine .inr (.inl ⟨4,[],?_⟩)
  conv=>whnf
  refine⟨by kernel_rfl,?_⟩
  conv=>whnf
  refine .inr (.inl ⟨7,[],?_⟩)
  conv=>whnf
  refine⟨by kernel_rfl,?_⟩
  conv=>whnf
  refine⟨⟨by omega,by omega⟩,?_⟩
  conv=>whnf
  have hd:doL s k o ⟨eth,1,eobj,-1,epc⟩=({ s with owner:=s.owner.set o.a.toNat ((k:Nat):Int) }.put k (zG t o),⟨eth,4,o.a,(-1),epc⟩):=by unfold doL;rw[hgd];simp[hc]
  rw[hd] at hK
  dsimp only at hK
  refine hK _ (.inl ⟨zG t o,s.ths,stk t,hk,rfl,hgj,uL t o,by simp[StL.put],⟨rfl,rfl,trivial⟩,⟨?_,?_,rfl,?_,?_,?_,?_,trivial⟩,⟨fun j=>?_,trivial⟩⟩)
  ·rw[show stRef _=stRef s by simp[stRef,StL.put]]
   conv=>lhs;whnf
   all_goals (
    refine congrArg some ?_
    repeat (refine xJ ?_ (xK i0 i1 i2 s rfl))
    all_goals rfl)
  ·rfl
  ·rfl
  ·conv=>lhs;whnf
   all_goals (
    refine congrArg (fun x=>some (Ob.rs 109 6 x)) ?_
    apply bO
    ·repeat (first|exact rfl|apply qQ hk|apply qP (fun _=>rfl))
    ·rfl)
  ·rfl
  ·conv=>lhs;whnf
   show some (Ob.ds 3 1 ((s.owner.map encInt).set (0+o.a.toNat) (encInt ((k:Nat):Int))))=some (Ob.ds 3 1 ((s.owner.set o.a.toNat ((k:Nat):Int)).map encInt))
   rw[Nat.zero_add,List.map_set]
  ·repeat (first|exact rfl|refine hscrO ?_ (hg _ _)|conv=>lhs;whnf)
 have n12:¬ o.code=12:=by simpa using hc
 clear hc
 conv=>whnf
 refine kbi (fun hc=>?_) (fun hc=>?_)
 ·have hc:o.code=13:=by simpa using hc
  have hr:=o3 (.inr hc)
  conv=>whnf
  refine .inr (.inl ⟨4,[],?_⟩)
  conv=>whnf
  refine⟨by kernel_rfl,?_⟩
  conv=>whnf
  refine .inr (.inl ⟨6,[],?_⟩)
  conv=>whnf
  refine⟨by kernel_rfl,?_⟩
  conv=>whnf
  refine⟨⟨by omega,by omega⟩,?_⟩
  conv=>whnf
  have hd:doL s k o ⟨eth,1,eobj,-1,epc⟩=({ s with owner:=s.owner.set o.a.toNat (-1) }.put k (zG t o),⟨eth,5,o.a,(-1),epc⟩):=by unfold doL;rw[hgd];simp[hc]
  rw[hd] at hK
  dsimp only at hK
  refine hK _ (.inl ⟨zG t o,s.ths,stk t,hk,rfl,hgj,uL t o,by simp[StL.put],⟨rfl,rfl,trivial⟩,⟨?_,?_,rfl,?_,?_,?_,?_,trivial⟩,⟨fun j=>?_,trivial⟩⟩)
  ·rw[show stRef _=stRef s by simp[stRef,StL.put]]
   conv=>lhs;whnf
   all_goals (
    refine congrArg some ?_
    repeat (refine xJ ?_ (xK i0 i1 i2 s rfl))
    all_goals rfl)
  ·rfl
  ·rfl
  ·conv=>lhs;whnf
   all_goals (
    refine congrArg (fun x=>some (Ob.rs 109 6 x)) ?_
    apply bO
    ·repeat (first|exact rfl|apply qQ hk|apply qP (fun _=>rfl))
    ·rfl)
  ·rfl
  ·conv=>lhs;whnf
   show some (Ob.ds 3 1 ((s.owner.map encInt).set (0+o.a.toNat) (encInt (-1))))=some (Ob.ds 3 1 ((s.owner.set o.a.toNat (-1)).map encInt))
   rw[Nat.zero_add,List.map_set]
  ·repeat (first|exact rfl|refine hscrO ?_ (hg _ _)|conv=>lhs;whnf)
 have n13:¬ o.code=13:=by simpa using hc
 clear hc
 conv=>whnf
 refine kbi (fun hc=>?_) (fun hc=>?_)
 ·have hc:o.code=14:=by simpa using hc
  conv=>whnf
  refine .inr (.inl ⟨7,[],?_⟩)
  conv=>whnf
  refine⟨by kernel_rfl,?_⟩
  conv=>whnf
  refine .inr (.inr (.inr ⟨[0],by kernel_rfl,12,[],?_⟩))
  conv=>whnf
  refine⟨xP (zG t o),⟨by repeat (first|exact yU hk|refine xX ?_ (xM rfl _)),by simp[xP]⟩,?_⟩
  conv=>whnf
  refine⟨by kernel_rfl,?_⟩
  conv=>whnf
  refine⟨⟨rfl,by rw[hpl];simp;omega,by rw[hpl];simp;omega⟩,?_⟩
  conv=>whnf
  refine .inr (.inr (.inr ⟨[0],by kernel_rfl,9,[2715],?_⟩))
  conv=>whnf
  refine⟨_,dO o.a,?_⟩
  conv=>whnf
  refine⟨by kernel_rfl,?_⟩
  conv=>whnf
  refine⟨⟨fun c hc'=>?_,?_,?_⟩,?_⟩
  ·have hc':c∈[[i64 o.a,i64 0,i64 1,i64 (-1),i64 (-1),AV.ref (.n 905) 0 0]]:=hc'
   simp only[List.mem_singleton] at hc'
   subst hc';rfl
  ·show(s.ths.length+1)*64≤_
   omega
  ·show s.ths.length+1≤_
   omega
  conv=>whnf
  have hd:doL s k o ⟨eth,1,eobj,-1,epc⟩=({ s with ths:=s.ths++[qV o.a] }.put k (zS (zG t o) (FloatKind.f64.nearest (s.ths.length:Int))),⟨eth,6,s.ths.length,(-1),epc⟩):=by unfold doL;rw[hgd];simp[hc]
  rw[hd] at hK
  dsimp only at hK
  refine hK _ (.inr ⟨s.ths,zS (zG t o) (FloatKind.f64.nearest (s.ths.length:Int)),o.a,hk,?_,hgj,⟨rfl,rfl,trivial⟩,⟨?_,rfl,rfl,?_,?_,rfl,rfl,rfl,trivial⟩,⟨fun j=>?_,trivial⟩⟩)
  ·simp[StL.put,List.set_append_left _ _ hk]
  ·conv=>lhs;whnf
   refine congrArg (fun x=>some (Ob.vs E x)) ?_
   refine spawn_vs3 i0 i1 i2 (s:=s) ?_ ?_ rfl rfl rfl
   ·conv=>lhs;whnf
    all_goals simp[StL.put]
   all_goals (
    repeat (refine hscrL ?_ (n0 i0 i1 i2 s rfl))
    all_goals rfl)
  ·conv=>lhs;whnf
   show some (Ob.ds 100 1 _)=some (Ob.ds 100 1 _)
   simp[stk,zS,zG,encF]
  ·conv=>lhs;whnf
   refine congrArg (fun x=>some (Ob.rs 109 6 x)) ?_
   refine spawn_rows rfl ?_ rfl rfl
   apply bO
   ·repeat (first|exact rfl|apply qQ hk|apply qP (fun _=>rfl))
   ·show[_,_,_,_,_,AV.ref (.n 899) 0 ((zG t o).stack.length+1)]=_
    simp[xP,zS]
    exact⟨rfl,rfl,rfl,rfl,rfl⟩
  ·repeat (first|exact rfl|refine hscrO ?_ (hg _ _)|conv=>lhs;whnf)
 have n14:¬ o.code=14:=by simpa using hc
 clear hc
 conv=>whnf
 refine kbi (fun hc=>?_) (fun hc=>?_)
 ·have hc:o.code=15:=by simpa using hc
  have htk:wN o=1:=by simp[wN,zC,hc]
  obtain⟨jj,hj1,hj2⟩:=hjo hc
  conv=>whnf
  refine .inr (.inl ⟨14,[],?_⟩)
  conv=>whnf
  refine⟨encF (xC t o 0),⟨by omega,qF o5 (by omega),by simp[encF]⟩,?_⟩
  conv=>whnf
  refine⟨_,hI _ _,?_⟩
  conv=>whnf
  refine⟨by kernel_rfl,?_⟩
  conv=>whnf
  have hd:doL s k o ⟨eth,1,eobj,-1,epc⟩=(s.put k (zG t o),⟨eth,7,(yC s t).getD (-1),(-1),epc⟩):=by unfold doL;rw[hgd];simp[hc]
  rw[hd] at hK
  dsimp only at hK
  refine hK _ (.inl ⟨zG t o,s.ths,stk t,hk,rfl,hgj,uL t o,by simp[StL.put],⟨rfl,rfl,trivial⟩,⟨?_,?_,rfl,?_,?_,?_,?_,trivial⟩,⟨fun j=>?_,trivial⟩⟩)
  ·rw[show stRef _=stRef s by simp[stRef,StL.put]]
   conv=>lhs;whnf
   all_goals (
    refine congrArg some ?_
    repeat (refine xJ ?_ (xK i0 i1 i2 s rfl))
    all_goals rfl)
  ·conv=>lhs;whnf
   show some (Ob.vs 107 [i64 eth,i64 7,i64 ((yV (xC t o 0) s.ths.length).getD 0),i64 (-1),i64 epc])=some (Ob.vs 107 [i64 eth,i64 7,i64 ((yC s t).getD (-1)),i64 (-1),i64 epc])
   rw[hj1,hj2]
   rfl
  ·rfl
  ·conv=>lhs;whnf
   all_goals (
    refine congrArg (fun x=>some (Ob.rs 109 6 x)) ?_
    apply bO
    ·repeat (first|exact rfl|apply qQ hk|apply qP (fun _=>rfl))
    ·rfl)
  ·rfl
  ·rfl
  ·repeat (first|exact rfl|refine hscrO ?_ (hg _ _)|conv=>lhs;whnf)
 have n15:¬ o.code=15:=by simpa using hc
 clear hc
 conv=>whnf
 refine kbi (fun hc=>?_) (fun hc=>?_)
 ·have hc:o.code=16:=by simpa using hc
  have hr:=o4 hc
  conv=>whnf
  refine .inr (.inl ⟨8,[],?_⟩)
  conv=>whnf
  refine⟨by kernel_rfl,?_⟩
  conv=>whnf
  refine .inr (.inl ⟨6,[],?_⟩)
  conv=>whnf
  refine⟨by kernel_rfl,?_⟩
  conv=>whnf
  refine⟨⟨by omega,by omega⟩,?_⟩
  conv=>whnf
  refine⟨xP (zG t o),⟨by repeat (first|exact yU hk|refine xX ?_ (xM rfl _)),by simp[xP]⟩,?_⟩
  conv=>whnf
  refine .inr (.inr (.inr ⟨[0,1,2],by kernel_rfl,by kernel_rfl,by kernel_rfl,13,[],?_⟩))
  conv=>whnf
  refine⟨by kernel_rfl,?_⟩
  conv=>whnf
  have hd:doL s k o ⟨eth,1,eobj,-1,epc⟩=({ s with owner:=s.owner.set o.b.toNat (-1) }.put k ({ zG t o with st:=3,cond:=o.a,lock:=o.b,pc:=(zG t o).pc - 1 }),⟨eth,8,o.a,o.b,epc⟩):=by unfold doL;rw[hgd];simp[hc]
  rw[hd] at hK
  dsimp only at hK
  refine hK _ (.inl ⟨({ zG t o with st:=3,cond:=o.a,lock:=o.b,pc:=(zG t o).pc - 1 }),s.ths,stk t,hk,rfl,hgj,uL t o,by simp[StL.put],⟨rfl,rfl,trivial⟩,⟨?_,?_,rfl,?_,?_,?_,?_,trivial⟩,⟨fun j=>?_,trivial⟩⟩)
  ·rw[show stRef _=stRef s by simp[stRef,StL.put]]
   conv=>lhs;whnf
   all_goals (
    refine congrArg some ?_
    repeat (refine xJ ?_ (xK i0 i1 i2 s rfl))
    all_goals rfl)
  ·rfl
  ·rfl
  ·conv=>lhs;whnf
   all_goals (
    refine congrArg (fun x=>some (Ob.rs 109 6 x)) ?_
    apply bO
    ·repeat (first|exact rfl|apply qQ hk|apply qP (fun _=>rfl))
    ·have ew:IntKind.i64.wrap (t.pc+1 - 1)=t.pc+1 - 1:=zM (by have:=hpc.1;omega) (by have:=hpc.2;omega)
     show[_,AV.d (.int .i64 (IntKind.i64.wrap (t.pc+1 - 1))),_,_,_,_]=_
     rw[ew]
     rfl)
  ·rfl
  ·conv=>lhs;whnf
   show some (Ob.ds 3 1 ((s.owner.map encInt).set (0+o.b.toNat) (encInt (-1))))=some (Ob.ds 3 1 ((s.owner.set o.b.toNat (-1)).map encInt))
   rw[Nat.zero_add,List.map_set]
  ·repeat (first|exact rfl|refine hscrO ?_ (hg _ _)|conv=>lhs;whnf)
 have n16:¬ o.code=16:=by simpa using hc
 clear hc
 conv=>whnf
 refine kbi (fun hc=>?_) (fun hc=>?_)
 ·have hc:o.code=17:=by simpa using hc
  have hcall:CallsTo EE 219 [sl ((s.ths.set k (zG t o)).map zD),.fn 222 [.fp (encOp o)]] (·=i64 (fixI (wO s.ths o.a))):=by
   rw[← wakeIx_set hk (t':=zG t o) o.a hst3 (by rw[ht0];exact hst3)]
   exact dU _ (by simp;omega) 222 _ (.inr ⟨_,rfl⟩) (fun t=>t.st==3&&t.cond==o.a) (fun u _=>r6 u o)
  conv=>whnf
  refine .inr (.inl ⟨4,[],?_⟩)
  conv=>whnf
  refine⟨by kernel_rfl,?_⟩
  conv=>whnf
  refine .inl ⟨[sl ((s.ths.set k (zG t o)).map zD),.fn 222 [.fp (encOp o)]],[],_,⟨_,_,rfl,⟨_,rfl,sJ (l:=s.ths) (k:=k) (t:=zG t o) (els:=stk t) hk ?_ ?_ ?_ (uL t o)⟩,_,_,rfl,rfl,rfl⟩,rfl,hcall,?_⟩
  ·conv=>lhs;whnf
   refine congrArg (fun x=>some (Ob.rs 109 6 x)) ?_
   repeat (first|exact rfl|refine dY ?_ rfl (fun _=>rfl))
  ·intro j hj hjl
   refine Eq.trans (b:=g j) ?_ ((hgj j hj).trans (by simp[zP,hjl]))
   repeat (first|exact rfl|refine hscrO ?_ (hg _ _)|conv=>lhs;whnf)
  ·rfl
  rintro r rfl
  refine⟨rfl,?_⟩
  cases hwk:wO s.ths o.a with
  |none =>
   conv=>whnf
   refine kbi (fun hw=>?_) (fun hw=>?_)
   ·simp[fixI] at hw
   conv=>whnf
   have hd:doL s k o ⟨eth,1,eobj,-1,epc⟩=(s.put k (zG t o),⟨eth,10,o.a,(-1),epc⟩):=by unfold doL;rw[hgd];simp[hc,hwk]
   rw[hd] at hK
   dsimp only at hK
   refine hK _ (.inl ⟨zG t o,s.ths,stk t,hk,rfl,hgj,uL t o,by simp[StL.put],⟨rfl,rfl,trivial⟩,⟨?_,?_,rfl,?_,?_,?_,?_,trivial⟩,⟨fun j=>?_,trivial⟩⟩)
   ·rw[show stRef _=stRef s by simp[stRef,StL.put]]
    conv=>lhs;whnf
    all_goals (
     refine congrArg some ?_
     repeat (refine xJ ?_ (xK i0 i1 i2 s rfl))
     all_goals rfl)
   ·rfl
   ·rfl
   ·conv=>lhs;whnf
    all_goals (
     refine congrArg (fun x=>some (Ob.rs 109 6 x)) ?_
     apply bO
     ·repeat (first|exact rfl|apply qQ hk|apply qP (fun _=>rfl))
     ·rfl)
   ·rfl
   ·rfl
   ·repeat (first|exact rfl|refine hscrO ?_ (hg _ _)|conv=>lhs;whnf)
  |some j =>
   obtain⟨hjl,hj3,hjc⟩:=m9 hwk
   have hjk:j≠k:=by
    rintro rfl
    rw[ht0] at hj3;exact hst3 hj3
   conv=>whnf
   refine kbi (fun hw=>?_) (fun hw=>?_)
   rotate_left 1
   ·simp[fixI] at hw
   conv=>whnf
   refine .inr (.inl ⟨6,[],?_⟩)
   conv=>whnf
   have hd:doL s k o ⟨eth,1,eobj,-1,epc⟩=({ s with ths:=s.ths.modify j fun u=>{ u with st:=4 } }.put k (zG t o),⟨eth,10,o.a,j,epc⟩):=by unfold doL;rw[hgd];simp[hc,hwk]
   rw[hd] at hK
   dsimp only at hK
   refine⟨by kernel_rfl,?_⟩
   conv=>whnf
   refine⟨⟨by show(0:Int)≤(j:Int);omega,by show(j:Int)<s.ths.length;omega⟩,?_⟩
   conv=>whnf
   refine hK _ (.inl ⟨zG t o,s.ths.modify j fun u=>{ u with st:=4 },stk t,by simpa using hk,rfl,fun i hi=>(hgj i hi).trans (thFam_wake i).symm,uL t o,by simp[StL.put],⟨rfl,rfl,trivial⟩,⟨?_,?_,rfl,?_,?_,?_,?_,trivial⟩,⟨fun j=>?_,trivial⟩⟩)
   ·rw[show stRef _=stRef s by simp[stRef,StL.put]]
    conv=>lhs;whnf
    all_goals (
     refine congrArg some ?_
     repeat (refine xJ ?_ (xK i0 i1 i2 s rfl))
     all_goals rfl)
   ·rfl
   ·rfl
   ·conv=>lhs;whnf
    all_goals (
     refine congrArg (fun x=>some (Ob.rs 109 6 x)) ?_
     refine rowsA_wake hjl hjk ?_
     repeat (first|exact rfl|refine dY ?_ rfl (fun _=>rfl)))
   ·rfl
   ·rfl
   ·repeat (first|exact rfl|refine hscrO ?_ (hg _ _)|conv=>lhs;whnf)
 have n17:¬ o.code=17:=by simpa using hc
 clear hc
 conv=>whnf
 have hcode:4≤o.code∧o.code≤9:=by have:=o1.1;have:=o1.2;omega
 have htk:wN o=2:=by simp only[wN,zC];rw[if_neg (by omega),if_neg (by omega),if_pos hcode];rfl
 refine .inr (.inr (.inr ⟨[0],by kernel_rfl,15,[],?_⟩))
 conv=>whnf
 refine⟨xP (zG t o),⟨by repeat (first|exact yU hk|refine xX ?_ (xM rfl _)),by simp[xP]⟩,?_⟩
 conv=>whnf
 refine⟨encF (xC t o 0),⟨by omega,qF o5 (by omega),by simp[encF]⟩,?_⟩
 conv=>whnf
 refine⟨encF (xC t o 1),⟨by omega,qF o5 (by omega),by simp[encF]⟩,?_⟩
 conv=>whnf
 refine⟨_,worked_ok _ _ _ hcode (oY hfl) (oY hfl),?_⟩
 conv=>whnf
 refine⟨by kernel_rfl,?_⟩
 conv=>whnf
 refine⟨⟨rfl,by rw[hpl];simp;omega,by rw[hpl];simp;omega⟩,?_⟩
 conv=>whnf
 have hd:doL s k o ⟨eth,1,eobj,-1,epc⟩=(s.put k (zS (zG t o) (yP o.code (xC t o 0) (xC t o 1))),⟨eth,1,eobj,-1,epc⟩):=by unfold doL;rw[hgd];simp[n1,n2,n3,n10,n11,n12,n13,n14,n15,n16,n17]
 rw[hd] at hK
 dsimp only at hK
 refine hK _ (.inl ⟨zS (zG t o) (yP o.code (xC t o 0) (xC t o 1)),s.ths,stk (zS (zG t o) (yP o.code (xC t o 0) (xC t o 1))),hk,rfl,hgj,lI _,by simp[StL.put],⟨rfl,rfl,trivial⟩,⟨?_,?_,rfl,?_,?_,?_,?_,trivial⟩,⟨fun j=>?_,trivial⟩⟩)
 ·rw[show stRef _=stRef s by simp[stRef,StL.put]]
  conv=>lhs;whnf
  all_goals (
   refine congrArg some ?_
   repeat (refine xJ ?_ (xK i0 i1 i2 s rfl))
   all_goals rfl)
 ·rfl
 ·conv=>lhs;whnf
  show some (Ob.ds 100 1 _)=some (Ob.ds 100 1 _)
  simp[stk,zS,zG,encF]
 ·conv=>lhs;whnf
  all_goals (
   refine congrArg (fun x=>some (Ob.rs 109 6 x)) ?_
   apply bO
   ·repeat (first|exact rfl|apply qQ hk|apply qP (fun _=>rfl))
   ·show[_,_,_,_,_,AV.ref (.n 899) 0 ((zG t o).stack.length+1)]=_
    simp[xP,zS]
    exact⟨rfl,rfl,rfl,rfl,rfl⟩)
 ·rfl
 ·rfl
 ·repeat (first|exact rfl|refine hscrO ?_ (hg _ _)|conv=>lhs;whnf)
end Ai
namespace Ai
set_option maxRecDepth 100000
open Go Go.Proofs
def InertL (pre:List AV):Prop:=∀ x∈pre,Inert x
theorem gN:∀ {pre:List AV},InertL pre→∀ p,scrPL p pre=pre
 | [],_,p=>rfl
 |x::xs,h,p=>by simp only[scrPL];rw[(h x List.mem_cons_self).scr,gN (fun y hy=>h y (List.mem_cons_of_mem _ hy))]
theorem inertL_ren:∀ {pre:List AV},InertL pre→∀ f,renL f pre=pre
 | [],_,f=>rfl
 |x::xs,h,f=>by simp only[renL];rw[(h x List.mem_cons_self).ren,inertL_ren (fun y hy=>h y (List.mem_cons_of_mem _ hy))]
theorem tT:∀ {pre:List AV},InertL pre→∀ κ q,jR κ q pre=pre
 | [],_,κ,q=>rfl
 |x::xs,h,κ,q=>by simp only[jR];rw[(h x List.mem_cons_self).cut,tT (fun y hy=>h y (List.mem_cons_of_mem _ hy))]
theorem bW (p:Key→Bool):∀ a b:List AV,scrPL p (a++b)=scrPL p a++scrPL p b
 | [],b=>rfl
 |x::a,b=>by simp only[List.cons_append,scrPL];rw[bW p a b]
theorem renL_app (f:Key→Key):∀ a b:List AV,renL f (a++b)=renL f a++renL f b
 | [],b=>rfl
 |x::a,b=>by simp only[List.cons_append,renL];rw[renL_app f a b]
theorem cutL_app (κ:Key) (q:Nat):∀ a b:List AV,jR κ q (a++b)=jR κ q a++jR κ q b
 | [],b=>rfl
 |x::a,b=>by simp only[List.cons_append,jR];rw[cutL_app κ q a b]
def vB:Key→Bool
 | .n k=>Nat.beq k 899 || Nat.beq k 900 || Nat.beq k 901 || Nat.beq k 902
 | .s o _=>Nat.beq o 900
 | .l k=>Nat.beq k 0
def stHA (E:TypeId) (pre:List AV) (s:StL) (k:Nat) (t:Th):Key→Option Ob
 | .l j=>bif Nat.beq j 0 then some (.vs E (pre++stRef s)) else none
 | .n j=>bif Nat.beq j 899 then some (.ds 100 1 (stk t)) else bif Nat.beq j 900 then some (.rs 109 6 (rowsA s.ths k t)) else bif Nat.beq j 901 then some (.ds 100 1 (s.cells.map encF)) else bif Nat.beq j 902 then some (.ds 3 1 (s.owner.map encInt)) else none
 | .s o j=>bif Nat.beq o 900 then (bif Nat.beq j k then none else zP s.ths j) else none
def stHC (E:TypeId) (pre:List AV) (s:StL):Key→Option Ob
 | .l j=>bif Nat.beq j 0 then some (.vs E (pre++stRef s)) else none
 | .n j=>bif Nat.beq j 900 then some (.rs 109 6 (thRows 900 s.ths)) else bif Nat.beq j 901 then some (.ds 100 1 (s.cells.map encF)) else bif Nat.beq j 902 then some (.ds 3 1 (s.owner.map encInt)) else none
 | .s o j=>bif Nat.beq o 900 then zP s.ths j else none
theorem thRows_set {l:List Th} {k:Nat} {t:Th} (hk:k<l.length):thRows 900 (l.set k t)=(thRows 900 l).set k (thRow 900 k t):=by
 apply List.ext_getElem?
 intro i
 rw[uB,List.getElem?_set,List.getElem?_set]
 by_cases h:k=i
 ·subst h
  simp[hk,zR]
 ·simp[h,uB]
theorem nH {l:List Th} {k:Nat} {t u:Th} (hk:k<l.length):rowsA (l.set k u) k t=rowsA l k t:=by
 unfold rowsA
 rw[thRows_set hk,List.set_set]
theorem thFam_ge {l:List Th} {j:Nat} (h:l.length≤j):zP l j=none:=by
 unfold zP;rw[List.getElem?_eq_none h];rfl
theorem nD {l:List Th} {k j:Nat} {t:Th} (h:j≠k):zP (l.set k t) j=zP l j:=by
 unfold zP;rw[List.getElem?_set_ne (Ne.symm h)]
theorem thFam_self {l:List Th} {k:Nat} (h:k<l.length):zP l k=some (.ds 100 1 (stk l[k])):=by
 unfold zP;rw[List.getElem?_eq_getElem h];rfl
theorem rows_cut {l:List Th} {k:Nat} {t:Th}:(rowsA l k t).map (jR (.n 899) t.stack.length)=rowsA l k t:=by
 unfold rowsA
 rw[List.map_set]
 congr 1
 ·apply List.ext_getElem?
  intro i
  rw[List.getElem?_map,uB]
  cases l[i]? with
  |none=>rfl
  |some u=>rfl
 ·have:Nat.ble (0+t.stack.length) t.stack.length=true:=by rw[Nat.zero_add,Nat.ble_eq];exact Nat.le_refl _
  show[_,_,_,_,_,(bif Nat.ble (0+t.stack.length) t.stack.length then AV.ref (.n 899) 0 t.stack.length else .junk)]=_
  rw[this];rfl
theorem stRef_cut (s:StL) (q:Nat):jR (.n 899) q (stRef s)=stRef s:=rfl
theorem eK (s:StL):scrPL (fun o=>!vB o) (stRef s)=stRef s:=rfl
def doIPost (E:TypeId) (pre:List AV) (k:Nat) (s':StL) (e':Ev) (r:AV) (H1:Key→Option Ob):Prop :=
 r=agg (encEv e')∧∃ (h:k<s'.ths.length),H1=stHA E pre s' k s'.ths[k]
theorem doI_fin (E:TypeId) (pre:List AV) (hp:InertL pre) (g:Nat→Option Ob) (k:Nat) (hg:∀ p j,(g j).map (scrPO p)=g j) (hgc:∀ q j,(g j).map (cutO (.n 899) q)=g j) (hgk:g k=none) (s':StL) (e':Ev) (S:St) (t':Th) (h:DoIE E pre g k s' t' e' S) :
  AW EE Tryz.f176.ntmps (dropC 8 (Tryz.f176.body.getD .skip)) (retIO EE Tryz.f176 (doIPost E pre k s' e')) S:=by
 obtain⟨l',els,hk,hths,hgj,hels,hlen,hat⟩:=h
 obtain⟨τ,H,rfl⟩:=hat.form
 conv=>whnf
 refine⟨_,weak_cut (.n 899) t'.stack.length (e:=100) (sz:=1) (els:=els) ?_,?_⟩
 ·rfl
 conv=>whnf
 refine⟨vB,?_,?_⟩
 ·rfl
 have hk':k<s'.ths.length:=by rw[hths];simpa using hk
 have htk:s'.ths[k]=t':=by simp[hths]
 refine⟨hk',?_⟩
 rw[htk]
 funext κ
 cases κ with
 |l j =>
  by_cases h:j=0
  ·subst h
   show some (Ob.vs E (scrPL _ (jR _ _ (pre++stRef s'))))=some (Ob.vs E (pre++stRef s'))
   rw[cutL_app,tT hp,stRef_cut,bW,gN hp,eK]
  ·simp[yS,vB,stHA,nbeq_ne h]
 |n j =>
  by_cases h1:j=899
  ·subst h1
   show some (Ob.ds 100 1 (els.take t'.stack.length))=some (Ob.ds 100 1 (stk t'))
   rw[hels]
  by_cases h2:j=900
  ·subst h2
   show some (Ob.rs 109 6 (((rowsA l' k t').map (jR (.n 899) t'.stack.length)).map (scrPL fun o=>!vB o)))=some (Ob.rs 109 6 (rowsA s'.ths k t'))
   rw[rows_cut,hths,nH hk]
   exact congrArg (fun x=>some (Ob.rs 109 6 x)) (uW rfl (fun _=>rfl) _ _ _)
  by_cases h3:j=901
  ·subst h3;rfl
  by_cases h4:j=902
  ·subst h4;rfl
  simp[yS,vB,stHA,nbeq_ne h1,nbeq_ne h2,nbeq_ne h3,nbeq_ne h4]
 |s o j =>
  by_cases h:o=900
  ·subst h
   show((g j).map (cutO (.n 899) t'.stack.length)).map (scrPO fun o=>!vB o)=bif Nat.beq j k then none else zP s'.ths j
   rw[hgc,hg]
   by_cases hj:j=k
   ·subst hj;rw[nbeq_self,hgk];rfl
   ·rw[nbeq_ne hj,hgj j hj,hths,nD hj];rfl
  ·simp[yS,vB,stHA,nbeq_ne h]
theorem rowsA_app {l:List Th} {k:Nat} {t u:Th} (hk:k<l.length):rowsA (l++[u]) k t=rowsA l k t++[thRow 900 l.length u]:=by
 unfold rowsA
 have:thRows 900 (l++[u])=thRows 900 l++[thRow 900 l.length u]:=by
  apply List.ext_getElem?
  intro i
  rw[uB]
  by_cases h:i<l.length
  ·rw[List.getElem?_append_left h,List.getElem?_append_left (by rw[zR];exact h),uB]
  ·rw[List.getElem?_append_right (by omega),List.getElem?_append_right (by rw[zR];omega),zR]
   by_cases h2:i - l.length=0
   ·have:i=l.length:=by omega
    subst this
    simp
   ·rw[List.getElem?_eq_none (by simp;omega),List.getElem?_eq_none (by simp;omega)];rfl
 rw[this,List.set_append_left _ _ (by rw[zR];exact hk)]
theorem rowsA_ren {l:List Th} {k:Nat} {t:Th}:(rowsA l k t).map (renL (swp (.n 905) (.s 900 l.length)))=rowsA l k t:=by
 unfold rowsA
 rw[List.map_set,dW (Nat.le_refl _)]
 rfl
theorem thFam_app {l:List Th} {u:Th} {j:Nat}:zP (l++[u]) j=bif Nat.beq j l.length then some (.ds 100 1 (stk u)) else zP l j:=by
 unfold zP
 by_cases h:j=l.length
 ·subst h;rw[nbeq_self];simp
 ·rw[nbeq_ne h]
  by_cases h2:j<l.length
  ·rw[List.getElem?_append_left h2];rfl
  ·rw[List.getElem?_eq_none (by simp;omega),List.getElem?_eq_none (by omega)];rfl
theorem doI_finF (E:TypeId) (pre:List AV) (hp:InertL pre) (g:Nat→Option Ob) (k:Nat) (hg:∀ p j,(g j).map (scrPO p)=g j) (hgr:∀ f j,(g j).map (renO f)=g j) (hgk:g k=none) (s':StL) (e':Ev) (S:St) (l':List Th) (t':Th) (r:Int) (h:DoIF E pre g k s' l' t' r e' S) :
  AW EE Tryz.f176.ntmps (dropC 8 (Tryz.f176.body.getD .skip)) (retIO EE Tryz.f176 (doIPost E pre k s' e')) S:=by
 obtain⟨hk,hths,hgj,hat⟩:=h
 obtain⟨τ,H,rfl⟩:=hat.form
 conv=>whnf
 refine⟨_,kJ 905 900 l'.length,?_⟩
 conv=>whnf
 refine⟨vB,?_,?_⟩
 ·rfl
 have hk':k<s'.ths.length:=by rw[hths];simp;omega
 have htk:s'.ths[k]=t':=by
  have:s'.ths[k]?=some t':=by rw[hths,List.getElem?_append_left (by simpa using hk)];simp[hk]
  rw[List.getElem?_eq_getElem hk'] at this
  exact Option.some.inj this
 refine⟨hk',?_⟩
 rw[htk]
 have hnk:l'.length≠k:=by omega
 funext κ
 cases κ with
 |l j =>
  by_cases h:j=0
  ·subst h
   show some (Ob.vs E (scrPL _ (renL _ (pre++stRef s'))))=some (Ob.vs E (pre++stRef s'))
   rw[renL_app,inertL_ren hp,bW,gN hp]
   rfl
  ·simp[yS,vB,stHA,nbeq_ne h]
 |n j =>
  by_cases h1:j=899
  ·subst h1;rfl
  by_cases h2:j=900
  ·subst h2
   show some (Ob.rs 109 6 (((rowsA l' k t'++[_]).map (renL (swp (.n 905) (.s 900 l'.length)))).map (scrPL fun o=>!vB o)))=some (Ob.rs 109 6 (rowsA s'.ths k t'))
   rw[hths,rowsA_app (by simpa using hk),nH hk,List.map_append,rowsA_ren,List.map_append,uW rfl (fun _=>rfl),List.length_set]
   rfl
  by_cases h3:j=901
  ·subst h3;rfl
  by_cases h4:j=902
  ·subst h4;rfl
  simp[yS,vB,stHA,nbeq_ne h1,nbeq_ne h2,nbeq_ne h3,nbeq_ne h4]
 |s o j =>
  by_cases h:o=900
  ·subst h
   rw[show stHA E pre s' k t' (.s 900 j)=(bif Nat.beq j k then none else zP s'.ths j) from rfl,hths,thFam_app,List.length_set]
   by_cases hjn:j=l'.length
   ·subst hjn
    rw[nbeq_ne hnk,nbeq_self]
    have e:swp (.n 905) (.s 900 l'.length) (.s 900 l'.length)=.n 905:=by simp[swp,Key.beq,nbeq_self]
    simp only[yS,St.swap,e]
    rfl
   ·have e:swp (.n 905) (.s 900 l'.length) (.s 900 j)=.s 900 j:=by simp[swp,Key.beq,nbeq_ne hjn]
    rw[nbeq_ne hjn]
    simp only[yS,St.swap,e]
    show(((g j).map (renO _)).map (scrPO fun o=>!vB o))=bif Nat.beq j k then none else zP (l'.set k t') j
    rw[hgr,hg]
    by_cases hj:j=k
    ·subst hj;rw[nbeq_self,hgk];rfl
    ·rw[nbeq_ne hj,hgj j hj,nD hj];rfl
  ·simp[yS,vB,stHA,nbeq_ne h]
end Ai
namespace Ai
set_option maxRecDepth 100000
open Go Go.Proofs
def fam0 (l:List Th) (k:Nat) (j:Nat):Option Ob:=bif Nat.beq j k then none else zP l j
theorem vK (l:List Th) (k:Nat) (p:Key→Bool) (j:Nat):(fam0 l k j).map (scrPO p)=fam0 l k j:=by
 unfold fam0;cases Nat.beq j k
 ·exact yE p l j
 ·rfl
theorem cH (l:List Th) (k:Nat) (p:Key→Key) (j:Nat):(fam0 l k j).map (renO p)=fam0 l k j:=by
 unfold fam0;cases Nat.beq j k
 ·exact thFam_ren p l j
 ·rfl
theorem fam0_cut (l:List Th) (k:Nat) (κ:Key) (q j:Nat):(fam0 l k j).map (cutO κ q)=fam0 l k j:=by
 unfold fam0;cases Nat.beq j k
 ·show(zP l j).map _=zP l j
  unfold zP;cases l[j]? <;> rfl
 ·rfl
theorem doI_okA (hI:yX) (E:TypeId) (x0 x1 x2:AV) (i0:Inert x0) (i1:Inert x1) (i2:Inert x2) (s:StL) (k:Nat) (o:OpL) (e:Ev) (hk:k<s.ths.length) (h5:s.ths.length≤5)
  (hs:s.small) (ho:o.fits s s.ths[k]) (hpc:InR s.ths[k].pc 0 1048576) (hst3:s.ths[k].st≠3) (he:e.kind=1) (hel:e.lock=-1) (hfl:∀ x∈s.ths[k].stack,x<18446744073709551616) (hjo:o.code=15→∃ j,yV (xC s.ths[k] o 0) s.ths.length=some j∧yC s s.ths[k]=some j)
  (H0:Key→Option Ob) (h0:H0 (.l 0)=some (.vs E ([x0,x1,x2]++stRef s))) (h1:H0 (.n 899)=some (.ds 100 1 (stk s.ths[k]))) (h2:H0 (.n 900)=some (.rs 109 6 (rowsA s.ths k s.ths[k]))) (h3:∀ j,H0 (.s 900 j)=fam0 s.ths k j)
  (h4:H0 (.n 901)=some (.ds 100 1 (s.cells.map encF))) (h6:H0 (.n 902)=some (.ds 3 1 (s.owner.map encInt))) :
  IOCall EE 176 [.ptr (.l 0) 3,i64 k,agg (encOp o),agg (encEv e)] H0 (doIPost E [x0,x1,x2] k (doL s k o e).1 (doL s k o e).2):=by
 refine fZ (fn:=Tryz.f176) (c:=Tryz.f176.body.getD .skip) Tryz.func176 rfl (by kernel_rfl) rfl ?_
 have hat:At [(0,.ptr (.l 0) 3),(1,i64 k),(2,agg (encOp o)),(3,agg (encEv e))] [(.l 0,.vs E ([x0,x1,x2]++stRef s)),(.n 899,.ds 100 1 (stk s.ths[k])),(.n 900,.rs 109 6 (rowsA s.ths k s.ths[k])),(.n 901,.ds 100 1 (s.cells.map encF)),(.n 902,.ds 3 1 (s.owner.map encInt))] [(900,fam0 s.ths k)]
   ⟨fun i=>[AV.ptr (.l 0) 3,i64 k,agg (encOp o),agg (encEv e)].getD i .junk,H0⟩ :=
  ⟨⟨rfl,rfl,rfl,rfl,trivial⟩,⟨h0,h1,h2,h4,h6,trivial⟩,⟨h3,trivial⟩⟩
 obtain⟨τ,H,hf⟩:=hat.form
 rw[hf]
 have hst:=hs.2.1 _ (List.getElem_mem hk)
 have hgk:fam0 s.ths k k=none:=by unfold fam0;rw[nbeq_self];rfl
 refine m5 7 (At (doI1 3 k o s.ths[k]) (doIO E [x0,x1,x2] s k o e s.ths[k] (zG s.ths[k] o)) [(900,fam0 s.ths k)]) (fun K hK=>doI_preB E x0 x1 x2 i0 i1 i2 (fam0 s.ths k) (vK _ _) s k o e hk s.ths[k] ho.2.2.2.2 hst hpc τ H _ K hK) (fun S hS=>?_)
 refine m5 1 (DoI2 E [x0,x1,x2] (fam0 s.ths k) k (doL s k o e).1 (doL s k o e).2) (fun K hK=>doI_swB hI E x0 x1 x2 i0 i1 i2 (fam0 s.ths k) (vK _ _) s k o e hk h5 (fun j hj=>by unfold fam0;rw[nbeq_ne hj];rfl) hs ho hpc hst3 he hel hfl hjo _ K S hS hK) (fun S' hS'=>?_)
 have hp:InertL [x0,x1,x2]:=by
  intro x hx
  simp only[List.mem_cons,List.not_mem_nil,or_false] at hx
  rcases hx with rfl|rfl|rfl <;> assumption
 rcases hS' with ⟨t',h⟩|⟨l',t',r,h⟩
 ·exact doI_fin E _ hp _ k (vK _ _) (fam0_cut _ _ _) hgk _ _ S' t' h
 ·exact doI_finF E _ hp _ k (vK _ _) (cH _ _) hgk _ _ S' l' t' r h
theorem rowsA_sw {l:List Th} {k:Nat} (hk:k<l.length):(thRows 900 l).map (renL (swp (.n 899) (.s 900 k)))=rowsA l k l[k]:=by
 apply List.ext_getElem?
 intro i
 rw[List.getElem?_map,uB]
 by_cases h:i=k
 ·subst h
  have e:swp (.n 899) (.s 900 i) (.s 900 i)=.n 899:=by simp[swp,Key.beq,nbeq_self]
  have:(rowsA l i l[i])[i]?=some (xP l[i]):=yU hk
  rw[this,List.getElem?_eq_getElem hk]
  simp[thRow,xP,renL,ren,e]
 ·rw[rowsA_ne h,uB]
  cases hl:l[i]? with
  |none=>rfl
  |some u=>simp[nC (a:=899) (o:=900) h]
theorem rowsA_back {l:List Th} {k:Nat} (hk:k<l.length):(rowsA l k l[k]).map (renL (swp (.n 899) (.s 900 k)))=thRows 900 l:=by
 rw[← rowsA_sw hk,List.map_map]
 conv=>rhs;rw[← List.map_id (thRows 900 l)]
 apply List.map_congr_left
 intro c hc
 exact uX _ _ c fun c _=>ren_ren _ _ c
theorem stRef_ren (s:StL) (k:Nat):renL (swp (.n 899) (.s 900 k)) (stRef s)=stRef s:=rfl
theorem swH_stHA {E:TypeId} {pre:List AV} (hp:InertL pre) {s:StL} {k:Nat} (hk:k<s.ths.length):swH (.n 899) (.s 900 k) (stHA E pre s k s.ths[k])=stHC E pre s:=by
 funext κ
 cases κ with
 |l j =>
  have e:swp (.n 899) (.s 900 k) (.l j)=.l j:=rfl
  by_cases h:j=0
  ·subst h
   simp only[swH,e]
   show some (Ob.vs E (renL _ (pre++stRef s)))=some (Ob.vs E (pre++stRef s))
   rw[renL_app,inertL_ren hp,stRef_ren]
  ·simp[swH,e,stHA,stHC,nbeq_ne h]
 |n j =>
  by_cases h1:j=899
  ·subst h1
   have e:swp (.n 899) (.s 900 k) (.n 899)=.s 900 k:=rfl
   simp only[swH,e]
   show(bif Nat.beq k k then none else zP s.ths k).map _=none
   rw[nbeq_self];rfl
  have e:swp (.n 899) (.s 900 k) (.n j)=.n j:=by simp[swp,Key.beq,nbeq_ne h1]
  simp only[swH,e]
  by_cases h2:j=900
  ·subst h2
   show some (Ob.rs 109 6 ((rowsA s.ths k s.ths[k]).map (renL (swp (.n 899) (.s 900 k)))))=some (Ob.rs 109 6 (thRows 900 s.ths))
   rw[rowsA_back hk]
  by_cases h3:j=901
  ·subst h3;rfl
  by_cases h4:j=902
  ·subst h4;rfl
  simp[stHA,stHC,nbeq_ne h1,nbeq_ne h2,nbeq_ne h3,nbeq_ne h4]
 |s o j =>
  by_cases h:o=900
  ·subst h
   by_cases hj:j=k
   ·subst hj
    have e:swp (.n 899) (.s 900 j) (.s 900 j)=.n 899:=by simp[swp,Key.beq,nbeq_self]
    simp only[swH,e]
    show some (Ob.ds 100 1 (stk s.ths[j]))=zP s.ths j
    rw[thFam_self hk]
   ·have e:swp (.n 899) (.s 900 k) (.s 900 j)=.s 900 j:=by simp[swp,Key.beq,nbeq_ne hj]
    simp only[swH,e]
    show(bif Nat.beq j k then none else zP s.ths j).map _=zP s.ths j
    rw[nbeq_ne hj]
    exact thFam_ren _ _ _
  ·have e:swp (.n 899) (.s 900 k) (.s o j)=.s o j:=by simp[swp,Key.beq,nbeq_ne h]
   simp[swH,e,stHA,stHC,nbeq_ne h]
def AtC (E:TypeId) (pre:List AV) (s:StL) (H0:Key→Option Ob):Prop :=
 H0 (.l 0)=some (.vs E (pre++stRef s))∧H0 (.n 899)=none∧H0 (.n 900)=some (.rs 109 6 (thRows 900 s.ths))∧(∀ j,H0 (.s 900 j)=zP s.ths j)∧H0 (.n 901)=some (.ds 100 1 (s.cells.map encF))∧H0 (.n 902)=some (.ds 3 1 (s.owner.map encInt))
theorem IOCall.mono {E:Env} {g:FuncId} {xs:List AV} {H0:Key→Option Ob} {Post Post':AV→(Key→Option Ob)→Prop} (h:IOCall E g xs H0 Post) (hp:∀ r H1,Post r H1→Post' r H1):IOCall E g xs H0 Post':=by
 intro w0 A m w vs hH hl hrel
 refine(h w0 A m w vs hH hl hrel).mono ?_
 rintro v w' ⟨r,H1,m1,h1,h2,h3⟩
 exact⟨r,H1,m1,hp r H1 h1,h2,h3⟩
end Ai
namespace Ai
set_option maxRecDepth 100000
open Go Go.Proofs
theorem dB {S:St} {E:TypeId} {pre:List AV} (hp:InertL pre) {s':StL} {l:List Th} {k:Nat} {t':Th} (hk:k<l.length) (hl:s'.ths=l.set k t') (h0:S.H (.l 0)=some (.vs E (pre++stRef s'))) (h1:S.H (.n 899)=some (.ds 100 1 (stk t')))
  (h2:S.H (.n 900)=some (.rs 109 6 (rowsA l k t'))) (h3:∀ j,S.H (.s 900 j)=fam0 l k j) (h4:S.H (.n 901)=some (.ds 100 1 (s'.cells.map encF))) (h6:S.H (.n 902)=some (.ds 3 1 (s'.owner.map encInt))) :
  ∃ (h:k<s'.ths.length),yS vB S.H=stHA E pre s' k s'.ths[k]:=by
 have hk':k<s'.ths.length:=by rw[hl];simpa using hk
 refine⟨hk',?_⟩
 have htk:s'.ths[k]=t':=by simp[hl]
 rw[htk]
 funext κ
 cases κ with
 |l j =>
  by_cases h:j=0
  ·subst h
   show(S.H (.l 0)).map _=_
   rw[h0]
   show some (Ob.vs E (scrPL _ (pre++stRef s')))=some (Ob.vs E (pre++stRef s'))
   rw[bW,gN hp,eK]
  ·simp[yS,vB,stHA,nbeq_ne h]
 |n j =>
  by_cases e1:j=899
  ·subst e1
   show(S.H (.n 899)).map _=_
   rw[h1];rfl
  by_cases e2:j=900
  ·subst e2
   show(S.H (.n 900)).map _=_
   rw[h2]
   show some (Ob.rs 109 6 ((rowsA l k t').map (scrPL fun o=>!vB o)))=some (Ob.rs 109 6 (rowsA s'.ths k t'))
   rw[hl,nH hk]
   exact congrArg (fun x=>some (Ob.rs 109 6 x)) (uW rfl (fun _=>rfl) _ _ _)
  by_cases e3:j=901
  ·subst e3
   show(S.H (.n 901)).map _=_
   rw[h4];rfl
  by_cases e4:j=902
  ·subst e4
   show(S.H (.n 902)).map _=_
   rw[h6];rfl
  simp[yS,vB,stHA,nbeq_ne e1,nbeq_ne e2,nbeq_ne e3,nbeq_ne e4]
 |s o j =>
  by_cases h:o=900
  ·subst h
   show(S.H (.s 900 j)).map _=bif Nat.beq j k then none else zP s'.ths j
   rw[h3,vK]
   by_cases hj:j=k
   ·subst hj;simp[fam0,nbeq_self]
   ·unfold fam0;rw[nbeq_ne hj,hl,nD hj]
  ·simp[yS,vB,stHA,nbeq_ne h]
theorem stHA_none {E:TypeId} {pre:List AV} {s:StL} {k:Nat} {t:Th}:∀ κ,vB κ=false→stHA E pre s k t κ=none
 | .l j,h=>by have h:Nat.beq j 0=false:=h;simp[stHA,h]
 | .n j,h=>by
  have h:(Nat.beq j 899 || Nat.beq j 900 || Nat.beq j 901 || Nat.beq j 902)=false:=h
  simp only[Bool.or_eq_false_iff] at h
  simp[stHA,h.1.1.1,h.1.1.2,h.1.2,h.2]
 | .s o j,h=>by have h:Nat.beq o 900=false:=h;simp[stHA,h]
theorem vs_ren {E:TypeId} {pre:List AV} (hp:InertL pre) (s:StL):renO (swp (.n 999) (.l 99)) (.vs E (pre++stRef s))=.vs E (pre++stRef s):=by
 show Ob.vs E (renL _ (pre++stRef s))=_
 rw[renL_app,inertL_ren hp]
 rfl
theorem sX (l:List Th) (k:Nat) (t:Th):renO (swp (.n 999) (.l 99)) (.rs 109 6 (rowsA l k t))=.rs 109 6 (rowsA l k t):=by
 show Ob.rs 109 6 ((rowsA l k t).map (renL _))=_
 unfold rowsA
 rw[List.map_set,jY]
 rfl
theorem sW {p:Key→Bool} (h1:p (.n 899)=false) (h2:∀ j,p (.s 900 j)=false) (l:List Th) (k:Nat) (t:Th):scrPO p (.rs 109 6 (rowsA l k t))=.rs 109 6 (rowsA l k t):=congrArg (Ob.rs 109 6) (uW h1 h2 l k t)
theorem hren' {x X:Ob} {f:Key→Key} (h:x=X) (hp:renO f X=X):renO f x=X:=by rw[h];exact hp
theorem FzA_ptr {S:St} {o:Key} {off:Nat} {E:TypeId} {cs:List AV} {ds:List D} (h:S.H o=some (.vs E cs)) (hf:FzC S (cs.drop off) ds):FzA S (.ptr o off) (.fp ds):=by
 simp only[FzA,h]
 exact⟨ds,rfl,hf⟩
theorem fz_stA {S:St} {s:StL} {k:Nat} {t:Th} {els:List (List D)} (hk:k<s.ths.length) (ht:s.ths[k]=t) (h9:S.H (.n 900)=some (.rs 109 6 (rowsA s.ths k t))) (hfam:∀ j,j≠k→(h:j<s.ths.length)→S.H (.s 900 j)=some (.ds 100 1 (stk s.ths[j])))
  (h8:S.H (.n 899)=some (.ds 100 1 els)) (he:els.take t.stack.length=stk t) (h3:S.H (.n 901)=some (.ds 100 1 (s.cells.map encF))) (h4:S.H (.n 902)=some (.ds 3 1 (s.owner.map encInt))):FzC S (stRef s) (zZ s):=by
 have hv:=sJ hk h9 hfam h8 he
 rw[← ht,List.set_getElem_self] at hv
 refine⟨.sl (s.ths.map zD),_,rfl,⟨_,rfl,hv⟩,.sl (s.cells.map encF),_,rfl,?_,.sl (s.owner.map encInt),_,rfl,?_,di s.fault,[],rfl,rfl,rfl⟩
 ·simp[FzD,fz1,h3,List.take_of_length_le]
 ·simp[FzD,fz1,h4,List.take_of_length_le]
theorem rowsA_getE {X:List (List AV)} {l:List Th} {k:Nat} {t:Th} (h:k<l.length) (hX:X=rowsA l k t):X[((k:Nat):Int).toNat]?=some (xP t):=by
 rw[hX];exact yU h
theorem fault_vs {pre:List AV} {s:StL} {n:Int} {L:List AV} (hL:L=pre++stRef s):zY L (pre.length+3) [i64 n]=pre++stRef { s with fault:=n }:=by
 subst hL
 induction pre with
 |nil=>rfl
 |cons x xs ih =>
  show zY (x::(xs++stRef s)) (xs.length+1+3) [i64 n]=x::(xs++_)
  rw[show xs.length+1+3=(xs.length+3)+1 from by omega]
  exact congrArg (x::·) ih
theorem stepI_A (hI:yX) (E:TypeId) (x0 x1 x2:AV) (i0:Inert x0) (i1:Inert x1) (i2:Inert x2) (p:ProgL) (s:StL) (k:Nat) (hp:p.wf) (hk:k<s.ths.length) (h5:s.ths.length≤5)
  (hs:s.small) (hr:s.ths[k].ready p s k) (hst3:s.ths[k].st≠3) (hfl:∀ x∈s.ths[k].stack,x<18446744073709551616) (hjo:∀ o,yL p s.ths[k]=some o→yD s k o=0→o.code=15→∃ j,yV (xC s.ths[k] o 0) s.ths.length=some j∧yC s s.ths[k]=some j)
  (H0:Key→Option Ob) (h0:H0 (.l 0)=some (.vs E ([x0,x1,x2]++stRef s))) (h1:H0 (.n 899)=some (.ds 100 1 (stk s.ths[k]))) (h2:H0 (.n 900)=some (.rs 109 6 (rowsA s.ths k s.ths[k]))) (h3:∀ j,H0 (.s 900 j)=fam0 s.ths k j)
  (h4:H0 (.n 901)=some (.ds 100 1 (s.cells.map encF))) (h6:H0 (.n 902)=some (.ds 3 1 (s.owner.map encInt))) :
  IOCall EE 129 [.ptr (.l 0) 3,agg (encProg p),i64 k] H0 (doIPost E [x0,x1,x2] k (zQ p s k).1 (zQ p s k).2):=by
 refine fZ (fn:=Tryz.f129) (c:=Tryz.f129.body.getD .skip) Tryz.func129 rfl (by kernel_rfl) rfl ?_
 have hat:At [(0,.ptr (.l 0) 3),(1,agg (encProg p)),(2,i64 k)] [(.l 0,.vs E ([x0,x1,x2]++stRef s)),(.n 899,.ds 100 1 (stk s.ths[k])),(.n 900,.rs 109 6 (rowsA s.ths k s.ths[k])),(.n 901,.ds 100 1 (s.cells.map encF)),(.n 902,.ds 3 1 (s.owner.map encInt))] [(900,fam0 s.ths k)]
   ⟨fun i=>[AV.ptr (.l 0) 3,agg (encProg p),i64 k].getD i .junk,H0⟩ :=
  ⟨⟨rfl,rfl,rfl,trivial⟩,⟨h0,h1,h2,h4,h6,trivial⟩,⟨h3,trivial⟩⟩
 obtain⟨τ,H,hf⟩:=hat.form
 rw[hf]
 have hst:=hs.2.1 _ (List.getElem_mem hk)
 have hgd:s.ths.getD k th0=s.ths[k]:=by simp[List.getD_eq_getElem?_getD,hk]
 have hp3:InertL [x0,x1,x2]:=by
  intro x hx
  simp only[List.mem_cons,List.not_mem_nil,or_false] at hx
  rcases hx with rfl|rfl|rfl <;> assumption
 have hpc:=hr.pc
 clear hat hf h0 h1 h2 h3 h4 h6
 generalize ht0:s.ths[k]=t at *
 conv=>whnf
 refine⟨⟨by omega,by omega⟩,?_⟩
 conv=>whnf
 refine⟨xP t,⟨by repeat (first|exact yU hk|refine xX ?_ (xM rfl t)),by simp[xP]⟩,?_⟩
 conv=>whnf
 refine .inr (.inl ⟨10,[],?_⟩)
 conv=>whnf
 refine⟨xP t,⟨by repeat (first|exact yU hk|refine xX ?_ (xM rfl t)),by simp[xP]⟩,?_⟩
 conv=>whnf
 refine⟨_,Eq.mp (congrArg (fun x=>CallsTo EE 160 [agg (encProg p),.agg [i64 t.rt,i64 t.pc,i64 t.st,i64 t.cond,i64 t.lock,sl x]] _) (lI t).symm) (o0 p t hp hr.inP),?_,?_⟩
 ·intro c hc
  simp only[List.mem_cons,List.not_mem_nil,or_false] at hc
  rcases hc with rfl|rfl
  ·exact .inr ⟨encOp _,rfl,rfl⟩
  ·exact .inl ⟨_,rfl,rfl⟩
 conv=>whnf
 refine⟨by kernel_rfl,?_⟩
 conv=>whnf
 refine⟨xP t,⟨by repeat (first|exact yU hk|refine xX ?_ (xM rfl t)),by simp[xP]⟩,?_⟩
 conv=>whnf
 have hp3:InertL [x0,x1,x2]:=by
  intro x hx
  simp only[List.mem_cons,List.not_mem_nil,or_false] at hx
  rcases hx with rfl|rfl|rfl <;> assumption
 refine kbi (fun h4=>?_) (fun h4=>?_)
 ·have h4:t.st=4:=by simpa using h4
  have hlk:=hr.lock h4
  have hd:zQ p s k=({ s with owner:=s.owner.set t.lock.toNat ((k:Nat):Int) }.put k { t with st:=1,cond:=-1,lock:=-1,pc:=if (yL p t).isSome=true then t.pc+1 else t.pc },{ ev0 k t with kind:=9,obj:=t.cond,lock:=t.lock }):=by
   unfold zQ;rw[hgd,if_pos h4]
  conv=>whnf
  refine .inr (.inl ⟨12,[],?_⟩)
  conv=>whnf
  refine⟨xP t,⟨by repeat (first|exact yU hk|refine xX ?_ (xM rfl _)),by simp[xP]⟩,?_⟩
  conv=>whnf
  refine⟨xP t,⟨by repeat (first|exact yU hk|refine xX ?_ (xM rfl _)),by simp[xP]⟩,?_⟩
  conv=>whnf
  refine⟨by kernel_rfl,?_⟩
  conv=>whnf
  refine .inr (.inl ⟨9,[],?_⟩)
  conv=>whnf
  refine⟨xP t,⟨by repeat (first|exact yU hk|refine xX ?_ (xM rfl _)),by simp[xP]⟩,?_⟩
  conv=>whnf
  refine⟨by kernel_rfl,?_⟩
  conv=>whnf
  refine⟨⟨by omega,by omega⟩,?_⟩
  conv=>whnf
  refine .inr (.inl ⟨7,[],?_⟩)
  conv=>whnf
  refine⟨xP { t with st:=1,cond:=-1,lock:=-1 },⟨xX (rowsA_getE hk ?_) (xM rfl _),by simp[xP]⟩,?_⟩
  ·apply bO
   ·repeat (first|exact rfl|apply qQ hk|apply qP (fun _=>rfl))
   ·rfl
  conv=>whnf
  refine⟨_,jS _,?_⟩
  conv=>whnf
  refine⟨by kernel_rfl,?_⟩
  conv=>whnf
  refine⟨_,Weak.refl,?_⟩
  conv=>whnf
  rw[hd]
  refine⟨vB,by rfl,?_⟩
  refine dB hp3 (l:=s.ths) (t':={ t with st:=1,cond:=-1,lock:=-1,pc:=if (yL p t).isSome=true then t.pc+1 else t.pc }) hk rfl ?_ ?_ ?_ (fun j=>?_) ?_ ?_
  ·refine Eq.trans ?_ (congrArg (fun x=>some (Ob.vs E ([x0,x1,x2]++x))) (show stRef s=stRef _ by simp[stRef,StL.put]))
   conv=>lhs;whnf
   all_goals (
    refine congrArg some ?_
    repeat (refine xJ ?_ (xK i0 i1 i2 s rfl))
    all_goals rfl)
  ·rfl
  ·conv=>lhs;whnf
   all_goals (
    refine congrArg (fun x=>some (Ob.rs 109 6 x)) ?_
    apply bO
    ·repeat (first|exact rfl|apply qQ hk|apply qP (fun _=>rfl))
    ·have ew:IntKind.i64.wrap (t.pc+(if (yL p t).isSome=true then 1 else 0))=(if (yL p t).isSome=true then t.pc+1 else t.pc):=by have a:=hpc.1;have b:=hpc.2;split <;> rw[zM (by omega) (by omega)];omega
     show[_,AV.d (.int .i64 (IntKind.i64.wrap (t.pc+(if (yL p t).isSome=true then 1 else 0)))),_,_,_,_]=_
     rw[ew]
     rfl)
  ·repeat (first|exact rfl|refine hscrO ?_ (vK _ _ _ _)|conv=>lhs;whnf)
  ·rfl
  ·conv=>lhs;whnf
   show some (Ob.ds 3 1 ((s.owner.map encInt).set (0+t.lock.toNat) (encInt ((k:Nat):Int))))=some (Ob.ds 3 1 ((s.owner.set t.lock.toNat ((k:Nat):Int)).map encInt))
   rw[Nat.zero_add,List.map_set]
 have h4:¬ t.st=4:=by simpa using h4
 cases hn:yL p t with
 |none =>
  conv=>whnf
  have hd:zQ p s k=(s.put k { t with st:=2 },{ ev0 k t with kind:=11 }):=by
   unfold zQ;rw[hgd];simp[h4,hn]
  refine⟨_,Weak.refl,?_⟩
  conv=>whnf
  rw[hd]
  refine⟨vB,by rfl,?_⟩
  refine dB hp3 (l:=s.ths) (t':={ t with st:=2 }) hk rfl ?_ ?_ ?_ (fun j=>?_) ?_ ?_
  ·refine Eq.trans ?_ (congrArg (fun x=>some (Ob.vs E ([x0,x1,x2]++x))) (show stRef s=stRef _ by simp[stRef,StL.put]))
   conv=>lhs;whnf
   all_goals (
    refine congrArg some ?_
    repeat (refine xJ ?_ (xK i0 i1 i2 s rfl))
    all_goals rfl)
  ·rfl
  ·conv=>lhs;whnf
   all_goals (
    refine congrArg (fun x=>some (Ob.rs 109 6 x)) ?_
    apply bO
    ·repeat (first|exact rfl|apply qQ hk|apply qP (fun _=>rfl))
    ·rfl)
  ·repeat (first|exact rfl|refine hscrO ?_ (vK _ _ _ _)|conv=>lhs;whnf)
  ·rfl
  ·rfl
 |some o =>
  obtain⟨hoS,hoF⟩:=hr.op o hn
  conv=>whnf
  refine .inl ⟨[.fp (zZ s),i64 k,agg (encOp o)],[],_,⟨_,_,rfl,FzA_ptr (E:=E) (cs:=[x0,x1,x2]++stRef s) ?_ (fz_stA (k:=k) (t:=t) (els:=stk t) hk ht0 ?_ (fun j hj hjl=>?_) rfl (by simp[stk,List.take_of_length_le]) ?_ ?_),_,_,rfl,rfl,_,_,rfl,⟨encOp o,rfl,_,_,rfl,rfl,_,_,rfl,rfl,_,_,rfl,rfl,_,_,rfl,rfl,rfl⟩,rfl⟩,rfl,faultI_ok hI s k o hk hs hoS,?_⟩
  ·conv=>lhs;whnf
   all_goals (
    refine congrArg some ?_
    repeat (refine xJ ?_ (xK i0 i1 i2 s rfl))
    all_goals rfl)
  ·conv=>lhs;whnf
   all_goals (
    refine congrArg (fun x=>some (Ob.rs 109 6 x)) ?_
    repeat (first|exact rfl|refine dY ?_ rfl (fun _=>rfl)))
  ·refine Eq.trans (b:=fam0 s.ths k j) ?_ (by simp[fam0,nbeq_ne hj,zP,hjl])
   repeat (first|exact rfl|refine hscrO ?_ (vK _ _ _ _)|conv=>lhs;whnf)
  ·rfl
  ·rfl
  rintro r rfl
  refine⟨rfl,?_⟩
  conv=>whnf
  refine kbi (fun h6=>?_) (fun h6=>?_)
  ·have h6:¬ yD s k o=0:=by simpa using h6
   have hd:zQ p s k=({ s with fault:=yD s k o },{ ev0 k t with kind:=12,obj:=yD s k o }):=by
    unfold zQ;rw[hgd];simp[h4,hn,h6]
   conv=>whnf
   refine⟨_,Weak.refl,?_⟩
   conv=>whnf
   rw[hd]
   refine⟨vB,by rfl,?_⟩
   refine dB hp3 (l:=s.ths) (t':=t) hk (by show s.ths=s.ths.set k t;rw[← ht0,List.set_getElem_self]) ?_ ?_ ?_ (fun j=>?_) ?_ ?_
   ·conv=>lhs;whnf
    refine congrArg some ?_
    repeat (refine xJ ?_ (xK i0 i1 i2 { s with fault:=yD s k o } rfl))
    refine congrArg (Ob.vs E) (fault_vs (pre:=[x0,x1,x2]) ?_)
    repeat (refine hscrL ?_ (n0 i0 i1 i2 s rfl))
    all_goals rfl
   ·rfl
   ·conv=>lhs;whnf
    all_goals (
     refine congrArg (fun x=>some (Ob.rs 109 6 x)) ?_
     apply bO
     ·repeat (first|exact rfl|apply qQ hk|apply qP (fun _=>rfl))
     ·rfl)
   ·repeat (first|exact rfl|refine hscrO ?_ (vK _ _ _ _)|conv=>lhs;whnf)
   ·rfl
   ·rfl
  ·have h6:yD s k o=0:=by simpa using h6
   have hd:zQ p s k=doL s k o (ev0 k t):=by
    unfold zQ;rw[hgd];simp[h4,hn,h6]
   conv=>whnf
   refine .inr (.inl ⟨999,99,vB,_,doI_okA hI E x0 x1 x2 i0 i1 i2 s k o { ev0 k t with kind:=1 } hk h5 hs (by rw[ht0];exact hoF h6) (by rw[ht0];exact hpc) (by rw[ht0];exact hst3) rfl rfl (by rw[ht0];exact hfl) (by rw[ht0];exact hjo o hn h6) _ ?_ ?_ ?_ (fun j=>?_) ?_ ?_,rfl,?_⟩)
   ·conv=>lhs;whnf
    refine congrArg some ?_
    repeat (first|exact rfl|refine xJ ?_ (xK i0 i1 i2 s rfl)|refine hren' ?_ (vs_ren hp3 s))
   ·rw[ht0]
    rfl
   ·rw[ht0]
    conv=>lhs;whnf
    refine congrArg some ?_
    repeat (first|exact rfl|refine xJ ?_ (sW rfl (fun _=>rfl) _ _ _)|refine hren' ?_ (sX _ _ _))
   ·repeat (first|exact rfl|refine hscrO ?_ (vK _ _ _ _)|refine hrenO ?_ (cH _ _ _ _)|conv=>lhs;whnf)
   ·rfl
   ·rfl
   rintro r H1 ⟨rfl,hk2,rfl⟩
   refine⟨stHA_none,?_,?_⟩
   ·intro n hn
    have:n=0:=by simpa[vB] using hn
    subst this
    exact⟨E,_,_,rfl,rfl⟩
   conv=>whnf
   refine⟨_,Weak.refl,?_⟩
   conv=>whnf
   rw[hd]
   refine⟨vB,by rfl,?_⟩
   refine dB hp3 (l:=(doL s k o (ev0 k t)).1.ths) (t':=(doL s k o (ev0 k t)).1.ths[k]) hk2 (List.set_getElem_self _).symm ?_ ?_ ?_ (fun j=>?_) ?_ ?_
   ·conv=>lhs;whnf
    refine congrArg some ?_
    repeat (first|exact rfl|refine xJ ?_ (xK i0 i1 i2 _ rfl)|refine hren' ?_ (vs_ren hp3 _))
   ·rfl
   ·conv=>lhs;whnf
    refine congrArg some ?_
    repeat (first|exact rfl|refine xJ ?_ (sW rfl (fun _=>rfl) _ _ _)|refine hren' ?_ (sX _ _ _))
   ·refine Eq.trans (b:=fam0 (doL s k o (ev0 k t)).1.ths k j) ?_ rfl
    repeat (first|exact rfl|refine hscrO ?_ (vK _ _ _ _)|refine hrenO ?_ (cH _ _ _ _)|conv=>lhs;whnf)
   ·rfl
   ·rfl
end Ai
namespace Ai
set_option maxRecDepth 100000
open Go Go.Proofs
theorem io_canon {E : TypeId} {pre : List AV} (hp : InertL pre) {s s' : StL} {k : Nat} {e' : Ev} {H0 : Key → Option Ob} {g : FuncId} {xs : List AV} (hk : k < s.ths.length) (hx : xs.map (ren (swp (.n 899) (.s 900 k))) = xs) (hH : AtC E pre s H0)
    (h : ∀ H0 : Key → Option Ob, H0 (.l 0) = some (.vs E (pre ++ stRef s)) → H0 (.n 899) = some (.ds 100 1 (stk s.ths[k])) → H0 (.n 900) = some (.rs 109 6 (rowsA s.ths k s.ths[k])) → (∀ j, H0 (.s 900 j) = fam0 s.ths k j) →
      H0 (.n 901) = some (.ds 100 1 (s.cells.map encF)) → H0 (.n 902) = some (.ds 3 1 (s.owner.map encInt)) → IOCall EE g xs H0 (doIPost E pre k s' e')) :
    IOCall EE g xs H0 (fun r H1 => r = agg (encEv e') ∧ H1 = stHC E pre s') := by
  obtain ⟨h0, h1, h2, h3, h4, h6⟩ := hH
  have eH : ∀ {κ κ' : Key} {ob : Ob}, swp (.n 899) (.s 900 k) κ = κ' → H0 κ' = some ob → swH (.n 899) (.s 900 k) H0 κ = some (renO (swp (.n 899) (.s 900 k)) ob) := fun e1 e2 => by simp [swH, e1, e2]
  have := h (swH (.n 899) (.s 900 k) H0)
    (by rw [eH (κ := .l 0) (κ' := .l 0) rfl h0]
        show some (Ob.vs E (renL _ (pre ++ stRef s))) = _
        rw [renL_app, inertL_ren hp, stRef_ren])
    (by rw [eH (κ := .n 899) (κ' := .s 900 k) rfl ((h3 k).trans (thFam_self hk))]; rfl)
    (by rw [eH (κ := .n 900) (κ' := .n 900) rfl h2]
        show some (Ob.rs 109 6 ((thRows 900 s.ths).map (renL (swp (.n 899) (.s 900 k))))) = _
        rw [rowsA_sw hk])
    (fun j => by
      by_cases hj : j = k
      · subst hj
        have e : swp (.n 899) (.s 900 j) (.s 900 j) = .n 899 := by simp [swp, Key.beq, nbeq_self]
        simp only [swH, e, h1, fam0, nbeq_self]; rfl
      · have e : swp (.n 899) (.s 900 k) (.s 900 j) = .s 900 j := by simp [swp, Key.beq, nbeq_ne hj]
        simp only [swH, e, h3, fam0, nbeq_ne hj]
        exact thFam_ren _ _ _)
    (by rw [eH (κ := .n 901) (κ' := .n 901) rfl h4]; rfl) (by rw [eH (κ := .n 902) (κ' := .n 902) rfl h6]; rfl)
  have := IOCall.sw (.n 899) (.s 900 k) (fun n h => by cases h) (fun n h => by cases h) this
  rw [swH_swH, hx] at this
  refine IOCall.mono this fun r H1 ⟨hr, hk', hh⟩ => ⟨?_, ?_⟩
  · have : ren (swp (.n 899) (.s 900 k)) (ren (swp (.n 899) (.s 900 k)) r) = ren (swp (.n 899) (.s 900 k)) (agg (encEv e')) := by rw [hr]
    rw [ren_ren] at this
    rw [this]; rfl
  · have : swH (.n 899) (.s 900 k) (swH (.n 899) (.s 900 k) H1) = swH (.n 899) (.s 900 k) (stHA E pre s' k s'.ths[k]) := by rw [hh]
    rw [swH_swH, swH_stHA hp] at this
    exact this
theorem agg_ren (f:Key→Key) (l:List D):ren f (agg l)=agg l:=by
 show AV.agg (renL f (l.map .d))=_
 have:∀ l:List D,renL f (l.map .d)=l.map .d:=by
  intro l
  induction l with
  |nil=>rfl
  |cons x xs ih=>simp only[List.map_cons,renL,ih];rfl
 rw[this];rfl
theorem stepI_ok (hI:yX) (E:TypeId) (x0 x1 x2:AV) (i0:Inert x0) (i1:Inert x1) (i2:Inert x2) (p:ProgL) (s:StL) (k:Nat) (hp:p.wf) (hk:k<s.ths.length) (h5:s.ths.length≤5)
  (hs:s.small) (hr:s.ths[k].ready p s k) (hst3:s.ths[k].st≠3) (hfl:∀ x∈s.ths[k].stack,x<18446744073709551616) (hjo:∀ o,yL p s.ths[k]=some o→yD s k o=0→o.code=15→∃ j,yV (xC s.ths[k] o 0) s.ths.length=some j∧yC s s.ths[k]=some j)
  (H0:Key→Option Ob) (hH:AtC E [x0,x1,x2] s H0) :
  IOCall EE 129 [.ptr (.l 0) 3,agg (encProg p),i64 k] H0 (fun r H1=>r=agg (encEv (zQ p s k).2)∧H1=stHC E [x0,x1,x2] (zQ p s k).1):=by
 have hp3:InertL [x0,x1,x2]:=by
  intro x hx
  simp only[List.mem_cons,List.not_mem_nil,or_false] at hx
  rcases hx with rfl|rfl|rfl <;> assumption
 refine io_canon hp3 hk ?_ hH fun H0 a b c d e f=>stepI_A hI E x0 x1 x2 i0 i1 i2 p s k hp hk h5 hs hr hst3 hfl hjo H0 a b c d e f
 simp only[List.map_cons,List.map_nil,agg_ren]
 rfl
end Ai
namespace Ai
set_option maxRecDepth 100000
open Go Go.Proofs
noncomputable def fR (p:ProgL) (pk:List Nat→Nat→Int) (budget:Int):Nat→StL→List Ev→List Int→Int × List Ev × List Int × StL
 | 0,s,tr,tk=>(0,tr,tk,s)
 |n+1,s,tr,tk =>
  if yI p s tr.length budget≠0 then (yI p s tr.length budget,tr,tk,s)
  else fR p pk budget n (zQ p s ((zA p s).getD (pk (zA p s) tr.length).toNat 0)).1 (tr++[(zQ p s ((zA p s).getD (pk (zA p s) tr.length).toNat 0)).2]) (tk++[pk (zA p s) tr.length])
def hJ (x:Int × List Ev × List Int × StL):List AV:=[i64 x.1,.uq 107 5 (x.2.1.map encEv),.uq 3 1 (x.2.2.1.map encInt)]++vA x.2.2.2
structure RunI (p:ProgL) (Inv:StL→Prop):Prop where
 small:∀ s,Inv s→s.small∧s.ths.length≤5
 seen:∀ s,Inv s→∀ t∈s.ths,t.seen p s
 ready:∀ s,Inv s→∀ k,k∈zA p s→(h:k<s.ths.length)→s.ths[k].ready p s k
 awake:∀ s,Inv s→∀ k,k∈zA p s→(h:k<s.ths.length)→s.ths[k].st≠3
 flt:∀ s,Inv s→∀ t∈s.ths,∀ x∈t.stack,x<18446744073709551616
 joins:∀ s,Inv s→∀ k,k∈zA p s→(h:k<s.ths.length)→∀ o,yL p s.ths[k]=some o→yD s k o=0→o.code=15→∃ j,yV (xC s.ths[k] o 0) s.ths.length=some j∧yC s s.ths[k]=some j
 step:∀ s,Inv s→∀ k∈zA p s,Inv (zQ p s k).1
def oRI (p:ProgL) (s:StL) (tr:List Ev) (tk:List Int):List (Key × Ob):=[(.n 3,.vs 39 ((encProg p).map .d)),(.n 6,.vs 46 [i64 0,.d .nil,.d .nil,.d .nil,.d .nil,.d .nil,i64 0]),
 (.n 8,.vs 46 ([i64 0,.ref (.n 12) 0 tr.length,.ref (.n 13) 0 tk.length]++stRef s)),(.n 12,.ds 107 5 (tr.map encEv)),(.n 13,.ds 3 1 (tk.map encInt)),(.n 900,.rs 109 6 (thRows 900 s.ths)),(.n 901,.ds 100 1 (s.cells.map encF)),(.n 902,.ds 3 1 (s.owner.map encInt))]
def numA (k:Nat):Nat:=bif Nat.beq k 900 then 903 else bif Nat.beq k 903 then 900 else bif Nat.beq k 901 then 904 else bif Nat.beq k 904 then 901 else bif Nat.beq k 902 then 905 else bif Nat.beq k 905 then 902 else k
def numB (k:Nat):Nat:=bif Nat.beq k 12 then 901 else bif Nat.beq k 901 then 12 else bif Nat.beq k 13 then 902 else bif Nat.beq k 902 then 13 else k
theorem nO (k:Nat):numA (numA k)=k:=by
 by_cases h1:k=900
 ·subst h1;rfl
 by_cases h2:k=903
 ·subst h2;rfl
 by_cases h3:k=901
 ·subst h3;rfl
 by_cases h4:k=904
 ·subst h4;rfl
 by_cases h5:k=902
 ·subst h5;rfl
 by_cases h6:k=905
 ·subst h6;rfl
 simp[numA,nbeq_ne h1,nbeq_ne h2,nbeq_ne h3,nbeq_ne h4,nbeq_ne h5,nbeq_ne h6]
theorem iD (k:Nat):numB (numB k)=k:=by
 by_cases h1:k=12
 ·subst h1;rfl
 by_cases h2:k=901
 ·subst h2;rfl
 by_cases h3:k=13
 ·subst h3;rfl
 by_cases h4:k=902
 ·subst h4;rfl
 simp[numB,nbeq_ne h1,nbeq_ne h2,nbeq_ne h3,nbeq_ne h4]
def shN (g:Nat→Nat):Key→Key
 | .n k=>.n (g k)
 | .s o j=>.s (g o) j
 | .l k=>.l k
def mkSh (g:Nat→Nat) (hg:∀ k,g (g k)=k):Sh:=⟨⟨shN g,fun κ=>by cases κ <;> simp[shN,hg]⟩,fun _=>rfl⟩
def shA:Sh:=mkSh numA nO
def shB:Sh:=mkSh numB iD
theorem eG (o:Nat) (l:List Th) (i:Nat):(thRows o l)[i]?=(l[i]?).map (thRow o i):=by
 by_cases h:i<l.length
 ·rw[yY h,List.getElem?_eq_getElem h];rfl
 ·rw[List.getElem?_eq_none (by rw[zR];omega),List.getElem?_eq_none (by omega)];rfl
theorem bS {g:Nat→Nat} {hg:∀ k,g (g k)=k} (o:Nat) (l:List Th):(thRows o l).map (renL (mkSh g hg).f)=thRows (g o) l:=by
 apply List.ext_getElem?
 intro i
 rw[List.getElem?_map,eG,eG]
 cases l[i]? <;> rfl
theorem fz_run {S:St} {s:StL} {x0 x1 x2:AV} (h8:S.H (.n 8)=some (.vs 46 ([x0,x1,x2]++stRef s))) (h:StAt 900 s S):FzA S (.ptr (.n 8) (0+3)) (.fp (zZ s)) :=
 FzA_ptr h8 (fz_st h rfl rfl rfl)
theorem q6 {S:St} (p:ProgL):FzA S (agg (encProg p)) (agg (encProg p)):=⟨encProg p,rfl,_,_,rfl,rfl,_,_,rfl,rfl,_,_,rfl,rfl,_,_,rfl,rfl,rfl⟩
theorem tE (s:StL):mY (.own (vA s)):=by
 intro c hc
 simp only[vA,List.mem_cons,List.not_mem_nil,or_false] at hc
 rcases hc with rfl|rfl|rfl|rfl
 ·refine⟨fun c hc=>?_,fun q hq c hc=>?_⟩
  ·obtain⟨t,_,rfl⟩:=List.mem_map.1 hc;rfl
  ·obtain⟨t,_,rfl⟩:=List.mem_map.1 hq
   obtain⟨y,_,rfl⟩:=List.mem_map.1 hc;rfl
 ·intro c hc
  obtain⟨y,_,rfl⟩:=List.mem_map.1 hc;rfl
 ·intro c hc
  obtain⟨y,_,rfl⟩:=List.mem_map.1 hc;rfl
 ·rfl
end Ai
namespace Ai
set_option maxRecDepth 100000
open Go Go.Proofs
def fV (n:Nat):Code→Option (Array Oper)
 | .region i ops _=>bif Nat.beq i n then some ops else none
 | .seq a b=>match fV n a with|some x=>some x|none=>fV n b
 | .cond _ a b=>match fV n a with|some x=>some x|none=>fV n b
 | .block _ a=>fV n a
 | .loop a=>fV n a
 | _=>none
noncomputable def ops13:Array Oper:=(fV 13 (Tryz.f158.body.getD .skip)).getD #[]
structure R13 (p:ProgL) (s s1:StL) (ev:Ev) (tr:List Ev) (tk:List Int) (kk:Int) (w:Nat) (budget:Int) (g:FuncId) (c:List D) (L:Nat→Bool) (S:St):Prop where
 u1:S.τ 1=i64 budget
 u2:S.τ 2=.fn g [.fp c]
 u3:S.τ 3=.ptr (.n 3) 0
 u6:S.τ 6=.ptr (.n 6) 0
 u7:S.τ 7=bv false
 u8:S.τ 8=.ptr (.n 8) 0
 u9:S.τ 9=i64 tr.length
 u10:S.τ 10=sl ((zA p s).map wK)
 u11:S.τ 11=i64 kk
 h3:S.H (.n 3)=some (.vs 39 ((encProg p).map .d))
 h6:S.H (.n 6)=some (.vs 46 [i64 0,.d .nil,.d .nil,.d .nil,.d .nil,.d .nil,i64 0])
 h13:S.H (.n 13)=some (.ds 3 1 ((tk++[kk]).map encInt))
 c0:L 0=true→S.τ 50=.ptr (.n 8) (0+1)
 c1:L 1=true→L 10=false→S.τ 51=.ref (.n 12) 0 tr.length
 c2:L 2=true→S.τ 52=.ptr (.n 8) (0+3)
 c3:L 3=true→S.τ 53=agg (encProg p)
 c4:L 4=true→S.τ 54=sl ((zA p s).map wK)
 c5:L 5=true→S.τ 55=i64 kk
 c6:L 6=true→S.τ 56=.fp (wK w)
 c7:L 7=true→S.τ 57=i64 w
 c8:L 8=true→S.τ 58=agg (encEv ev)
 c9:L 9=true→L 10=false→S.τ 59=.ref (.n 59) 0 1
 c10:L 10=true→S.τ 60=.ref (.n 12) 0 (tr.length+1)
 c11:L 11=true→S.τ 61=.ptr (.n 8) (0+1)
 e9:L 9=true→L 10=false→S.H (.n 59)=some (.ds 107 5 [encEv ev])
 d12a:L 10=false→S.H (.n 12)=some (.ds 107 5 (tr.map encEv))
 d12b:L 10=true→S.H (.n 12)=some (.ds 107 5 ((tr++[ev]).map encEv))
 d8a:L 8=false→S.H (.n 8)=some (.vs 46 ([i64 0,.ref (.n 12) 0 tr.length,.ref (.n 13) 0 (tk.length+1)]++stRef s))
 d8b:L 8=true→L 10=false→S.H (.n 8)=some (.vs 46 ([i64 0,.ref (.n 12) 0 tr.length,.ref (.n 13) 0 (tk.length+1)]++stRef s1))
 d8c:L 10=true→L 12=false→S.H (.n 8)=some (.vs 46 ([i64 0,.junk,.ref (.n 13) 0 (tk.length+1)]++stRef s1))
 d8d:L 12=true→S.H (.n 8)=some (.vs 46 ([i64 0,.ref (.n 12) 0 (tr.length+1),.ref (.n 13) 0 (tk.length+1)]++stRef s1))
 sa0:L 8=false→S.H (.n 900)=some (.rs 109 6 (thRows 900 s.ths))
 saF:L 8=false→∀ j,S.H (.s 900 j)=zP s.ths j
 sa1:L 8=false→S.H (.n 901)=some (.ds 100 1 (s.cells.map encF))
 sa2:L 8=false→S.H (.n 902)=some (.ds 3 1 (s.owner.map encInt))
 sb0:L 8=true→S.H (.n 900)=some (.rs 109 6 (thRows 900 s1.ths))
 sbF:L 8=true→∀ j,S.H (.s 900 j)=zP s1.ths j
 sb1:L 8=true→S.H (.n 901)=some (.ds 100 1 (s1.cells.map encF))
 sb2:L 8=true→S.H (.n 902)=some (.ds 3 1 (s1.owner.map encInt))
 o1:L 10=true→L 8=true
 o2:L 12=true→L 10=true
 o3:L 10=true→L 1=true
 o4:L 10=true→L 9=true
theorem iR (v:Value):Inert (.lit v):=⟨fun _=>rfl,fun _=>rfl,fun _ _=>rfl⟩
theorem inert_d (x:D):Inert (.d x):=⟨fun _=>rfl,fun _=>rfl,fun _ _=>rfl⟩
theorem litB13 (a b:AV) (s1:StL) (lam:Nat→Value):LitB [a,b] lam ([i64 0,a,b]++stRef s1) ([i64 0,.lit (lam 0),.lit (lam 1)]++stRef s1) :=
 ⟨_,_,rfl,.inl rfl,_,_,rfl,.inr ⟨0,rfl,rfl⟩,_,_,rfl,.inr ⟨1,rfl,rfl⟩,_,_,rfl,.inl rfl,_,_,rfl,.inl rfl,_,_,rfl,.inl rfl,_,_,rfl,.inl rfl,rfl⟩
theorem litC13 (K:Key→Bool) (a b:AV) (s:StL) (hs:scrPL (fun o=>!K o) (stRef s)=stRef s) (lam:Nat→Value):LitC K [a,b] lam ([i64 0,a,b]++stRef s) ([i64 0,.lit (lam 0),.lit (lam 1)]++stRef s):=by
 simp only[stRef,scrPL,List.cons.injEq] at hs
 exact⟨_,_,rfl,.inl rfl,_,_,rfl,.inr ⟨0,rfl,rfl⟩,_,_,rfl,.inr ⟨1,rfl,rfl⟩,_,_,rfl,.inl hs.1.symm,_,_,rfl,.inl hs.2.1.symm,_,_,rfl,.inl hs.2.2.1.symm,_,_,rfl,.inl rfl,rfl⟩
theorem op13_0 {p:ProgL} {s s1:StL} {ev:Ev} {tr:List Ev} {tk:List Int} {kk:Int} {w:Nat} {budget:Int} {g:FuncId} {c:List D} (L:Nat→Bool) (S:St) (r:R13 p s s1 ev tr tk kk w budget g c L S) (hL:L 0=false):aDo EE Tryz.f158.ntmps ops13 (ops13[0]'(by decide)) S (R13 p s s1 ev tr tk kk w budget g c (fun j=>L j || j==0)):=by
 have hat:At [(8,.ptr (.n 8) 0)] [] [] S:=⟨⟨r.u8,trivial⟩,trivial,trivial⟩
 obtain⟨τ,H,rfl⟩:=hat.form
 conv=>whnf
 exact {
  u1:=r.u1
  u2:=r.u2
  u3:=r.u3
  u6:=r.u6
  u7:=r.u7
  u8:=r.u8
  u9:=r.u9
  u10:=r.u10
  u11:=r.u11
  h3:=r.h3
  h6:=r.h6
  h13:=r.h13
  c0:=fun _=>rfl
  c1:=fun g0 g1=>r.c1 (by simpa using g0) (by simpa using g1)
  c2:=fun g0=>r.c2 (by simpa using g0)
  c3:=fun g0=>r.c3 (by simpa using g0)
  c4:=fun g0=>r.c4 (by simpa using g0)
  c5:=fun g0=>r.c5 (by simpa using g0)
  c6:=fun g0=>r.c6 (by simpa using g0)
  c7:=fun g0=>r.c7 (by simpa using g0)
  c8:=fun g0=>r.c8 (by simpa using g0)
  c9:=fun g0 g1=>r.c9 (by simpa using g0) (by simpa using g1)
  c10:=fun g0=>r.c10 (by simpa using g0)
  c11:=fun g0=>r.c11 (by simpa using g0)
  e9:=fun g0 g1=>r.e9 (by simpa using g0) (by simpa using g1)
  d12a:=fun g0=>r.d12a (by simpa using g0)
  d12b:=fun g0=>r.d12b (by simpa using g0)
  d8a:=fun g0=>r.d8a (by simpa using g0)
  d8b:=fun g0 g1=>r.d8b (by simpa using g0) (by simpa using g1)
  d8c:=fun g0 g1=>r.d8c (by simpa using g0) (by simpa using g1)
  d8d:=fun g0=>r.d8d (by simpa using g0)
  sa0:=fun g0=>r.sa0 (by simpa using g0)
  saF:=fun g0=>r.saF (by simpa using g0)
  sa1:=fun g0=>r.sa1 (by simpa using g0)
  sa2:=fun g0=>r.sa2 (by simpa using g0)
  sb0:=fun g0=>r.sb0 (by simpa using g0)
  sbF:=fun g0=>r.sbF (by simpa using g0)
  sb1:=fun g0=>r.sb1 (by simpa using g0)
  sb2:=fun g0=>r.sb2 (by simpa using g0)
  o1:=fun g0=>by have:=r.o1 (by simpa using g0);simp[this]
  o2:=fun g0=>by have:=r.o2 (by simpa using g0);simp[this]
  o3:=fun g0=>by have:=r.o3 (by simpa using g0);simp[this]
  o4:=fun g0=>by have:=r.o4 (by simpa using g0);simp[this] }
theorem op13_2 {p:ProgL} {s s1:StL} {ev:Ev} {tr:List Ev} {tk:List Int} {kk:Int} {w:Nat} {budget:Int} {g:FuncId} {c:List D} (L:Nat→Bool) (S:St) (r:R13 p s s1 ev tr tk kk w budget g c L S) (hL:L 2=false):aDo EE Tryz.f158.ntmps ops13 (ops13[2]'(by decide)) S (R13 p s s1 ev tr tk kk w budget g c (fun j=>L j || j==2)):=by
 have hat:At [(8,.ptr (.n 8) 0)] [] [] S:=⟨⟨r.u8,trivial⟩,trivial,trivial⟩
 obtain⟨τ,H,rfl⟩:=hat.form
 conv=>whnf
 exact {
  u1:=r.u1
  u2:=r.u2
  u3:=r.u3
  u6:=r.u6
  u7:=r.u7
  u8:=r.u8
  u9:=r.u9
  u10:=r.u10
  u11:=r.u11
  h3:=r.h3
  h6:=r.h6
  h13:=r.h13
  c0:=fun g0=>r.c0 (by simpa using g0)
  c1:=fun g0 g1=>r.c1 (by simpa using g0) (by simpa using g1)
  c2:=fun _=>rfl
  c3:=fun g0=>r.c3 (by simpa using g0)
  c4:=fun g0=>r.c4 (by simpa using g0)
  c5:=fun g0=>r.c5 (by simpa using g0)
  c6:=fun g0=>r.c6 (by simpa using g0)
  c7:=fun g0=>r.c7 (by simpa using g0)
  c8:=fun g0=>r.c8 (by simpa using g0)
  c9:=fun g0 g1=>r.c9 (by simpa using g0) (by simpa using g1)
  c10:=fun g0=>r.c10 (by simpa using g0)
  c11:=fun g0=>r.c11 (by simpa using g0)
  e9:=fun g0 g1=>r.e9 (by simpa using g0) (by simpa using g1)
  d12a:=fun g0=>r.d12a (by simpa using g0)
  d12b:=fun g0=>r.d12b (by simpa using g0)
  d8a:=fun g0=>r.d8a (by simpa using g0)
  d8b:=fun g0 g1=>r.d8b (by simpa using g0) (by simpa using g1)
  d8c:=fun g0 g1=>r.d8c (by simpa using g0) (by simpa using g1)
  d8d:=fun g0=>r.d8d (by simpa using g0)
  sa0:=fun g0=>r.sa0 (by simpa using g0)
  saF:=fun g0=>r.saF (by simpa using g0)
  sa1:=fun g0=>r.sa1 (by simpa using g0)
  sa2:=fun g0=>r.sa2 (by simpa using g0)
  sb0:=fun g0=>r.sb0 (by simpa using g0)
  sbF:=fun g0=>r.sbF (by simpa using g0)
  sb1:=fun g0=>r.sb1 (by simpa using g0)
  sb2:=fun g0=>r.sb2 (by simpa using g0)
  o1:=fun g0=>by have:=r.o1 (by simpa using g0);simp[this]
  o2:=fun g0=>by have:=r.o2 (by simpa using g0);simp[this]
  o3:=fun g0=>by have:=r.o3 (by simpa using g0);simp[this]
  o4:=fun g0=>by have:=r.o4 (by simpa using g0);simp[this] }
theorem op13_3 {p:ProgL} {s s1:StL} {ev:Ev} {tr:List Ev} {tk:List Int} {kk:Int} {w:Nat} {budget:Int} {g:FuncId} {c:List D} (L:Nat→Bool) (S:St) (r:R13 p s s1 ev tr tk kk w budget g c L S) (hL:L 3=false):aDo EE Tryz.f158.ntmps ops13 (ops13[3]'(by decide)) S (R13 p s s1 ev tr tk kk w budget g c (fun j=>L j || j==3)):=by
 have hat:At [(3,.ptr (.n 3) 0)] [(.n 3,.vs 39 ((encProg p).map .d))] [] S:=⟨⟨r.u3,trivial⟩,⟨r.h3,trivial⟩,trivial⟩
 obtain⟨τ,H,rfl⟩:=hat.form
 conv=>whnf
 exact {
  u1:=r.u1
  u2:=r.u2
  u3:=r.u3
  u6:=r.u6
  u7:=r.u7
  u8:=r.u8
  u9:=r.u9
  u10:=r.u10
  u11:=r.u11
  h3:=r.h3
  h6:=r.h6
  h13:=r.h13
  c0:=fun g0=>r.c0 (by simpa using g0)
  c1:=fun g0 g1=>r.c1 (by simpa using g0) (by simpa using g1)
  c2:=fun g0=>r.c2 (by simpa using g0)
  c3:=fun _=>rfl
  c4:=fun g0=>r.c4 (by simpa using g0)
  c5:=fun g0=>r.c5 (by simpa using g0)
  c6:=fun g0=>r.c6 (by simpa using g0)
  c7:=fun g0=>r.c7 (by simpa using g0)
  c8:=fun g0=>r.c8 (by simpa using g0)
  c9:=fun g0 g1=>r.c9 (by simpa using g0) (by simpa using g1)
  c10:=fun g0=>r.c10 (by simpa using g0)
  c11:=fun g0=>r.c11 (by simpa using g0)
  e9:=fun g0 g1=>r.e9 (by simpa using g0) (by simpa using g1)
  d12a:=fun g0=>r.d12a (by simpa using g0)
  d12b:=fun g0=>r.d12b (by simpa using g0)
  d8a:=fun g0=>r.d8a (by simpa using g0)
  d8b:=fun g0 g1=>r.d8b (by simpa using g0) (by simpa using g1)
  d8c:=fun g0 g1=>r.d8c (by simpa using g0) (by simpa using g1)
  d8d:=fun g0=>r.d8d (by simpa using g0)
  sa0:=fun g0=>r.sa0 (by simpa using g0)
  saF:=fun g0=>r.saF (by simpa using g0)
  sa1:=fun g0=>r.sa1 (by simpa using g0)
  sa2:=fun g0=>r.sa2 (by simpa using g0)
  sb0:=fun g0=>r.sb0 (by simpa using g0)
  sbF:=fun g0=>r.sbF (by simpa using g0)
  sb1:=fun g0=>r.sb1 (by simpa using g0)
  sb2:=fun g0=>r.sb2 (by simpa using g0)
  o1:=fun g0=>by have:=r.o1 (by simpa using g0);simp[this]
  o2:=fun g0=>by have:=r.o2 (by simpa using g0);simp[this]
  o3:=fun g0=>by have:=r.o3 (by simpa using g0);simp[this]
  o4:=fun g0=>by have:=r.o4 (by simpa using g0);simp[this] }
theorem op13_4 {p:ProgL} {s s1:StL} {ev:Ev} {tr:List Ev} {tk:List Int} {kk:Int} {w:Nat} {budget:Int} {g:FuncId} {c:List D} (L:Nat→Bool) (S:St) (r:R13 p s s1 ev tr tk kk w budget g c L S) (hL:L 4=false):aDo EE Tryz.f158.ntmps ops13 (ops13[4]'(by decide)) S (R13 p s s1 ev tr tk kk w budget g c (fun j=>L j || j==4)):=by
 have hat:At [(10,sl ((zA p s).map wK))] [] [] S:=⟨⟨r.u10,trivial⟩,trivial,trivial⟩
 obtain⟨τ,H,rfl⟩:=hat.form
 conv=>whnf
 exact {
  u1:=r.u1
  u2:=r.u2
  u3:=r.u3
  u6:=r.u6
  u7:=r.u7
  u8:=r.u8
  u9:=r.u9
  u10:=r.u10
  u11:=r.u11
  h3:=r.h3
  h6:=r.h6
  h13:=r.h13
  c0:=fun g0=>r.c0 (by simpa using g0)
  c1:=fun g0 g1=>r.c1 (by simpa using g0) (by simpa using g1)
  c2:=fun g0=>r.c2 (by simpa using g0)
  c3:=fun g0=>r.c3 (by simpa using g0)
  c4:=fun _=>rfl
  c5:=fun g0=>r.c5 (by simpa using g0)
  c6:=fun g0=>r.c6 (by simpa using g0)
  c7:=fun g0=>r.c7 (by simpa using g0)
  c8:=fun g0=>r.c8 (by simpa using g0)
  c9:=fun g0 g1=>r.c9 (by simpa using g0) (by simpa using g1)
  c10:=fun g0=>r.c10 (by simpa using g0)
  c11:=fun g0=>r.c11 (by simpa using g0)
  e9:=fun g0 g1=>r.e9 (by simpa using g0) (by simpa using g1)
  d12a:=fun g0=>r.d12a (by simpa using g0)
  d12b:=fun g0=>r.d12b (by simpa using g0)
  d8a:=fun g0=>r.d8a (by simpa using g0)
  d8b:=fun g0 g1=>r.d8b (by simpa using g0) (by simpa using g1)
  d8c:=fun g0 g1=>r.d8c (by simpa using g0) (by simpa using g1)
  d8d:=fun g0=>r.d8d (by simpa using g0)
  sa0:=fun g0=>r.sa0 (by simpa using g0)
  saF:=fun g0=>r.saF (by simpa using g0)
  sa1:=fun g0=>r.sa1 (by simpa using g0)
  sa2:=fun g0=>r.sa2 (by simpa using g0)
  sb0:=fun g0=>r.sb0 (by simpa using g0)
  sbF:=fun g0=>r.sbF (by simpa using g0)
  sb1:=fun g0=>r.sb1 (by simpa using g0)
  sb2:=fun g0=>r.sb2 (by simpa using g0)
  o1:=fun g0=>by have:=r.o1 (by simpa using g0);simp[this]
  o2:=fun g0=>by have:=r.o2 (by simpa using g0);simp[this]
  o3:=fun g0=>by have:=r.o3 (by simpa using g0);simp[this]
  o4:=fun g0=>by have:=r.o4 (by simpa using g0);simp[this] }
theorem op13_5 {p:ProgL} {s s1:StL} {ev:Ev} {tr:List Ev} {tk:List Int} {kk:Int} {w:Nat} {budget:Int} {g:FuncId} {c:List D} (L:Nat→Bool) (S:St) (r:R13 p s s1 ev tr tk kk w budget g c L S) (hL:L 5=false):aDo EE Tryz.f158.ntmps ops13 (ops13[5]'(by decide)) S (R13 p s s1 ev tr tk kk w budget g c (fun j=>L j || j==5)):=by
 have hat:At [(11,i64 kk)] [] [] S:=⟨⟨r.u11,trivial⟩,trivial,trivial⟩
 obtain⟨τ,H,rfl⟩:=hat.form
 conv=>whnf
 exact {
  u1:=r.u1
  u2:=r.u2
  u3:=r.u3
  u6:=r.u6
  u7:=r.u7
  u8:=r.u8
  u9:=r.u9
  u10:=r.u10
  u11:=r.u11
  h3:=r.h3
  h6:=r.h6
  h13:=r.h13
  c0:=fun g0=>r.c0 (by simpa using g0)
  c1:=fun g0 g1=>r.c1 (by simpa using g0) (by simpa using g1)
  c2:=fun g0=>r.c2 (by simpa using g0)
  c3:=fun g0=>r.c3 (by simpa using g0)
  c4:=fun g0=>r.c4 (by simpa using g0)
  c5:=fun _=>rfl
  c6:=fun g0=>r.c6 (by simpa using g0)
  c7:=fun g0=>r.c7 (by simpa using g0)
  c8:=fun g0=>r.c8 (by simpa using g0)
  c9:=fun g0 g1=>r.c9 (by simpa using g0) (by simpa using g1)
  c10:=fun g0=>r.c10 (by simpa using g0)
  c11:=fun g0=>r.c11 (by simpa using g0)
  e9:=fun g0 g1=>r.e9 (by simpa using g0) (by simpa using g1)
  d12a:=fun g0=>r.d12a (by simpa using g0)
  d12b:=fun g0=>r.d12b (by simpa using g0)
  d8a:=fun g0=>r.d8a (by simpa using g0)
  d8b:=fun g0 g1=>r.d8b (by simpa using g0) (by simpa using g1)
  d8c:=fun g0 g1=>r.d8c (by simpa using g0) (by simpa using g1)
  d8d:=fun g0=>r.d8d (by simpa using g0)
  sa0:=fun g0=>r.sa0 (by simpa using g0)
  saF:=fun g0=>r.saF (by simpa using g0)
  sa1:=fun g0=>r.sa1 (by simpa using g0)
  sa2:=fun g0=>r.sa2 (by simpa using g0)
  sb0:=fun g0=>r.sb0 (by simpa using g0)
  sbF:=fun g0=>r.sbF (by simpa using g0)
  sb1:=fun g0=>r.sb1 (by simpa using g0)
  sb2:=fun g0=>r.sb2 (by simpa using g0)
  o1:=fun g0=>by have:=r.o1 (by simpa using g0);simp[this]
  o2:=fun g0=>by have:=r.o2 (by simpa using g0);simp[this]
  o3:=fun g0=>by have:=r.o3 (by simpa using g0);simp[this]
  o4:=fun g0=>by have:=r.o4 (by simpa using g0);simp[this] }
theorem op13_6 {p:ProgL} {s s1:StL} {ev:Ev} {tr:List Ev} {tk:List Int} {kk:Int} {w:Nat} {budget:Int} {g:FuncId} {c:List D} (hk0:0≤kk) (hen:((zA p s).map wK)[kk.toNat]?=some (wK w)) (L:Nat→Bool) (S:St) (r:R13 p s s1 ev tr tk kk w budget g c L S) (hL:L 6=false) (k4:L 4=true) (k5:L 5=true):aDo EE Tryz.f158.ntmps ops13 (ops13[6]'(by decide)) S (R13 p s s1 ev tr tk kk w budget g c (fun j=>L j || j==6)):=by
 have hat:At [(54,sl ((zA p s).map wK)),(55,i64 kk)] [] [] S:=⟨⟨r.c4 k4,r.c5 k5,trivial⟩,trivial,trivial⟩
 obtain⟨τ,H,rfl⟩:=hat.form
 conv=>whnf
 refine⟨wK w,⟨hk0,hen,rfl⟩,?_⟩
 conv=>whnf
 exact {
  u1:=r.u1
  u2:=r.u2
  u3:=r.u3
  u6:=r.u6
  u7:=r.u7
  u8:=r.u8
  u9:=r.u9
  u10:=r.u10
  u11:=r.u11
  h3:=r.h3
  h6:=r.h6
  h13:=r.h13
  c0:=fun g0=>r.c0 (by simpa using g0)
  c1:=fun g0 g1=>r.c1 (by simpa using g0) (by simpa using g1)
  c2:=fun g0=>r.c2 (by simpa using g0)
  c3:=fun g0=>r.c3 (by simpa using g0)
  c4:=fun g0=>r.c4 (by simpa using g0)
  c5:=fun g0=>r.c5 (by simpa using g0)
  c6:=fun _=>rfl
  c7:=fun g0=>r.c7 (by simpa using g0)
  c8:=fun g0=>r.c8 (by simpa using g0)
  c9:=fun g0 g1=>r.c9 (by simpa using g0) (by simpa using g1)
  c10:=fun g0=>r.c10 (by simpa using g0)
  c11:=fun g0=>r.c11 (by simpa using g0)
  e9:=fun g0 g1=>r.e9 (by simpa using g0) (by simpa using g1)
  d12a:=fun g0=>r.d12a (by simpa using g0)
  d12b:=fun g0=>r.d12b (by simpa using g0)
  d8a:=fun g0=>r.d8a (by simpa using g0)
  d8b:=fun g0 g1=>r.d8b (by simpa using g0) (by simpa using g1)
  d8c:=fun g0 g1=>r.d8c (by simpa using g0) (by simpa using g1)
  d8d:=fun g0=>r.d8d (by simpa using g0)
  sa0:=fun g0=>r.sa0 (by simpa using g0)
  saF:=fun g0=>r.saF (by simpa using g0)
  sa1:=fun g0=>r.sa1 (by simpa using g0)
  sa2:=fun g0=>r.sa2 (by simpa using g0)
  sb0:=fun g0=>r.sb0 (by simpa using g0)
  sbF:=fun g0=>r.sbF (by simpa using g0)
  sb1:=fun g0=>r.sb1 (by simpa using g0)
  sb2:=fun g0=>r.sb2 (by simpa using g0)
  o1:=fun g0=>by have:=r.o1 (by simpa using g0);simp[this]
  o2:=fun g0=>by have:=r.o2 (by simpa using g0);simp[this]
  o3:=fun g0=>by have:=r.o3 (by simpa using g0);simp[this]
  o4:=fun g0=>by have:=r.o4 (by simpa using g0);simp[this] }
theorem op13_7 {p:ProgL} {s s1:StL} {ev:Ev} {tr:List Ev} {tk:List Int} {kk:Int} {w:Nat} {budget:Int} {g:FuncId} {c:List D} (L:Nat→Bool) (S:St) (r:R13 p s s1 ev tr tk kk w budget g c L S) (hL:L 7=false) (k6:L 6=true):aDo EE Tryz.f158.ntmps ops13 (ops13[7]'(by decide)) S (R13 p s s1 ev tr tk kk w budget g c (fun j=>L j || j==7)):=by
 have hat:At [(56,.fp (wK w))] [] [] S:=⟨⟨r.c6 k6,trivial⟩,trivial,trivial⟩
 obtain⟨τ,H,rfl⟩:=hat.form
 conv=>whnf
 exact {
  u1:=r.u1
  u2:=r.u2
  u3:=r.u3
  u6:=r.u6
  u7:=r.u7
  u8:=r.u8
  u9:=r.u9
  u10:=r.u10
  u11:=r.u11
  h3:=r.h3
  h6:=r.h6
  h13:=r.h13
  c0:=fun g0=>r.c0 (by simpa using g0)
  c1:=fun g0 g1=>r.c1 (by simpa using g0) (by simpa using g1)
  c2:=fun g0=>r.c2 (by simpa using g0)
  c3:=fun g0=>r.c3 (by simpa using g0)
  c4:=fun g0=>r.c4 (by simpa using g0)
  c5:=fun g0=>r.c5 (by simpa using g0)
  c6:=fun g0=>r.c6 (by simpa using g0)
  c7:=fun _=>rfl
  c8:=fun g0=>r.c8 (by simpa using g0)
  c9:=fun g0 g1=>r.c9 (by simpa using g0) (by simpa using g1)
  c10:=fun g0=>r.c10 (by simpa using g0)
  c11:=fun g0=>r.c11 (by simpa using g0)
  e9:=fun g0 g1=>r.e9 (by simpa using g0) (by simpa using g1)
  d12a:=fun g0=>r.d12a (by simpa using g0)
  d12b:=fun g0=>r.d12b (by simpa using g0)
  d8a:=fun g0=>r.d8a (by simpa using g0)
  d8b:=fun g0 g1=>r.d8b (by simpa using g0) (by simpa using g1)
  d8c:=fun g0 g1=>r.d8c (by simpa using g0) (by simpa using g1)
  d8d:=fun g0=>r.d8d (by simpa using g0)
  sa0:=fun g0=>r.sa0 (by simpa using g0)
  saF:=fun g0=>r.saF (by simpa using g0)
  sa1:=fun g0=>r.sa1 (by simpa using g0)
  sa2:=fun g0=>r.sa2 (by simpa using g0)
  sb0:=fun g0=>r.sb0 (by simpa using g0)
  sbF:=fun g0=>r.sbF (by simpa using g0)
  sb1:=fun g0=>r.sb1 (by simpa using g0)
  sb2:=fun g0=>r.sb2 (by simpa using g0)
  o1:=fun g0=>by have:=r.o1 (by simpa using g0);simp[this]
  o2:=fun g0=>by have:=r.o2 (by simpa using g0);simp[this]
  o3:=fun g0=>by have:=r.o3 (by simpa using g0);simp[this]
  o4:=fun g0=>by have:=r.o4 (by simpa using g0);simp[this] }
theorem op13_11 {p:ProgL} {s s1:StL} {ev:Ev} {tr:List Ev} {tk:List Int} {kk:Int} {w:Nat} {budget:Int} {g:FuncId} {c:List D} (L:Nat→Bool) (S:St) (r:R13 p s s1 ev tr tk kk w budget g c L S) (hL:L 11=false):aDo EE Tryz.f158.ntmps ops13 (ops13[11]'(by decide)) S (R13 p s s1 ev tr tk kk w budget g c (fun j=>L j || j==11)):=by
 have hat:At [(8,.ptr (.n 8) 0)] [] [] S:=⟨⟨r.u8,trivial⟩,trivial,trivial⟩
 obtain⟨τ,H,rfl⟩:=hat.form
 conv=>whnf
 exact {
  u1:=r.u1
  u2:=r.u2
  u3:=r.u3
  u6:=r.u6
  u7:=r.u7
  u8:=r.u8
  u9:=r.u9
  u10:=r.u10
  u11:=r.u11
  h3:=r.h3
  h6:=r.h6
  h13:=r.h13
  c0:=fun g0=>r.c0 (by simpa using g0)
  c1:=fun g0 g1=>r.c1 (by simpa using g0) (by simpa using g1)
  c2:=fun g0=>r.c2 (by simpa using g0)
  c3:=fun g0=>r.c3 (by simpa using g0)
  c4:=fun g0=>r.c4 (by simpa using g0)
  c5:=fun g0=>r.c5 (by simpa using g0)
  c6:=fun g0=>r.c6 (by simpa using g0)
  c7:=fun g0=>r.c7 (by simpa using g0)
  c8:=fun g0=>r.c8 (by simpa using g0)
  c9:=fun g0 g1=>r.c9 (by simpa using g0) (by simpa using g1)
  c10:=fun g0=>r.c10 (by simpa using g0)
  c11:=fun _=>rfl
  e9:=fun g0 g1=>r.e9 (by simpa using g0) (by simpa using g1)
  d12a:=fun g0=>r.d12a (by simpa using g0)
  d12b:=fun g0=>r.d12b (by simpa using g0)
  d8a:=fun g0=>r.d8a (by simpa using g0)
  d8b:=fun g0 g1=>r.d8b (by simpa using g0) (by simpa using g1)
  d8c:=fun g0 g1=>r.d8c (by simpa using g0) (by simpa using g1)
  d8d:=fun g0=>r.d8d (by simpa using g0)
  sa0:=fun g0=>r.sa0 (by simpa using g0)
  saF:=fun g0=>r.saF (by simpa using g0)
  sa1:=fun g0=>r.sa1 (by simpa using g0)
  sa2:=fun g0=>r.sa2 (by simpa using g0)
  sb0:=fun g0=>r.sb0 (by simpa using g0)
  sbF:=fun g0=>r.sbF (by simpa using g0)
  sb1:=fun g0=>r.sb1 (by simpa using g0)
  sb2:=fun g0=>r.sb2 (by simpa using g0)
  o1:=fun g0=>by have:=r.o1 (by simpa using g0);simp[this]
  o2:=fun g0=>by have:=r.o2 (by simpa using g0);simp[this]
  o3:=fun g0=>by have:=r.o3 (by simpa using g0);simp[this]
  o4:=fun g0=>by have:=r.o4 (by simpa using g0);simp[this] }
theorem op13_1 {p:ProgL} {s s1:StL} {ev:Ev} {tr:List Ev} {tk:List Int} {kk:Int} {w:Nat} {budget:Int} {g:FuncId} {c:List D} (L:Nat→Bool) (S:St) (r:R13 p s s1 ev tr tk kk w budget g c L S) (hL:L 1=false) (k0:L 0=true):aDo EE Tryz.f158.ntmps ops13 (ops13[1]'(by decide)) S (R13 p s s1 ev tr tk kk w budget g c (fun j=>L j || j==1)):=by
 have n10:L 10=false:=by
  cases h:L 10 with
  |false=>rfl
  |true=>exact absurd (r.o3 h) (by rw[hL];decide)
 obtain⟨st,hst⟩:∃ st,S.H (.n 8)=some (.vs 46 ([i64 0,.ref (.n 12) 0 tr.length,.ref (.n 13) 0 (tk.length+1)]++stRef st)):=by
  cases h8:L 8 with
  |false=>exact⟨_,r.d8a h8⟩
  |true=>exact⟨_,r.d8b h8 n10⟩
 have hat:At [(50,.ptr (.n 8) (0+1))] [(.n 8,.vs 46 ([i64 0,.ref (.n 12) 0 tr.length,.ref (.n 13) 0 (tk.length+1)]++stRef st))] [] S:=⟨⟨r.c0 k0,trivial⟩,⟨hst,trivial⟩,trivial⟩
 obtain⟨τ,H,rfl⟩:=hat.form
 conv=>whnf
 exact {
  u1:=r.u1
  u2:=r.u2
  u3:=r.u3
  u6:=r.u6
  u7:=r.u7
  u8:=r.u8
  u9:=r.u9
  u10:=r.u10
  u11:=r.u11
  h3:=r.h3
  h6:=r.h6
  h13:=r.h13
  c0:=fun g0=>r.c0 (by simpa using g0)
  c1:=fun _ _=>rfl
  c2:=fun g0=>r.c2 (by simpa using g0)
  c3:=fun g0=>r.c3 (by simpa using g0)
  c4:=fun g0=>r.c4 (by simpa using g0)
  c5:=fun g0=>r.c5 (by simpa using g0)
  c6:=fun g0=>r.c6 (by simpa using g0)
  c7:=fun g0=>r.c7 (by simpa using g0)
  c8:=fun g0=>r.c8 (by simpa using g0)
  c9:=fun g0 g1=>r.c9 (by simpa using g0) (by simpa using g1)
  c10:=fun g0=>r.c10 (by simpa using g0)
  c11:=fun g0=>r.c11 (by simpa using g0)
  e9:=fun g0 g1=>r.e9 (by simpa using g0) (by simpa using g1)
  d12a:=fun g0=>r.d12a (by simpa using g0)
  d12b:=fun g0=>r.d12b (by simpa using g0)
  d8a:=fun g0=>r.d8a (by simpa using g0)
  d8b:=fun g0 g1=>r.d8b (by simpa using g0) (by simpa using g1)
  d8c:=fun g0 g1=>r.d8c (by simpa using g0) (by simpa using g1)
  d8d:=fun g0=>r.d8d (by simpa using g0)
  sa0:=fun g0=>r.sa0 (by simpa using g0)
  saF:=fun g0=>r.saF (by simpa using g0)
  sa1:=fun g0=>r.sa1 (by simpa using g0)
  sa2:=fun g0=>r.sa2 (by simpa using g0)
  sb0:=fun g0=>r.sb0 (by simpa using g0)
  sbF:=fun g0=>r.sbF (by simpa using g0)
  sb1:=fun g0=>r.sb1 (by simpa using g0)
  sb2:=fun g0=>r.sb2 (by simpa using g0)
  o1:=fun g0=>by have:=r.o1 (by simpa using g0);simp[this]
  o2:=fun g0=>by have:=r.o2 (by simpa using g0);simp[this]
  o3:=fun g0=>by have:=r.o3 (by simpa using g0);simp[this]
  o4:=fun g0=>by have:=r.o4 (by simpa using g0);simp[this] }
theorem op13_9 {p:ProgL} {s s1:StL} {ev:Ev} {tr:List Ev} {tk:List Int} {kk:Int} {w:Nat} {budget:Int} {g:FuncId} {c:List D} (L:Nat→Bool) (S:St) (r:R13 p s s1 ev tr tk kk w budget g c L S) (hL:L 9=false) (k8:L 8=true):aDo EE Tryz.f158.ntmps ops13 (ops13[9]'(by decide)) S (R13 p s s1 ev tr tk kk w budget g c (fun j=>L j || j==9)):=by
 have hat:At [(58,agg (encEv ev))] [] [] S:=⟨⟨r.c8 k8,trivial⟩,trivial,trivial⟩
 obtain⟨τ,H,rfl⟩:=hat.form
 conv=>whnf
 exact {
  u1:=(congrArg (scrP (isK (.n 59))) (r.u1)).trans rfl
  u2:=(congrArg (scrP (isK (.n 59))) (r.u2)).trans rfl
  u3:=(congrArg (scrP (isK (.n 59))) (r.u3)).trans rfl
  u6:=(congrArg (scrP (isK (.n 59))) (r.u6)).trans rfl
  u7:=(congrArg (scrP (isK (.n 59))) (r.u7)).trans rfl
  u8:=(congrArg (scrP (isK (.n 59))) (r.u8)).trans rfl
  u9:=(congrArg (scrP (isK (.n 59))) (r.u9)).trans rfl
  u10:=(congrArg (scrP (isK (.n 59))) (r.u10)).trans rfl
  u11:=(congrArg (scrP (isK (.n 59))) (r.u11)).trans rfl
  h3:=(congrArg (Option.map (scrPO (isK (.n 59)))) (r.h3)).trans rfl
  h6:=(congrArg (Option.map (scrPO (isK (.n 59)))) (r.h6)).trans rfl
  h13:=(congrArg (Option.map (scrPO (isK (.n 59)))) (r.h13)).trans rfl
  c0:=fun g0=>(congrArg (scrP (isK (.n 59))) (r.c0 (by simpa using g0))).trans rfl
  c1:=fun g0 g1=>(congrArg (scrP (isK (.n 59))) (r.c1 (by simpa using g0) (by simpa using g1))).trans rfl
  c2:=fun g0=>(congrArg (scrP (isK (.n 59))) (r.c2 (by simpa using g0))).trans rfl
  c3:=fun g0=>(congrArg (scrP (isK (.n 59))) (r.c3 (by simpa using g0))).trans rfl
  c4:=fun g0=>(congrArg (scrP (isK (.n 59))) (r.c4 (by simpa using g0))).trans rfl
  c5:=fun g0=>(congrArg (scrP (isK (.n 59))) (r.c5 (by simpa using g0))).trans rfl
  c6:=fun g0=>(congrArg (scrP (isK (.n 59))) (r.c6 (by simpa using g0))).trans rfl
  c7:=fun g0=>(congrArg (scrP (isK (.n 59))) (r.c7 (by simpa using g0))).trans rfl
  c8:=fun g0=>(congrArg (scrP (isK (.n 59))) (r.c8 (by simpa using g0))).trans rfl
  c9:=fun _ _=>rfl
  c10:=fun g0=>(congrArg (scrP (isK (.n 59))) (r.c10 (by simpa using g0))).trans rfl
  c11:=fun g0=>(congrArg (scrP (isK (.n 59))) (r.c11 (by simpa using g0))).trans rfl
  e9:=fun _ _=>rfl
  d12a:=fun g0=>(congrArg (Option.map (scrPO (isK (.n 59)))) (r.d12a (by simpa using g0))).trans rfl
  d12b:=fun g0=>(congrArg (Option.map (scrPO (isK (.n 59)))) (r.d12b (by simpa using g0))).trans rfl
  d8a:=fun g0=>(congrArg (Option.map (scrPO (isK (.n 59)))) (r.d8a (by simpa using g0))).trans rfl
  d8b:=fun g0 g1=>(congrArg (Option.map (scrPO (isK (.n 59)))) (r.d8b (by simpa using g0) (by simpa using g1))).trans rfl
  d8c:=fun g0 g1=>(congrArg (Option.map (scrPO (isK (.n 59)))) (r.d8c (by simpa using g0) (by simpa using g1))).trans rfl
  d8d:=fun g0=>(congrArg (Option.map (scrPO (isK (.n 59)))) (r.d8d (by simpa using g0))).trans rfl
  sa0:=fun g0=>(congrArg (Option.map (scrPO (isK (.n 59)))) (r.sa0 (by simpa using g0))).trans (congrArg (fun x=>some (Ob.rs 109 6 x)) (yB fun _ _=>rfl))
  saF:=fun g0=>fun j=>(congrArg (Option.map (scrPO (isK (.n 59)))) (r.saF (by simpa using g0) j)).trans (yE _ _ _)
  sa1:=fun g0=>(congrArg (Option.map (scrPO (isK (.n 59)))) (r.sa1 (by simpa using g0))).trans rfl
  sa2:=fun g0=>(congrArg (Option.map (scrPO (isK (.n 59)))) (r.sa2 (by simpa using g0))).trans rfl
  sb0:=fun g0=>(congrArg (Option.map (scrPO (isK (.n 59)))) (r.sb0 (by simpa using g0))).trans (congrArg (fun x=>some (Ob.rs 109 6 x)) (yB fun _ _=>rfl))
  sbF:=fun g0=>fun j=>(congrArg (Option.map (scrPO (isK (.n 59)))) (r.sbF (by simpa using g0) j)).trans (yE _ _ _)
  sb1:=fun g0=>(congrArg (Option.map (scrPO (isK (.n 59)))) (r.sb1 (by simpa using g0))).trans rfl
  sb2:=fun g0=>(congrArg (Option.map (scrPO (isK (.n 59)))) (r.sb2 (by simpa using g0))).trans rfl
  o1:=fun g0=>by have:=r.o1 (by simpa using g0);simp[this]
  o2:=fun g0=>by have:=r.o2 (by simpa using g0);simp[this]
  o3:=fun g0=>by have:=r.o3 (by simpa using g0);simp[this]
  o4:=fun g0=>by have:=r.o4 (by simpa using g0);simp[this] }
theorem op13_10 {p:ProgL} {s s1:StL} {ev:Ev} {tr:List Ev} {tk:List Int} {kk:Int} {w:Nat} {budget:Int} {g:FuncId} {c:List D} (htr:tr.length≤1048576) (L:Nat→Bool) (S:St) (r:R13 p s s1 ev tr tk kk w budget g c L S) (hL:L 10=false) (k1:L 1=true) (k8:L 8=true) (k9:L 9=true):aDo EE Tryz.f158.ntmps ops13 (ops13[10]'(by decide)) S (R13 p s s1 ev tr tk kk w budget g c (fun j=>L j || j==10)):=by
 have hat:At [(51,.ref (.n 12) 0 tr.length),(59,.ref (.n 59) 0 1)] [(.n 12,.ds 107 5 (tr.map encEv)),(.n 59,.ds 107 5 [encEv ev])] [] S:=⟨⟨r.c1 k1 hL,r.c9 k9 hL,trivial⟩,⟨r.d12a hL,r.e9 k9 hL,trivial⟩,trivial⟩
 obtain⟨τ,H,rfl⟩:=hat.form
 conv=>whnf
 refine⟨⟨rfl,by show(tr.length+1)*40≤_;omega,by show tr.length+1≤_;omega⟩,?_⟩
 conv=>whnf
 exact {
  u1:=(congrArg (scrP (isK (.n 12))) (r.u1)).trans rfl
  u2:=(congrArg (scrP (isK (.n 12))) (r.u2)).trans rfl
  u3:=(congrArg (scrP (isK (.n 12))) (r.u3)).trans rfl
  u6:=(congrArg (scrP (isK (.n 12))) (r.u6)).trans rfl
  u7:=(congrArg (scrP (isK (.n 12))) (r.u7)).trans rfl
  u8:=(congrArg (scrP (isK (.n 12))) (r.u8)).trans rfl
  u9:=(congrArg (scrP (isK (.n 12))) (r.u9)).trans rfl
  u10:=(congrArg (scrP (isK (.n 12))) (r.u10)).trans rfl
  u11:=(congrArg (scrP (isK (.n 12))) (r.u11)).trans rfl
  h3:=(congrArg (Option.map (scrPO (isK (.n 12)))) (r.h3)).trans rfl
  h6:=(congrArg (Option.map (scrPO (isK (.n 12)))) (r.h6)).trans rfl
  h13:=(congrArg (Option.map (scrPO (isK (.n 12)))) (r.h13)).trans rfl
  c0:=fun g0=>(congrArg (scrP (isK (.n 12))) (r.c0 (by simpa using g0))).trans rfl
  c1:=fun g0 g1=>absurd g1 (by simp)
  c2:=fun g0=>(congrArg (scrP (isK (.n 12))) (r.c2 (by simpa using g0))).trans rfl
  c3:=fun g0=>(congrArg (scrP (isK (.n 12))) (r.c3 (by simpa using g0))).trans rfl
  c4:=fun g0=>(congrArg (scrP (isK (.n 12))) (r.c4 (by simpa using g0))).trans rfl
  c5:=fun g0=>(congrArg (scrP (isK (.n 12))) (r.c5 (by simpa using g0))).trans rfl
  c6:=fun g0=>(congrArg (scrP (isK (.n 12))) (r.c6 (by simpa using g0))).trans rfl
  c7:=fun g0=>(congrArg (scrP (isK (.n 12))) (r.c7 (by simpa using g0))).trans rfl
  c8:=fun g0=>(congrArg (scrP (isK (.n 12))) (r.c8 (by simpa using g0))).trans rfl
  c9:=fun g0 g1=>absurd g1 (by simp)
  c10:=fun _=>rfl
  c11:=fun g0=>(congrArg (scrP (isK (.n 12))) (r.c11 (by simpa using g0))).trans rfl
  e9:=fun g0 g1=>absurd g1 (by simp)
  d12a:=fun g0=>absurd g0 (by simp)
  d12b:=fun _=>by
   show some (Ob.ds 107 5 ((tr.map encEv).take tr.length++[encEv ev]))=_
   rw[List.take_of_length_le (by simp)]
   simp
  d8a:=fun g0=>absurd g0 (by simp[k8])
  d8b:=fun g0 g1=>absurd g1 (by simp)
  d8c:=fun _ _=>(congrArg (Option.map (scrPO (isK (.n 12)))) (r.d8b k8 hL)).trans rfl
  d8d:=fun g0=>absurd (r.o2 (by simpa using g0)) (by rw[hL];decide)
  sa0:=fun g0=>(congrArg (Option.map (scrPO (isK (.n 12)))) (r.sa0 (by simpa using g0))).trans (congrArg (fun x=>some (Ob.rs 109 6 x)) (yB fun _ _=>rfl))
  saF:=fun g0=>fun j=>(congrArg (Option.map (scrPO (isK (.n 12)))) (r.saF (by simpa using g0) j)).trans (yE _ _ _)
  sa1:=fun g0=>(congrArg (Option.map (scrPO (isK (.n 12)))) (r.sa1 (by simpa using g0))).trans rfl
  sa2:=fun g0=>(congrArg (Option.map (scrPO (isK (.n 12)))) (r.sa2 (by simpa using g0))).trans rfl
  sb0:=fun g0=>(congrArg (Option.map (scrPO (isK (.n 12)))) (r.sb0 (by simpa using g0))).trans (congrArg (fun x=>some (Ob.rs 109 6 x)) (yB fun _ _=>rfl))
  sbF:=fun g0=>fun j=>(congrArg (Option.map (scrPO (isK (.n 12)))) (r.sbF (by simpa using g0) j)).trans (yE _ _ _)
  sb1:=fun g0=>(congrArg (Option.map (scrPO (isK (.n 12)))) (r.sb1 (by simpa using g0))).trans rfl
  sb2:=fun g0=>(congrArg (Option.map (scrPO (isK (.n 12)))) (r.sb2 (by simpa using g0))).trans rfl
  o1:=fun _=>by simp[k8]
  o2:=fun g0=>by have:=r.o2 (by simpa using g0);simp[this]
  o3:=fun _=>by simp[k1]
  o4:=fun _=>by simp[k9] }
theorem op13_12 {p:ProgL} {s s1:StL} {ev:Ev} {tr:List Ev} {tk:List Int} {kk:Int} {w:Nat} {budget:Int} {g:FuncId} {c:List D} (L:Nat→Bool) (S:St) (r:R13 p s s1 ev tr tk kk w budget g c L S) (hL:L 12=false) (k10:L 10=true) (k11:L 11=true):aDo EE Tryz.f158.ntmps ops13 (ops13[12]'(by decide)) S (R13 p s s1 ev tr tk kk w budget g c (fun j=>L j || j==12)):=by
 have hat:At [(61,.ptr (.n 8) (0+1)),(60,.ref (.n 12) 0 (tr.length+1))] [(.n 8,.vs 46 ([i64 0,.junk,.ref (.n 13) 0 (tk.length+1)]++stRef s1))] [] S:=⟨⟨r.c11 k11,r.c10 k10,trivial⟩,⟨r.d8c k10 hL,trivial⟩,trivial⟩
 obtain⟨τ,H,rfl⟩:=hat.form
 conv=>whnf
 exact {
  u1:=r.u1
  u2:=r.u2
  u3:=r.u3
  u6:=r.u6
  u7:=r.u7
  u8:=r.u8
  u9:=r.u9
  u10:=r.u10
  u11:=r.u11
  h3:=r.h3
  h6:=r.h6
  h13:=r.h13
  c0:=fun g0=>r.c0 (by simpa using g0)
  c1:=fun g0 g1=>r.c1 (by simpa using g0) (by simpa using g1)
  c2:=fun g0=>r.c2 (by simpa using g0)
  c3:=fun g0=>r.c3 (by simpa using g0)
  c4:=fun g0=>r.c4 (by simpa using g0)
  c5:=fun g0=>r.c5 (by simpa using g0)
  c6:=fun g0=>r.c6 (by simpa using g0)
  c7:=fun g0=>r.c7 (by simpa using g0)
  c8:=fun g0=>r.c8 (by simpa using g0)
  c9:=fun g0 g1=>r.c9 (by simpa using g0) (by simpa using g1)
  c10:=fun g0=>r.c10 (by simpa using g0)
  c11:=fun g0=>r.c11 (by simpa using g0)
  e9:=fun g0 g1=>r.e9 (by simpa using g0) (by simpa using g1)
  d12a:=fun g0=>r.d12a (by simpa using g0)
  d12b:=fun g0=>r.d12b (by simpa using g0)
  d8a:=fun g0=>absurd g0 (by simp[r.o1 k10])
  d8b:=fun _ g1=>absurd g1 (by simp[k10])
  d8c:=fun g0 g1=>absurd g1 (by simp)
  d8d:=fun _=>rfl
  sa0:=fun g0=>r.sa0 (by simpa using g0)
  saF:=fun g0=>r.saF (by simpa using g0)
  sa1:=fun g0=>r.sa1 (by simpa using g0)
  sa2:=fun g0=>r.sa2 (by simpa using g0)
  sb0:=fun g0=>r.sb0 (by simpa using g0)
  sbF:=fun g0=>r.sbF (by simpa using g0)
  sb1:=fun g0=>r.sb1 (by simpa using g0)
  sb2:=fun g0=>r.sb2 (by simpa using g0)
  o1:=fun g0=>by have:=r.o1 (by simpa using g0);simp[this]
  o2:=fun _=>by simp[k10]
  o3:=fun g0=>by have:=r.o3 (by simpa using g0);simp[this]
  o4:=fun g0=>by have:=r.o4 (by simpa using g0);simp[this] }
def xZ:Key→Bool
 | .n k=>Nat.beq k 900 || Nat.beq k 901 || Nat.beq k 902
 | .s o _=>Nat.beq o 900
 | .l k=>Nat.beq k 0
theorem stHC_none {E:TypeId} {pre:List AV} {s:StL}:∀ κ,xZ κ=false→stHC E pre s κ=none
 | .l j,h=>by have h:Nat.beq j 0=false:=h;simp[stHC,h]
 | .n j,h=>by
  have h:(Nat.beq j 900 || Nat.beq j 901 || Nat.beq j 902)=false:=h
  simp only[Bool.or_eq_false_iff] at h
  simp[stHC,h.1.1,h.1.2,h.2]
 | .s o j,h=>by have h:Nat.beq o 900=false:=h;simp[stHC,h]
theorem op13_8 {p:ProgL} {s s1:StL} {ev:Ev} {tr:List Ev} {tk:List Int} {kk:Int} {w:Nat} {budget:Int} {g:FuncId} {c:List D} (hst:∀ (v0 v1:Value) (H0:Key→Option Ob),AtC 46 [i64 0,.lit v0,.lit v1] s H0→IOCall EE 129 [.ptr (.l 0) 3,agg (encProg p),i64 w] H0 (fun r H1=>r=agg (encEv ev)∧H1=stHC 46 [i64 0,.lit v0,.lit v1] s1)) (L:Nat→Bool) (S:St) (r:R13 p s s1 ev tr tk kk w budget g c L S) (hL:L 8=false) (k2:L 2=true) (k3:L 3=true) (k7:L 7=true):aDo EE Tryz.f158.ntmps ops13 (ops13[8]'(by decide)) S (R13 p s s1 ev tr tk kk w budget g c (fun j=>L j || j==8)):=by
 have n10:L 10=false:=by
  cases h:L 10 with
  |false=>rfl
  |true=>exact absurd (r.o1 h) (by rw[hL];decide)
 have hat:At [(52,.ptr (.n 8) (0+3)),(53,agg (encProg p)),(57,i64 w)] [(.n 8,.vs 46 ([i64 0,.ref (.n 12) 0 tr.length,.ref (.n 13) 0 (tk.length+1)]++stRef s)),(.n 900,.rs 109 6 (thRows 900 s.ths)),(.n 901,.ds 100 1 (s.cells.map encF)),(.n 902,.ds 3 1 (s.owner.map encInt))] [(900,zP s.ths)] S:=⟨⟨r.c2 k2,r.c3 k3,r.c7 k7,trivial⟩,⟨r.d8a hL,r.sa0 hL,r.sa1 hL,r.sa2 hL,trivial⟩,⟨r.saF hL,trivial⟩⟩
 obtain⟨τ,H,rfl⟩:=hat.form
 conv=>whnf
 refine .inr (.inr (.inr (.inl ⟨_,129,[],8,0,xZ,46,[i64 0,.ref (.n 12) 0 tr.length,.ref (.n 13) 0 (tk.length+1)]++stRef s,[.ref (.n 12) 0 tr.length,.ref (.n 13) 0 (tk.length+1)],fun lam=>[i64 0,.lit (lam 0),.lit (lam 1)]++stRef s,fun lam r H1=>r=agg (encEv ev)∧H1=stHC 46 [i64 0,.lit (lam 0),.lit (lam 1)] s1,Weak.refl,rfl,⟨rfl,rfl,rfl⟩,?_,fun lam=>litC13 _ _ _ _ rfl lam,fun lam=>hst (lam 0) (lam 1) _ ⟨rfl,rfl,?_,fun j=>?_,rfl,rfl⟩,?_⟩)))
 ·intro c hc
  simp only[List.mem_cons,List.not_mem_nil,or_false] at hc
  rcases hc with rfl|rfl
  ·exact⟨rfl,by simp⟩
  ·exact⟨rfl,by simp⟩
 ·show some (Ob.rs 109 6 (((thRows 900 s.ths).map (renL (swp (.n 8) (.l 0)))).map (scrPL fun o=>!xZ o)))=_
  rw[jY]
  exact congrArg (fun x=>some (Ob.rs 109 6 x)) (yB fun _ _=>rfl)
 ·show((zP s.ths j).map (renO _)).map (scrPO _)=_
  rw[thFam_ren,yE]
 rintro lam rr H1 ⟨rfl,rfl⟩
 refine⟨stHC_none,?_,[i64 0,.lit (lam 0),.lit (lam 1)]++stRef s1,[i64 0,.ref (.n 12) 0 tr.length,.ref (.n 13) 0 (tk.length+1)]++stRef s1,rfl,litB13 _ _ _ _,?_⟩
 ·intro n hn
  have:n=0:=by simpa[xZ] using hn
  subst this
  exact⟨46,_,_,rfl,rfl⟩
 exact {
  u1:=(congrArg (fun x=>ren (swp (.n 8) (.l 0)) (scrP (xO xZ) (ren (swp (.n 8) (.l 0)) x))) (r.u1)).trans rfl
  u2:=(congrArg (fun x=>ren (swp (.n 8) (.l 0)) (scrP (xO xZ) (ren (swp (.n 8) (.l 0)) x))) (r.u2)).trans rfl
  u3:=(congrArg (fun x=>ren (swp (.n 8) (.l 0)) (scrP (xO xZ) (ren (swp (.n 8) (.l 0)) x))) (r.u3)).trans rfl
  u6:=(congrArg (fun x=>ren (swp (.n 8) (.l 0)) (scrP (xO xZ) (ren (swp (.n 8) (.l 0)) x))) (r.u6)).trans rfl
  u7:=(congrArg (fun x=>ren (swp (.n 8) (.l 0)) (scrP (xO xZ) (ren (swp (.n 8) (.l 0)) x))) (r.u7)).trans rfl
  u8:=(congrArg (fun x=>ren (swp (.n 8) (.l 0)) (scrP (xO xZ) (ren (swp (.n 8) (.l 0)) x))) (r.u8)).trans rfl
  u9:=(congrArg (fun x=>ren (swp (.n 8) (.l 0)) (scrP (xO xZ) (ren (swp (.n 8) (.l 0)) x))) (r.u9)).trans rfl
  u10:=(congrArg (fun x=>ren (swp (.n 8) (.l 0)) (scrP (xO xZ) (ren (swp (.n 8) (.l 0)) x))) (r.u10)).trans rfl
  u11:=(congrArg (fun x=>ren (swp (.n 8) (.l 0)) (scrP (xO xZ) (ren (swp (.n 8) (.l 0)) x))) (r.u11)).trans rfl
  h3:=(congrArg (fun x=>(((x.map (renO (swp (.n 8) (.l 0)))).map (scrPO (xO xZ))).map (renO (swp (.n 8) (.l 0))))) (r.h3)).trans rfl
  h6:=(congrArg (fun x=>(((x.map (renO (swp (.n 8) (.l 0)))).map (scrPO (xO xZ))).map (renO (swp (.n 8) (.l 0))))) (r.h6)).trans rfl
  h13:=(congrArg (fun x=>(((x.map (renO (swp (.n 8) (.l 0)))).map (scrPO (xO xZ))).map (renO (swp (.n 8) (.l 0))))) (r.h13)).trans rfl
  c0:=fun g0=>(congrArg (fun x=>ren (swp (.n 8) (.l 0)) (scrP (xO xZ) (ren (swp (.n 8) (.l 0)) x))) (r.c0 (by simpa using g0))).trans rfl
  c1:=fun g0 g1=>(congrArg (fun x=>ren (swp (.n 8) (.l 0)) (scrP (xO xZ) (ren (swp (.n 8) (.l 0)) x))) (r.c1 (by simpa using g0) (by simpa using g1))).trans rfl
  c2:=fun g0=>(congrArg (fun x=>ren (swp (.n 8) (.l 0)) (scrP (xO xZ) (ren (swp (.n 8) (.l 0)) x))) (r.c2 (by simpa using g0))).trans rfl
  c3:=fun g0=>(congrArg (fun x=>ren (swp (.n 8) (.l 0)) (scrP (xO xZ) (ren (swp (.n 8) (.l 0)) x))) (r.c3 (by simpa using g0))).trans rfl
  c4:=fun g0=>(congrArg (fun x=>ren (swp (.n 8) (.l 0)) (scrP (xO xZ) (ren (swp (.n 8) (.l 0)) x))) (r.c4 (by simpa using g0))).trans rfl
  c5:=fun g0=>(congrArg (fun x=>ren (swp (.n 8) (.l 0)) (scrP (xO xZ) (ren (swp (.n 8) (.l 0)) x))) (r.c5 (by simpa using g0))).trans rfl
  c6:=fun g0=>(congrArg (fun x=>ren (swp (.n 8) (.l 0)) (scrP (xO xZ) (ren (swp (.n 8) (.l 0)) x))) (r.c6 (by simpa using g0))).trans rfl
  c7:=fun g0=>(congrArg (fun x=>ren (swp (.n 8) (.l 0)) (scrP (xO xZ) (ren (swp (.n 8) (.l 0)) x))) (r.c7 (by simpa using g0))).trans rfl
  c8:=fun _=>agg_ren _ _
  c9:=fun g0 g1=>(congrArg (fun x=>ren (swp (.n 8) (.l 0)) (scrP (xO xZ) (ren (swp (.n 8) (.l 0)) x))) (r.c9 (by simpa using g0) (by simpa using g1))).trans rfl
  c10:=fun g0=>(congrArg (fun x=>ren (swp (.n 8) (.l 0)) (scrP (xO xZ) (ren (swp (.n 8) (.l 0)) x))) (r.c10 (by simpa using g0))).trans rfl
  c11:=fun g0=>(congrArg (fun x=>ren (swp (.n 8) (.l 0)) (scrP (xO xZ) (ren (swp (.n 8) (.l 0)) x))) (r.c11 (by simpa using g0))).trans rfl
  e9:=fun g0 g1=>(congrArg (fun x=>(((x.map (renO (swp (.n 8) (.l 0)))).map (scrPO (xO xZ))).map (renO (swp (.n 8) (.l 0))))) (r.e9 (by simpa using g0) (by simpa using g1))).trans rfl
  d12a:=fun g0=>(congrArg (fun x=>(((x.map (renO (swp (.n 8) (.l 0)))).map (scrPO (xO xZ))).map (renO (swp (.n 8) (.l 0))))) (r.d12a (by simpa using g0))).trans rfl
  d12b:=fun g0=>(congrArg (fun x=>(((x.map (renO (swp (.n 8) (.l 0)))).map (scrPO (xO xZ))).map (renO (swp (.n 8) (.l 0))))) (r.d12b (by simpa using g0))).trans rfl
  d8a:=fun g0=>absurd g0 (by simp)
  d8b:=fun _ _=>rfl
  d8c:=fun g0=>absurd g0 (by simp[n10])
  d8d:=fun g0=>absurd (r.o2 (by simpa using g0)) (by rw[n10];decide)
  sa0:=fun g0=>absurd g0 (by simp)
  saF:=fun g0=>absurd g0 (by simp)
  sa1:=fun g0=>absurd g0 (by simp)
  sa2:=fun g0=>absurd g0 (by simp)
  sb0:=fun _=>congrArg (fun x=>some (Ob.rs 109 6 x)) (jY 8 0 900 s1.ths)
  sbF:=fun _ j=>thFam_ren _ _ _
  sb1:=fun _=>rfl
  sb2:=fun _=>rfl
  o1:=fun _=>by simp
  o2:=fun g0=>by have:=r.o2 (by simpa using g0);simp[this]
  o3:=fun g0=>by have:=r.o3 (by simpa using g0);simp[this]
  o4:=fun g0=>by have:=r.o4 (by simpa using g0);simp[this] }
end Ai
