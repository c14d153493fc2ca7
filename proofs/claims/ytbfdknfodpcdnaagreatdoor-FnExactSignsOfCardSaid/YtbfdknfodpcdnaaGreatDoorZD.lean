import Derived.Test.YtbfdknfodpcdnaaGreatDoorZC
set_option maxHeartbeats 8000000
set_option linter.unusedVariables false
set_option linter.unusedSimpArgs false
namespace Ai
set_option maxRecDepth 100000
open Go Go.Proofs
def zC (t:Th) (o:OpL):Th:={ t with pc:=t.pc+1,stack:=t.stack.take (zQ t o) }
def yL (t:Th) (o:OpL) (i:Nat):Nat:=(t.stack.drop (zQ t o)).getD i 0
def zL (t:Th) (x:Nat):Th:={ t with stack:=t.stack++[x] }
def jH (r:Int):Th:=⟨r,0,1,-1,-1,[]⟩
def wM (l:List Th) (a:Int):Option Nat:=l.findIdx? fun t=>t.st==3&&t.cond==a
def StL.put (s:StL) (k:Nat) (t:Th):StL:={ s with ths:=s.ths.set k t }
noncomputable def doL (s:StL) (k:Nat) (o:OpL) (e:Ev):StL × Ev :=
 let t0:=s.ths.getD k th0
 let t:=zC t0 o
 let e:={ e with kind:=1 }
 if o.code=1 then (s.put k (zL t o.v),e)
 else if o.code=2 then (s.put k (zL t (s.cells.getD o.a.toNat 0)),{ e with kind:=2,obj:=o.a })
 else if o.code=3 then ({ s with cells:=s.cells.set o.a.toNat (yL t0 o 0) }.put k t,{ e with kind:=3,obj:=o.a })
 else if o.code=10 then (s.put k { t with pc:=o.a },e)
 else if o.code=11 then (s.put k (if zM (yL t0 o 0)=true∨fcmp .eql (yL t0 o 0) 0=true then { t with pc:=o.a } else t),e)
 else if o.code=12 then ({ s with owner:=s.owner.set o.a.toNat k }.put k t,{ e with kind:=4,obj:=o.a })
 else if o.code=13 then ({ s with owner:=s.owner.set o.a.toNat (-1) }.put k t,{ e with kind:=5,obj:=o.a })
 else if o.code=14 then ({ s with ths:=s.ths++[jH o.a] }.put k (zL t (FloatKind.f64.nearest (s.ths.length:Int))),{ e with kind:=6,obj:=s.ths.length })
 else if o.code=15 then (s.put k t,{ e with kind:=7,obj:=(zU s t0).getD (-1) })
 else if o.code=16 then ({ s with owner:=s.owner.set o.b.toNat (-1) }.put k { t with st:=3,cond:=o.a,lock:=o.b,pc:=t.pc - 1 },{ e with kind:=8,obj:=o.a,lock:=o.b })
 else if o.code=17 then
  (match wM s.ths o.a with
  |some j=>({ s with ths:=s.ths.modify j fun u=>{ u with st:=4 } }.put k t,{ e with kind:=10,obj:=o.a,lock:=j })
  |none=>(s.put k t,{ e with kind:=10,obj:=o.a }))
 else (s.put k (zL t (yN o.code (yL t0 o 0) (yL t0 o 1))),e)
theorem qJ {s':StL} {l:List Th} {k:Nat} {t:Th} {e':Ev} {els:List (List D)} {R c10:List AV} {rows:List (List AV)} {S:St}
  (hat:At [(1,i64 k),(4,.ptr (.n 4) 0),(7,.ptr (.n 7) 0),(8,.ptr (.n 8) 0),(9,.ptr (.n 9) 0),(10,.ptr (.n 10) 0)]
   [(.n 4,.vs 44 R),(.n 7,.vs 107 ((encEv e').map .d)),(.n 8,.vs 44 [.d .nil,.d .nil,.d .nil,i64 0]),(.n 9,.vs 107 [i64 0,i64 0,i64 0,i64 0,i64 0]),(.n 10,.vs 109 c10),
    (.n 900,.rs 109 6 rows),(.n 901,.ds 100 1 (s'.cells.map encF)),(.n 902,.ds 3 1 (s'.owner.map encInt))] [(900,kU l k els)] S)
  (hR:R=stRef s') (h10:c10=thRow 900 k t) (hk:k<l.length) (hths:s'.ths=l.set k t) (hels:els.take t.stack.length=stk t)
  (hrow:∀ j t0,j≠k→l[j]?=some t0→rows[j]?=some (thRow 900 j t0)):Do2 l s' k e' S:=by
 subst hR h10
 refine⟨t,rows,els,?_,fun j t' hj hj'=>?_,hels,hat⟩
 ·rw[hths];simp[hk]
 ·rw[hths,List.getElem?_set_ne (Ne.symm hj)] at hj'
  exact⟨_,hrow j t' hj hj',.inl ⟨t',hj',rfl,rfl⟩⟩
theorem rows_app {X N:List (List AV)} {n j:Nat} {c:List AV} (h:X[j]?=some c) (hj:j<n):(X.take n++N)[j]?=some c:=by
 have h1:=(List.getElem?_eq_some_iff.1 h).1
 rw[List.getElem?_append_left (by simp;omega),List.getElem?_take,if_pos hj];exact h
theorem rows_new {X N:List (List AV)} {n:Nat} {c:List AV} (h:X.length=n) (hN:N=[c]):(X.take n++N)[n]?=some c:=by
 subst hN h;simp
theorem do2_fork {s':StL} {l:List Th} {k:Nat} {t nt:Th} {e':Ev} {els:List (List D)} {R c10:List AV} {rows:List (List AV)} {S:St}
  (hat:At [(1,i64 k),(4,.ptr (.n 4) 0),(7,.ptr (.n 7) 0),(8,.ptr (.n 8) 0),(9,.ptr (.n 9) 0),(10,.ptr (.n 10) 0)]
   [(.n 4,.vs 44 R),(.n 7,.vs 107 ((encEv e').map .d)),(.n 8,.vs 44 [.d .nil,.d .nil,.d .nil,i64 0]),(.n 9,.vs 107 [i64 0,i64 0,i64 0,i64 0,i64 0]),(.n 10,.vs 109 c10),
    (.n 900,.rs 109 6 rows),(.n 901,.ds 100 1 (s'.cells.map encF)),(.n 902,.ds 3 1 (s'.owner.map encInt))] [(900,kU l k els)] S)
  (hR:R=stRef s') (h10:c10=thRow 900 k t) (hk:k<l.length) (hths:s'.ths=(l++[nt]).set k t) (hnt:nt.stack=[]) (hels:els.take t.stack.length=stk t)
  (hrow:∀ j t0,j≠k→l[j]?=some t0→rows[j]?=some (thRow 900 j t0)) (hnew:rows[l.length]?=some (w3 nt)):Do2 l s' k e' S:=by
 subst hR h10
 refine⟨t,rows,els,?_,fun j t' hj hj'=>?_,hels,hat⟩
 ·rw[hths];simp[show k<l.length+1 by omega]
 ·rw[hths,List.getElem?_set_ne (Ne.symm hj)] at hj'
  by_cases h1:j<l.length
  ·rw[List.getElem?_append_left h1] at hj'
   exact⟨_,hrow j t' hj hj',.inl ⟨t',hj',rfl,rfl⟩⟩
  ·rw[List.getElem?_append_right (by omega)] at hj'
   have h2:j - l.length=0:=by
    have:=(List.getElem?_eq_some_iff.1 hj').1
    simp at this;omega
   rw[h2] at hj'
   simp only[List.getElem?_cons_zero,Option.some.injEq] at hj'
   subst hj'
   have h3:j=l.length:=by omega
   subst h3
   exact⟨_,hnew,.inr ⟨hnt,rfl⟩⟩
theorem rows_mod {X:List (List AV)} {i j:Nat} {t:Th} (h:X[j]?=some (thRow 900 j t)):(X.modify i fun c=>zW c 2 [i64 4])[j]?=some (thRow 900 j (if i=j then { t with st:=4 } else t)):=by
 rw[List.getElem?_modify,h]
 by_cases hij:i=j
 ·simp only[if_pos hij];rfl
 ·simp only[if_neg hij];rfl
theorem do2_wake {s':StL} {l:List Th} {k i:Nat} {t:Th} {e':Ev} {els:List (List D)} {R c10:List AV} {rows:List (List AV)} {S:St}
  (hat:At [(1,i64 k),(4,.ptr (.n 4) 0),(7,.ptr (.n 7) 0),(8,.ptr (.n 8) 0),(9,.ptr (.n 9) 0),(10,.ptr (.n 10) 0)]
   [(.n 4,.vs 44 R),(.n 7,.vs 107 ((encEv e').map .d)),(.n 8,.vs 44 [.d .nil,.d .nil,.d .nil,i64 0]),(.n 9,.vs 107 [i64 0,i64 0,i64 0,i64 0,i64 0]),(.n 10,.vs 109 c10),
    (.n 900,.rs 109 6 rows),(.n 901,.ds 100 1 (s'.cells.map encF)),(.n 902,.ds 3 1 (s'.owner.map encInt))] [(900,kU l k els)] S)
  (hR:R=stRef s') (h10:c10=thRow 900 k t) (hk:k<l.length) (hths:s'.ths=(l.modify i fun u=>{ u with st:=4 }).set k t) (hels:els.take t.stack.length=stk t)
  (hrow:∀ j t0,j≠k→l[j]?=some t0→rows[j]?=some (thRow 900 j (if i=j then { t0 with st:=4 } else t0))):Do2 l s' k e' S:=by
 subst hR h10
 refine⟨t,rows,els,?_,fun j t' hj hj'=>?_,hels,hat⟩
 ·rw[hths];simp[hk]
 ·rw[hths,List.getElem?_set_ne (Ne.symm hj),List.getElem?_modify] at hj'
  obtain⟨t0,h1,h2⟩:=Option.map_eq_some_iff.1 hj'
  refine⟨_,hrow j t0 hj h1,.inl ⟨t0,h1,?_,?_⟩⟩
  ·by_cases hij:i=j
   ·simp only[if_pos hij] at h2;subst h2;rfl
   ·simp only[if_neg hij] at h2;subst h2;rfl
  ·by_cases hij:i=j
   ·simp only[if_pos hij] at h2 ⊢;subst h2;rfl
   ·simp only[if_neg hij] at h2 ⊢;subst h2;rfl
def OpL.fits (o:OpL) (s:StL) (t:Th):Prop:=InR o.code 1 17∧((o.code=2∨o.code=3)→0≤o.a∧o.a<s.cells.length)∧((o.code=12∨o.code=13)→0≤o.a∧o.a<s.owner.length)∧(o.code=16→0≤o.b∧o.b<s.owner.length) ∧
 (zA o.code).1≤t.stack.length
theorem xB {o j:Nat} {l:List Th} {t:Th} (h:l[j]?=some t):(thRows o l)[j]?=some (thRow o j t):=by
 obtain⟨h1,rfl⟩:=List.getElem?_eq_some_iff.1 h
 exact xJ h1
theorem isK_s0 {j k:Nat} (h:j≠k):Key.beq (.s 900 j) (.s 900 k)=false:=by
 show(Nat.beq 900 900&&Nat.beq j k)=false
 rw[nbeq_ne h];rfl
theorem kb_ne {j k:Nat} (h:j≠k):Key.beq (.s 900 j) (.s 900 k)=false:=isK_s0 h
theorem kL {l:List Th} {k j:Nat} {els:List (List D)} (h:j≠k):kU l k els j=zS l j:=by
 unfold kU;rw[nbeq_ne h];rfl
theorem jI {j k:Nat} (h:j≠k):isK (.s 900 k) (.s 900 j)=false:=by
 show(Nat.beq 900 900&&Nat.beq j k)=false
 rw[nbeq_ne h];rfl
theorem wP {t:Th} {o:OpL} {i:Nat} (h:(zA o.code).1≤t.stack.length) (hi:i<xK o):((t.stack.drop (zQ t o)).map encF)[i]?=some (encF (yL t o i)):=by
 have h1:zQ t o+i<t.stack.length:=by unfold zQ;unfold xK at *;omega
 simp[yL,List.getD_eq_getElem?_getD,h1]
theorem aB {l:List Nat} {a:Int} (h:0≤a∧a<l.length):(l.map encF)[a.toNat]?=some (encF (l.getD a.toNat 0)):=by
 have:a.toNat<l.length:=by omega
 simp[this,List.getD_eq_getElem?_getD]
theorem l3Do_sw (s:StL) (k:Nat) (o:OpL) (e:Ev) (hk:k<s.ths.length) (h5:s.ths.length≤5) (hs:s.small) (ho:o.fits s s.ths[k]) (hpc:InR s.ths[k].pc 0 1048576)
  (Q:AX→St→Prop) (K:St→Prop) (S:St) (hS:At (doL1 s k o s.ths[k]) (doO1 s k o e s.ths[k]) [(900,kU s.ths k (stk s.ths[k]))] S) (hK:∀ S',Do2 s.ths (doL s k o e).1 k (doL s k o e).2 S'→K S') :
  mK EE Tryz.f150.ntmps K Q 1 (dropC 8 (Tryz.f150.body.getD .skip)) S:=by
 have hst:=hs.2.1 _ (List.getElem_mem hk)
 have hg:s.ths.getD k th0=s.ths[k]:=by simp[List.getD_eq_getElem?_getD,hk]
 generalize ht0:s.ths[k]=t at *
 obtain⟨τ,H,rfl⟩:=hS.form
 clear hS
 obtain⟨o1,o2,o3,o4,o5⟩:=ho
 have hkn:zQ t o≤t.stack.length:=Nat.sub_le _ _
 obtain⟨K0,hK0⟩:∃ K0,K0=k:=⟨k,rfl⟩
 obtain⟨K1,hK1⟩:∃ K1,K1=k:=⟨k,rfl⟩
 obtain rfl|rfl|rfl|rfl|rfl:k=0∨k=1∨k=2∨k=3∨k=4:=by omega
 all_goals
  conv=>whnf
  refine kbi (fun hc=>?_) (fun hc=>?_)
  ·have hc:o.code=1:=by simpa using hc
   conv=>whnf
   refine⟨⟨rfl,by simp;omega,by simp;omega⟩,?_⟩
   conv=>whnf
   have hd:doL s K0 o e=(s.put K0 (zL (zC t o) o.v),{ e with kind:=1 }):=by rw[hK0];unfold doL;rw[hg];simp[hc]
   rw[hK0] at hd
   rw[hd] at hK
   refine hK _ (qJ (t:=zL (zC t o) o.v) (els:=stk (zL (zC t o) o.v)) ⟨⟨rfl,rfl,rfl,rfl,rfl,rfl,trivial⟩,⟨rfl,rfl,rfl,rfl,rfl,rfl,rfl,rfl,trivial⟩,⟨fun j=>?_,trivial⟩⟩ ?_ ?_ hk rfl ?_ ?_)
   ·by_cases hj:j=K0 <;> rw[hK0] at hj
    ·subst hj
     conv=>lhs;whnf
     show some (Ob.ds 100 1 _)=some (Ob.ds 100 1 _)
     simp[stk,zL,zC,encF]
    ·rw[kL hj]
     conv=>lhs;whnf
     repeat (first|(rw[kb_ne hj];conv=>lhs;whnf)|(refine hscrO ?_ (yH _ _ _);conv=>lhs;whnf))
     exact kL hj
   ·show stRef s=_
    simp[stRef,StL.put]
   ·have en:(zL (zC t o) o.v).stack.length=zQ t o+1:=by simp[zL,zC];omega
    show _=[_,_,_,_,_,AV.ref _ 0 (zL (zC t o) o.v).stack.length]
    rw[en]
    rfl
   ·simp[stk,List.take_of_length_le,zC,zL]
   ·intro j t0 hj h
    repeat (first|exact xB h|refine yZ ?_ (zY (by first|rfl|exact jI hj)))
  have n1:¬ o.code=1:=by simpa using hc
  clear hc
  conv=>whnf
  refine kbi (fun hc=>?_) (fun hc=>?_)
  ·have hc:o.code=2:=by simpa using hc
   conv=>whnf
   have hr:=o2 (.inl hc)
   refine .inr (.inl ⟨9,[],?_⟩)
   conv=>whnf
   refine⟨⟨by omega,by omega⟩,?_⟩
   conv=>whnf
   refine⟨encF (s.cells.getD o.a.toNat 0),⟨by rw[Nat.zero_add];exact aB hr,by simp[encF]⟩,?_⟩
   conv=>whnf
   refine⟨by kernel_rfl,?_⟩
   conv=>whnf
   refine⟨⟨rfl,by simp;omega,by simp;omega⟩,?_⟩
   conv=>whnf
   have hd:doL s K0 o e=(s.put K0 (zL (zC t o) (s.cells.getD o.a.toNat 0)),{ e with kind:=2,obj:=o.a }):=by rw[hK0];unfold doL;rw[hg];simp[hc]
   rw[hK0] at hd
   rw[hd] at hK
   refine hK _ (qJ (t:=zL (zC t o) (s.cells.getD o.a.toNat 0)) (els:=stk (zL (zC t o) (s.cells.getD o.a.toNat 0))) ⟨⟨rfl,rfl,rfl,rfl,rfl,rfl,trivial⟩,⟨rfl,rfl,rfl,rfl,rfl,rfl,rfl,rfl,trivial⟩,⟨fun j=>?_,trivial⟩⟩ ?_ ?_ hk rfl ?_ ?_)
   ·by_cases hj:j=K0 <;> rw[hK0] at hj
    ·subst hj
     conv=>lhs;whnf
     show some (Ob.ds 100 1 _)=some (Ob.ds 100 1 _)
     simp[stk,zL,zC,encF]
    ·rw[kL hj]
     conv=>lhs;whnf
     repeat (first|(rw[kb_ne hj];conv=>lhs;whnf)|(refine hscrO ?_ (yH _ _ _);conv=>lhs;whnf))
     exact kL hj
   ·show stRef s=_
    simp[stRef,StL.put]
   ·have en:(zL (zC t o) (s.cells.getD o.a.toNat 0)).stack.length=zQ t o+1:=by simp[zL,zC];omega
    show _=[_,_,_,_,_,AV.ref _ 0 (zL (zC t o) (s.cells.getD o.a.toNat 0)).stack.length]
    rw[en]
    rfl
   ·simp[stk,List.take_of_length_le,zC,zL]
   ·intro j t0 hj h
    repeat (first|exact xB h|refine yZ ?_ (zY (by first|rfl|exact jI hj)))
  have n2:¬ o.code=2:=by simpa using hc
  clear hc
  conv=>whnf
  refine kbi (fun hc=>?_) (fun hc=>?_)
  ·have hc:o.code=3:=by simpa using hc
   conv=>whnf
   have hr:=o2 (.inr hc)
   have htk:xK o=1:=by simp[xK,zA,hc]
   refine .inr (.inl ⟨7,[],?_⟩)
   conv=>whnf
   refine⟨⟨by omega,by omega⟩,?_⟩
   conv=>whnf
   refine⟨encF (yL t o 0),⟨wP o5 (by omega),by simp[encF]⟩,?_⟩
   conv=>whnf
   refine⟨by kernel_rfl,?_⟩
   conv=>whnf
   refine⟨⟨by omega,by omega⟩,?_⟩
   conv=>whnf
   have hd:doL s K0 o e=({ s with cells:=s.cells.set o.a.toNat (yL t o 0) }.put K0 (zC t o),{ e with kind:=3,obj:=o.a }):=by rw[hK0];unfold doL;rw[hg];simp[hc]
   rw[hK0] at hd
   rw[hd] at hK
   refine hK _ (qJ (t:=zC t o) (els:=stk t) ⟨⟨rfl,rfl,rfl,rfl,rfl,rfl,trivial⟩,⟨rfl,rfl,rfl,rfl,rfl,rfl,?_,rfl,trivial⟩,⟨fun j=>?_,trivial⟩⟩ ?_ ?_ hk rfl ?_ ?_)
   ·conv=>lhs;whnf
    show some (Ob.ds 100 1 ((s.cells.map encF).set (0+o.a.toNat) (encF (yL t o 0))))=some (Ob.ds 100 1 ((s.cells.set o.a.toNat (yL t o 0)).map encF))
    rw[Nat.zero_add,List.map_set]
   ·((conv=>lhs;whnf);(repeat (refine hscrO ?_ (famK_scr _ _ _ _ _);conv=>lhs;whnf));rfl)
   ·show stRef s=_
    simp[stRef,StL.put]
   ·have en:(zC t o).stack.length=zQ t o:=by simp[zL,zC];omega
    show _=[_,_,_,_,_,AV.ref _ 0 (zC t o).stack.length]
    rw[en]
    rfl
   ·simp[stk,List.take_of_length_le,zC,zL]
   ·intro j t0 hj h
    repeat (first|exact xB h|refine yZ ?_ (zY (by first|rfl|exact jI hj)))
  have n3:¬ o.code=3:=by simpa using hc
  clear hc
  conv=>whnf
  refine kbi (fun hc=>?_) (fun hc=>?_)
  ·have hc:o.code=10:=by simpa using hc
   conv=>whnf
   have hd:doL s K0 o e=(s.put K0 { zC t o with pc:=o.a },{ e with kind:=1 }):=by rw[hK0];unfold doL;rw[hg];simp[hc]
   rw[hK0] at hd
   rw[hd] at hK
   refine hK _ (qJ (t:={ zC t o with pc:=o.a }) (els:=stk t) ⟨⟨rfl,rfl,rfl,rfl,rfl,rfl,trivial⟩,⟨rfl,rfl,rfl,rfl,rfl,rfl,rfl,rfl,trivial⟩,⟨fun j=>?_,trivial⟩⟩ ?_ ?_ hk rfl ?_ ?_)
   ·((conv=>lhs;whnf);(repeat (refine hscrO ?_ (famK_scr _ _ _ _ _);conv=>lhs;whnf));rfl)
   ·show stRef s=_
    simp[stRef,StL.put]
   ·have en:({ zC t o with pc:=o.a }).stack.length=zQ t o:=by simp[zL,zC];omega
    show _=[_,_,_,_,_,AV.ref _ 0 ({ zC t o with pc:=o.a }).stack.length]
    rw[en]
    rfl
   ·simp[stk,List.take_of_length_le,zC,zL]
   ·intro j t0 hj h
    repeat (first|exact xB h|refine yZ ?_ (zY (by first|rfl|exact jI hj)))
  have n10:¬ o.code=10:=by simpa using hc
  clear hc
  conv=>whnf
  refine kbi (fun hc=>?_) (fun hc=>?_)
  ·have hc:o.code=11:=by simpa using hc
   conv=>whnf
   have htk:xK o=1:=by simp[xK,zA,hc]
   refine⟨⟨by omega,by omega⟩,?_⟩
   conv=>whnf
   refine⟨encF (yL t o 0),⟨wP o5 (by omega),by simp[encF]⟩,?_⟩
   conv=>whnf
   refine ocase (vX _) (fun hn=>?_) (fun hn=>?_)
   ·conv=>whnf
    have hn':zM (yL t o 0)=true:=hn
    have hd:doL s K0 o e=(s.put K0 { zC t o with pc:=o.a },{ e with kind:=1 }):=by rw[hK0];unfold doL;rw[hg];simp[hc,hn']
    rw[hK0] at hd
    rw[hd] at hK
    refine hK _ (qJ (t:={ zC t o with pc:=o.a }) (els:=stk t) ⟨⟨rfl,rfl,rfl,rfl,rfl,rfl,trivial⟩,⟨rfl,rfl,rfl,rfl,rfl,rfl,rfl,rfl,trivial⟩,⟨fun j=>?_,trivial⟩⟩ ?_ ?_ hk rfl ?_ ?_)
    ·((conv=>lhs;whnf);(repeat (refine hscrO ?_ (famK_scr _ _ _ _ _);conv=>lhs;whnf));rfl)
    ·show stRef s=_
     simp[stRef,StL.put]
    ·have en:({ zC t o with pc:=o.a }).stack.length=zQ t o:=by simp[zL,zC];omega
     show _=[_,_,_,_,_,AV.ref _ 0 ({ zC t o with pc:=o.a }).stack.length]
     rw[en]
     rfl
    ·simp[stk,List.take_of_length_le,zC,zL]
    ·intro j t0 hj h
     repeat (first|exact xB h|refine yZ ?_ (zY (by first|rfl|exact jI hj)))
   conv=>whnf
   refine⟨⟨by omega,by omega⟩,?_⟩
   conv=>whnf
   refine⟨encF (yL t o 0),⟨wP o5 (by omega),by simp[encF]⟩,?_⟩
   conv=>whnf
   refine kbi (fun hz=>?_) (fun hz=>?_)
   ·conv=>whnf
    have hz':fcmp .eql (yL t o 0) 0=true:=hz
    have hd:doL s K0 o e=(s.put K0 { zC t o with pc:=o.a },{ e with kind:=1 }):=by rw[hK0];unfold doL;rw[hg];simp[hc,hz']
    rw[hK0] at hd
    rw[hd] at hK
    refine hK _ (qJ (t:={ zC t o with pc:=o.a }) (els:=stk t) ⟨⟨rfl,rfl,rfl,rfl,rfl,rfl,trivial⟩,⟨rfl,rfl,rfl,rfl,rfl,rfl,rfl,rfl,trivial⟩,⟨fun j=>?_,trivial⟩⟩ ?_ ?_ hk rfl ?_ ?_)
    ·((conv=>lhs;whnf);(repeat (refine hscrO ?_ (famK_scr _ _ _ _ _);conv=>lhs;whnf));rfl)
    ·show stRef s=_
     simp[stRef,StL.put]
    ·have en:({ zC t o with pc:=o.a }).stack.length=zQ t o:=by simp[zL,zC];omega
     show _=[_,_,_,_,_,AV.ref _ 0 ({ zC t o with pc:=o.a }).stack.length]
     rw[en]
     rfl
    ·simp[stk,List.take_of_length_le,zC,zL]
    ·intro j t0 hj h
     repeat (first|exact xB h|refine yZ ?_ (zY (by first|rfl|exact jI hj)))
   conv=>whnf
   have hz':¬ (zM (yL t o 0)=true∨fcmp .eql (yL t o 0) 0=true):=fun e=>e.elim hn hz
   have hd:doL s K0 o e=(s.put K0 (zC t o),{ e with kind:=1 }):=by rw[hK0];unfold doL;rw[hg];simp[hc];rw[if_neg hz']
   rw[hK0] at hd
   rw[hd] at hK
   refine hK _ (qJ (t:=zC t o) (els:=stk t) ⟨⟨rfl,rfl,rfl,rfl,rfl,rfl,trivial⟩,⟨rfl,rfl,rfl,rfl,rfl,rfl,rfl,rfl,trivial⟩,⟨fun j=>?_,trivial⟩⟩ ?_ ?_ hk rfl ?_ ?_)
   ·((conv=>lhs;whnf);(repeat (refine hscrO ?_ (famK_scr _ _ _ _ _);conv=>lhs;whnf));rfl)
   ·show stRef s=_
    simp[stRef,StL.put]
   ·have en:(zC t o).stack.length=zQ t o:=by simp[zL,zC];omega
    show _=[_,_,_,_,_,AV.ref _ 0 (zC t o).stack.length]
    rw[en]
    rfl
   ·simp[stk,List.take_of_length_le,zC,zL]
   ·intro j t0 hj h
    repeat (first|exact xB h|refine yZ ?_ (zY (by first|rfl|exact jI hj)))
  have n11:¬ o.code=11:=by simpa using hc
  clear hc
  conv=>whnf
  refine kbi (fun hc=>?_) (fun hc=>?_)
  ·have hc:o.code=12:=by simpa using hc
   conv=>whnf
   have hr:=o3 (.inl hc)
   refine⟨⟨by omega,by omega⟩,?_⟩
   conv=>whnf
   have hd:doL s K0 o e=({ s with owner:=s.owner.set o.a.toNat ((K0:Nat):Int) }.put K0 (zC t o),{ e with kind:=4,obj:=o.a }):=by rw[hK0];unfold doL;rw[hg];simp[hc]
   rw[hK0] at hd
   rw[hd] at hK
   refine hK _ (qJ (t:=zC t o) (els:=stk t) ⟨⟨rfl,rfl,rfl,rfl,rfl,rfl,trivial⟩,⟨rfl,rfl,rfl,rfl,rfl,rfl,rfl,?_,trivial⟩,⟨fun j=>?_,trivial⟩⟩ ?_ ?_ hk rfl ?_ ?_)
   ·conv=>lhs;whnf
    show some (Ob.ds 3 1 ((s.owner.map encInt).set (0+o.a.toNat) (encInt _)))=some (Ob.ds 3 1 ((s.owner.set o.a.toNat _).map encInt))
    rw[Nat.zero_add,List.map_set]
   ·((conv=>lhs;whnf);(repeat (refine hscrO ?_ (famK_scr _ _ _ _ _);conv=>lhs;whnf));rfl)
   ·show stRef s=_
    simp[stRef,StL.put]
   ·have en:(zC t o).stack.length=zQ t o:=by simp[zL,zC];omega
    show _=[_,_,_,_,_,AV.ref _ 0 (zC t o).stack.length]
    rw[en]
    rfl
   ·simp[stk,List.take_of_length_le,zC,zL]
   ·intro j t0 hj h
    repeat (first|exact xB h|refine yZ ?_ (zY (by first|rfl|exact jI hj)))
  have n12:¬ o.code=12:=by simpa using hc
  clear hc
  conv=>whnf
  refine kbi (fun hc=>?_) (fun hc=>?_)
  ·have hc:o.code=13:=by simpa using hc
   conv=>whnf
   have hr:=o3 (.inr hc)
   refine⟨⟨by omega,by omega⟩,?_⟩
   conv=>whnf
   have hd:doL s K0 o e=({ s with owner:=s.owner.set o.a.toNat (-1) }.put K0 (zC t o),{ e with kind:=5,obj:=o.a }):=by rw[hK0];unfold doL;rw[hg];simp[hc]
   rw[hK0] at hd
   rw[hd] at hK
   refine hK _ (qJ (t:=zC t o) (els:=stk t) ⟨⟨rfl,rfl,rfl,rfl,rfl,rfl,trivial⟩,⟨rfl,rfl,rfl,rfl,rfl,rfl,rfl,?_,trivial⟩,⟨fun j=>?_,trivial⟩⟩ ?_ ?_ hk rfl ?_ ?_)
   ·conv=>lhs;whnf
    show some (Ob.ds 3 1 ((s.owner.map encInt).set (0+o.a.toNat) (encInt (-1))))=some (Ob.ds 3 1 ((s.owner.set o.a.toNat (-1)).map encInt))
    rw[Nat.zero_add,List.map_set]
   ·((conv=>lhs;whnf);(repeat (refine hscrO ?_ (famK_scr _ _ _ _ _);conv=>lhs;whnf));rfl)
   ·show stRef s=_
    simp[stRef,StL.put]
   ·have en:(zC t o).stack.length=zQ t o:=by simp[zL,zC];omega
    show _=[_,_,_,_,_,AV.ref _ 0 (zC t o).stack.length]
    rw[en]
    rfl
   ·simp[stk,List.take_of_length_le,zC,zL]
   ·intro j t0 hj h
    repeat (first|exact xB h|refine yZ ?_ (zY (by first|rfl|exact jI hj)))
  have n13:¬ o.code=13:=by simpa using hc
  clear hc
  conv=>whnf
  refine kbi (fun hc=>?_) (fun hc=>?_)
  ·have hc:o.code=14:=by simpa using hc
   conv=>whnf
   refine⟨⟨rfl,by simp;omega,by simp;omega⟩,?_⟩
   conv=>whnf
   refine .inr (.inl ⟨6,[],?_⟩)
   conv=>whnf
   refine⟨_,hJ o.a,?_⟩
   conv=>whnf
   refine⟨by kernel_rfl,?_⟩
   conv=>whnf
   refine⟨⟨fun c hc'=>?_,?_,?_⟩,?_⟩
   ·have hc':c∈[[i64 o.a,i64 0,i64 1,i64 (-1),i64 (-1),AV.d (.sl [])]]:=hc'
    simp only[List.mem_singleton] at hc'
    subst hc';rfl
   ·show(s.ths.length+1)*64≤_
    omega
   ·show s.ths.length+1≤_
    omega
   conv=>whnf
   have hd:doL s K0 o e=({ s with ths:=s.ths++[jH o.a] }.put K0 (zL (zC t o) (FloatKind.f64.nearest (s.ths.length:Int))),{ e with kind:=6,obj:=s.ths.length }):=by rw[hK0];unfold doL;rw[hg];simp[hc]
   rw[hK0] at hd
   rw[hd] at hK
   refine hK _ (do2_fork (t:=zL (zC t o) (FloatKind.f64.nearest (s.ths.length:Int))) (nt:=jH o.a) (els:=stk (zL (zC t o) (FloatKind.f64.nearest (s.ths.length:Int)))) ⟨⟨rfl,rfl,rfl,rfl,rfl,rfl,trivial⟩,⟨rfl,rfl,rfl,rfl,rfl,rfl,rfl,rfl,trivial⟩,⟨fun j=>?_,trivial⟩⟩ ?_ ?_ hk rfl rfl ?_ ?_ ?_)
   ·by_cases hj:j=K0 <;> rw[hK0] at hj
    ·subst hj
     conv=>lhs;whnf
     show some (Ob.ds 100 1 _)=some (Ob.ds 100 1 _)
     simp[stk,zL,zC,encF]
    ·rw[kL hj]
     conv=>lhs;whnf
     repeat (first|(rw[kb_ne hj];conv=>lhs;whnf)|(refine hscrO ?_ (yH _ _ _);conv=>lhs;whnf))
     exact kL hj
   ·show[AV.dref (.n 900) (s.ths.length+1),AV.ref (.n 901) 0 s.cells.length,AV.ref (.n 902) 0 s.owner.length,i64 s.fault]=_
    simp[stRef,StL.put]
   ·have en:(zL (zC t o) (FloatKind.f64.nearest (s.ths.length:Int))).stack.length=zQ t o+1:=by simp[zL,zC];omega
    show _=[_,_,_,_,_,AV.ref _ 0 (zL (zC t o) (FloatKind.f64.nearest (s.ths.length:Int))).stack.length]
    rw[en]
    rfl
   ·simp[stk,List.take_of_length_le,zC,zL]
   ·intro j t0 hj h
    have hjl:=(List.getElem?_eq_some_iff.1 h).1
    refine yZ ?_ (zY (by first|rfl|exact jI hj))
    refine rows_app ?_ hjl
    repeat (first|exact xB h|refine yZ ?_ (zY (by first|rfl|exact jI hj)))
   ·refine yZ ?_ rfl
    refine rows_new (by simp[zR]) ?_
    rfl
  have n14:¬ o.code=14:=by simpa using hc
  clear hc
  conv=>whnf
  refine kbi (fun hc=>?_) (fun hc=>?_)
  ·have hc:o.code=15:=by simpa using hc
   conv=>whnf
   have hd:doL s K0 o e=(s.put K0 (zC t o),{ e with kind:=7,obj:=(zU s t).getD (-1) }):=by rw[hK0];unfold doL;rw[hg];simp[hc]
   rw[hK0] at hd
   rw[hd] at hK
   refine hK _ (qJ (t:=zC t o) (els:=stk t) ⟨⟨rfl,rfl,rfl,rfl,rfl,rfl,trivial⟩,⟨rfl,rfl,rfl,rfl,rfl,rfl,rfl,rfl,trivial⟩,⟨fun j=>?_,trivial⟩⟩ ?_ ?_ hk rfl ?_ ?_)
   ·((conv=>lhs;whnf);(repeat (refine hscrO ?_ (famK_scr _ _ _ _ _);conv=>lhs;whnf));rfl)
   ·show stRef s=_
    simp[stRef,StL.put]
   ·have en:(zC t o).stack.length=zQ t o:=by simp[zL,zC];omega
    show _=[_,_,_,_,_,AV.ref _ 0 (zC t o).stack.length]
    rw[en]
    rfl
   ·simp[stk,List.take_of_length_le,zC,zL]
   ·intro j t0 hj h
    repeat (first|exact xB h|refine yZ ?_ (zY (by first|rfl|exact jI hj)))
  have n15:¬ o.code=15:=by simpa using hc
  clear hc
  conv=>whnf
  refine kbi (fun hc=>?_) (fun hc=>?_)
  ·have hc:o.code=16:=by simpa using hc
   conv=>whnf
   have hr:=o4 hc
   refine⟨⟨by omega,by omega⟩,?_⟩
   conv=>whnf
   have hd:doL s K0 o e=({ s with owner:=s.owner.set o.b.toNat (-1) }.put K0 { zC t o with st:=3,cond:=o.a,lock:=o.b,pc:=(zC t o).pc - 1 },{ e with kind:=8,obj:=o.a,lock:=o.b }):=by rw[hK0];unfold doL;rw[hg];simp[hc]
   rw[hK0] at hd
   rw[hd] at hK
   refine hK _ (qJ (t:={ zC t o with st:=3,cond:=o.a,lock:=o.b,pc:=(zC t o).pc - 1 }) (els:=stk t) ⟨⟨rfl,rfl,rfl,rfl,rfl,rfl,trivial⟩,⟨rfl,rfl,rfl,rfl,rfl,rfl,rfl,?_,trivial⟩,⟨fun j=>?_,trivial⟩⟩ ?_ ?_ hk rfl ?_ ?_)
   ·conv=>lhs;whnf
    show some (Ob.ds 3 1 ((s.owner.map encInt).set (0+o.b.toNat) (encInt (-1))))=some (Ob.ds 3 1 ((s.owner.set o.b.toNat (-1)).map encInt))
    rw[Nat.zero_add,List.map_set]
   ·((conv=>lhs;whnf);(repeat (refine hscrO ?_ (famK_scr _ _ _ _ _);conv=>lhs;whnf));rfl)
   ·show stRef s=_
    simp[stRef,StL.put]
   ·have en:({ zC t o with st:=3,cond:=o.a,lock:=o.b,pc:=(zC t o).pc - 1 }).stack.length=zQ t o:=by simp[zL,zC];omega
    have ew:IntKind.i64.wrap (t.pc+1 - 1)=t.pc+1 - 1:=zE (by have:=hpc.1;omega) (by have:=hpc.2;omega)
    show[_,AV.d (.int .i64 (IntKind.i64.wrap (t.pc+1 - 1))),_,_,_,_]=[_,_,_,_,_,AV.ref _ 0 ({ zC t o with st:=3,cond:=o.a,lock:=o.b,pc:=(zC t o).pc - 1 }).stack.length]
    rw[en,ew]
    rfl
   ·simp[stk,List.take_of_length_le,zC,zL]
   ·intro j t0 hj h
    repeat (first|exact xB h|refine yZ ?_ (zY (by first|rfl|exact jI hj)))
  have n16:¬ o.code=16:=by simpa using hc
  clear hc
  conv=>whnf
  refine kbi (fun hc=>?_) (fun hc=>?_)
  ·have hc:o.code=17:=by simpa using hc
   conv=>whnf
   have hen:(zC t o).stack.length=zQ t o:=by simp[zC];omega
   refine aloopF (fun i:Nat=>[(1,i64 ((K0:Nat):Int)),(4,.ptr (.n 4) 0),(6,.ptr (.n 6) 0),(7,.ptr (.n 7) 0),(8,.ptr (.n 8) 0),(9,.ptr (.n 9) 0),(10,.ptr (.n 10) 0),(215,.dref (.n 900) s.ths.length),(216,i64 s.ths.length),(217,i64 i)])
    (fun i=>[(.n 4,.vs 44 (stRef s)),(.n 6,.vs 102 ((encOp o).map .d)),(.n 7,.vs 107 ((encEv { e with kind:=10,obj:=o.a }).map .d)),(.n 8,.vs 44 [.d .nil,.d .nil,.d .nil,i64 0]),(.n 9,.vs 107 [i64 0,i64 0,i64 0,i64 0,i64 0]),
     (.n 10,.vs 109 (thRow 900 K0 (zC t o))),(.n 900,.rs 109 6 (thRows 900 s.ths)),(.n 901,.ds 100 1 (s.cells.map encF)),(.n 902,.ds 3 1 (s.owner.map encInt))])
    (fun i=>[(900,kU s.ths K0 (stk t))]) (fun i=>s.ths.length - i) (fun i=>i≤s.ths.length∧∀ j u,j<i→s.ths[j]?=some u→¬ (u.st=3∧u.cond=o.a)) 0 Weak.refl ?_ ?_ ?_ ⟨Nat.zero_le _,fun j u hj=>by omega⟩ ?_
   all_goals subst hK0
   ·exact⟨rfl,rfl,rfl,rfl,rfl,rfl,rfl,rfl,rfl,rfl,trivial⟩
   ·refine⟨rfl,rfl,rfl,rfl,rfl,?_,?_,rfl,rfl,trivial⟩
    ·show _=some (Ob.vs 109 [_,_,_,_,_,AV.ref _ 0 (zC t o).stack.length])
     rw[hen]
     rfl
    ·first|((conv=>lhs;whnf);refine congrArg some ?_;repeat (first|rfl|refine yK ?_ (by exact congrArg _ (yF fun _ _=>rfl))))|rfl
   ·refine⟨fun j=>?_,trivial⟩
    ((conv=>lhs;whnf);(repeat (refine hscrO ?_ (famK_scr _ _ _ _ _);conv=>lhs;whnf));rfl)
   rintro i τ H ⟨hi,hno⟩
   conv=>whnf
   refine kbi (fun hl=>?_) (fun hl=>?_)
   ·have hlt:i<s.ths.length:=by simpa using hl
    conv=>whnf
    refine⟨⟨by omega,by omega⟩,?_⟩
    conv=>whnf
    refine⟨thRow 900 i s.ths[i],⟨by repeat (first|exact pZ hlt rfl|refine yZ ?_ rfl),by simp[thRow]⟩,?_⟩
    conv=>whnf
    have nxt:¬ (s.ths[i].st=3∧s.ths[i].cond=o.a)→∀ j u,j<i+1→s.ths[j]?=some u→¬ (u.st=3∧u.cond=o.a):=by
     intro hx j u hj hu
     by_cases hji:j=i
     ·subst hji
      rw[List.getElem?_eq_getElem hlt] at hu
      simp only[Option.some.injEq] at hu
      subst hu;exact hx
     ·exact hno j u (by omega) hu
    refine kbi (fun h3=>?_) (fun h3=>?_)
    ·have h3:s.ths[i].st=3:=by simpa using h3
     conv=>whnf
     refine kbi (fun h4=>?_) (fun h4=>?_)
     ·have h4:s.ths[i].cond=o.a:=by simpa using h4
      conv=>whnf
      refine⟨⟨by omega,by omega⟩,?_⟩
      conv=>whnf
      have hw:wM s.ths o.a=some i:=by
       unfold wM
       rw[List.findIdx?_eq_some_iff_getElem]
       refine⟨hlt,by simp[h3,h4],fun j hj=>?_⟩
       have:=hno j _ hj (List.getElem?_eq_getElem (by omega))
       simpa using this
      have hd:doL s K1 o e=({ s with ths:=s.ths.modify i fun u=>{ u with st:=4 } }.put K1 (zC t o),{ e with kind:=10,obj:=o.a,lock:=i }):=by rw[hK1];unfold doL;rw[hg];simp[hc,hw]
      rw[hK1] at hd
      rw[hd] at hK
      refine hK _ (do2_wake (i:=i) (t:=zC t o) (els:=stk t) ⟨⟨rfl,rfl,rfl,rfl,rfl,rfl,trivial⟩,⟨rfl,rfl,rfl,rfl,rfl,rfl,rfl,rfl,trivial⟩,⟨fun j=>?_,trivial⟩⟩ ?_ rfl hk rfl ?_ ?_)
      ·((conv=>lhs;whnf);(repeat (refine hscrO ?_ (famK_scr _ _ _ _ _);conv=>lhs;whnf));rfl)
      ·show stRef s=_
       simp[stRef,StL.put]
      ·simp[stk,List.take_of_length_le,zC]
      ·intro j t0 hj h
       refine rows_mod (X:=(thRows 900 s.ths).map (scrPL (isK (.n 16)))) (i:=i) ?_
       repeat (first|exact xB h|refine yZ ?_ (zY (by first|rfl|exact jI hj)))
     ·have h4:¬ s.ths[i].cond=o.a:=by simpa using h4
      conv=>whnf
      refine⟨i+1,_,Weak.refl,⟨by omega,nxt (fun hx=>h4 hx.2)⟩,by show s.ths.length - (i+1)<s.ths.length - i;omega,⟨rfl,rfl,rfl,rfl,rfl,rfl,rfl,rfl,rfl,next_i64 hlt (by omega),trivial⟩,⟨rfl,rfl,rfl,rfl,rfl,rfl,?_,rfl,rfl,trivial⟩,⟨fun j=>?_,trivial⟩⟩
      ·((conv=>lhs;whnf);refine congrArg some ?_;repeat (first|rfl|refine yK ?_ (by exact congrArg _ (yF fun _ _=>rfl))))
      ·((conv=>lhs;whnf);(repeat (refine hscrO ?_ (famK_scr _ _ _ _ _);conv=>lhs;whnf));rfl)
    ·have h3:¬ s.ths[i].st=3:=by simpa using h3
     conv=>whnf
     refine⟨i+1,_,Weak.refl,⟨by omega,nxt (fun hx=>h3 hx.1)⟩,by show s.ths.length - (i+1)<s.ths.length - i;omega,⟨rfl,rfl,rfl,rfl,rfl,rfl,rfl,rfl,rfl,next_i64 hlt (by omega),trivial⟩,⟨rfl,rfl,rfl,rfl,rfl,rfl,?_,rfl,rfl,trivial⟩,⟨fun j=>?_,trivial⟩⟩
     ·((conv=>lhs;whnf);refine congrArg some ?_;repeat (first|rfl|refine yK ?_ (by exact congrArg _ (yF fun _ _=>rfl))))
     ·((conv=>lhs;whnf);(repeat (refine hscrO ?_ (famK_scr _ _ _ _ _);conv=>lhs;whnf));rfl)
   ·have hge:s.ths.length≤i:=by simpa using hl
    conv=>whnf
    have hw:wM s.ths o.a=none:=by
     unfold wM
     rw[List.findIdx?_eq_none_iff]
     intro u hu
     obtain⟨j,hj,rfl⟩:=List.mem_iff_getElem.1 hu
     have:=hno j _ (by omega) (List.getElem?_eq_getElem hj)
     simp only[Bool.and_eq_false_iff,beq_eq_false_iff_ne]
     by_cases h3:s.ths[j].st=3
     ·exact .inr fun h4=>this ⟨h3,h4⟩
     ·exact .inl h3
    have hd:doL s K1 o e=(s.put K1 (zC t o),{ e with kind:=10,obj:=o.a }):=by rw[hK1];unfold doL;rw[hg];simp[hc,hw]
    rw[hK1] at hd
    rw[hd] at hK
    refine hK _ (qJ (t:=zC t o) (els:=stk t) ⟨⟨rfl,rfl,rfl,rfl,rfl,rfl,trivial⟩,⟨rfl,rfl,rfl,rfl,rfl,rfl,rfl,rfl,trivial⟩,⟨fun j=>?_,trivial⟩⟩ ?_ rfl hk rfl ?_ ?_)
    ·((conv=>lhs;whnf);(repeat (refine hscrO ?_ (famK_scr _ _ _ _ _);conv=>lhs;whnf));rfl)
    ·show stRef s=_
     simp[stRef,StL.put]
    ·simp[stk,List.take_of_length_le,zC]
    ·intro j t0 hj h
     repeat (first|exact xB h|refine yZ ?_ (zY (by first|rfl|exact jI hj)))
  have n17:¬ o.code=17:=by simpa using hc
  clear hc
  conv=>whnf
  have hcode:4≤o.code∧o.code≤9:=by have:=o1.1;have:=o1.2;omega
  have htk:xK o=2:=by simp only[xK,zA];rw[if_neg (by omega),if_neg (by omega),if_pos hcode];rfl
  refine .inr (.inl ⟨12,[],?_⟩)
  conv=>whnf
  refine⟨⟨by omega,by omega⟩,?_⟩
  conv=>whnf
  refine⟨encF (yL t o 0),⟨wP o5 (by omega),by simp[encF]⟩,?_⟩
  conv=>whnf
  refine⟨⟨by omega,by omega⟩,?_⟩
  conv=>whnf
  refine⟨encF (yL t o 1),⟨wP o5 (by omega),by simp[encF]⟩,?_⟩
  conv=>whnf
  refine⟨_,l3Reckon_ok _ _ _,?_⟩
  conv=>whnf
  refine⟨by kernel_rfl,?_⟩
  conv=>whnf
  refine⟨⟨rfl,by simp;omega,by simp;omega⟩,?_⟩
  conv=>whnf
  have hd:doL s K0 o e=(s.put K0 (zL (zC t o) (yN o.code (yL t o 0) (yL t o 1))),{ e with kind:=1 }):=by rw[hK0];unfold doL;rw[hg];simp[n1,n2,n3,n10,n11,n12,n13,n14,n15,n16,n17]
  rw[hK0] at hd
  rw[hd] at hK
  refine hK _ (qJ (t:=zL (zC t o) (yN o.code (yL t o 0) (yL t o 1))) (els:=stk (zL (zC t o) (yN o.code (yL t o 0) (yL t o 1)))) ⟨⟨rfl,rfl,rfl,rfl,rfl,rfl,trivial⟩,⟨rfl,rfl,rfl,rfl,rfl,rfl,rfl,rfl,trivial⟩,⟨fun j=>?_,trivial⟩⟩ ?_ ?_ hk rfl ?_ ?_)
  ·by_cases hj:j=K0 <;> rw[hK0] at hj
   ·subst hj
    conv=>lhs;whnf
    show some (Ob.ds 100 1 _)=some (Ob.ds 100 1 _)
    simp[stk,zL,zC,encF]
   ·rw[kL hj]
    conv=>lhs;whnf
    repeat (first|(rw[kb_ne hj];conv=>lhs;whnf)|(refine hscrO ?_ (yH _ _ _);conv=>lhs;whnf))
    exact kL hj
  ·show stRef s=_
   simp[stRef,StL.put]
  ·have en:(zL (zC t o) (yN o.code (yL t o 0) (yL t o 1))).stack.length=zQ t o+1:=by simp[zL,zC];omega
   show _=[_,_,_,_,_,AV.ref _ 0 (zL (zC t o) (yN o.code (yL t o 0) (yL t o 1))).stack.length]
   rw[en]
   rfl
  ·simp[stk,List.take_of_length_le,zC,zL]
  ·intro j t0 hj h
   repeat (first|exact xB h|refine yZ ?_ (zY (by first|rfl|exact jI hj)))
end Ai
namespace Ai
set_option maxRecDepth 100000
open Go Go.Proofs
theorem famK_self {l:List Th} {k j:Nat} (hk:k<l.length):kU l k (stk l[k]) j=zS l j:=by
 unfold kU
 by_cases hj:j=k
 ·subst hj
  rw[show Nat.beq j j=true from Nat.beq_refl j]
  simp[zS,hk]
 ·rw[nbeq_ne hj];rfl
theorem l3Do_ok (hI:xE) (s:StL) (k:Nat) (o:OpL) (e:Ev) (hk:k<s.ths.length) (h5:s.ths.length≤5) (hs:s.small) (ho:o.fits s s.ths[k]) (hpc:InR s.ths[k].pc 0 1048576) (H0:Key→Option Ob) (hH:StH s H0) :
  IOCall EE 150 [.agg (stRef s),i64 k,agg (encOp o),agg (encEv e)] H0 (doPost (doL s k o e).1 (doL s k o e).2):=by
 obtain⟨g1,g2,g3,g4⟩:=hH
 refine io_of_AW (fn:=Tryz.f150) (c:=Tryz.f150.body.getD .skip) Tryz.func150 rfl (by kernel_rfl) rfl ?_
 have hat:At [(0,.agg (stRef s)),(1,i64 k),(2,agg (encOp o)),(3,agg (encEv e))] [(.n 900,.rs 109 6 (thRows 900 s.ths)),(.n 901,.ds 100 1 (s.cells.map encF)),(.n 902,.ds 3 1 (s.owner.map encInt))] [(900,kU s.ths k (stk s.ths[k]))]
   ⟨fun i=>[AV.agg (stRef s),i64 k,agg (encOp o),agg (encEv e)].getD i .junk,H0⟩ :=
  ⟨⟨rfl,rfl,rfl,rfl,trivial⟩,⟨g1,g3,g4,trivial⟩,⟨fun j=>by rw[famK_self hk];exact g2 j,trivial⟩⟩
 obtain⟨τ,H,hf⟩:=hat.form
 rw[hf]
 refine dD 8 (At (doL1 s k o s.ths[k]) (doO1 s k o e s.ths[k]) [(900,kU s.ths k (stk s.ths[k]))]) (fun K hK=>l3Do_pre hI s k o e hk h5 hs ho.2.2.2.2 hpc τ H _ K hK) (fun S hS=>?_)
 refine dD 1 (Do2 s.ths (doL s k o e).1 k (doL s k o e).2) (fun K hK=>l3Do_sw s k o e hk h5 hs ho hpc _ K S hS hK) (fun S' hS'=>?_)
 exact l3Do_fin s.ths _ k _ (by omega) S' hS'
end Ai
namespace Ai
set_option maxRecDepth 100000
open Go Go.Proofs
def ev0 (k:Nat) (t:Th):Ev:=⟨k,0,-1,-1,t.pc⟩
noncomputable def stepL (p:ProgL) (s:StL) (k:Nat):StL × Ev :=
 let t:=s.ths.getD k th0
 if t.st=4 then
  ({ s with owner:=s.owner.set t.lock.toNat k }.put k { t with st:=1,cond:=-1,lock:=-1,pc:=if (yA p t).isSome then t.pc+1 else t.pc },{ ev0 k t with kind:=9,obj:=t.cond,lock:=t.lock })
 else match yA p t with
  |none=>(s.put k { t with st:=2 },{ ev0 k t with kind:=11 })
  |some o=>if zV s k o=0 then doL s k o (ev0 k t) else ({ s with fault:=zV s k o },{ ev0 k t with kind:=12,obj:=zV s k o })
structure Th.ready (t:Th) (p:ProgL) (s:StL) (k:Nat):Prop where
 inP:t.inP p
 pc:InR t.pc 0 1048576
 lock:t.st=4→0≤t.lock∧t.lock<s.owner.length
 op:∀ o,yA p t=some o→o.inS s∧(zV s k o=0→o.fits s t)
theorem sL {X:List (List AV)} {sz k off j:Nat} {xs c:List AV} (hj:j≠k) (h:X[j]?=some c):(xG X sz k off xs)[j]?=some c:=by
 unfold xG
 cases (Nat.beq off 0&&Nat.beq xs.length sz) with
 |true=>simp only[cond_true];rw[List.getElem?_set_ne (Ne.symm hj)];exact h
 |false=>simp only[cond_false];rw[List.getElem?_modify,h];simp[Ne.symm hj]
theorem vI {X:List (List AV)} {sz k off:Nat} {xs c c':List AV} (h:X[k]?=some c) (e:(bif Nat.beq off 0&&Nat.beq xs.length sz then xs else zW c off xs)=c'):(xG X sz k off xs)[k]?=some c':=by
 unfold xG
 subst e
 have hk:=(List.getElem?_eq_some_iff.1 h).1
 cases (Nat.beq off 0&&Nat.beq xs.length sz) with
 |true=>simp only[cond_true];rw[List.getElem?_set_self hk]
 |false=>simp only[cond_false];rw[List.getElem?_modify,h];simp
theorem fz_st3 {s:StL} {S:St} {rows:List (List AV)} {n m l:Nat} (h1:S.H (.n 900)=some (.rs 109 6 rows)) (hv:∀ (j:Nat) (row:List AV) (t:Th),s.ths[j]?=some t→rows[j]?=some row→fz1s S row=some (zF t))
  (h3:S.H (.n 901)=some (.ds 100 1 (s.cells.map encF))) (h4:S.H (.n 902)=some (.ds 3 1 (s.owner.map encInt))) (hn:n=s.ths.length) (hm:m=s.cells.length) (hl:l=s.owner.length) :
  FzC S [.dref (.n 900) n,.ref (.n 901) 0 m,.ref (.n 902) 0 l,i64 s.fault] (encSt s):=by
 subst hn hm hl;exact fz_st2 h1 hv h3 h4
theorem l3Step_4 (hI:xE) (p:ProgL) (s:StL) (k:Nat) (hp:p.wf) (hk:k<s.ths.length) (h5:s.ths.length≤5) (hs:s.small) (hr:s.ths[k].ready p s k) (h40:s.ths[k].st=4) :
  CallsTo EE 101 [agg (encProg p),agg (encSt s),i64 k] (·=.tup [agg (encSt (stepL p s k).1),agg (encEv (stepL p s k).2)]):=by
 refine callsTo_of_AW (fn:=Tryz.f101) Tryz.func101 rfl (by kernel_rfl) rfl ?_
 have hg:s.ths.getD k th0=s.ths[k]:=by simp[List.getD_eq_getElem?_getD,hk]
 conv=>whnf
 refine⟨zF s.ths[k],yD zF hk rfl,?_⟩
 conv=>whnf
 refine⟨_,pE p s.ths[k] hp hr.inP,?_⟩
 rintro r rfl
 conv=>whnf
 refine kbi (fun h4=>?_) (fun h4=>?_)
 ·have h4:s.ths[k].st=4:=by simpa using h4
  conv=>whnf
  refine⟨_,mX s hs,?_⟩
  rintro r rfl
  conv=>whnf
  have hl:=hr.lock h4
  refine⟨⟨hl.1,by simp;omega⟩,?_⟩
  conv=>whnf
  refine⟨⟨by omega,by simp;omega⟩,?_⟩
  conv=>whnf
  refine⟨⟨by omega,by simp;omega⟩,?_⟩
  conv=>whnf
  refine⟨⟨by omega,by simp;omega⟩,?_⟩
  conv=>whnf
  cases hn:yA p s.ths[k] with
  |none =>
   conv=>whnf
   refine .inr (.inl ⟨4,[],?_⟩)
   conv=>whnf
   refine⟨by kernel_rfl,?_⟩
   conv=>whnf
   have hd:stepL p s k=({ s with owner:=s.owner.set s.ths[k].lock.toNat k }.put k { s.ths[k] with st:=1,cond:=-1,lock:=-1 },{ ev0 k s.ths[k] with kind:=9,obj:=s.ths[k].cond,lock:=s.ths[k].lock }):=by
    unfold stepL;rw[hg];simp[h4,hn]
   rw[hd]
   refine .inl ?_
   conv=>whnf
   refine⟨[agg (encSt _),agg (encEv _)],⟨_,_,rfl,⟨_,rfl,?_⟩,_,_,rfl,⟨_,rfl,?_⟩,rfl⟩,rfl⟩
   ·refine @fz_st3 _ _ ?_ _ _ _ ?_ ?_ ?_ ?_ ?_ ?_ ?_
    rotate_left 1
    ·conv=>lhs;whnf
     rfl
    ·intro j row t' ht hrr
     have hjl:j<s.ths.length:=by have:=(List.getElem?_eq_some_iff.1 ht).1;simpa[StL.put] using this
     have r0:=xB (o:=900) (List.getElem?_eq_getElem hjl)
     by_cases hj:j=k
     ·subst hj
      have e:t'={ s.ths[j] with st:=1,cond:=-1,lock:=-1 }:=by simpa[StL.put,hjl] using ht.symm
      subst e
      have e2:row=thRow 900 j { s.ths[j] with st:=1,cond:=-1,lock:=-1 }:=by
       refine Option.some.inj (hrr.symm.trans ?_)
       refine yZ ?_ (zY rfl)
       refine vI (c:=[i64 s.ths[j].rt,i64 s.ths[j].pc,i64 1,i64 (-1),i64 s.ths[j].lock,.ref (.s 900 j) 0 s.ths[j].stack.length]) ?_ rfl
       refine vI (c:=[i64 s.ths[j].rt,i64 s.ths[j].pc,i64 1,i64 s.ths[j].cond,i64 s.ths[j].lock,.ref (.s 900 j) 0 s.ths[j].stack.length]) ?_ rfl
       refine vI (c:=thRow 900 j s.ths[j]) ?_ rfl
       repeat (first|exact r0|refine yZ ?_ (zY rfl))
      subst e2
      refine fz_rowT (els:=stk s.ths[j]) ?_ (by simp[stk,List.take_of_length_le])
      conv=>lhs;whnf
      repeat (refine hscr ?_ rfl;conv=>lhs;whnf)
      rw[qG hjl]
     ·have e:t'=s.ths[j]:=by
       have:(s.ths.set k _)[j]?=some t':=ht
       rw[List.getElem?_set_ne (Ne.symm hj),List.getElem?_eq_getElem hjl] at this
       exact(Option.some.inj this).symm
      subst e
      have e2:row=thRow 900 j s.ths[j]:=by
       refine Option.some.inj (hrr.symm.trans ?_)
       repeat (first|exact r0|refine yZ ?_ (zY rfl)|refine sL hj ?_)
      subst e2
      refine fz_rowT (els:=stk s.ths[j]) ?_ (by simp[stk,List.take_of_length_le])
      conv=>lhs;whnf
      repeat (refine hscr ?_ rfl;conv=>lhs;whnf)
      rw[qG hjl]
    ·conv=>lhs;whnf
     rfl
    ·conv=>lhs;whnf
     show some (Ob.ds 3 1 ((s.owner.map encInt).set (0+s.ths[k].lock.toNat) (encInt k)))=some (Ob.ds 3 1 ((s.owner.set s.ths[k].lock.toNat k).map encInt))
     rw[Nat.zero_add,List.map_set]
    ·simp[StL.put]
    ·simp[StL.put]
    ·simp[StL.put]
   ·exact fz_ev k 9 s.ths[k].cond s.ths[k].lock s.ths[k].pc
  |some o =>
   conv=>whnf
   refine⟨⟨by omega,by simp;omega⟩,?_⟩
   conv=>whnf
   have r0:=xB (o:=900) (List.getElem?_eq_getElem hk)
   refine⟨[i64 s.ths[k].rt,i64 s.ths[k].pc,i64 1,i64 (-1),i64 (-1),.ref (.s 900 k) 0 s.ths[k].stack.length],⟨?_,by simp⟩,?_⟩
   ·refine vI (c:=[i64 s.ths[k].rt,i64 s.ths[k].pc,i64 1,i64 (-1),i64 s.ths[k].lock,.ref (.s 900 k) 0 s.ths[k].stack.length]) ?_ rfl
    refine vI (c:=[i64 s.ths[k].rt,i64 s.ths[k].pc,i64 1,i64 s.ths[k].cond,i64 s.ths[k].lock,.ref (.s 900 k) 0 s.ths[k].stack.length]) ?_ rfl
    refine vI (c:=thRow 900 k s.ths[k]) ?_ rfl
    repeat (first|exact r0|refine yZ ?_ (zY rfl))
   conv=>whnf
   rw[zE (by have:=hr.pc.1;omega) (by have:=hr.pc.2;omega)]
   refine⟨⟨by omega,by simp;omega⟩,?_⟩
   conv=>whnf
   refine .inr (.inl ⟨4,[],?_⟩)
   conv=>whnf
   refine⟨by kernel_rfl,?_⟩
   conv=>whnf
   have hd:stepL p s k=({ s with owner:=s.owner.set s.ths[k].lock.toNat k }.put k { s.ths[k] with st:=1,cond:=-1,lock:=-1,pc:=s.ths[k].pc+1 },{ ev0 k s.ths[k] with kind:=9,obj:=s.ths[k].cond,lock:=s.ths[k].lock }):=by
    unfold stepL;rw[hg];simp[h4,hn]
   rw[hd]
   refine .inl ?_
   conv=>whnf
   refine⟨[agg (encSt _),agg (encEv _)],⟨_,_,rfl,⟨_,rfl,?_⟩,_,_,rfl,⟨_,rfl,?_⟩,rfl⟩,rfl⟩
   ·refine @fz_st3 _ _ ?_ _ _ _ ?_ ?_ ?_ ?_ ?_ ?_ ?_
    rotate_left 1
    ·conv=>lhs;whnf
     rfl
    ·intro j row t' ht hrr
     have hjl:j<s.ths.length:=by have:=(List.getElem?_eq_some_iff.1 ht).1;simpa[StL.put] using this
     have r0:=xB (o:=900) (List.getElem?_eq_getElem hjl)
     by_cases hj:j=k
     ·subst hj
      have e:t'={ s.ths[j] with st:=1,cond:=-1,lock:=-1,pc:=s.ths[j].pc+1 }:=by simpa[StL.put,hjl] using ht.symm
      subst e
      have e2:row=thRow 900 j { s.ths[j] with st:=1,cond:=-1,lock:=-1,pc:=s.ths[j].pc+1 }:=by
       refine Option.some.inj (hrr.symm.trans ?_)
       refine yZ ?_ (zY rfl)
       refine vI (c:=[i64 s.ths[j].rt,i64 s.ths[j].pc,i64 1,i64 (-1),i64 (-1),.ref (.s 900 j) 0 s.ths[j].stack.length]) ?_ rfl
       refine vI (c:=[i64 s.ths[j].rt,i64 s.ths[j].pc,i64 1,i64 (-1),i64 s.ths[j].lock,.ref (.s 900 j) 0 s.ths[j].stack.length]) ?_ rfl
       refine vI (c:=[i64 s.ths[j].rt,i64 s.ths[j].pc,i64 1,i64 s.ths[j].cond,i64 s.ths[j].lock,.ref (.s 900 j) 0 s.ths[j].stack.length]) ?_ rfl
       refine vI (c:=thRow 900 j s.ths[j]) ?_ rfl
       repeat (first|exact r0|refine yZ ?_ (zY rfl))
      subst e2
      refine fz_rowT (els:=stk s.ths[j]) ?_ (by simp[stk,List.take_of_length_le])
      conv=>lhs;whnf
      repeat (refine hscr ?_ rfl;conv=>lhs;whnf)
      rw[qG hjl]
     ·have e:t'=s.ths[j]:=by
       have:(s.ths.set k _)[j]?=some t':=ht
       rw[List.getElem?_set_ne (Ne.symm hj),List.getElem?_eq_getElem hjl] at this
       exact(Option.some.inj this).symm
      subst e
      have e2:row=thRow 900 j s.ths[j]:=by
       refine Option.some.inj (hrr.symm.trans ?_)
       repeat (first|exact r0|refine yZ ?_ (zY rfl)|refine sL hj ?_)
      subst e2
      refine fz_rowT (els:=stk s.ths[j]) ?_ (by simp[stk,List.take_of_length_le])
      conv=>lhs;whnf
      repeat (refine hscr ?_ rfl;conv=>lhs;whnf)
      rw[qG hjl]
    ·conv=>lhs;whnf
     rfl
    ·conv=>lhs;whnf
     show some (Ob.ds 3 1 ((s.owner.map encInt).set (0+s.ths[k].lock.toNat) (encInt k)))=some (Ob.ds 3 1 ((s.owner.set s.ths[k].lock.toNat k).map encInt))
     rw[Nat.zero_add,List.map_set]
    ·simp[StL.put]
    ·simp[StL.put]
    ·simp[StL.put]
   ·exact fz_ev k 9 s.ths[k].cond s.ths[k].lock s.ths[k].pc
 ·exact absurd (by simpa using h40) h4
end Ai
namespace Ai
open Go Go.Proofs
section
variable {S:St} {H1:Key→Option Ob} {L:Key→Bool} {f:Key→Key}
theorem nB (hS:∀ κ,L κ=true→S.H κ=(H1 κ).map (renO f)) (hf:∀ κ,L κ=true→f κ=κ) (h0:∀ κ,L κ=false→H1 κ=none) {v:AV} {d:D} (h:fz1 ⟨fun _=>.junk,H1⟩ v=some d):fz1 S (ren f v)=some d:=by
 cases v with
 |d x=>cases x <;> exact h
 |ref o off n =>
  have ho:L o=true:=by
   cases hl:L o with
   |true=>rfl
   |false =>
    have:=h0 o hl
    simp[fz1,this] at h
  simp only[ren,hf o ho,fz1,hS o ho]
  simp only[fz1] at h
  cases hH:H1 o with
  |none=>rw[hH] at h;cases h
  |some ob =>
   rw[hH] at h
   cases ob with
   |ds e sz els=>exact h
   |vs e cs=>cases h
   |rs e sz rows=>cases h
   |mp ag ps=>cases h
 | _=>cases h
theorem iV (hS:∀ κ,L κ=true→S.H κ=(H1 κ).map (renO f)) (hf:∀ κ,L κ=true→f κ=κ) (h0:∀ κ,L κ=false→H1 κ=none):∀ {vs:List AV} {ds:List D},fz1s ⟨fun _=>.junk,H1⟩ vs=some ds→fz1s S (renL f vs)=some ds
 | [],ds,h=>h
 |v::vs,ds,h=>by
  simp only[fz1s] at h
  split at h
  ·rename_i x hx
   split at h
   ·rename_i xs hxs
    simp only[renL,fz1s,nB hS hf h0 hx,iV hS hf h0 hxs]
    exact h
   ·cases h
  ·cases h
theorem FzC_back (hS:∀ κ,L κ=true→S.H κ=(H1 κ).map (renO f)) (hf:∀ κ,L κ=true→f κ=κ) (h0:∀ κ,L κ=false→H1 κ=none):∀ {vs:List AV} {ds:List D},FzC ⟨fun _=>.junk,H1⟩ vs ds→FzC S (renL f vs) ds
 | [],ds,h=>h
 |v::vs,ds,h=>by
  obtain⟨x,xs,rfl,hx,hxs⟩:=h
  refine⟨x,xs,rfl,?_,FzC_back hS hf h0 hxs⟩
  cases v with
  |dref o n =>
   obtain⟨els,rfl,hv⟩:=hx
   refine⟨els,rfl,?_⟩
   unfold kP at hv ⊢
   simp only at hv
   have ho:L o=true:=by
    cases hl:L o with
    |true=>rfl
    |false=>rw[h0 o hl] at hv;exact hv.elim
   rw[hf o ho,hS o ho]
   cases hH:H1 o with
   |none=>rw[hH] at hv;exact hv.elim
   |some ob =>
    rw[hH] at hv
    cases ob with
    |ds e sz els=>exact hv.elim
    |vs e cs=>exact hv.elim
    |mp ag ps=>exact hv.elim
    |rs e sz rows =>
     refine⟨hv.1,fun j row hj hr=>?_⟩
     have hr:(rows.map (renL f))[j]?=some row:=hr
     rw[List.getElem?_map] at hr
     obtain⟨r0,g1,rfl⟩:=Option.map_eq_some_iff.1 hr
     obtain⟨d,g2,g3⟩:=hv.2 j r0 hj g1
     exact⟨d,g2,iV hS hf h0 g3⟩
  |d x=>exact nB hS hf h0 hx
  |ref o off n=>exact nB hS hf h0 hx
  | _=>exact nB hS hf h0 hx
end
end Ai
namespace Ai
set_option maxRecDepth 100000
open Go Go.Proofs
theorem qU (a b o:Nat) (l:List Th):(thRows o l).map (renL (swp (.n a) (.l b)))=thRows o l:=by
 apply List.ext_getElem?
 intro i
 rw[List.getElem?_map]
 by_cases hj:i<l.length
 ·rw[xJ hj]
  rfl
 ·rw[List.getElem?_eq_none (by rw[zR];omega)]
  rfl
theorem iT {x X:Option Ob} {f:Key→Key} (h:x=X) (hp:X.map (renO f)=X):x.map (renO f)=X:=by rw[h];exact hp
theorem sN (s:StL) (j:Nat):(match ownH (kI s) (.s 900 j) with|some ob=>some ob|none=>(none:Option Ob))=zS s.ths j:=by
 show(match ((s.ths.map stk)[j]?).map (Ob.ds 100 1) with|some ob=>some ob|none=>(none:Option Ob))=(s.ths[j]?).map fun t=>.ds 100 1 (stk t)
 rw[List.getElem?_map]
 cases s.ths[j]? <;> rfl
theorem l3Step_n (hI:xE) (p:ProgL) (s:StL) (k:Nat) (hp:p.wf) (hk:k<s.ths.length) (h5:s.ths.length≤5) (hs:s.small) (hr:s.ths[k].ready p s k) (h40:¬ s.ths[k].st=4) :
  CallsTo EE 101 [agg (encProg p),agg (encSt s),i64 k] (·=.tup [agg (encSt (stepL p s k).1),agg (encEv (stepL p s k).2)]):=by
 refine callsTo_of_AW (fn:=Tryz.f101) Tryz.func101 rfl (by kernel_rfl) rfl ?_
 have hg:s.ths.getD k th0=s.ths[k]:=by simp[List.getD_eq_getElem?_getD,hk]
 conv=>whnf
 refine⟨zF s.ths[k],yD zF hk rfl,?_⟩
 conv=>whnf
 refine⟨_,pE p s.ths[k] hp hr.inP,?_⟩
 rintro r rfl
 conv=>whnf
 refine kbi (fun h4=>?_) (fun h4=>?_)
 ·exact absurd (by simpa using h4) h40
 ·conv=>whnf
  cases hn:yA p s.ths[k] with
  |none =>
   conv=>whnf
   refine⟨_,mX s hs,?_⟩
   rintro r rfl
   conv=>whnf
   refine⟨⟨by omega,by simp;omega⟩,?_⟩
   conv=>whnf
   refine .inr (.inl ⟨4,[],?_⟩)
   conv=>whnf
   refine⟨by kernel_rfl,?_⟩
   conv=>whnf
   have hd:stepL p s k=(s.put k { s.ths[k] with st:=2 },{ ev0 k s.ths[k] with kind:=11 }):=by
    unfold stepL;rw[hg];simp[h40,hn]
   rw[hd]
   refine .inl ?_
   conv=>whnf
   refine⟨[agg (encSt _),agg (encEv _)],⟨_,_,rfl,⟨_,rfl,?_⟩,_,_,rfl,⟨_,rfl,?_⟩,rfl⟩,rfl⟩
   ·refine @fz_st3 _ _ ?_ _ _ _ ?_ ?_ ?_ ?_ ?_ ?_ ?_
    rotate_left 1
    ·conv=>lhs;whnf
     rfl
    ·intro j row t' ht hrr
     have hjl:j<s.ths.length:=by have:=(List.getElem?_eq_some_iff.1 ht).1;simpa[StL.put] using this
     have r0:=xB (o:=900) (List.getElem?_eq_getElem hjl)
     by_cases hj:j=k
     ·subst hj
      have e:t'={ s.ths[j] with st:=2 }:=by simpa[StL.put,hjl] using ht.symm
      subst e
      have e2:row=thRow 900 j { s.ths[j] with st:=2 }:=by
       refine Option.some.inj (hrr.symm.trans ?_)
       refine yZ ?_ (zY rfl)
       refine vI (c:=thRow 900 j s.ths[j]) ?_ rfl
       repeat (first|exact r0|refine yZ ?_ (zY rfl))
      subst e2
      refine fz_rowT (els:=stk s.ths[j]) ?_ (by simp[stk,List.take_of_length_le])
      conv=>lhs;whnf
      repeat (refine hscr ?_ rfl;conv=>lhs;whnf)
      rw[qG hjl]
     ·have e:t'=s.ths[j]:=by
       have:(s.ths.set k _)[j]?=some t':=ht
       rw[List.getElem?_set_ne (Ne.symm hj),List.getElem?_eq_getElem hjl] at this
       exact(Option.some.inj this).symm
      subst e
      have e2:row=thRow 900 j s.ths[j]:=by
       refine Option.some.inj (hrr.symm.trans ?_)
       repeat (first|exact r0|refine yZ ?_ (zY rfl)|refine sL hj ?_)
      subst e2
      refine fz_rowT (els:=stk s.ths[j]) ?_ (by simp[stk,List.take_of_length_le])
      conv=>lhs;whnf
      repeat (refine hscr ?_ rfl;conv=>lhs;whnf)
      rw[qG hjl]
    ·conv=>lhs;whnf
     rfl
    ·conv=>lhs;whnf
     rfl
    ·simp[StL.put]
    ·simp[StL.put]
    ·simp[StL.put]
   ·exact fz_ev k 11 (-1) (-1) s.ths[k].pc
  |some o =>
   conv=>whnf
   refine⟨_,l3Code_ok hI s k o hk hs (hr.op o hn).1,?_⟩
   rintro r rfl
   conv=>whnf
   refine kbi (fun h6=>?_) (fun h6=>?_)
   ·have h6:¬ zV s k o=0:=by simpa using h6
    conv=>whnf
    refine⟨_,l3Fault_ok s (ev0 k s.ths[k]) _ hs,?_⟩
    rintro r rfl
    conv=>whnf
    have hd:stepL p s k=({ s with fault:=zV s k o },{ ev0 k s.ths[k] with kind:=12,obj:=zV s k o }):=by
     unfold stepL;rw[hg];simp[h40,hn,h6]
    rw[hd]
    rfl
   ·have h6:zV s k o=0:=by simpa using h6
    conv=>whnf
    have hd:stepL p s k=doL s k o (ev0 k s.ths[k]):=by
     unfold stepL;rw[hg];simp[h40,hn,h6]
    rw[hd]
    refine .inr (.inl ⟨5,[2700,2701,2703,2706],?_⟩)
    conv=>whnf
    refine⟨_,mX s hs,?_⟩
    conv=>whnf
    refine⟨by kernel_rfl,?_⟩
    conv=>whnf
    refine .inr (.inl ⟨999,0,lendK,doPost (doL s k o (ev0 k s.ths[k])).1 (doL s k o (ev0 k s.ths[k])).2,?_,rfl,?_⟩)
    ·show IOCall EE 150 [.agg [.dref (.n 900) (s.ths.map bT).length,.ref (.n 901) 0 (s.cells.map encF).length,.ref (.n 902) 0 (s.owner.map encInt).length,i64 s.fault],i64 k,agg (encOp o),agg (encEv (ev0 k s.ths[k]))] _ _
     rw[List.length_map,List.length_map,List.length_map]
     refine l3Do_ok hI s k o (ev0 k s.ths[k]) hk h5 hs ((hr.op o hn).2 h6) hr.pc _ ⟨?_,fun j=>?_,?_,?_⟩
     ·conv=>lhs;whnf
      refine congrArg some ?_
      refine yK ?_ (by exact congrArg _ (yF fun _ _=>rfl))
      exact congrArg (Ob.rs 109 6) (qU 999 0 900 s.ths)
     ·conv=>lhs;whnf
      repeat (first|(refine hscrO ?_ (yH _ _ _);conv=>lhs;whnf)|(refine iT ?_ (thFam_ren _ _ _);conv=>lhs;whnf))
      exact sN s j
     ·conv=>lhs;whnf
      rfl
     ·conv=>lhs;whnf
      rfl
    ·rintro r H1 ⟨rfl,q1,q2⟩
     refine⟨q2,(fun n hn=>by cases hn),?_⟩
     conv=>whnf
     refine .inl ?_
     conv=>whnf
     refine⟨[agg (encSt (doL s k o (ev0 k s.ths[k])).1),agg (encEv (doL s k o (ev0 k s.ths[k])).2)],⟨_,_,rfl,⟨_,rfl,?_⟩,_,_,rfl,⟨_,rfl,?_⟩,rfl⟩,rfl⟩
     ·refine FzC_back (f:=swp (.n 999) (.l 0)) (vs:=stRef (doL s k o (ev0 k s.ths[k])).1) (L:=lendK) (fun κ hκ=>?_) (fun κ hκ=>?_) q2 q1
      ·cases κ with
       |n i =>
        have:i=900∨i=901∨i=902:=by
         simp only[lendK,Bool.or_eq_true,Nat.beq_eq] at hκ
         omega
        rcases this with rfl|rfl|rfl
        ·rfl
        ·rfl
        ·rfl
       |s i j =>
        have:i=900:=by simpa only[lendK,Nat.beq_eq] using hκ
        subst this
        rfl
       |l i=>cases hκ
      ·cases κ with
       |n i =>
        have:i=900∨i=901∨i=902:=by
         simp only[lendK,Bool.or_eq_true,Nat.beq_eq] at hκ
         omega
        rcases this with rfl|rfl|rfl <;> rfl
       |s i j=>rfl
       |l i=>cases hκ
     ·exact fz_ev _ _ _ _ _
end Ai
namespace Ai
set_option maxRecDepth 100000
open Go Go.Proofs
def gU:Prop:=∀ (x:Nat) (many n:Int),yR x many=some n→0≤n∧n<many
theorem kK (hR:gU) {s:StL} {t:Th} {n:Int} (h:zU s t=some n):0≤n∧n<s.ths.length:=by
 unfold zU at h
 cases hl:t.stack.getLast? with
 |none=>rw[hl] at h;cases h
 |some x=>rw[hl] at h;exact hR x _ n h
def zG (p:ProgL) (s:StL) (t:Th):Int :=
 if t.st=4 then s.owner.getD t.lock.toNat 0
 else match yA p t with
  |none=>-1
  |some o=>if t.st=1 then
    (if o.code=12 then s.owner.getD o.a.toNat 0
    else if o.code=15 then (match zU s t with|some k=>if (s.ths.getD k.toNat th0).st=2 then -1 else k|none=>-1)
    else -1)
   else -1
structure Th.seen (t:Th) (p:ProgL) (s:StL):Prop where
 inP:t.inP p
 lock:t.st=4→0≤t.lock∧t.lock<s.owner.length
 op:∀ o,yA p t=some o→o.code=12→0≤o.a∧o.a<s.owner.length
theorem bK (hI:xE) (hR:gU) (p:ProgL) (s:StL) (t:Th) (hp:p.wf) (ht:t.stack.length≤1048576) (hv:t.seen p s) :
  CallsTo EE 145 [agg (encProg p),agg (encSt s),agg (zF t)] (·=i64 (zG p s t)):=by
 refine callsTo_of_AW (fn:=Tryz.f145) Tryz.func145 rfl (by kernel_rfl) rfl ?_
 have own_get:∀ (a:Int),0≤a∧a<s.owner.length→0≤a∧(s.owner.map encInt)[a.toNat]?=some (encInt (s.owner.getD a.toNat 0))∧(encInt (s.owner.getD a.toNat 0)).length=1:=by
  intro a ha
  refine⟨ha.1,?_,rfl⟩
  have:a.toNat<s.owner.length:=by omega
  simp[this,List.getD_eq_getElem?_getD]
 conv=>whnf
 refine kbi (fun h4=>?_) (fun h4=>?_)
 ·have h4:t.st=4:=by simpa using h4
  conv=>whnf
  refine⟨_,own_get t.lock (hv.lock h4),?_⟩
  conv=>whnf
  simp only[zG,if_pos h4]
 have h4:¬ t.st=4:=by simpa using h4
 conv=>whnf
 refine⟨_,pE p t hp hv.inP,?_⟩
 rintro r rfl
 conv=>whnf
 refine kbi (fun h1=>?_) (fun h1=>?_)
 ·have h1:¬ t.st=1:=by simpa using h1
  conv=>whnf
  have:zG p s t=-1:=by
   unfold zG;rw[if_neg h4]
   cases yA p t with
   |none=>rfl
   |some o=>simp[h1]
  rw[this]
 have h1:t.st=1:=by simpa using h1
 cases hn:yA p t with
 |none =>
  conv=>whnf
  have:zG p s t=-1:=by
   unfold zG;rw[if_neg h4,hn]
  rw[this]
 |some o =>
  conv=>whnf
  refine kbi (fun h2=>?_) (fun h2=>?_)
  ·have h2:o.code=12:=by simpa using h2
   conv=>whnf
   refine⟨_,own_get o.a (hv.op o hn h2),?_⟩
   conv=>whnf
   simp[zG,h4,hn,h1,h2]
  have h2:¬ o.code=12:=by simpa using h2
  conv=>whnf
  refine kbi (fun h3=>?_) (fun h3=>?_)
  ·have h3:o.code=15:=by simpa using h3
   conv=>whnf
   refine⟨_,lL hI s t ht,?_⟩
   rintro r rfl
   conv=>whnf
   cases hj:zU s t with
   |none =>
    conv=>whnf
    refine kbi (fun h5=>absurd h5 (by decide)) (fun h5=>?_)
    conv=>whnf
    simp[zG,h4,hn,h1,h2,h3,hj]
   |some k =>
    obtain⟨k1,k2⟩:=kK hR hj
    have hk:k.toNat<s.ths.length:=by omega
    conv=>whnf
    refine kbi (fun h5=>?_) (fun h5=>?_)
    ·conv=>whnf
     refine⟨zF s.ths[k.toNat],⟨k1,by simp[hk],rfl⟩,?_⟩
     conv=>whnf
     refine kbi (fun h6=>?_) (fun h6=>?_)
     ·have h6:¬ s.ths[k.toNat].st=2:=by simpa using h6
      conv=>whnf
      simp[zG,h4,hn,h1,h2,h3,hj,List.getD_eq_getElem?_getD,hk,h6]
     ·have h6:s.ths[k.toNat].st=2:=by simpa using h6
      conv=>whnf
      simp[zG,h4,hn,h1,h2,h3,hj,List.getD_eq_getElem?_getD,hk,h6]
    ·exact absurd (by simpa using k1) h5
  have h3:¬ o.code=15:=by simpa using h3
  conv=>whnf
  simp[zG,h4,hn,h1,h2,h3]
end Ai
namespace Ai
set_option maxRecDepth 100000
open Go Go.Proofs
open Classical in
/-- may this thread go? -/
noncomputable def qI (p:ProgL) (s:StL) (k:Nat):Bool:=decide (s.fault=0∧((s.ths.getD k th0).st=1∨(s.ths.getD k th0).st=4)∧zG p s (s.ths.getD k th0)<0)
noncomputable def zH (p:ProgL) (s:StL) (n:Nat):List Nat:=(List.range n).filter (qI p s)
noncomputable def enabledL (p:ProgL) (s:StL):List Nat:=zH p s s.ths.length
def encN (k:Nat):List D:=[di k]
theorem yS {p:ProgL} {s:StL} {n:Nat}:zH p s (n+1)=zH p s n++(if qI p s n=true then [n] else []):=by
 unfold zH
 rw[List.range_succ,List.filter_append]
 congr 1
 cases h:qI p s n <;> simp[h]
theorem enabledTo_le {p:ProgL} {s:StL} {n:Nat}:(zH p s n).length≤n:=by
 unfold zH
 have:=List.length_filter_le (qI p s) (List.range n)
 simpa using this
theorem l3Enabled_ok (hI:xE) (hR:gU) (p:ProgL) (s:StL) (hp:p.wf) (hs:s.small) (hv:∀ t∈s.ths,t.seen p s) :
  CallsTo EE 100 [agg (encProg p),agg (encSt s)] (·=.uq 3 1 ((enabledL p s).map encN)):=by
 refine callsTo_of_AW (fn:=Tryz.f100) Tryz.func100 rfl (by kernel_rfl) rfl ?_
 conv=>whnf
 refine yV (fun k:Nat=>[(2,.ptr (.n 2) 0),(3,.ptr (.n 3) 0),(5,.ref (.n 5) 0 (zH p s k).length),(9,sl (s.ths.map zF)),(10,i64 (s.ths.map zF).length),(11,i64 k)])
  (fun k=>[(.n 2,.vs 39 ((encProg p).map .d)),(.n 3,.vs 44 ((encSt s).map .d)),(.n 5,.ds 3 1 ((zH p s k).map encN))]) (fun k=>s.ths.length - k) (fun k=>k≤s.ths.length) 0
  (weak_nil 5 (.n 5) 3 1 rfl) ?_ ?_ (Nat.zero_le _) ?_
 ·exact⟨rfl,rfl,rfl,rfl,rfl,rfl,trivial⟩
 ·exact⟨rfl,rfl,rfl,trivial⟩
 rintro k τ H hk
 conv=>whnf
 refine kbi (fun h=>?_) (fun h=>?_)
 ·have hlt:=xO h
  conv=>whnf
  refine⟨zF s.ths[k],yD zF hlt rfl,?_⟩
  conv=>whnf
  have hg:s.ths.getD k th0=s.ths[k]:=by simp[List.getD_eq_getElem?_getD,hlt]
  have hle:(zH p s k).length≤k:=enabledTo_le
  have hn:=hs.1
  refine kbi (fun hf=>?_) (fun hf=>?_)
  ·have hf:s.fault=0:=by simpa using hf
   conv=>whnf
   refine kbi (fun h1=>?_) (fun h1=>?_)
   ·have h1:s.ths[k].st=1:=by simpa using h1
    conv=>whnf
    refine⟨_,bK hI hR p s s.ths[k] hp (hs.2.1 _ (List.getElem_mem hlt)) (hv _ (List.getElem_mem hlt)),?_⟩
    rintro r rfl
    conv=>whnf
    refine kbi (fun hb=>?_) (fun hb=>?_)
    ·have hb:zG p s s.ths[k]<0:=by simpa using hb
     conv=>whnf
     refine⟨⟨rfl,by simp;omega,by simp;omega⟩,?_⟩
     conv=>whnf
     have hgo:qI p s k=true:=by unfold qI;rw[hg];exact decide_eq_true ⟨hf,.inl h1,hb⟩
     have hsk:zH p s (k+1)=zH p s k++[k]:=by rw[yS,hgo];simp
     refine⟨k+1,by omega,by show s.ths.length - (k+1)<s.ths.length - k;omega,⟨rfl,rfl,?_,rfl,rfl,next_i64 hlt (by omega),trivial⟩,⟨rfl,rfl,?_,trivial⟩⟩
     ·rw[hsk]
      show AV.ref (.n 5) 0 ((zH p s k).length+1)=_
      simp
     ·rw[hsk]
      show some (Ob.ds 3 1 (((zH p s k).map encN).take (zH p s k).length++[[di k]]))=_
      rw[List.take_of_length_le (by simp)]
      simp[encN]
    ·have hb:¬ zG p s s.ths[k]<0:=by simpa using hb
     conv=>whnf
     have hgo:qI p s k=false:=by unfold qI;rw[hg];exact decide_eq_false fun e=>hb e.2.2
     have hsk:zH p s (k+1)=zH p s k:=by rw[yS,hgo];simp
     refine⟨k+1,by omega,by show s.ths.length - (k+1)<s.ths.length - k;omega,⟨rfl,rfl,?_,rfl,rfl,next_i64 hlt (by omega),trivial⟩,⟨rfl,rfl,?_,trivial⟩⟩
     ·rw[hsk];rfl
     ·rw[hsk];rfl
   ·have h1:¬ s.ths[k].st=1:=by simpa using h1
    conv=>whnf
    refine kbi (fun h4=>?_) (fun h4=>?_)
    ·have h4:s.ths[k].st=4:=by simpa using h4
     conv=>whnf
     refine⟨_,bK hI hR p s s.ths[k] hp (hs.2.1 _ (List.getElem_mem hlt)) (hv _ (List.getElem_mem hlt)),?_⟩
     rintro r rfl
     conv=>whnf
     refine kbi (fun hb=>?_) (fun hb=>?_)
     ·have hb:zG p s s.ths[k]<0:=by simpa using hb
      conv=>whnf
      refine⟨⟨rfl,by simp;omega,by simp;omega⟩,?_⟩
      conv=>whnf
      have hgo:qI p s k=true:=by unfold qI;rw[hg];exact decide_eq_true ⟨hf,.inr h4,hb⟩
      have hsk:zH p s (k+1)=zH p s k++[k]:=by rw[yS,hgo];simp
      refine⟨k+1,by omega,by show s.ths.length - (k+1)<s.ths.length - k;omega,⟨rfl,rfl,?_,rfl,rfl,next_i64 hlt (by omega),trivial⟩,⟨rfl,rfl,?_,trivial⟩⟩
      ·rw[hsk]
       show AV.ref (.n 5) 0 ((zH p s k).length+1)=_
       simp
      ·rw[hsk]
       show some (Ob.ds 3 1 (((zH p s k).map encN).take (zH p s k).length++[[di k]]))=_
       rw[List.take_of_length_le (by simp)]
       simp[encN]
     ·have hb:¬ zG p s s.ths[k]<0:=by simpa using hb
      conv=>whnf
      have hgo:qI p s k=false:=by unfold qI;rw[hg];exact decide_eq_false fun e=>hb e.2.2
      have hsk:zH p s (k+1)=zH p s k:=by rw[yS,hgo];simp
      refine⟨k+1,by omega,by show s.ths.length - (k+1)<s.ths.length - k;omega,⟨rfl,rfl,?_,rfl,rfl,next_i64 hlt (by omega),trivial⟩,⟨rfl,rfl,?_,trivial⟩⟩
      ·rw[hsk];rfl
      ·rw[hsk];rfl
    ·have h4:¬ s.ths[k].st=4:=by simpa using h4
     conv=>whnf
     have hgo:qI p s k=false:=by unfold qI;rw[hg];exact decide_eq_false fun e=>e.2.1.elim h1 h4
     have hsk:zH p s (k+1)=zH p s k:=by rw[yS,hgo];simp
     refine⟨k+1,by omega,by show s.ths.length - (k+1)<s.ths.length - k;omega,⟨rfl,rfl,?_,rfl,rfl,next_i64 hlt (by omega),trivial⟩,⟨rfl,rfl,?_,trivial⟩⟩
     ·rw[hsk];rfl
     ·rw[hsk];rfl
  ·have hf:¬ s.fault=0:=by simpa using hf
   conv=>whnf
   have hgo:qI p s k=false:=by unfold qI;exact decide_eq_false fun e=>hf e.1
   have hsk:zH p s (k+1)=zH p s k:=by rw[yS,hgo];simp
   refine⟨k+1,by omega,by show s.ths.length - (k+1)<s.ths.length - k;omega,⟨rfl,rfl,?_,rfl,rfl,next_i64 hlt (by omega),trivial⟩,⟨rfl,rfl,?_,trivial⟩⟩
   ·rw[hsk];rfl
   ·rw[hsk];rfl
 ·have hge:s.ths.length≤k:=by simpa using h
  have hkk:k=s.ths.length:=by omega
  subst hkk
  conv=>whnf
  refine congrArg (AV.uq 3 1) ?_
  rw[List.take_of_length_le (by simp)]
  rfl
end Ai
namespace Ai
set_option maxRecDepth 100000
open Go Go.Proofs
open Classical in
/-- how a run stands -/
noncomputable def codeL (p:ProgL) (s:StL) (steps budget:Int):Int :=
 if s.fault≠0 then 2 else if enabledL p s=[] then (if ∃ t∈s.ths,t.st≠2 then 3 else 1) else if steps=budget then 4 else 0
theorem l4Code_ok (hI:xE) (hR:gU) (p:ProgL) (s:StL) (steps budget:Int) (hp:p.wf) (hs:s.small) (hv:∀ t∈s.ths,t.seen p s) :
  CallsTo EE 99 [agg (encProg p),agg (encSt s),i64 steps,i64 budget] (·=i64 (codeL p s steps budget)):=by
 refine callsTo_of_AW (fn:=Tryz.f99) Tryz.func99 rfl (by kernel_rfl) rfl ?_
 have hn:=hs.1
 conv=>whnf
 refine kbi (fun hf=>?_) (fun hf=>?_)
 ·have hf:s.fault≠0:=by simpa using hf
  conv=>whnf
  unfold codeL
  rw[if_pos hf]
 have hf:¬ s.fault≠0:=by simpa using hf
 conv=>whnf
 refine⟨_,l3Enabled_ok hI hR p s hp hs hv,?_⟩
 rintro r rfl
 refine .inl ?_
 conv=>whnf
 refine kbi (fun h0=>?_) (fun h0=>?_)
 ·have h0:enabledL p s=[]:=by
   have:(((enabledL p s).map encN).length:Int)=0:=by simpa using h0
   simp at this
   exact this
  conv=>whnf
  refine yV (fun k:Nat=>[(8,i64 0),(20,sl (s.ths.map zF)),(21,i64 (s.ths.map zF).length),(22,i64 k)]) (fun k=>[]) (fun k=>s.ths.length - k) (fun k=>k≤s.ths.length∧∀ j u,j<k→s.ths[j]?=some u→u.st=2) 0
   Weak.refl ⟨rfl,rfl,rfl,rfl,trivial⟩ trivial ⟨Nat.zero_le _,fun j u hj=>by omega⟩ ?_
  rintro k τ H ⟨hk,hall⟩
  conv=>whnf
  refine kbi (fun h=>?_) (fun h=>?_)
  ·have hlt:=xO h
   conv=>whnf
   refine⟨zF s.ths[k],yD zF hlt rfl,?_⟩
   conv=>whnf
   refine kbi (fun h2=>?_) (fun h2=>?_)
   ·have h2:s.ths[k].st≠2:=by simpa using h2
    conv=>whnf
    unfold codeL
    rw[if_neg hf,if_pos h0,if_pos ⟨_,List.getElem_mem hlt,h2⟩]
   ·have h2:s.ths[k].st=2:=by simpa using h2
    conv=>whnf
    refine⟨k+1,⟨by omega,fun j u hj hu=>?_⟩,by show s.ths.length - (k+1)<s.ths.length - k;omega,⟨rfl,rfl,rfl,next_i64 hlt (by omega),trivial⟩,trivial⟩
    by_cases hjk:j=k
    ·subst hjk
     rw[List.getElem?_eq_getElem hlt] at hu
     simp only[Option.some.injEq] at hu
     subst hu;exact h2
    ·exact hall j u (by omega) hu
  ·have hge:s.ths.length≤k:=by simpa using h
   conv=>whnf
   unfold codeL
   rw[if_neg hf,if_pos h0,if_neg]
   rintro⟨t,ht,h2⟩
   obtain⟨j,hj,rfl⟩:=List.mem_iff_getElem.1 ht
   exact h2 (hall j _ (by omega) (List.getElem?_eq_getElem hj))
 have h0:¬ enabledL p s=[]:=fun e=>h0 (by rw[e];rfl)
 conv=>whnf
 refine kbi (fun h1=>?_) (fun h1=>?_)
 ·have h1:steps=budget:=by simpa using h1
  conv=>whnf
  unfold codeL
  rw[if_neg hf,if_neg h0,if_pos h1]
 ·have h1:¬ steps=budget:=by simpa using h1
  conv=>whnf
  unfold codeL
  rw[if_neg hf,if_neg h0,if_neg h1]
end Ai
namespace Ai
set_option maxRecDepth 100000
open Go Go.Proofs
theorem l3Step_ok (hI:xE) (p:ProgL) (s:StL) (k:Nat) (hp:p.wf) (hk:k<s.ths.length) (h5:s.ths.length≤5) (hs:s.small) (hr:s.ths[k].ready p s k) :
  CallsTo EE 101 [agg (encProg p),agg (encSt s),i64 k] (·=.tup [agg (encSt (stepL p s k).1),agg (encEv (stepL p s k).2)]):=by
 by_cases h:s.ths[k].st=4
 ·exact l3Step_4 hI p s k hp hk h5 hs hr h
 ·exact l3Step_n hI p s k hp hk h5 hs hr h
end Ai
namespace Ai
set_option maxRecDepth 100000
open Go Go.Proofs
def vL (p:ProgL):StL:=⟨[jH 0],List.replicate p.cells.toNat 0,List.replicate p.locks.toNat (-1),0⟩
theorem jS (p:Key→Bool) (k:Nat) (x:D):(List.replicate k [AV.d x]).map (scrPL p)=List.replicate k [AV.d x]:=by simp[scrPL,scrP]
def oN (p:ProgL) (k:Nat) (c2:AV):List (Key × Ob):=[(.n 1,.vs 39 ((encProg p).map .d)),(.n 2,.vs 44 [.d .nil,.d .nil,.d .nil,i64 0]),(.n 3,.vs 44 [.ref (.n 7) 0 1,.dref (.n 50) k,c2,i64 0]),(.n 7,.ds 109 6 [zF (jH 0)]),(.n 50,.rs 100 1 (List.replicate k [.d (.flt 0)]))]
def oN2 (p:ProgL) (k j:Nat):List (Key × Ob):=[(.n 1,.vs 39 ((encProg p).map .d)),(.n 2,.vs 44 [.d .nil,.d .nil,.d .nil,i64 0]),(.n 3,.vs 44 [.ref (.n 7) 0 1,.dref (.n 50) k,.dref (.n 51) j,i64 0]),(.n 7,.ds 109 6 [zF (jH 0)]),(.n 50,.rs 100 1 (List.replicate k [.d (.flt 0)])),
 (.n 51,.rs 3 1 (List.replicate j [i64 (-1)]))]
theorem viewR {S:St} {o:Key} {n:Nat} {e:TypeId} {sz:Nat} {els:List (List D)} {rows:List (List AV)} (h:S.H o=some (.rs e sz rows)) (hl:els.length=n) (hr:rows.length=n) (hv:∀ (j:Nat) (row:List AV) (d:List D),rows[j]?=some row→els[j]?=some d→fz1s S row=some d):kP S o n els:=by
 unfold kP
 rw[h]
 refine⟨hl,fun j row hj hrow=>?_⟩
 have:j<els.length:=by omega
 exact⟨els[j],List.getElem?_eq_getElem this,hv j row _ hrow (List.getElem?_eq_getElem this)⟩
theorem l3New_ok (p:ProgL) (h1:InR p.cells 0 1048576) (h2:InR p.locks 0 1048576):CallsTo EE 78 [agg (encProg p)] (·=agg (encSt (vL p))):=by
 refine callsTo_of_AW (fn:=Tryz.f78) Tryz.func78 rfl (by kernel_rfl) rfl ?_
 conv=>whnf
 refine⟨_,hJ 0,?_⟩
 rintro r rfl
 conv=>whnf
 refine yV (fun k:Nat=>[(1,.ptr (.n 1) 0),(2,.ptr (.n 2) 0),(3,.ptr (.n 3) 0),(4,i64 k)]) (fun k=>oN p k (.d .nil)) (fun k=>p.cells.toNat - k) (fun k=>(k:Int)≤p.cells) 0
  (qB (.n 3) (.n 50) 44 100 1 1 _ (by intro n h;cases h) (by intro h;cases h) rfl rfl) ⟨rfl,rfl,rfl,rfl,trivial⟩ ⟨rfl,rfl,rfl,rfl,rfl,trivial⟩ h1.1 ?_
 rintro k τ H hk
 conv=>whnf
 refine kbi (fun h=>?_) (fun h=>?_)
 ·have hlt:(k:Int)<p.cells:=by simpa using h
  have:=h1.2
  conv=>whnf
  refine⟨⟨fun c hc=>?_,by show(k+1)*8≤_;omega,by show k+1≤_;omega⟩,?_⟩
  ·have hc:c∈[[AV.d (.flt (canon 0))]]:=hc
   simp only[List.mem_singleton] at hc
   subst hc;rfl
  conv=>whnf
  refine⟨k+1,by omega,by show p.cells.toNat - (k+1)<p.cells.toNat - k;omega,⟨rfl,rfl,rfl,v7 (by rw[zE (by omega) (by omega)];rfl),trivial⟩,⟨rfl,rfl,rfl,rfl,?_,trivial⟩⟩
  show some (Ob.rs 100 1 (((((List.replicate k [AV.d (.flt 0)]).map (scrPL (isK (.n 17)))).take k++[[AV.d (.flt (canon 0))]]).map (scrPL (isK (.n 50))))))=_
  rw[jS,List.take_of_length_le (by simp),List.map_append,jS,List.replicate_succ']
  rfl
 ·have hge:¬ (k:Int)<p.cells:=by simpa using h
  have hkc:k=p.cells.toNat:=by omega
  conv=>whnf
  refine yV (fun j:Nat=>[(1,.ptr (.n 1) 0),(2,.ptr (.n 2) 0),(3,.ptr (.n 3) 0),(5,i64 j)]) (fun j=>oN2 p k j) (fun j=>p.locks.toNat - j) (fun j=>(j:Int)≤p.locks) 0
   (qB (.n 3) (.n 51) 44 3 1 2 _ (by intro n h;cases h) (by intro h;cases h) rfl rfl) ⟨rfl,rfl,rfl,rfl,trivial⟩ ⟨rfl,rfl,rfl,rfl,?_,rfl,trivial⟩ h2.1 ?_
  ·show some (Ob.rs 100 1 ((List.replicate k [AV.d (.flt 0)]).map (scrPL (isK (.n 51)))))=_
   rw[jS]
  rintro j τ H hj
  conv=>whnf
  refine kbi (fun h=>?_) (fun h=>?_)
  ·have hlt:(j:Int)<p.locks:=by simpa using h
   have:=h2.2
   conv=>whnf
   refine⟨⟨fun c hc=>?_,by show(j+1)*8≤_;omega,by show j+1≤_;omega⟩,?_⟩
   ·have hc:c∈[[i64 (-1)]]:=hc
    simp only[List.mem_singleton] at hc
    subst hc;rfl
   conv=>whnf
   refine⟨j+1,by omega,by show p.locks.toNat - (j+1)<p.locks.toNat - j;omega,⟨rfl,rfl,rfl,v7 (by rw[zE (by omega) (by omega)];rfl),trivial⟩,⟨rfl,rfl,rfl,rfl,?_,?_,trivial⟩⟩
   ·show some (Ob.rs 100 1 (((List.replicate k [AV.d (.flt 0)]).map (scrPL (isK (.n 28)))).map (scrPL (isK (.n 51)))))=_
    rw[jS,jS]
   ·show some (Ob.rs 3 1 (((((List.replicate j [i64 (-1)]).map (scrPL (isK (.n 28)))).take j++[[i64 (-1)]]).map (scrPL (isK (.n 51))))))=_
    rw[jS,List.take_of_length_le (by simp),List.map_append,jS,List.replicate_succ']
    rfl
  ·have hge:¬ (j:Int)<p.locks:=by simpa using h
   have hjc:j=p.locks.toNat:=by omega
   subst hkc hjc
   conv=>whnf
   refine .inr (.inl ⟨agg (encSt (vL p)),⟨_,rfl,?_⟩,rfl⟩)
   refine⟨.sl ([jH 0].map zF),_,rfl,rfl,.sl ((List.replicate p.cells.toNat 0).map encF),_,rfl,⟨_,rfl,?_⟩,.sl ((List.replicate p.locks.toNat (-1)).map encInt),_,rfl,⟨_,rfl,?_⟩,di 0,[],rfl,rfl,rfl⟩
   ·refine viewR (rows:=List.replicate p.cells.toNat [.d (.flt 0)]) (by rfl) (by simp) (by simp) ?_
    intro i row d hr hd
    simp only[List.getElem?_map,List.getElem?_replicate] at hr hd
    split at hr
    ·simp only[Option.some.injEq] at hr
     subst hr
     rw[if_pos ‹_›] at hd
     simp only[Option.map_some,Option.some.injEq] at hd
     subst hd;rfl
    ·cases hr
   ·refine viewR (rows:=List.replicate p.locks.toNat [i64 (-1)]) (by rfl) (by simp) (by simp) ?_
    intro i row d hr hd
    simp only[List.getElem?_map,List.getElem?_replicate] at hr hd
    split at hr
    ·simp only[Option.some.injEq] at hr
     subst hr
     rw[if_pos ‹_›] at hd
     simp only[Option.map_some,Option.some.injEq] at hd
     subst hd;rfl
    ·cases hr
end Ai
namespace Ai
set_option maxRecDepth 100000
open Go Go.Proofs
def encRun (c:Int) (tr:List Ev) (tk:List Int) (s:StL):List D:=[di c,.sl (tr.map encEv),.sl (tk.map encInt),.sl (s.ths.map zF),.sl (s.cells.map encF),.sl (s.owner.map encInt),di s.fault]
def pickOf (picks tk:List Int) (n:Nat):Int:=if tk.length<picks.length then (picks.getD tk.length 0).tmod n else 0
structure RunOK (p:ProgL) (Inv:StL→Prop):Prop where
 small:∀ s,Inv s→s.small∧s.ths.length≤5
 seen:∀ s,Inv s→∀ t∈s.ths,t.seen p s
 ready:∀ s,Inv s→∀ k,k∈enabledL p s→(h:k<s.ths.length)→s.ths[k].ready p s k
 step:∀ s,Inv s→∀ k∈enabledL p s,Inv (stepL p s k).1
theorem en_get {l:List Nat} {k:Nat} (h:k<l.length):(l.map encN)[k]?=some (encN (l.getD k 0)):=by simp[h,List.getD_eq_getElem?_getD]
theorem codeL_nn (p:ProgL) (s:StL) (a b:Int):0≤codeL p s a b:=by
 unfold codeL
 split
 ·decide
 ·split
  ·split <;> decide
  ·split <;> decide
end Ai
namespace Ai
set_option maxRecDepth 100000
open Go Go.Proofs
def l9:Prop:=∀ (x:Nat) (many:Int),1≤many→many≤1000→fcmp .lss x 0=false→fcmp .lss x (FloatKind.f64.nearest many)=true→∃ n,floatToIntVal .f64 x .i64=some n∧0≤n∧n<many
theorem idxRange_of (h:l9):gU:=by
 intro x many n hi
 unfold yR at hi
 split at hi
 ·rename_i hc
  obtain⟨m,h1,h2,h3⟩:=h x many hc.1.1 hc.1.2 hc.2.1 hc.2.2
  rw[h1] at hi
  simp only at hi
  split at hi
  ·simp only[Option.some.injEq] at hi
   subst hi;exact⟨h2,h3⟩
  ·cases hi
 ·cases hi
theorem sY (hF:l9):xE:=by
 intro x many
 refine callsTo_of_AW (fn:=Tryz.f241) Tryz.func241 rfl (by kernel_rfl) rfl ?_
 conv=>whnf
 refine ocase (qR _ _ _) (fun h1=>?_) (fun h1=>?_)
 ·conv=>whnf
  refine kbi (fun h2=>?_) (fun h2=>?_)
  ·have h2:fcmp .lss x 0=true:=h2
   conv=>whnf
   have:yR x many=none:=by
    unfold yR;rw[if_neg]
    rintro⟨_,e,_⟩
    rw[h2] at e
    cases e
   rw[this]
   rfl
  have h2:fcmp .lss x 0=false:=by
   have h2:¬ fcmp .lss x 0=true:=h2
   simpa using h2
  conv=>whnf
  refine kbi (fun h3=>?_) (fun h3=>?_)
  ·have h3:fcmp .lss x (FloatKind.f64.nearest many)=true:=h3
   conv=>whnf
   obtain⟨n,g1,g2,g3⟩:=hF x many h1.1 h1.2 h2 h3
   refine⟨n,g1,?_⟩
   conv=>whnf
   refine kbi (fun h4=>?_) (fun h4=>?_)
   ·conv=>whnf
    have:yR x many=none:=by
     unfold yR;rw[if_pos ⟨h1,h2,h3⟩,g1]
     simp only
     rw[if_neg]
     intro e
     have h4:fcmp .neq (FloatKind.f64.nearest n) x=true:=h4
     rw[j6,e] at h4
     cases h4
    rw[this]
    rfl
   ·conv=>whnf
    refine⟨n,g1,?_⟩
    conv=>whnf
    have:yR x many=some n:=by
     unfold yR;rw[if_pos ⟨h1,h2,h3⟩,g1]
     simp only
     rw[if_pos]
     have h4:¬ fcmp .neq (FloatKind.f64.nearest n) x=true:=h4
     rw[j6] at h4
     simpa using h4
    rw[this]
    rfl
  ·have h3:¬ fcmp .lss x (FloatKind.f64.nearest many)=true:=h3
   conv=>whnf
   have:yR x many=none:=by
    unfold yR;rw[if_neg]
    rintro⟨_,_,e⟩
    exact h3 e
   rw[this]
   rfl
 ·conv=>whnf
  have:yR x many=none:=by
   unfold yR;rw[if_neg]
   rintro⟨e,_⟩
   exact h1 e
  rw[this]
  rfl
end Ai
namespace Ai
set_option maxRecDepth 100000
open Go Go.Proofs Ieee
def nearB (m:Nat):Bool:=double.read (FloatKind.f64.nearest ((m:Nat):Int))==.number false (m <<< (52 - m.log2)) (-((52 - m.log2:Nat):Int))
theorem near_all:(List.range 1001).all (fun m=>m==0 || nearB m)=true:=by decide +kernel
theorem iI {m:Nat} (h1:1≤m) (h2:m≤1000):∃ k:Nat,double.read (FloatKind.f64.nearest ((m:Nat):Int))=.number false (m <<< k) (-(k:Int)):=by
 have:=near_all
 simp only[List.all_eq_true,List.mem_range] at this
 have:=this m (by omega)
 simp only[Bool.or_eq_true,beq_iff_eq] at this
 rcases this with h|h
 ·omega
 ·unfold nearB at h
  exact⟨_,by simpa using h⟩
theorem cZ (s:Bool) (n d:Nat):Toward.cut .zero s n d=n / (1 <<< min d (n.log2+2)):=by
 simp[Toward.cut]
theorem cut_lt {m d b:Nat} (hb:0<b) (h:m<b*2 ^ d):Toward.cut .zero false m d<b:=by
 rw[cZ,Nat.shiftLeft_eq,Nat.one_mul]
 by_cases hd:d≤m.log2+2
 ·rw[Nat.min_eq_left hd]
  exact(Nat.div_lt_iff_lt_mul (Nat.pow_pos (by decide))).2 h
 ·rw[Nat.min_eq_right (by omega)]
  have h1:m<2 ^ (m.log2+2):=Nat.lt_of_lt_of_le Nat.lt_log2_self (Nat.pow_le_pow_right (by decide) (by omega))
  rw[Nat.div_eq_of_lt h1];exact hb
theorem cmp_lt (a b:Int):compare a b=.lt↔a<b:=by
 show compareOfLessAndEq a b=.lt↔a<b
 unfold compareOfLessAndEq
 by_cases h:a<b
 ·simp[h]
 ·by_cases h2:a=b
  ·simp[h2]
  ·simp[h,h2]
theorem nC:l9:=by
 intro x many h1 h2 hx0 hxm
 obtain⟨b,rfl⟩:∃ b:Nat,many=(b:Int):=⟨many.toNat,by omega⟩
 obtain⟨k,hk⟩:=iI (m:=b) (by omega) (by omega)
 have o1:double.order x 0≠some .lt:=by simpa[fcmp] using hx0
 have o2:double.order x (FloatKind.f64.nearest (b:Int))=some .lt:=by simpa[fcmp] using hxm
 unfold Format.order at o1 o2
 rw[gF] at o1
 rw[hk] at o2
 have hdec:FloatKind.f64.decode x=double.read x:=rfl
 unfold floatToIntVal
 rw[hdec]
 cases hd:double.read x with
 |nan s f=>rw[hd] at o2;cases o2
 |infinity s =>
  rw[hd] at o1 o2
  simp only[Datum.order] at o1 o2
  exact absurd o2 o1
 |number s m i =>
  rw[hd] at o1 o2
  simp only[Datum.order,Option.some.injEq,ne_eq] at o1 o2
  rw[cmp_lt] at o1 o2
  have hs:s=false∨m=0:=by
   cases s with
   |false=>exact .inl rfl
   |true =>
    right
    simp only[signed,if_true,Nat.shiftLeft_eq] at o1
    by_cases hm:m=0
    ·exact hm
    ·exfalso
     apply o1
     have:0<m*2 ^ (i - min i double.leastPlace).toNat:=Nat.mul_pos (by omega) (Nat.pow_pos (by decide))
     simp
     omega
  rcases hs with rfl|rfl
  ·simp only[signed,Bool.false_eq_true,if_false,Nat.shiftLeft_eq,Int.ofNat_lt] at o2
   have o2:m*2 ^ (i - min i (-(k:Int))).toNat<b*2 ^ k*2 ^ (-(k:Int) - min i (-(k:Int))).toNat:=by exact_mod_cast o2
   have hlt:Toward.cut .zero false (m <<< i.toNat) (-i).toNat<b:=by
    refine cut_lt (by omega) ?_
    rw[Nat.shiftLeft_eq]
    by_cases hi:0≤i
    ·rw[Int.min_eq_right (by omega)] at o2
     have e1:(i - -(k:Int)).toNat=i.toNat+k:=by omega
     have e2:(-(k:Int) - -(k:Int)).toNat=0:=by omega
     rw[e1,e2,Nat.pow_add,Nat.pow_zero,Nat.mul_one,← Nat.mul_assoc] at o2
     have e3:(-i).toNat=0:=by omega
     rw[e3,Nat.pow_zero,Nat.mul_one]
     exact Nat.lt_of_mul_lt_mul_right o2
    ·have e3:i.toNat=0:=by omega
     rw[e3,Nat.pow_zero,Nat.mul_one]
     by_cases hik:i≤-(k:Int)
     ·rw[Int.min_eq_left hik] at o2
      have e1:(i - i).toNat=0:=by omega
      have e2:(-i).toNat=k+(-(k:Int) - i).toNat:=by omega
      rw[e1,Nat.pow_zero,Nat.mul_one,Nat.mul_assoc,← Nat.pow_add] at o2
      rw[e2];exact o2
     ·rw[Int.min_eq_right (by omega)] at o2
      have e1:k=(-i).toNat+(i - -(k:Int)).toNat:=by omega
      have e2:(-(k:Int) - -(k:Int)).toNat=0:=by omega
      rw[e2,Nat.pow_zero,Nat.mul_one] at o2
      generalize hq:(i - -(k:Int)).toNat=q at *
      rw[e1,Nat.pow_add,← Nat.mul_assoc] at o2
      exact Nat.lt_of_mul_lt_mul_right o2
   simp only[Datum.toInt,Datum.integral,signed,Bool.false_eq_true,if_false,Nat.shiftLeft_zero]
   rw[if_pos]
   ·exact⟨_,rfl,by omega,by omega⟩
   ·have e4:IntKind.i64.min=-9223372036854775808:=by decide
    have e5:IntKind.i64.max=9223372036854775807:=by decide
    rw[e4,e5]
    omega
  ·have hc:Toward.cut .zero s (0 <<< i.toNat) (-i).toNat=0:=by rw[cZ];simp
   simp only[Datum.toInt,Datum.integral,hc,signed]
   refine⟨0,?_,by omega,by omega⟩
   cases s <;> decide
theorem toIndexS:xE:=sY nC
theorem idxRange:gU:=idxRange_of nC
end Ai
namespace Ai
set_option maxRecDepth 100000
open Go Go.Proofs
structure TInv (p:ProgL) (t:Th):Prop where
 rt:0≤t.rt∧t.rt<p.rs.length
 pc:0≤t.pc∧t.pc≤(p.rs.getD t.rt.toNat []).length
 st:t.stack.length≤8
 lock:t.st=3∨t.st=4→0≤t.lock∧t.lock<p.locks
structure SInv (p:ProgL) (s:StL):Prop where
 len:s.ths.length≤5
 cells:(s.cells.length:Int)=p.cells
 owner:(s.owner.length:Int)=p.locks
 ths:∀ t∈s.ths,TInv p t
theorem bH {p:ProgL} (hg:p.goodS) {t:Th} (h:TInv p t) {o:OpL} (hn:yA p t=some o):o.goodS p (p.rs.getD t.rt.toNat []).length∧t.pc<(p.rs.getD t.rt.toNat []).length:=by
 have hr:t.rt.toNat<p.rs.length:=by have:=h.rt;omega
 have e:p.rs.getD t.rt.toNat []=p.rs[t.rt.toNat]:=by simp[List.getD_eq_getElem?_getD,hr]
 unfold yA at hn
 rw[e] at hn ⊢
 obtain⟨h1,h2⟩:=List.getElem?_eq_some_iff.1 hn
 refine⟨(hg.2 _ (List.getElem_mem hr)).1 o (h2▸List.getElem_mem h1),?_⟩
 have:=h.pc;omega
theorem inv_ready {p:ProgL} (hg:p.goodS) {s:StL} (hi:SInv p s) {k:Nat} (h:k<s.ths.length):s.ths[k].ready p s k:=by
 have ht:=hi.ths _ (List.getElem_mem h)
 have hgd:s.ths.getD k th0=s.ths[k]:=by simp[List.getD_eq_getElem?_getD,h]
 have hr:s.ths[k].rt.toNat<p.rs.length:=by have:=ht.rt;omega
 have e:p.rs.getD s.ths[k].rt.toNat []=p.rs[s.ths[k].rt.toNat]:=by simp[List.getD_eq_getElem?_getD,hr]
 have h24:(p.rs.getD s.ths[k].rt.toNat []).length≤24:=by rw[e];exact(hg.2 _ (List.getElem_mem hr)).2
 refine⟨⟨⟨ht.rt.1,by have:=ht.rt.2;omega⟩,ht.pc.1,ht.pc.2⟩,⟨ht.pc.1,by have:=ht.pc.2;omega⟩,fun h4=>?_,fun o ho=>?_⟩
 ·have:=ht.lock (.inr h4)
  rw[hi.owner];exact this
 ·obtain⟨⟨g1,g2⟩,hlt⟩:=bH hg ht ho
  obtain⟨c1,c2,c3,_⟩:=g1
  obtain⟨a1,a2,a3,a4,a5,a6⟩:=g2
  refine⟨⟨fun hc=>?_,fun hc=>?_⟩,fun hf=>⟨c1,fun hc=>?_,fun hc=>?_,fun hc=>?_,?_⟩⟩
  ·exact⟨c2.1,by rw[hi.owner];exact a3 (.inr hc)⟩
  ·exact⟨c3.1,by rw[hi.owner];exact(a5 hc).2⟩
  ·exact⟨c2.1,by rw[hi.cells];exact a1 hc⟩
  ·exact⟨c2.1,by rw[hi.owner];exact a3 hc⟩
  ·exact⟨c3.1,by rw[hi.owner];exact(a5 hc).2⟩
  ·unfold zV at hf
   simp only[hgd] at hf
   split at hf
   ·cases hf
   ·omega
end Ai
namespace Ai
set_option maxRecDepth 100000
open Go Go.Proofs
theorem wT {p:ProgL} {s:StL} {k:Nat} {t:Th} (hi:SInv p s) (ht:TInv p t):SInv p (s.put k t):=by
 refine⟨by simpa[StL.put] using hi.len,hi.cells,hi.owner,fun u hu=>?_⟩
 rcases List.mem_or_eq_of_mem_set hu with h|h
 ·exact hi.ths u h
 ·subst h;exact ht
theorem inv_cells {p:ProgL} {s:StL} (hi:SInv p s) (i:Nat) (x:Nat):SInv p { s with cells:=s.cells.set i x }:=⟨hi.len,by simpa using hi.cells,hi.owner,hi.ths⟩
theorem dQ {p:ProgL} {s:StL} (hi:SInv p s) (i:Nat) (x:Int):SInv p { s with owner:=s.owner.set i x }:=⟨hi.len,hi.cells,by simpa using hi.owner,hi.ths⟩
theorem inv_pop {p:ProgL} {t:Th} {o:OpL} (h:TInv p t) (hlt:t.pc<(p.rs.getD t.rt.toNat []).length):TInv p (zC t o):=by
 refine⟨h.rt,⟨by have:=h.pc;show 0≤t.pc+1;omega,by show t.pc+1≤_;exact hlt⟩,?_,h.lock⟩
 show(t.stack.take _).length≤8
 have:=h.st
 simp;omega
theorem inv_push {p:ProgL} {t:Th} {o:OpL} {x:Nat} (h:TInv p t) (hlt:t.pc<(p.rs.getD t.rt.toNat []).length) (h1:(zA o.code).1≤t.stack.length) (h8:(t.stack.length:Int) - (zA o.code).1+1≤8) (ht:0≤(zA o.code).1):TInv p (zL (zC t o) x):=by
 have hp:=inv_pop (o:=o) h hlt
 refine⟨hp.rt,hp.pc,?_,hp.lock⟩
 show(t.stack.take (zQ t o)++[x]).length≤8
 simp[zQ,xK];omega
theorem inv_do {p:ProgL} (hg:p.goodS) {s:StL} (hi:SInv p s) {k:Nat} (h:k<s.ths.length) {o:OpL} (hn:yA p s.ths[k]=some o) (hf:zV s k o=0) (e:Ev):SInv p (doL s k o e).1:=by
 have ht:=hi.ths _ (List.getElem_mem h)
 have hgd:s.ths.getD k th0=s.ths[k]:=by simp[List.getD_eq_getElem?_getD,h]
 obtain⟨⟨g1,g2⟩,hlt⟩:=bH hg ht hn
 obtain⟨c1,c2,c3,_⟩:=g1
 obtain⟨a1,a2,a3,a4,a5,a6⟩:=g2
 have htk:0≤(zA o.code).1:=by
  unfold zA;split
  ·decide
  ·split
   ·decide
   ·split <;> decide
 unfold zV at hf
 simp only[hgd] at hf
 generalize s.ths[k]=t at *
 split at hf
 ·cases hf
 rename_i hst
 split at hf
 ·cases hf
 split at hf
 ·cases hf
 split at hf
 ·cases hf
 rename_i h14
 have hp:=inv_pop (o:=o) ht hlt
 have push:∀ x,(zA o.code).2=1→TInv p (zL (zC t o) x):=fun x h2=>inv_push ht hlt (by omega) (by omega) htk
 unfold doL
 simp only[hgd]
 have jump:((o.code=10∨o.code=11)→TInv p { zC t o with pc:=o.a }):=fun hc=>⟨hp.rt,⟨c2.1,a2 hc⟩,hp.st,hp.lock⟩
 by_cases n1:o.code=1
 ·rw[if_pos n1];exact wT hi (push _ (by simp[zA,n1]))
 rw[if_neg n1]
 by_cases n2:o.code=2
 ·rw[if_pos n2];exact wT hi (push _ (by simp[zA,n2]))
 rw[if_neg n2]
 by_cases n3:o.code=3
 ·rw[if_pos n3];exact wT (inv_cells hi _ _) hp
 rw[if_neg n3]
 by_cases n10:o.code=10
 ·rw[if_pos n10];exact wT hi (jump (.inl n10))
 rw[if_neg n10]
 by_cases n11:o.code=11
 ·rw[if_pos n11]
  refine wT hi ?_
  split
  ·exact jump (.inr n11)
  ·exact hp
 rw[if_neg n11]
 by_cases n12:o.code=12
 ·rw[if_pos n12];exact wT (dQ hi _ _) hp
 rw[if_neg n12]
 by_cases n13:o.code=13
 ·rw[if_pos n13];exact wT (dQ hi _ _) hp
 rw[if_neg n13]
 by_cases n14:o.code=14
 ·rw[if_pos n14]
  have h5:s.ths.length≤4:=by
   have:=hi.len
   have:s.ths.length≠5:=fun e=>h14 ⟨n14,e⟩
   omega
  refine wT ⟨by simp;omega,hi.cells,hi.owner,fun u hu=>?_⟩ (push _ (by simp[zA,n14]))
  rcases List.mem_append.1 hu with h|h
  ·exact hi.ths u h
  ·simp only[List.mem_singleton] at h
   subst h
   exact⟨⟨c2.1,a4 n14⟩,⟨Int.le_refl _,Int.natCast_nonneg _⟩,Nat.zero_le _,fun e=>by rcases e with e|e <;> cases e⟩
 rw[if_neg n14]
 by_cases n15:o.code=15
 ·rw[if_pos n15];exact wT hi hp
 rw[if_neg n15]
 by_cases n16:o.code=16
 ·rw[if_pos n16]
  refine wT (dQ hi _ _) ⟨hp.rt,⟨?_,?_⟩,hp.st,fun _=>⟨c3.1,(a5 n16).2⟩⟩
  ·show 0≤t.pc+1 - 1
   have:=ht.pc;omega
  ·show t.pc+1 - 1≤_
   have:=ht.pc;show _≤((p.rs.getD t.rt.toNat []).length:Int);omega
 rw[if_neg n16]
 by_cases n17:o.code=17
 ·rw[if_pos n17]
  cases hw:wM s.ths o.a with
  |none=>exact wT hi hp
  |some j =>
   refine wT ⟨by simpa using hi.len,hi.cells,hi.owner,fun u hu=>?_⟩ hp
   obtain⟨i,hi2,rfl⟩:=List.mem_iff_getElem.1 hu
   have hil:i<s.ths.length:=by simpa using hi2
   have hT:=hi.ths _ (List.getElem_mem hil)
   rw[List.getElem_modify]
   split
   ·rename_i hji
    subst hji
    unfold wM at hw
    rw[List.findIdx?_eq_some_iff_getElem] at hw
    obtain⟨_,hpw,_⟩:=hw
    simp only[Bool.and_eq_true,beq_iff_eq] at hpw
    exact⟨hT.rt,hT.pc,hT.st,fun _=>hT.lock (.inl hpw.1)⟩
   ·exact hT
 rw[if_neg n17]
 refine wT hi (push _ ?_)
 have:4≤o.code∧o.code≤9:=by have:=c1.1;have:=c1.2;omega
 simp only[zA]
 rw[if_neg (by omega),if_neg (by omega),if_pos this]
theorem inv_step {p:ProgL} (hg:p.goodS) {s:StL} (hi:SInv p s) {k:Nat} (h:k<s.ths.length):SInv p (stepL p s k).1:=by
 have ht:=hi.ths _ (List.getElem_mem h)
 have hgd:s.ths.getD k th0=s.ths[k]:=by simp[List.getD_eq_getElem?_getD,h]
 unfold stepL
 simp only[hgd]
 split
 ·rename_i h4
  refine wT (dQ hi _ _) ⟨ht.rt,?_,ht.st,fun e=>by rcases e with e|e <;> cases e⟩
  cases hn:yA p s.ths[k] with
  |none=>exact ht.pc
  |some o =>
   have:=(bH hg ht hn).2
   have:=ht.pc
   refine⟨?_,?_⟩
   ·show 0≤s.ths[k].pc+1
    omega
   ·show s.ths[k].pc+1≤((p.rs.getD s.ths[k].rt.toNat []).length:Int)
    omega
 ·split
  ·exact wT hi ⟨ht.rt,ht.pc,ht.st,fun e=>by rcases e with e|e <;> cases e⟩
  ·rename_i o hn
   split
   ·rename_i hf
    exact inv_do hg hi h hn hf _
   ·exact⟨hi.len,hi.cells,hi.owner,hi.ths⟩
theorem inv_new {p:ProgL} (hg:p.goodS):SInv p (vL p):=by
 obtain⟨b1,b2,b3,b4⟩:=hg.1
 refine⟨by simp[vL],?_,?_,fun t ht=>?_⟩
 ·have:=b1.1;simp[vL];omega
 ·have:=b2.1;simp[vL];omega
 ·have:t=jH 0:=by simpa[vL] using ht
  subst this
  refine⟨⟨Int.le_refl _,?_⟩,⟨Int.le_refl _,Int.natCast_nonneg _⟩,Nat.zero_le _,fun e=>by rcases e with e|e <;> cases e⟩
  have:=b4.1
  show(0:Int)<p.rs.length
  omega
theorem runOK {p:ProgL} (hg:p.goodS):RunOK p (SInv p):=by
 obtain⟨b1,b2,b3,b4⟩:=hg.1
 refine⟨fun s hi=>⟨⟨by have:=hi.len;omega,fun t ht=>by have:=(hi.ths t ht).st;omega,?_,?_⟩,hi.len⟩,fun s hi t ht=>?_,fun s hi k hk h=>inv_ready hg hi h,fun s hi k hk=>?_⟩
 ·have:=hi.cells;have:=b1.2;omega
 ·have:=hi.owner;have:=b2.2;omega
 ·obtain⟨j,hj,rfl⟩:=List.mem_iff_getElem.1 ht
  have hr:=inv_ready hg hi hj
  refine⟨hr.inP,hr.lock,fun o ho hc=>?_⟩
  obtain⟨⟨g1,g2⟩,_⟩:=bH hg (hi.ths _ ht) ho
  have:=g1.2.1.1
  have:=g2.2.2.1 (.inl hc)
  rw[hi.owner]
  exact⟨by assumption,by assumption⟩
 ·have:k<s.ths.length:=by have:=(List.mem_filter.1 hk).1;simpa using this
  exact inv_step hg hi this
end Ai
namespace Ai
set_option maxRecDepth 100000
open Go Go.Proofs
theorem nR (o:OpL):CallsTo EE 220 [agg (encOp o)] (·=.tup [i64 (zA o.code).1,i64 (zA o.code).2]):=by
 refine callsTo_of_AW (fn:=Tryz.f220) Tryz.func220 rfl (by kernel_rfl) rfl ?_
 have go1:(o.code=1∨o.code=2∨o.code=14)→zA o.code=(0,1):=fun h=>by simp[zA,h]
 have go2:¬ (o.code=1∨o.code=2∨o.code=14)→(o.code=3∨o.code=11∨o.code=15)→zA o.code=(1,0):=fun h1 h=>by simp[zA,h1,h]
 conv=>whnf
 refine kbi (fun h1=>?_) (fun h1=>?_)
 ·have:o.code=1:=by simpa using h1
  conv=>whnf
  rw[go1 (.inl this)]
 conv=>whnf
 refine kbi (fun h2=>?_) (fun h2=>?_)
 ·have:o.code=2:=by simpa using h2
  conv=>whnf
  rw[go1 (.inr (.inl this))]
 conv=>whnf
 refine kbi (fun h3=>?_) (fun h3=>?_)
 ·have:o.code=14:=by simpa using h3
  conv=>whnf
  rw[go1 (.inr (.inr this))]
 have hn:¬ (o.code=1∨o.code=2∨o.code=14):=by simp at h1 h2 h3;omega
 conv=>whnf
 refine kbi (fun g1=>?_) (fun g1=>?_)
 ·have:o.code=3:=by simpa using g1
  conv=>whnf
  rw[go2 hn (.inl this)]
 conv=>whnf
 refine kbi (fun g2=>?_) (fun g2=>?_)
 ·have:o.code=11:=by simpa using g2
  conv=>whnf
  rw[go2 hn (.inr (.inl this))]
 conv=>whnf
 refine kbi (fun g3=>?_) (fun g3=>?_)
 ·have:o.code=15:=by simpa using g3
  conv=>whnf
  rw[go2 hn (.inr (.inr this))]
 have hn2:¬ (o.code=3∨o.code=11∨o.code=15):=by simp at g1 g2 g3;omega
 have go3:4≤o.code∧o.code≤9→zA o.code=(2,1):=fun h=>by simp only[zA,if_neg hn,if_neg hn2];exact if_pos h
 have go4:¬ (4≤o.code∧o.code≤9)→zA o.code=(0,0):=fun h=>by simp only[zA,if_neg hn,if_neg hn2];exact if_neg h
 conv=>whnf
 refine kbi (fun k1=>?_) (fun k1=>?_)
 ·have:o.code=4:=by simpa using k1
  conv=>whnf
  rw[go3 (by omega)]
 conv=>whnf
 refine kbi (fun k2=>?_) (fun k2=>?_)
 ·have:o.code=5:=by simpa using k2
  conv=>whnf
  rw[go3 (by omega)]
 conv=>whnf
 refine kbi (fun k3=>?_) (fun k3=>?_)
 ·have:o.code=6:=by simpa using k3
  conv=>whnf
  rw[go3 (by omega)]
 conv=>whnf
 refine kbi (fun k4=>?_) (fun k4=>?_)
 ·have:o.code=7:=by simpa using k4
  conv=>whnf
  rw[go3 (by omega)]
 conv=>whnf
 refine kbi (fun k5=>?_) (fun k5=>?_)
 ·have:o.code=8:=by simpa using k5
  conv=>whnf
  rw[go3 (by omega)]
 conv=>whnf
 refine kbi (fun k6=>?_) (fun k6=>?_)
 ·have:o.code=9:=by simpa using k6
  conv=>whnf
  rw[go3 (by omega)]
 conv=>whnf
 rw[go4 (by simp at k1 k2 k3 k4 k5 k6;omega)]
theorem tT (p:ProgL) (t:Th) (hp:p.wf) (h:t.inP p):CallsTo EE 160 [agg (encProg p),agg (zF t)] (·=.tup [agg (encOp ((yA p t).getD op0)),bv (yA p t).isSome]):=by
 refine callsTo_of_AW (fn:=Tryz.f160) Tryz.func160 rfl (by kernel_rfl) rfl ?_
 obtain⟨⟨a1,a2⟩,b1,b2⟩:=h
 have hr:t.rt.toNat<p.rs.length:=by omega
 conv=>whnf
 refine⟨zO p.rs[t.rt.toNat],⟨a1,?_,rfl⟩,?_⟩
 ·show(p.rs.map zO)[t.rt.toNat]?=_
  simp[hr]
 conv=>whnf
 have hrow:p.rs.getD t.rt.toNat []=p.rs[t.rt.toNat]:=by simp[List.getD_eq_getElem?_getD,hr]
 rw[hrow] at b2
 refine kbi (fun h=>?_) (fun h=>?_)
 ·have h1:t.pc.toNat<p.rs[t.rt.toNat].length:=by simp at h;omega
  have h2:yA p t=some p.rs[t.rt.toNat][t.pc.toNat]:=by unfold yA;rw[hrow];simp[h1]
  conv=>whnf
  refine⟨encOp p.rs[t.rt.toNat][t.pc.toNat],⟨b1,?_,rfl⟩,?_⟩
  ·simp[h1]
  conv=>whnf
  rw[h2]
  rfl
 ·have h1:t.pc=(p.rs[t.rt.toNat].length:Int):=by simp at h;omega
  have h2:yA p t=none:=by unfold yA;rw[hrow,h1];simp
  conv=>whnf
  rw[h2]
  rfl
end Ai
namespace Ai
set_option maxRecDepth 100000
open Go Go.Proofs
def yP:Prop:=∀ (x:Nat) (many:Int),CallsTo EE 209 [.d (.flt x),i64 many] (·=.tup [i64 ((yR x many).getD 0),bv (yR x many).isSome])
theorem cF (hI:yP) (s:StL) (t:Th) (ht:t.stack.length≤1048576):CallsTo EE 161 [.fp (encSt s),agg (zF t)] (·=.tup [i64 ((zU s t).getD 0),bv (zU s t).isSome]):=by
 refine callsTo_of_AW (fn:=Tryz.f161) Tryz.func161 rfl (by kernel_rfl) rfl ?_
 conv=>whnf
 refine kbi (fun h=>?_) (fun h=>?_)
 ·have h1:t.stack=[]:=by
   have:(t.stack.map encF).length=0:=by simpa using h
   simpa using this
  conv=>whnf
  simp[zU,h1]
 ·have hne:t.stack≠[]:=fun e=>h (by rw[e];rfl)
  have hpos:0<t.stack.length:=List.length_pos_iff.2 hne
  conv=>whnf
  refine .inr (.inl ⟨18,[],?_⟩)
  conv=>whnf
  refine⟨encF (t.stack.getLast hne),⟨?_,?_,rfl⟩,?_⟩
  ·rw[zE (by simp;omega) (by simp;omega)];simp;omega
  ·rw[zE (by simp;omega) (by simp;omega)]
   have e:((((t.stack.map encF).length:Int) - 1).toNat)=t.stack.length - 1:=by simp
   rw[e,List.getElem?_map,← List.getLast?_eq_getElem?,List.getLast?_eq_some_getLast hne]
   rfl
  conv=>whnf
  refine⟨_,hI _ _,?_⟩
  conv=>whnf
  have hj:zU s t=yR (t.stack.getLast hne) (s.ths.map zF).length:=by
   unfold zU
   rw[List.getLast?_eq_some_getLast hne]
   simp
  rw[← hj]
  refine⟨by kernel_rfl,?_⟩
  conv=>whnf
end Ai
namespace Ai
set_option maxRecDepth 100000
open Go Go.Proofs
open Classical in
/-- impl.(*State).waits: whether a thread waits -/
theorem eP (hI:yP) (p:ProgL) (s:StL) (t:Th) (hp:p.wf) (ht:t.stack.length≤1048576) (hv:t.seen p s) :
  CallsTo EE 110 [.fp (encSt s),agg (encProg p),agg (zF t)] (fun r=>∃ w:Int,r=.tup [i64 w,bp (0≤zG p s t)]∧(0≤zG p s t→w=zG p s t)):=by
 refine callsTo_of_AW (fn:=Tryz.f110) Tryz.func110 rfl (by kernel_rfl) rfl ?_
 have own_get:∀ (a:Int),0≤a∧a<s.owner.length→0≤a∧(s.owner.map encInt)[a.toNat]?=some (encInt (s.owner.getD a.toNat 0))∧(encInt (s.owner.getD a.toNat 0)).length=1:=by
  intro a ha
  refine⟨ha.1,?_,rfl⟩
  have:a.toNat<s.owner.length:=by omega
  simp[this,List.getD_eq_getElem?_getD]
 conv=>whnf
 refine kbi (fun h4=>?_) (fun h4=>?_)
 ·have h4:t.st=4:=by simpa using h4
  have hb:zG p s t=s.owner.getD t.lock.toNat 0:=by simp only[zG,if_pos h4]
  conv=>whnf
  refine .inr (.inl ⟨19,[],?_⟩)
  conv=>whnf
  refine⟨_,own_get t.lock (hv.lock h4),?_⟩
  conv=>whnf
  refine⟨_,own_get t.lock (hv.lock h4),?_⟩
  conv=>whnf
  refine kbi (fun h0=>?_) (fun h0=>?_)
  ·have h0:0≤s.owner.getD (t.lock).toNat 0:=by simpa using h0
   conv=>whnf
   refine⟨by kernel_rfl,?_⟩
   conv=>whnf
   exact⟨_,by rw[hb];simp only[bp,tQ h0],fun _=>hb.symm⟩
  ·have h0:¬ 0≤s.owner.getD (t.lock).toNat 0:=by simpa using h0
   conv=>whnf
   refine⟨by kernel_rfl,?_⟩
   conv=>whnf
   exact⟨_,by rw[hb];simp only[bp,x4 h0],fun _=>hb.symm⟩
 have h4:¬ t.st=4:=by simpa using h4
 have none_:zG p s t=-1→∃ w:Int,AV.tup [i64 0,bv false]=.tup [i64 w,bp (0≤zG p s t)]∧(0≤zG p s t→w=zG p s t):=fun e =>
  ⟨0,by rw[e];simp only[bp,x4 (show ¬ (0:Int)≤-1 by decide)],fun h=>by rw[e] at h;exact absurd h (by decide)⟩
 conv=>whnf
 refine kbi (fun h1=>?_) (fun h1=>?_)
 ·have h1:t.st=1:=by simpa using h1
  conv=>whnf
  refine⟨_,tT p t hp hv.inP,?_⟩
  rintro r rfl
  conv=>whnf
  cases hn:yA p t with
  |none =>
   conv=>whnf
   exact none_ (by unfold zG;rw[if_neg h4,hn])
  |some o =>
   conv=>whnf
   refine kbi (fun h2=>?_) (fun h2=>?_)
   ·have h2:o.code=12:=by simpa using h2
    have hb:zG p s t=s.owner.getD o.a.toNat 0:=by simp[zG,h4,hn,h1,h2]
    conv=>whnf
    refine .inr (.inl ⟨19,[],?_⟩)
    conv=>whnf
    refine⟨_,own_get o.a (hv.op o hn h2),?_⟩
    conv=>whnf
    refine⟨_,own_get o.a (hv.op o hn h2),?_⟩
    conv=>whnf
    refine kbi (fun h0=>?_) (fun h0=>?_)
    ·have h0:0≤s.owner.getD (o.a).toNat 0:=by simpa using h0
     conv=>whnf
     refine⟨by kernel_rfl,?_⟩
     conv=>whnf
     exact⟨_,by rw[hb];simp only[bp,tQ h0],fun _=>hb.symm⟩
    ·have h0:¬ 0≤s.owner.getD (o.a).toNat 0:=by simpa using h0
     conv=>whnf
     refine⟨by kernel_rfl,?_⟩
     conv=>whnf
     exact⟨_,by rw[hb];simp only[bp,x4 h0],fun _=>hb.symm⟩
   have h2:¬ o.code=12:=by simpa using h2
   conv=>whnf
   refine kbi (fun h3=>?_) (fun h3=>?_)
   ·have h3:o.code=15:=by simpa using h3
    conv=>whnf
    refine⟨_,cF hI s t ht,?_⟩
    rintro r rfl
    conv=>whnf
    cases hj:zU s t with
    |none =>
     conv=>whnf
     refine .inr (.inl ⟨15,[],?_⟩)
     conv=>whnf
     refine⟨by kernel_rfl,?_⟩
     conv=>whnf
     exact none_ (by simp[zG,h4,hn,h1,h2,h3,hj])
    |some k =>
     obtain⟨k1,k2⟩:=kK idxRange hj
     have hk:k.toNat<s.ths.length:=by omega
     conv=>whnf
     refine .inr (.inl ⟨15,[],?_⟩)
     conv=>whnf
     refine⟨zF s.ths[k.toNat],⟨k1,by simp[hk],rfl⟩,?_⟩
     conv=>whnf
     refine kbi (fun h6=>?_) (fun h6=>?_)
     ·have h6:¬ s.ths[k.toNat].st=2:=by simpa using h6
      conv=>whnf
      refine⟨by kernel_rfl,?_⟩
      conv=>whnf
      have hb:zG p s t=k:=by simp[zG,h4,hn,h1,h2,h3,hj,List.getD_eq_getElem?_getD,hk,h6]
      exact⟨k,by rw[hb];simp only[bp,tQ k1];rfl,fun _=>hb.symm⟩
     ·have h6:s.ths[k.toNat].st=2:=by simpa using h6
      conv=>whnf
      refine⟨by kernel_rfl,?_⟩
      conv=>whnf
      have hb:zG p s t=-1:=by simp[zG,h4,hn,h1,h2,h3,hj,List.getD_eq_getElem?_getD,hk,h6]
      exact⟨k,by rw[hb];simp only[bp,x4 (show ¬ (0:Int)≤-1 by decide)];rfl,fun h=>by rw[hb] at h;exact absurd h (by decide)⟩
   ·have h3:¬ o.code=15:=by simpa using h3
    conv=>whnf
    exact none_ (by simp[zG,h4,hn,h1,h2,h3])
 ·have h1:¬ t.st=1:=by simpa using h1
  conv=>whnf
  exact none_ (by
   unfold zG;rw[if_neg h4]
   cases yA p t with
   |none=>rfl
   |some o=>simp[h1])
end Ai
namespace Ai
set_option maxRecDepth 100000
open Go Go.Proofs
theorem enabledI_ok (hI:yP) (p:ProgL) (s:StL) (hp:p.wf) (hs:s.small) (hv:∀ t∈s.ths,t.seen p s) :
  CallsTo EE 124 [.fp (encSt s),agg (encProg p)] (·=.uq 3 1 ((enabledL p s).map encN)):=by
 refine callsTo_of_AW (fn:=Tryz.f124) Tryz.func124 rfl (by kernel_rfl) rfl ?_
 conv=>whnf
 refine yV (fun k:Nat=>[(0,.fp (encSt s)),(3,.ptr (.n 3) 0),(5,.ref (.n 10) 0 (zH p s k).length),(14,sl (s.ths.map zF)),(15,i64 (s.ths.map zF).length),(16,i64 k)])
  (fun k=>[(.n 3,.vs 39 ((encProg p).map .d)),(.n 10,.ds 3 1 ((zH p s k).map encN))]) (fun k=>s.ths.length - k) (fun k=>k≤s.ths.length) 0
  Weak.refl ⟨rfl,rfl,rfl,rfl,rfl,rfl,trivial⟩ ⟨rfl,rfl,trivial⟩ (Nat.zero_le _) ?_
 rintro k τ H hk
 conv=>whnf
 refine kbi (fun h=>?_) (fun h=>?_)
 ·have hlt:=xO h
  conv=>whnf
  refine⟨zF s.ths[k],yD zF hlt rfl,?_⟩
  conv=>whnf
  have hg:s.ths.getD k th0=s.ths[k]:=by simp[List.getD_eq_getElem?_getD,hlt]
  have hle:(zH p s k).length≤k:=enabledTo_le
  have hn:=hs.1
  refine⟨_,eP hI p s s.ths[k] hp (hs.2.1 _ (List.getElem_mem hlt)) (hv _ (List.getElem_mem hlt)),?_⟩
  rintro r ⟨w,rfl,-⟩
  conv=>whnf
  refine kbi (fun hf=>?_) (fun hf=>?_)
  ·have hf:s.fault=0:=by simpa using hf
   by_cases hb:0≤zG p s s.ths[k]
   ·simp only[bp,tQ hb]
    conv=>whnf
    have hgo:qI p s k=false:=by unfold qI;rw[hg];exact decide_eq_false fun e=>by have:=e.2.2;omega
    have hsk:zH p s (k+1)=zH p s k:=by rw[yS,hgo];simp
    refine⟨k+1,by omega,by show s.ths.length - (k+1)<s.ths.length - k;omega,⟨rfl,rfl,?_,rfl,rfl,next_i64 hlt (by omega),trivial⟩,⟨rfl,?_,trivial⟩⟩
    ·rw[hsk];rfl
    ·rw[hsk];rfl
   ·simp only[bp,x4 hb]
    conv=>whnf
    refine kbi (fun h1=>?_) (fun h1=>?_)
    ·have h1:s.ths[k].st=1:=by simpa using h1
     conv=>whnf
     refine⟨⟨rfl,by simp;omega,by simp;omega⟩,?_⟩
     conv=>whnf
     have hgo:qI p s k=true:=by unfold qI;rw[hg];exact decide_eq_true ⟨hf,.inl h1,by omega⟩
     have hsk:zH p s (k+1)=zH p s k++[k]:=by rw[yS,hgo];simp
     refine⟨k+1,by omega,by show s.ths.length - (k+1)<s.ths.length - k;omega,⟨rfl,rfl,?_,rfl,rfl,next_i64 hlt (by omega),trivial⟩,⟨rfl,?_,trivial⟩⟩
     ·rw[hsk]
      show AV.ref (.n 10) 0 ((zH p s k).length+1)=_
      simp
     ·rw[hsk]
      show some (Ob.ds 3 1 (((zH p s k).map encN).take (zH p s k).length++[[di k]]))=_
      rw[List.take_of_length_le (by simp)]
      simp[encN]
    ·have h1:¬ s.ths[k].st=1:=by simpa using h1
     conv=>whnf
     refine kbi (fun h4=>?_) (fun h4=>?_)
     ·have h4:s.ths[k].st=4:=by simpa using h4
      conv=>whnf
      refine⟨⟨rfl,by simp;omega,by simp;omega⟩,?_⟩
      conv=>whnf
      have hgo:qI p s k=true:=by unfold qI;rw[hg];exact decide_eq_true ⟨hf,.inr h4,by omega⟩
      have hsk:zH p s (k+1)=zH p s k++[k]:=by rw[yS,hgo];simp
      refine⟨k+1,by omega,by show s.ths.length - (k+1)<s.ths.length - k;omega,⟨rfl,rfl,?_,rfl,rfl,next_i64 hlt (by omega),trivial⟩,⟨rfl,?_,trivial⟩⟩
      ·rw[hsk]
       show AV.ref (.n 10) 0 ((zH p s k).length+1)=_
       simp
      ·rw[hsk]
       show some (Ob.ds 3 1 (((zH p s k).map encN).take (zH p s k).length++[[di k]]))=_
       rw[List.take_of_length_le (by simp)]
       simp[encN]
     ·have h4:¬ s.ths[k].st=4:=by simpa using h4
      conv=>whnf
      have hgo:qI p s k=false:=by unfold qI;rw[hg];exact decide_eq_false fun e=>e.2.1.elim h1 h4
      have hsk:zH p s (k+1)=zH p s k:=by rw[yS,hgo];simp
      refine⟨k+1,by omega,by show s.ths.length - (k+1)<s.ths.length - k;omega,⟨rfl,rfl,?_,rfl,rfl,next_i64 hlt (by omega),trivial⟩,⟨rfl,?_,trivial⟩⟩
      ·rw[hsk];rfl
      ·rw[hsk];rfl
  ·have hf:¬ s.fault=0:=by simpa using hf
   conv=>whnf
   have hgo:qI p s k=false:=by unfold qI;exact decide_eq_false fun e=>hf e.1
   have hsk:zH p s (k+1)=zH p s k:=by rw[yS,hgo];simp
   refine⟨k+1,by omega,by show s.ths.length - (k+1)<s.ths.length - k;omega,⟨rfl,rfl,?_,rfl,rfl,next_i64 hlt (by omega),trivial⟩,⟨rfl,?_,trivial⟩⟩
   ·rw[hsk];rfl
   ·rw[hsk];rfl
 ·have hge:s.ths.length≤k:=by simpa using h
  have hkk:k=s.ths.length:=by omega
  subst hkk
  conv=>whnf
  refine congrArg (AV.uq 3 1) ?_
  rw[List.take_of_length_le (by simp)]
  rfl
end Ai
namespace Ai
set_option maxRecDepth 100000
open Go Go.Proofs
theorem oC (hI:yP) (s:StL) (k:Nat) (o:OpL) (hk:k<s.ths.length) (hs:s.small) (ho:o.inS s):CallsTo EE 175 [.fp (encSt s),i64 k,agg (encOp o)] (·=i64 (zV s k o)):=by
 refine callsTo_of_AW (fn:=Tryz.f175) Tryz.func175 rfl (by kernel_rfl) rfl ?_
 have hg:s.ths.getD k th0=s.ths[k]:=by simp[List.getD_eq_getElem?_getD,hk]
 have hst:=hs.2.1 _ (List.getElem_mem hk)
 conv=>whnf
 refine⟨zF s.ths[k],yD zF hk rfl,?_⟩
 conv=>whnf
 refine⟨_,nR o,?_⟩
 rintro r rfl
 conv=>whnf
 have ht:0≤(zA o.code).1∧(zA o.code).1≤2∧0≤(zA o.code).2∧(zA o.code).2≤1:=by
  unfold zA;split
  ·decide
  ·split
   ·decide
   ·split <;> decide
 have e1:(IntKind.i64.wrap ((s.ths[k].stack.length:Int) - (zA o.code).1))=(s.ths[k].stack.length:Int) - (zA o.code).1:=zE (by omega) (by omega)
 refine kbi (fun h1=>?_) (fun h1=>?_)
 ·conv=>whnf
  have h1:(s.ths[k].stack.length:Int)<(zA o.code).1:=by simpa using h1
  simp only[zV,hg]
  rw[if_pos (.inl h1)]
 have h1:¬ (s.ths[k].stack.length:Int)<(zA o.code).1:=by simpa using h1
 conv=>whnf
 rw[show(List.map encF s.ths[k].stack).length=s.ths[k].stack.length by simp,e1,zE (by omega) (by omega)]
 refine kbi (fun h2=>?_) (fun h2=>?_)
 ·have h2:8<(s.ths[k].stack.length:Int) - (zA o.code).1+(zA o.code).2:=by simpa using h2
  conv=>whnf
  simp only[zV,hg]
  rw[if_pos (.inr h2)]
 have h2:¬ 8<(s.ths[k].stack.length:Int) - (zA o.code).1+(zA o.code).2:=by simpa using h2
 have hn1:¬ ((s.ths[k].stack.length:Int)<(zA o.code).1∨8<(s.ths[k].stack.length:Int) - (zA o.code).1+(zA o.code).2):=fun e=>e.elim h1 h2
 conv=>whnf
 have fin:∀ n:Int,(if (o.code=13∧s.owner.getD o.a.toNat 0≠k)∨(o.code=16∧s.owner.getD o.b.toNat 0≠k) then 2
   else if o.code=15∧(zU s s.ths[k]).getD (-1)<0 then 3
   else if o.code=14∧s.ths.length=5 then 4 else 0)=n→AV.d (.int .i64 n)=i64 (zV s k o):=by
  intro n hn
  rw[← hn]
  simp only[zV,hg]
  rw[if_neg hn1]
 have own_get:∀ (a:Int),0≤a∧a<s.owner.length→0≤a∧(s.owner.map encInt)[a.toNat]?=some (encInt (s.owner.getD a.toNat 0))∧(encInt (s.owner.getD a.toNat 0)).length=1:=by
  intro a ha
  refine⟨ha.1,?_,rfl⟩
  have:a.toNat<s.owner.length:=by omega
  simp[this,List.getD_eq_getElem?_getD]
 refine kbi (fun h3=>?_) (fun h3=>?_)
 ·have h3:o.code=13:=by simpa using h3
  conv=>whnf
  refine .inr (.inl ⟨10,[],?_⟩)
  conv=>whnf
  refine⟨_,own_get o.a (ho.1 h3),?_⟩
  conv=>whnf
  refine kbi (fun h4=>?_) (fun h4=>?_)
  ·have h4:s.owner.getD o.a.toNat 0≠k:=by simpa using h4
   conv=>whnf
   refine⟨by kernel_rfl,?_⟩
   conv=>whnf
   exact fin 2 (by rw[if_pos (.inl ⟨h3,h4⟩)])
  have h4:¬ s.owner.getD o.a.toNat 0≠k:=by simpa using h4
  conv=>whnf
  refine⟨by kernel_rfl,?_⟩
  conv=>whnf
  exact fin 0 (by rw[if_neg (by rintro(⟨_,e⟩|⟨e,_⟩);exact h4 e;omega),if_neg (by omega),if_neg (by omega)])
 have h3:¬ o.code=13:=by simpa using h3
 conv=>whnf
 refine kbi (fun h4=>?_) (fun h4=>?_)
 ·have h4:o.code=16:=by simpa using h4
  conv=>whnf
  refine .inr (.inl ⟨10,[],?_⟩)
  conv=>whnf
  refine⟨_,own_get o.b (ho.2 h4),?_⟩
  conv=>whnf
  refine kbi (fun h5=>?_) (fun h5=>?_)
  ·have h5:s.owner.getD o.b.toNat 0≠k:=by simpa using h5
   conv=>whnf
   refine⟨by kernel_rfl,?_⟩
   conv=>whnf
   exact fin 2 (by rw[if_pos (.inr ⟨h4,h5⟩)])
  have h5:¬ s.owner.getD o.b.toNat 0≠k:=by simpa using h5
  conv=>whnf
  refine⟨by kernel_rfl,?_⟩
  conv=>whnf
  exact fin 0 (by rw[if_neg (by rintro(⟨e,_⟩|⟨_,e⟩);exact h3 e;exact h5 e),if_neg (by omega),if_neg (by omega)])
 have h4:¬ o.code=16:=by simpa using h4
 have hn2:¬ ((o.code=13∧s.owner.getD o.a.toNat 0≠k)∨(o.code=16∧s.owner.getD o.b.toNat 0≠k)):=by
  rintro(⟨e,_⟩|⟨e,_⟩)
  ·exact h3 e
  ·exact h4 e
 conv=>whnf
 refine kbi (fun h5=>?_) (fun h5=>?_)
 ·have h5:o.code=15:=by simpa using h5
  conv=>whnf
  refine⟨_,cF hI s s.ths[k] hst,?_⟩
  rintro r rfl
  conv=>whnf
  cases hj:zU s s.ths[k] with
  |none =>
   conv=>whnf
   exact fin 3 (by rw[if_neg hn2,if_pos ⟨h5,by rw[hj];decide⟩])
  |some n =>
   conv=>whnf
   have:=kK idxRange hj
   exact fin 0 (by rw[if_neg hn2,if_neg (fun e=>by have e2:=e.2;rw[hj] at e2;simp only[Option.getD_some] at e2;omega),if_neg (by omega)])
 have h5:¬ o.code=15:=by simpa using h5
 conv=>whnf
 refine kbi (fun h6=>?_) (fun h6=>?_)
 ·have h6:o.code=14:=by simpa using h6
  conv=>whnf
  refine kbi (fun h7=>?_) (fun h7=>?_)
  ·have h7:s.ths.length=5:=by
    have:((s.ths.map zF).length:Int)=5:=by simpa using h7
    simp at this;omega
   conv=>whnf
   exact fin 4 (by rw[if_neg hn2,if_neg (fun e=>h5 e.1),if_pos ⟨h6,h7⟩])
  have h7:¬ s.ths.length=5:=fun e=>h7 (by simp[e])
  conv=>whnf
  exact fin 0 (by rw[if_neg hn2,if_neg (fun e=>h5 e.1),if_neg (fun e=>h7 e.2)])
 have h6:¬ o.code=14:=by simpa using h6
 conv=>whnf
 exact fin 0 (by rw[if_neg hn2,if_neg (fun e=>h5 e.1),if_neg (fun e=>h6 e.1)])
end Ai
namespace Ai
set_option maxRecDepth 100000
open Go Go.Proofs
def onP (p:ProgL) (k:Nat):List (Key × Ob):=[(.n 2,.vs 44 [.d .nil,.d .nil,.d .nil,i64 0]),(.n 3,.vs 44 [.dref (.n 6) 1,.ref (.n 9) 0 p.cells.toNat,.ref (.n 12) 0 p.locks.toNat,i64 0]),
 (.n 6,.rs 109 6 [[i64 0,i64 0,i64 1,i64 (-1),i64 (-1),.ref (.n 905) 0 0]]),(.n 905,.ds 100 1 []),(.n 9,.ds 100 1 (List.replicate p.cells.toNat [.flt 0])),(.n 12,.ds 3 1 (List.replicate k [di (-1)]++List.replicate (p.locks.toNat - k) [di 0]))]
theorem repl_step {n k:Nat} {d:D} {b:List D} (h:k<n):vJ (List.replicate k [d]++List.replicate (n - k) b) 1 (0+((k:Nat):Int).toNat) 0 [d]=List.replicate (k+1) [d]++List.replicate (n - (k+1)) b:=by
 have e1:0+((k:Nat):Int).toNat=k:=by omega
 have e2:n - k=(n - (k+1))+1:=by omega
 rw[e1]
 unfold vJ
 rw[show(Nat.beq 0 0&&Nat.beq [d].length 1)=true from rfl,cond_true,List.set_append,List.length_replicate,if_neg (by omega),Nat.sub_self,e2,List.replicate_succ,List.set_cons_zero,List.replicate_succ']
 simp
theorem start_ok (p:ProgL) (h1:InR p.cells 0 1048576) (h2:InR p.locks 0 1048576):CallsTo EE 82 [agg (encProg p)] (·=.own (kI (vL p))):=by
 refine callsTo_of_AW (fn:=Tryz.f82) Tryz.func82 rfl (by kernel_rfl) rfl ?_
 have a1:=h1.1
 have a2:=h1.2
 have b1:=h2.1
 have b2:=h2.2
 conv=>whnf
 refine .inr (.inl ⟨10,[2715],?_⟩)
 conv=>whnf
 refine⟨_,kR 0,?_⟩
 conv=>whnf
 refine⟨⟨by omega,by omega,by show 8*p.cells≤_;omega,by omega⟩,?_⟩
 conv=>whnf
 refine⟨⟨by omega,by omega,by show 8*p.locks≤_;omega,by omega⟩,?_⟩
 conv=>whnf
 refine⟨by kernel_rfl,?_⟩
 conv=>whnf
 refine yV (fun k:Nat=>[(2,.ptr (.n 2) 0),(3,.ptr (.n 3) 0),(16,i64 p.locks.toNat),(17,i64 k)]) (fun k=>onP p k) (fun k=>p.locks.toNat - k) (fun k=>k≤p.locks.toNat) 0
  Weak.refl ⟨rfl,rfl,rfl,rfl,trivial⟩ ⟨rfl,rfl,rfl,rfl,rfl,rfl,trivial⟩ (Nat.zero_le _) ?_
 rintro k τ H hk
 conv=>whnf
 refine kbi (fun h=>?_) (fun h=>?_)
 ·have hlt:k<p.locks.toNat:=lt_of_dec h
  conv=>whnf
  refine⟨⟨by omega,by omega⟩,?_⟩
  conv=>whnf
  refine⟨k+1,by omega,by show p.locks.toNat - (k+1)<p.locks.toNat - k;omega,⟨rfl,rfl,rfl,next_i64 hlt (by omega),trivial⟩,⟨rfl,rfl,rfl,rfl,rfl,?_,trivial⟩⟩
  exact congrArg (fun x=>some (Ob.ds 3 1 x)) (repl_step hlt)
 ·have hge:p.locks.toNat≤k:=ge_of_dec (by simpa using h)
  have hkc:k=p.locks.toNat:=by omega
  subst hkc
  conv=>whnf
  refine .inr (.inr ⟨kI (vL p),_,(wL 6 900).trans ((jR 905 900 0).trans ((wL 9 901).trans (wL 12 902))),?_,?_,nY ⟨⟨rfl,fun j q hq=>?_⟩,?_,?_,trivial,trivial⟩,rfl⟩)
  ·show some [AV.agg [.dref 900 1,.ref 901 0 p.cells.toNat,.ref 902 0 p.locks.toNat,i64 0]]=_
   simp[ownR,ownR1,kI,kD,vL]
   exact⟨rfl,rfl,rfl⟩
  ·intro v hv
   simp only[kI,List.mem_cons,List.not_mem_nil,or_false] at hv
   rcases hv with rfl|rfl|rfl|rfl
   ·rfl
   ·trivial
   ·trivial
   ·trivial
  ·match j,hq with
   | 0,hq=>injection hq with hq;subst hq;rfl
   |j+1,hq=>cases hq
  ·show some (Ob.ds 100 1 (List.replicate p.cells.toNat [.flt 0]))=some (Ob.ds 100 1 ((List.replicate p.cells.toNat 0).map encF))
   rw[List.map_replicate];rfl
  ·show some (Ob.ds 3 1 (List.replicate p.locks.toNat [di (-1)]++List.replicate (p.locks.toNat - p.locks.toNat) [di 0]))=some (Ob.ds 3 1 ((List.replicate p.locks.toNat (-1)).map encInt))
   rw[List.map_replicate,Nat.sub_self]
   exact congrArg (fun x=>some (Ob.ds 3 1 x)) (List.append_nil _)
end Ai
namespace Ai
set_option maxRecDepth 100000
open Go Go.Proofs
def lN (o:Option Nat):Int:=match o with|some k=>k|none=>-1
theorem fH {α:Type} {f:α→Bool} {l:List α} {k:Nat} (hk:k<l.length) (h:∀ x∈l.take k,f x=false) (hf:f l[k]=true):l.findIdx? f=some k:=by
 rw[List.findIdx?_eq_some_iff_getElem]
 refine⟨hk,hf,fun j hj=>?_⟩
 have:=h l[j] (List.mem_take_iff_getElem.2 ⟨j,by omega,rfl⟩)
 simp[this]
theorem fI {α:Type} {f:α→Bool} {l:List α} (h:∀ x∈l,f x=false):l.findIdx? f=none:=by
 rw[List.findIdx?_eq_none_iff];exact h
theorem kW (l:List Th) (hl:l.length≤1048576) (g:FuncId) (caps:List AV) (hc:caps=[]∨∃ c,caps=[.fp c]) (f:Th→Bool) (hg:∀ t∈l,CallsTo EE g (agg (zF t)::caps) (·=bv (f t))) :
  CallsTo EE 219 [sl (l.map zF),.fn g caps] (·=i64 (lN (l.findIdx? f))):=by
 refine callsTo_of_AW (fn:=Tryz.f219) Tryz.func219 rfl (by kernel_rfl) rfl ?_
 rcases hc with rfl|⟨c,rfl⟩
 ·conv=>whnf
  refine yV (fun k:Nat=>[(0,sl (l.map zF)),(1,.fn g []),(7,i64 (l.map zF).length),(8,i64 k)]) (fun k=>[]) (fun k=>l.length - k) (fun k=>k≤l.length∧∀ x∈l.take k,f x=false) 0
   Weak.refl ⟨rfl,rfl,rfl,rfl,trivial⟩ trivial ⟨Nat.zero_le _,by simp⟩ ?_
  rintro k τ H ⟨hk,hall⟩
  conv=>whnf
  refine kbi (fun h=>?_) (fun h=>?_)
  ·have hlt:=xO h
   conv=>whnf
   refine⟨zF l[k],yD zF hlt rfl,?_⟩
   conv=>whnf
   refine⟨_,hg _ (List.getElem_mem hlt),?_⟩
   rintro r rfl
   cases hf:f l[k] with
   |true =>
    conv=>whnf
    rw[fH hlt hall hf];rfl
   |false =>
    conv=>whnf
    exact⟨k+1,⟨by omega,qO hall hlt hf⟩,by show l.length - (k+1)<l.length - k;omega,⟨rfl,rfl,rfl,next_i64 hlt (by omega),trivial⟩,trivial⟩
  ·have hge:l.length≤k:=by simpa using h
   conv=>whnf
   rw[fI (kQ hall hge)];rfl
 ·conv=>whnf
  refine yV (fun k:Nat=>[(0,sl (l.map zF)),(1,.fn g [.fp c]),(7,i64 (l.map zF).length),(8,i64 k)]) (fun k=>[]) (fun k=>l.length - k) (fun k=>k≤l.length∧∀ x∈l.take k,f x=false) 0
   Weak.refl ⟨rfl,rfl,rfl,rfl,trivial⟩ trivial ⟨Nat.zero_le _,by simp⟩ ?_
  rintro k τ H ⟨hk,hall⟩
  conv=>whnf
  refine kbi (fun h=>?_) (fun h=>?_)
  ·have hlt:=xO h
   conv=>whnf
   refine⟨zF l[k],yD zF hlt rfl,?_⟩
   conv=>whnf
   refine⟨_,hg _ (List.getElem_mem hlt),?_⟩
   rintro r rfl
   cases hf:f l[k] with
   |true =>
    conv=>whnf
    rw[fH hlt hall hf];rfl
   |false =>
    conv=>whnf
    exact⟨k+1,⟨by omega,qO hall hlt hf⟩,by show l.length - (k+1)<l.length - k;omega,⟨rfl,rfl,rfl,next_i64 hlt (by omega),trivial⟩,trivial⟩
  ·have hge:l.length≤k:=by simpa using h
   conv=>whnf
   rw[fI (kQ hall hge)];rfl
theorem fixI_nn {α:Type} {f:α→Bool} {l:List α}:decide (lN (l.findIdx? f)≥0)=l.any f:=by
 cases h:l.findIdx? f with
 |none =>
  rw[List.findIdx?_eq_none_iff] at h
  have:l.any f=false:=by
   rw[List.any_eq_false];intro x hx;simp[h x hx]
  rw[this];rfl
 |some k =>
  rw[List.findIdx?_eq_some_iff_getElem] at h
  obtain⟨hk,hf,_⟩:=h
  have:l.any f=true:=List.any_eq_true.2 ⟨_,List.getElem_mem hk,hf⟩
  rw[this]
  simp[lN]
theorem pV (l:List Th) (hl:l.length≤1048576) (g:FuncId) (f:Th→Bool) (hg:∀ t∈l,CallsTo EE g [agg (zF t)] (·=bv (f t))) :
  CallsTo EE 170 [sl (l.map zF),.fn g []] (·=bv (l.any f)):=by
 refine callsTo_of_AW (fn:=Tryz.f170) Tryz.func170 rfl (by kernel_rfl) rfl ?_
 conv=>whnf
 refine⟨_,kW l hl g [] (.inl rfl) f hg,?_⟩
 rintro r rfl
 conv=>whnf
 rw[← fixI_nn]
 refine kbi (fun h=>?_) (fun h=>?_)
 ·conv=>whnf
  rw[h]
 ·conv=>whnf
  rw[show decide (lN (l.findIdx? f)≥0)=false by simpa using h]
theorem codeOf1_ok (t:Th):CallsTo EE 171 [agg (zF t)] (·=bv (t.st != 2)):=by
 refine callsTo_of_AW (fn:=Tryz.f171) Tryz.func171 rfl (by kernel_rfl) rfl ?_
 conv=>whnf
 refine kbi (fun h=>?_) (fun h=>?_)
 ·conv=>whnf
  have:t.st≠2:=by simpa using h
  simp[this]
 ·conv=>whnf
  have:t.st=2:=by simpa using h
  simp[this]
theorem codeOf_ok (p:ProgL) (s:StL) (steps budget:Int) (hs:s.small) :
  CallsTo EE 125 [agg (encProg p),.fp (encSt s),sl ((enabledL p s).map encN),i64 steps,i64 budget] (·=i64 (codeL p s steps budget)):=by
 refine callsTo_of_AW (fn:=Tryz.f125) Tryz.func125 rfl (by kernel_rfl) rfl ?_
 have hn:=hs.1
 conv=>whnf
 refine kbi (fun hf=>?_) (fun hf=>?_)
 ·have hf:s.fault≠0:=by simpa using hf
  conv=>whnf
  unfold codeL
  rw[if_pos hf]
 have hf:¬ s.fault≠0:=by simpa using hf
 conv=>whnf
 refine kbi (fun h0=>?_) (fun h0=>?_)
 ·have h0:enabledL p s=[]:=by
   have:(((enabledL p s).map encN).length:Int)=0:=by simpa using h0
   simp at this
   exact this
  conv=>whnf
  refine⟨_,pV s.ths hn 171 _ (fun t _=>codeOf1_ok t),?_⟩
  rintro r rfl
  cases hany:s.ths.any (fun t=>t.st != 2) with
  |true =>
   conv=>whnf
   obtain⟨t,ht,h2⟩:=List.any_eq_true.1 hany
   unfold codeL
   rw[if_neg hf,if_pos h0,if_pos ⟨t,ht,by simpa using h2⟩]
  |false =>
   conv=>whnf
   rw[List.any_eq_false] at hany
   unfold codeL
   rw[if_neg hf,if_pos h0,if_neg]
   rintro⟨t,ht,h2⟩
   exact hany t ht (by simpa using h2)
 have h0:¬ enabledL p s=[]:=fun e=>h0 (by rw[e];rfl)
 conv=>whnf
 refine kbi (fun h1=>?_) (fun h1=>?_)
 ·have h1:steps=budget:=by simpa using h1
  conv=>whnf
  unfold codeL
  rw[if_neg hf,if_neg h0,if_pos h1]
 ·have h1:¬ steps=budget:=by simpa using h1
  conv=>whnf
  unfold codeL
  rw[if_neg hf,if_neg h0,if_neg h1]
end Ai
namespace Ai
set_option maxRecDepth 100000
open Go Go.Proofs
def gB (l:List Th) (k:Nat):List (List AV):=thRows 900 (l.take k)++(l.drop k).map fun t=>(zF t).map .d
theorem renL_d (f:Key→Key):∀ xs:List D,renL f (xs.map .d)=xs.map .d
 | []=>rfl
 |x::xs=>by simp only[List.map_cons,renL,ren,renL_d f xs]
theorem scrL_d (p:Key→Bool):∀ xs:List D,scrPL p (xs.map .d)=xs.map .d
 | []=>rfl
 |x::xs=>by simp only[List.map_cons,scrPL,scrP,scrL_d p xs]
theorem oH {α:Type} (f:Key→Key) (enc:α→List D) (l:List α):(l.map fun t=>(enc t).map AV.d).map (renL f)=l.map fun t=>(enc t).map AV.d:=by
 rw[List.map_map];exact List.map_congr_left fun t _=>renL_d f _
theorem dRows_scr {α:Type} (p:Key→Bool) (enc:α→List D) (l:List α):(l.map fun t=>(enc t).map AV.d).map (scrPL p)=l.map fun t=>(enc t).map AV.d:=by
 rw[List.map_map];exact List.map_congr_left fun t _=>scrL_d p _
theorem rowsK_scr {p:Key→Bool} (l:List Th) (k:Nat) (h:∀ j,p (.s 900 j)=false):(gB l k).map (scrPL p)=gB l k:=by
 unfold gB
 rw[List.map_append,yF fun j _=>h j,dRows_scr]
theorem rowsK_get {l:List Th} {k:Nat} (h:k<l.length):(gB l k)[k]?=some ((zF l[k]).map .d):=by
 unfold gB
 have hl:(thRows 900 (l.take k)).length=k:=by rw[zR];simp;omega
 rw[List.getElem?_append_right (by omega),hl,Nat.sub_self,List.getElem?_map,List.getElem?_drop,Nat.add_zero,List.getElem?_eq_getElem h]
 rfl
theorem r8 {l:List Th} {k a:Nat} {X:List (List AV)} {v:AV} (h:k<l.length) (hX:X=gB l k) (hv:v=.ref (.n a) 0 l[k].stack.length) :
  (xG X 6 ((k:Nat):Int).toNat (0+5) [v]).map (renL (swp (.n a) (.s 900 k)))=gB l (k+1):=by
 subst hX hv
 have hl:(l.take k).length=k:=by simp;omega
 have hd:l.drop k=l[k]::l.drop (k+1):=List.drop_eq_getElem_cons h
 have e2:swp (.n a) (.s 900 k) (.n a)=.s 900 k:=by simp[swp,zD]
 unfold xG gB
 rw[show(Nat.beq (0+5) 0&&Nat.beq [AV.ref (.n a) 0 l[k].stack.length].length 6)=false from rfl,cond_false,show((k:Nat):Int).toNat=k from rfl,hd,List.map_cons]
 have hm:∀ (A:List (List AV)) (x:List AV) (B:List (List AV)) (f:List AV→List AV),A.length=k→(A++x::B).modify k f=A++f x::B:=by
  intro A x B f hA
  apply List.ext_getElem?
  intro j
  rw[List.getElem?_modify]
  rcases Nat.lt_trichotomy j k with hj|hj|hj
  ·rw[List.getElem?_append_left (by omega),List.getElem?_append_left (by omega)]
   simp only[if_neg (show ¬ k=j by omega)];simp
  ·subst hj
   rw[List.getElem?_append_right (by omega),List.getElem?_append_right (by omega),hA];simp
  ·rw[List.getElem?_append_right (by omega),List.getElem?_append_right (by omega)]
   simp only[if_neg (show ¬ k=j by omega)]
   rw[show j - A.length=(j - k - 1)+1 by omega];simp
 rw[hm _ _ _ _ (by rw[zR];exact hl),List.map_append,lF (by omega),List.map_cons,oH,dF l k h,pY,hl,List.append_assoc,List.singleton_append]
 congr 2
 simp[zF,zW,renL,ren,thRow,e2]
theorem oI (s:StL) (hs:s.small):CallsTo EE 128 [agg (encSt s)] (·=.own (kI s)):=by
 obtain⟨s1,s2,s3,s4⟩:=hs
 refine callsTo_of_AW (fn:=Tryz.f128) Tryz.func128 rfl (by kernel_rfl) rfl ?_
 conv=>whnf
 refine .inr (.inl ⟨13,[],?_⟩)
 conv=>whnf
 refine⟨_,gV s.cells s3,.inr ⟨_,rfl,?_⟩⟩
 conv=>whnf
 refine⟨_,CloneI_ok s.owner s4,.inr ⟨_,rfl,?_⟩⟩
 conv=>whnf
 refine⟨_,CloneT_ok s.ths s1,.inr ⟨_,rfl,?_⟩⟩
 conv=>whnf
 refine⟨by kernel_rfl,?_⟩
 conv=>whnf
 refine aloopF (fun k:Nat=>[(2,.ptr 2 0),(3,.ptr 3 0),(19,i64 s.ths.length),(20,i64 k)])
  (fun k=>[(2,.vs 44 [.d .nil,.d .nil,.d .nil,i64 0]),(3,.vs 44 [.dref 900 s.ths.length,.ref 7 0 s.cells.length,.ref 10 0 s.owner.length,i64 s.fault]),(7,.ds 100 1 (s.cells.map encF)),(10,.ds 3 1 (s.owner.map encInt)),(900,.rs 109 6 (gB s.ths k))])
  (fun k=>[(900,zS (s.ths.take k))]) (fun k=>s.ths.length - k) (fun k=>k≤s.ths.length) 0 ((m8 (.n 15) (els:=s.ths.map zF) rfl).trans (wL 15 900)) ?_ ?_ ?_ (Nat.zero_le _) ?_
 ·refine⟨rfl,rfl,?_,rfl,trivial⟩
  show i64 (s.ths.map zF).length=_
  rw[List.length_map]
 ·refine⟨rfl,?_,rfl,rfl,?_,trivial⟩
  ·show some (Ob.vs 44 [.dref 900 (s.ths.map zF).length,.ref 7 0 (s.cells.map encF).length,.ref 10 0 (s.owner.map encInt).length,i64 s.fault])=_
   simp
  ·show some (Ob.rs 109 6 (((s.ths.map zF).map (List.map .d)).map (renL (swp (.n 15) (.n 900)))))=_
   rw[List.map_map (f:=zF),show(List.map AV.d ∘ zF)=fun t=>(zF t).map AV.d from rfl,oH]
   simp[gB,thRows,ownRows]
 ·refine⟨fun j=>?_,trivial⟩
  simp[zS]
  rfl
 rintro k τ H hk
 conv=>whnf
 refine kbi (fun h=>?_) (fun h=>?_)
 ·have hlt:k<s.ths.length:=by simpa using h
  have ht:=s2 _ (List.getElem_mem hlt)
  conv=>whnf
  refine .inr (.inl ⟨11,[],?_⟩)
  conv=>whnf
  refine⟨⟨by omega,by omega,by decide,by omega⟩,?_⟩
  conv=>whnf
  refine⟨⟨by omega,by omega⟩,?_⟩
  conv=>whnf
  refine⟨(zF s.ths[k]).map .d,⟨?_,by simp[zF]⟩,?_⟩
  ·repeat (first|exact rowsK_get hlt|refine yZ ?_ (scrL_d _ _))
  conv=>whnf
  refine⟨⟨by simp[encF],by simp;omega,by simp;omega⟩,?_⟩
  conv=>whnf
  refine⟨by kernel_rfl,?_⟩
  conv=>whnf
  refine⟨⟨by omega,by omega⟩,?_⟩
  conv=>whnf
  refine⟨k+1,_,jR 26 900 k,by omega,by show s.ths.length - (k+1)<s.ths.length - k;omega,⟨rfl,rfl,rfl,next_i64 hlt (by omega),trivial⟩,⟨rfl,rfl,rfl,rfl,?_,trivial⟩,⟨fun j=>?_,trivial⟩⟩
  ·conv=>lhs;whnf
   refine congrArg some ?_
   refine congrArg (Ob.rs 109 6) (r8 hlt ?_ ?_)
   ·exact rowsK_scr _ _ fun j=>rfl
   ·conv=>lhs;whnf
    show AV.ref (.n 26) 0 (0+(s.ths[k].stack.map encF).length)=_
    rw[List.length_map,Nat.zero_add]
  ·have hl:(s.ths.take k).length=k:=by simp;omega
   by_cases hj:j=k
   ·subst hj
    have e:swp (.n 26) (.s 900 j) (.s 900 j)=.n 26:=by simp[swp,Key.beq]
    show(St.H _ (swp (.n 26) (.s 900 j) (.s 900 j))).map _=_
    rw[e]
    show some (Ob.ds 100 ti100.sz (List.take 0 []++List.map encF s.ths[j].stack))=_
    rw[zS,dF s.ths j hlt,List.getElem?_append_right (by omega),hl]
    simp[stk]
   ·have e:swp (.n 26) (.s 900 k) (.s 900 j)=.s 900 j:=by simp[swp,Key.beq,nbeq_ne hj]
    show(St.H _ (swp (.n 26) (.s 900 k) (.s 900 j))).map _=_
    rw[e]
    refine Eq.trans (iT (X:=zS (s.ths.take k) j) ?_ (thFam_ren _ _ _)) (tC hj)
    conv=>lhs;whnf
    repeat (refine hscrO ?_ (yH _ _ _);conv=>lhs;whnf)
    rfl
 ·have hge:s.ths.length≤k:=by simpa using h
  have hkk:k=s.ths.length:=by omega
  subst hkk
  conv=>whnf
  refine .inr (.inr ⟨kI s,_,(wL 7 901).trans (wL 10 902),?_,?_,nY ⟨⟨?_,fun j q hq=>?_⟩,rfl,rfl,trivial,trivial⟩,rfl⟩)
  ·show some [AV.agg [.dref 900 s.ths.length,.ref 901 0 s.cells.length,.ref 902 0 s.owner.length,i64 s.fault]]=_
   simp[ownR,ownR1,kI,kD]
   exact⟨rfl,rfl,rfl⟩
  ·intro v hv
   simp only[kI,List.mem_cons,List.not_mem_nil,or_false] at hv
   rcases hv with rfl|rfl|rfl|rfl
   ·show(s.ths.map bT).length=(s.ths.map stk).length
    simp
   ·trivial
   ·trivial
   ·trivial
  ·show some (Ob.rs 109 6 (((gB s.ths s.ths.length).map (renL (swp (.n 7) (.n 901)))).map (renL (swp (.n 10) (.n 902)))))=some (Ob.rs 109 6 (thRows 900 s.ths))
   have e:gB s.ths s.ths.length=thRows 900 s.ths:=by simp[gB]
   rw[e,kF,kF]
  ·show((zS (s.ths.take s.ths.length) j).map (renO _)).map (renO _)=_
   rw[thFam_ren,thFam_ren,List.take_length,zS]
   rw[List.getElem?_map] at hq
   obtain⟨t,ht,rfl⟩:=Option.map_eq_some_iff.1 hq
   rw[ht];rfl
end Ai
namespace Ai
set_option maxRecDepth 100000
open Go Go.Proofs
structure Inert (x:AV):Prop where
 scr:∀ p,scrP p x=x
 ren:∀ f,ren f x=x
 cut:∀ κ q,cut κ q x=x
def yE (t:Th):List AV:=[i64 t.rt,i64 t.pc,i64 t.st,i64 t.cond,i64 t.lock,.ref (.n 899) 0 t.stack.length]
def rowsA (l:List Th) (k:Nat) (t:Th):List (List AV):=(thRows 900 l).set k (yE t)
theorem rowsA_len (l:List Th) (k:Nat) (t:Th):(rowsA l k t).length=l.length:=by simp[rowsA,zR]
theorem zN {l:List Th} {k:Nat} {t:Th} (h:k<l.length):(rowsA l k t)[((k:Nat):Int).toNat]?=some (yE t):=by
 show(rowsA l k t)[k]?=_
 unfold rowsA
 rw[List.getElem?_set_self (by rw[zR];exact h)]
theorem rowsA_ne {l:List Th} {k j:Nat} {t:Th} (h:j≠k):(rowsA l k t)[j]?=(thRows 900 l)[j]?:=by
 unfold rowsA
 rw[List.getElem?_set_ne (Ne.symm h)]
theorem zX {p:Key→Bool} (h:p (.n 899)=false) (t:Th):scrPL p (yE t)=yE t:=by simp[yE,scrPL,scrP,h]
theorem uF {p:Key→Bool} (h1:p (.n 899)=false) (h2:∀ j,p (.s 900 j)=false) (l:List Th) (k:Nat) (t:Th):(rowsA l k t).map (scrPL p)=rowsA l k t:=by
 unfold rowsA
 rw[List.map_set,yF fun j _=>h2 j,zX h1]
theorem dM {l:List Th} {k off:Nat} {t t':Th} {v:AV} {X:List (List AV)} (hk:k<l.length) (hX:X=rowsA l k t) (h:zW (yE t) off [v]=yE t'):xG X 6 ((k:Nat):Int).toNat off [v]=rowsA l k t':=by
 subst hX
 have hf:xG (rowsA l k t) 6 ((k:Nat):Int).toNat off [v]=(rowsA l k t).modify k fun c=>zW c off [v]:=by
  unfold xG
  rw[show(Nat.beq off 0&&Nat.beq [v].length 6)=false from Bool.and_false _]
  rfl
 rw[hf]
 unfold rowsA
 apply List.ext_getElem?
 intro j
 rw[List.getElem?_modify]
 by_cases hj:k=j
 ·subst hj
  rw[List.getElem?_set_self (by rw[zR];exact hk),List.getElem?_set_self (by rw[zR];exact hk)];simp[h]
 ·rw[List.getElem?_set_ne hj,List.getElem?_set_ne hj];simp[hj]
theorem xL {E:TypeId} {x0 x1 x2:AV} (i0:Inert x0) (i1:Inert x1) (i2:Inert x2) (s:StL) {p:Key→Bool} (h:(p (.n 900) || p (.n 901) || p (.n 902))=false):scrPO p (.vs E ([x0,x1,x2]++stRef s))=.vs E ([x0,x1,x2]++stRef s):=by
 simp only[Bool.or_eq_false_iff] at h
 simp[scrPO,scrPL,scrP,stRef,i0.scr,i1.scr,i2.scr,h.1.1,h.1.2,h.2]
theorem xM {E:TypeId} (s:StL) {p:Key→Bool} (h:(p (.n 900) || p (.n 901) || p (.n 902))=false):scrPO p (.vs E ([]++stRef s))=.vs E ([]++stRef s):=by
 simp only[Bool.or_eq_false_iff] at h
 simp[scrPO,scrPL,scrP,stRef,h.1.1,h.1.2,h.2]
def doI1 (OFF:Nat) (k:Nat) (o:OpL) (t:Th):List (Nat × AV):=[(0,.ptr (.l 0) OFF),(1,i64 k),(6,.ptr (.n 6) 0),(7,.ptr (.n 7) 0),(8,.ptr (.n 8) 0),(9,.dptr (.n 900) k 0),(13,sl ((t.stack.drop (zQ t o)).map encF))]
def doIO (E:TypeId) (pre:List AV) (s:StL) (k:Nat) (o:OpL) (e:Ev) (t t':Th):List (Key × Ob):=[(.l 0,.vs E (pre++stRef s)),(.n 6,.vs 102 ((encOp o).map .d)),(.n 7,.vs 107 ((encEv e).map .d)),
 (.n 8,.vs 107 [i64 0,i64 0,i64 0,i64 0,i64 0]),(.n 899,.ds 100 1 (stk t)),(.n 900,.rs 109 6 (rowsA s.ths k t')),(.n 901,.ds 100 1 (s.cells.map encF)),(.n 902,.ds 3 1 (s.owner.map encInt))]
theorem doI_preB (E:TypeId) (x0 x1 x2:AV) (i0:Inert x0) (i1:Inert x1) (i2:Inert x2) (g:Nat→Option Ob) (hg:∀ p j,(g j).map (scrPO p)=g j) (s:StL) (k:Nat) (o:OpL) (e:Ev) (hk:k<s.ths.length) (t:Th) (htk:(zA o.code).1≤t.stack.length) (ht8:t.stack.length≤1048576) (hpc:InR t.pc 0 1048576)
  (τ:Nat→AV) (H:Key→Option Ob) (Q:AX→St→Prop) (K:St→Prop) (hK:∀ s',At (doI1 3 k o t) (doIO E [x0,x1,x2] s k o e t (zC t o)) [(900,g)] s'→K s') :
  mK EE Tryz.f176.ntmps K Q 7 (Tryz.f176.body.getD .skip) (mI [(0,.ptr (.l 0) 3),(1,i64 k),(2,agg (encOp o)),(3,agg (encEv e))] (lZ [(.l 0,.vs E ([x0,x1,x2]++stRef s)),(.n 899,.ds 100 1 (stk t)),(.n 900,.rs 109 6 (rowsA s.ths k t)),(.n 901,.ds 100 1 (s.cells.map encF)),(.n 902,.ds 3 1 (s.owner.map encInt))] (gA [(900,g)] ⟨τ,H⟩))):=by
 have ht:0≤(zA o.code).1∧(zA o.code).1≤2∧0≤(zA o.code).2∧(zA o.code).2≤1:=by
  unfold zA;split
  ·decide
  ·split
   ·decide
   ·split <;> decide
 have e1:(IntKind.i64.wrap ((t.stack.length:Int) - (zA o.code).1))=(t.stack.length:Int) - (zA o.code).1:=zE (by omega) (by omega)
 have e2:((t.stack.length:Int) - (zA o.code).1).toNat=zQ t o:=by unfold zQ xK;omega
 have allLen:∀ a b:Nat,(((stk t).drop a).take b).all (fun c=>c.length==1)=true:=by
  intro a b
  simp only[List.all_eq_true]
  intro x hx
  have hx:=List.mem_of_mem_drop (List.mem_of_mem_take hx)
  obtain⟨y,_,rfl⟩:=List.mem_map.1 hx
  rfl
 conv=>whnf
 refine⟨⟨by omega,by omega⟩,?_⟩
 conv=>whnf
 refine⟨_,nR o,?_⟩
 rintro r rfl
 conv=>whnf
 refine⟨yE t,⟨?_,by simp[yE]⟩,?_⟩
 ·repeat (first|exact zN hk|refine yZ ?_ (zX rfl t))
 conv=>whnf
 refine⟨yE t,⟨?_,by simp[yE]⟩,?_⟩
 ·repeat (first|exact zN hk|refine yZ ?_ (zX rfl t))
 conv=>whnf
 rw[e1]
 have e3:((stk t).drop (0+((t.stack.length:Int) - (zA o.code).1).toNat)).take ((t.stack.length:Int).toNat - ((t.stack.length:Int) - (zA o.code).1).toNat)=(t.stack.drop (zQ t o)).map encF:=by
  rw[e2,Nat.zero_add,List.take_of_length_le (by simp[stk]),stk,List.map_drop]
 have hlen:(t.stack.drop (zQ t o)).length≤1048576:=by simp;omega
 rcases Int.lt_or_eq_of_le ht.1 with h0|h0
 refine .inl ⟨⟨by omega,by omega,by omega,.inr (by omega)⟩,?_⟩
 conv=>whnf
 refine .inl ⟨(·=.uq 100 1 ((t.stack.drop (zQ t o)).map encF)),Eq.mp (congrArg (fun x=>CallsTo EE 173 [sl x] _) e3.symm) (gV (t.stack.drop (zQ t o)) hlen),?_⟩
 rintro r rfl
 refine⟨fun c hc=>?_,.inl ?_⟩
 ·obtain⟨y,_,rfl⟩:=List.mem_map.1 hc
  rfl
 conv=>whnf
 rotate_left 1
 refine .inr ⟨⟨by omega,by omega,by omega⟩,?_⟩
 conv=>whnf
 refine⟨(·=.uq 100 1 ((t.stack.drop (zQ t o)).map encF)),Eq.mp (congrArg (fun x=>CallsTo EE 173 [sl x] _) (by simp[zQ,xK,← h0])) (gV (t.stack.drop (zQ t o)) hlen),?_⟩
 rintro r rfl
 refine .inl ?_
 conv=>whnf
 all_goals
  refine⟨yE t,⟨by repeat (first|exact zN hk|refine yZ ?_ (zX rfl t)),by simp[yE]⟩,?_⟩
  conv=>whnf
  refine .inl ⟨⟨by omega,by omega,by omega,.inl rfl⟩,?_⟩
  conv=>whnf
  have e5:((t.stack.length:Int) - (zA o.code).1).toNat - (0:Int).toNat=zQ t o:=by rw[e2];rfl
  refine⟨[i64 t.rt,i64 t.pc,i64 t.st,i64 t.cond,i64 t.lock,.ref (.n 899) 0 (zQ t o)],⟨?_,by simp⟩,?_⟩
  ·refine vI (c:=yE t) (by repeat (first|exact zN hk|refine yZ ?_ (zX rfl t))) ?_
   conv=>lhs;whnf
   rw[← e5]
   rfl
  conv=>whnf
  refine hK _ ⟨?_,?_,?_⟩
  ·exact⟨rfl,rfl,rfl,rfl,rfl,rfl,rfl,trivial⟩
  ·refine⟨?_,rfl,rfl,rfl,rfl,?_,rfl,rfl,trivial⟩
   ·conv=>lhs;whnf
    refine congrArg some ?_
    repeat (refine yK ?_ (xL i0 i1 i2 s rfl))
    rfl
   ·conv=>lhs;whnf
    refine congrArg (fun x=>some (Ob.rs 109 6 x)) ?_
    have hkl:(t.stack.take (zQ t o)).length=zQ t o:=by simp[zQ]
    refine dM hk (dM hk (t:=t) (t':={ t with stack:=t.stack.take (zQ t o) }) (by repeat (first|rfl|refine Eq.trans (congrArg (List.map (scrPL _)) ?_) (uF rfl (fun _=>rfl) _ _ _))) ?_) ?_
    ·show[_,_,_,_,_,AV.ref (.n 899) 0 (((t.stack.length:Int) - (zA o.code).1).toNat - (0:Int).toNat)]=[_,_,_,_,_,AV.ref (.n 899) 0 (t.stack.take (zQ t o)).length]
     rw[e5,hkl]
    ·show[_,AV.d (.int .i64 (IntKind.i64.wrap (t.pc+1))),_,_,_,AV.ref (.n 899) 0 (t.stack.take (zQ t o)).length]=[_,i64 (t.pc+1),_,_,_,AV.ref (.n 899) 0 (t.stack.take (zQ t o)).length]
     rw[zE (by have:=hpc.1;omega) (by have:=hpc.2;omega)]
     rfl
  ·refine⟨fun j=>?_,trivial⟩
   repeat (first|exact rfl|refine hscrO ?_ (hg _ _)|conv=>lhs;whnf)
end Ai
namespace Ai
set_option maxRecDepth 100000
open Go Go.Proofs Ieee
theorem gtr_max {c:Nat}:fcmp .gtr c 9218868437227405311=(match double.read c with|.infinity false=>true|_=>false):=by
 unfold fcmp Format.order
 rw[show double.read 9218868437227405311=.number false 9007199254740991 971 by decide]
 have bound:∀ s m e,double.read c=.number s m e→m<9007199254740992∧-1074≤e∧e≤971:=by
  intro s m e h
  unfold Format.read at h
  rw[show double.signWeight=9223372036854775808 by decide,show double.binade=4503599627370496 by decide,show double.infRung=9218868437227405312 by decide,show double.leastPlace=-1074 by decide] at h
  simp only at h
  split at h
  ·simp only[Datum.number.injEq] at h
   obtain⟨_,h1,h2⟩:=h
   omega
  ·split at h
   ·simp only[Datum.number.injEq] at h
    obtain⟨_,h1,h2⟩:=h
    omega
   ·split at h <;> cases h
 cases h:double.read c with
 |nan s f=>rfl
 |infinity s=>cases s <;> rfl
 |number s m e =>
  obtain⟨b1,b2,b3⟩:=bound s m e h
  simp only[Datum.order]
  have hm:Min.min e 971=e:=by omega
  rw[hm]
  have h2:9007199254740991≤9007199254740991 <<< (971 - e).toNat:=by
   rw[Nat.shiftLeft_eq];exact Nat.le_mul_of_pos_right _ (Nat.pow_pos (by decide))
  have h3:signed s m (e - e).toNat≤9007199254740991:=by
   rw[Int.sub_self]
   show signed s m 0≤_
   unfold signed
   rw[Nat.shiftLeft_zero]
   split <;> omega
  have h4:signed false 9007199254740991 (971 - e).toNat=((9007199254740991 <<< (971 - e).toNat:Nat):Int):=rfl
  have hle:signed s m (e - e).toNat≤signed false 9007199254740991 (971 - e).toNat:=by
   rw[h4];omega
  generalize signed s m (e - e).toNat=u at hle
  generalize signed false 9007199254740991 (971 - e).toNat=v at hle
  show(some (compare u v)==some .gt)=false
  have:compare u v≠.gt:=by
   rw[Int.compare_eq_ite_lt]
   split
   ·decide
   ·split
    ·omega
    ·decide
  cases hc:compare u v with
  |gt=>exact absurd hc this
  |lt=>rfl
  |eq=>rfl
theorem mH {c:Nat} {s:Bool} {m:Nat} {e:Int} (hc:c<18446744073709551616) (h:double.read c=.number s m e) :
  (c % 9223372036854775808=m∧m<4503599627370496∧e=-1074∧(s=true↔9223372036854775808≤c)) ∨
  (4503599627370496≤m∧m<9007199254740992∧-1074≤e∧c % 9223372036854775808=(e+1075).toNat*4503599627370496+(m - 4503599627370496)∧(s=true↔9223372036854775808≤c)):=by
 unfold Format.read at h
 rw[show double.signWeight=9223372036854775808 by decide,show double.binade=4503599627370496 by decide,show double.infRung=9218868437227405312 by decide,show double.leastPlace=-1074 by decide] at h
 simp only at h
 have hs:(c / 9223372036854775808 % 2==1)=true↔9223372036854775808≤c:=by
  simp only[beq_iff_eq];omega
 split at h
 ·simp only[Datum.number.injEq] at h
  obtain⟨h0,h1,h2⟩:=h
  subst h0
  exact .inl ⟨h1,by omega,by omega,hs⟩
 ·split at h
  ·simp only[Datum.number.injEq] at h
   obtain⟨h0,h1,h2⟩:=h
   subst h0
   exact .inr ⟨by omega,by omega,by omega,by omega,hs⟩
  ·split at h <;> cases h
theorem num_eq {c d:Nat} {s t:Bool} {m n:Nat} {e i:Int} (hc:c<18446744073709551616) (hd:d<18446744073709551616) (h1:double.read c=.number s m e) (h2:double.read d=.number t n i)
  (h:double.order c d=some .eq) (h0:¬ (m=0∧n=0)):c=d:=by
 unfold Format.order at h
 rw[h1,h2] at h
 simp only[Datum.order,Option.some.injEq] at h
 have h:=Std.LawfulEqCmp.eq_of_compare h
 simp only[signed,Nat.shiftLeft_eq] at h
 have p1:0<2 ^ (e - Min.min e i).toNat:=Nat.pow_pos (by decide)
 have p2:0<2 ^ (i - Min.min e i).toNat:=Nat.pow_pos (by decide)
 have key:m*2 ^ (e - Min.min e i).toNat=n*2 ^ (i - Min.min e i).toNat∧s=t:=by
  have q1:m=0∨0<m*2 ^ (e - Min.min e i).toNat:=by
   rcases Nat.eq_zero_or_pos m with a|a
   ·exact .inl a
   ·exact .inr (Nat.mul_pos a p1)
  have q2:n=0∨0<n*2 ^ (i - Min.min e i).toNat:=by
   rcases Nat.eq_zero_or_pos n with a|a
   ·exact .inl a
   ·exact .inr (Nat.mul_pos a p2)
  have z1:m=0→m*2 ^ (e - Min.min e i).toNat=0:=fun a=>by rw[a,Nat.zero_mul]
  have z2:n=0→n*2 ^ (i - Min.min e i).toNat=0:=fun a=>by rw[a,Nat.zero_mul]
  generalize m*2 ^ (e - Min.min e i).toNat=u at *
  generalize n*2 ^ (i - Min.min e i).toNat=v at *
  cases s <;> cases t <;> simp at h ⊢ <;> omega
 obtain⟨k1,rfl⟩:=key
 have hei:∀ (a b:Nat) (j:Nat),4503599627370496≤b→a<9007199254740992→a=b*2 ^ (j+1)→False:=by
  intro a b j hb ha he
  rw[Nat.pow_succ] at he
  have:0<2 ^ j:=Nat.pow_pos (by decide)
  have:b*1≤b*2 ^ j:=Nat.mul_le_mul_left _ this
  have:a=b*2 ^ j*2:=by rw[he,Nat.mul_assoc]
  omega
 have r1:=mH hc h1
 have r2:=mH hd h2
 have ee:e=i:=by
  rcases Int.lt_trichotomy e i with hlt|heq|hgt
  ·exfalso
   rcases r2 with r2|r2
   ·rcases r1 with r1|r1 <;> omega
   obtain⟨j,hj⟩:∃ j:Nat,(i - Min.min e i).toNat=j+1:=⟨(i - Min.min e i).toNat - 1,by omega⟩
   have hz:(e - Min.min e i).toNat=0:=by omega
   rw[hz,hj,Nat.pow_zero,Nat.mul_one] at k1
   exact hei m n j r2.1 (by rcases r1 with r1|r1 <;> omega) k1
  ·exact heq
  ·exfalso
   rcases r1 with r1|r1
   ·rcases r2 with r2|r2 <;> omega
   obtain⟨j,hj⟩:∃ j:Nat,(e - Min.min e i).toNat=j+1:=⟨(e - Min.min e i).toNat - 1,by omega⟩
   have hz:(i - Min.min e i).toNat=0:=by omega
   rw[hz,hj,Nat.pow_zero,Nat.mul_one] at k1
   exact hei n m j r1.1 (by rcases r2 with r2|r2 <;> omega) k1.symm
 subst ee
 have:m=n:=by
  have hz:(e - Min.min e e).toNat=0:=by omega
  rw[hz,Nat.pow_zero,Nat.mul_one,Nat.mul_one] at k1
  exact k1
 subst this
 have hsg:(9223372036854775808≤c↔9223372036854775808≤d):=by
  have a1:s=true↔9223372036854775808≤c:=r1.elim (fun r=>r.2.2.2) fun r=>r.2.2.2.2
  have a2:s=true↔9223372036854775808≤d:=r2.elim (fun r=>r.2.2.2) fun r=>r.2.2.2.2
  rw[← a1,← a2]
 have hmd:c % 9223372036854775808=d % 9223372036854775808:=by
  rcases r1 with r1|r1 <;> rcases r2 with r2|r2 <;> omega
 by_cases hh:9223372036854775808≤c
 ·have:=hsg.1 hh
  omega
 ·have:¬ 9223372036854775808≤d:=fun e=>hh (hsg.2 e)
  omega
theorem r9 {c:Nat} {s:Bool} (hc:c<18446744073709551616) (h:double.read c=.infinity s):c=if s=true then 18442240474082181120 else 9218868437227405312:=by
 unfold Format.read at h
 rw[show double.signWeight=9223372036854775808 by decide,show double.binade=4503599627370496 by decide,show double.infRung=9218868437227405312 by decide,show double.leastPlace=-1074 by decide] at h
 simp only at h
 split at h
 ·cases h
 ·split at h
  ·cases h
  ·split at h
   ·simp only[Datum.infinity.injEq] at h
    subst h
    by_cases hh:9223372036854775808≤c
    ·have h1:c / 9223372036854775808=1:=by omega
     rw[h1]
     simp
     omega
    ·have h1:c / 9223372036854775808=0:=by omega
     rw[h1]
     simp
     omega
   ·cases h
theorem eql_refl {x:Nat} (h:zM x=false):fcmp .eql x x=true:=by
 have:=lI x
 rw[h] at this
 simpa[fcmp] using this
theorem r7 {x y:Nat} (hx:x<18446744073709551616) (hy:y<18446744073709551616) (nx:zM x=false) (ny:zM y=false):(fcmp .eql x y=true∧(kC x↔kC y))↔x=y:=by
 refine⟨fun ⟨h1,h2⟩=>?_,fun e=>by subst e;exact⟨eql_refl nx,Iff.rfl⟩⟩
 have h3:double.order x y=some .eq:=by simpa[fcmp] using h1
 have m1:kC 9223372036854775808:=.inr ⟨by decide,by decide⟩
 have m0:¬ kC 0:=by unfold kC;decide
 cases rx:double.read x with
 |nan s f=>unfold zM at nx;rw[rx] at nx;cases nx
 |infinity s =>
  cases ry:double.read y with
  |nan s f=>unfold zM at ny;rw[ry] at ny;cases ny
  |number t n i=>unfold Format.order at h3;rw[rx,ry] at h3;cases s <;> cases h3
  |infinity t =>
   unfold Format.order at h3
   rw[rx,ry] at h3
   have e1:=r9 hx rx
   have e2:=r9 hy ry
   cases s <;> cases t <;> first|exact e1.trans e2.symm|cases h3
 |number s m e =>
  cases ry:double.read y with
  |nan s f=>unfold zM at ny;rw[ry] at ny;cases ny
  |infinity t=>unfold Format.order at h3;rw[rx,ry] at h3;cases t <;> cases h3
  |number t n i =>
   by_cases h0:m=0∧n=0
   ·obtain⟨rfl,rfl⟩:=h0
    have r1:=mH hx rx
    have r2:=mH hy ry
    have c1:x=0∨x=9223372036854775808:=by rcases r1 with r1|r1 <;> omega
    have c2:y=0∨y=9223372036854775808:=by rcases r2 with r2|r2 <;> omega
    rcases c1 with rfl|rfl <;> rcases c2 with rfl|rfl
    ·rfl
    ·exact absurd (h2.2 m1) m0
    ·exact absurd (h2.1 m1) m0
    ·rfl
   ·exact num_eq hx hy rx ry h3 h0
end Ai
namespace Ai
set_option maxRecDepth 100000
open Go Go.Proofs Ieee
theorem pU (x:Nat):CallsTo EE 235 [.d (.flt x)] (·=bp (zM x=true)):=by
 refine callsTo_of_AW (fn:=Tryz.f235) Tryz.func235 rfl (by kernel_rfl) rfl ?_
 conv=>whnf
 refine kbi (fun h=>?_) (fun h=>?_)
 ·conv=>whnf
  exact bpt (by rw[← lI];exact h)
 ·conv=>whnf
  exact bpf (by rw[← lI];exact h)
theorem bitsI_run (b:Nat) (w:World):(callFunc 243 #[.float .f64 b]).run Tryz.prog w=.ok (.value (.int .u64 b)) w:=by
 kernel_rfl
theorem lP {b:Nat} (h:zM (canon b)=false):canon b=b:=by
 unfold canon at *
 cases hn:zM b with
 |true=>rw[hn] at h;exact absurd (show zM nanC=false from h) (by decide)
 |false=>rfl
theorem vG (x:Nat):CallsTo EE 243 [.d (.flt x)] (fun r=>∃ b:Nat,r=.d (.int .u64 b)∧canon b=x):=by
 intro w A vs hI hA
 obtain⟨hl,hr⟩:=hA
 have h1:vs.size=1:=hl.symm
 obtain⟨v,hv⟩:∃ v,vs=#[v]:=⟨vs[0],by apply Array.ext (by simp[h1]);intro i h2 h3;simp at h3;subst h3;rfl⟩
 subst hv
 have:=hr 0 _ v rfl rfl
 cases this with
 |d _ _ hd=>cases hd with
  |flt b =>
   unfold Invokes
   rw[show Sem.run EE.P (callFunc 243 #[Value.float .f64 b]) w=_ from bitsI_run b w]
   exact⟨_,⟨b,rfl,rfl⟩,RowKit.Below.refl _ _,.d _ _ (.int _ _)⟩
theorem j5 (n:Int) (w:World):(callFunc 260 #[.int .u64 n]).run Tryz.prog w=.ok (.value (.float .f64 n.toNat)) w:=by
 kernel_rfl
theorem frombits_ok (n:Int):CallsTo EE 260 [.d (.int .u64 n)] (·=.d (.flt (canon n.toNat))):=by
 intro w A vs hI hA
 obtain⟨hl,hr⟩:=hA
 have h1:vs.size=1:=hl.symm
 obtain⟨v,hv⟩:∃ v,vs=#[v]:=⟨vs[0],by apply Array.ext (by simp[h1]);intro i h2 h3;simp at h3;subst h3;rfl⟩
 subst hv
 have:=hr 0 _ v rfl rfl
 cases this with
 |d _ _ hd=>cases hd with
  |int =>
   unfold Invokes
   rw[show Sem.run EE.P (callFunc 260 #[Value.int .u64 n]) w=_ from j5 n w]
   exact⟨_,rfl,RowKit.Below.refl _ _,.d _ _ (.flt _)⟩
theorem trunc_next:Extern.findNext Tryz.f252=none:=by kernel_rfl
theorem trunc_find : Extern.find Tryz.f252 = some (Extern.MathFloor.toIntegral "math.archTrunc" .zero) := by kernel_rfl
theorem trunc_ng : (Tryz.f252.name == "runtime.NumGoroutine") = false := by kernel_rfl
theorem trunc_nb:Tryz.f252.body.isNone=true:=by kernel_rfl
theorem trunc_run (b : Nat) (w : World) : (callFunc 252 #[.float .f64 b]).run Tryz.prog w = (((Extern.MathFloor.toIntegral "math.archTrunc" .zero #[.float .f64 b]).run Tryz.prog w).andThen fun v w => .ok (.value v) w) := by
 unfold callFunc
 simp only[Sem.run_bind,run_program,Result.andThen_ok,Tryz.func252,trunc_ng,trunc_nb,trunc_next,trunc_find,Bool.false_eq_true,if_false,if_true,run_mark,Sem.run_pure]
def lD (x:Nat):Nat:=canon (double.write ((double.read x).integral .zero))
theorem f9 (x:Nat) (hx:zM x=false):CallsTo EE 252 [.d (.flt x)] (·=.d (.flt (lD x))):=by
 intro w A vs hI hA
 obtain⟨hl,hr⟩:=hA
 have h1:vs.size=1:=hl.symm
 obtain⟨v,hv⟩:∃ v,vs=#[v]:=⟨vs[0],by apply Array.ext (by simp[h1]);intro i h2 h3;simp at h3;subst h3;rfl⟩
 subst hv
 have:=hr 0 _ v rfl rfl
 cases this with
 |d _ _ hd =>
  cases hd with
  |flt b =>
   have hb:canon b=b:=lP hx
   unfold Invokes
   have hrun:Sem.run EE.P (callFunc 252 #[Value.float .f64 b]) w=.ok (.value (.float .f64 (double.write ((double.read b).integral .zero)))) w:=by
    rw[show Sem.run EE.P (callFunc 252 #[Value.float .f64 b]) w=_ from trunc_run b w]
    have hdec:FloatKind.f64.decode b=double.read b:=rfl
    have hn:zM b=false:=by rw[hb] at hx;exact hx
    unfold zM at hn
    have ht : Extern.MathFloor.toIntegral "math.archTrunc" .zero #[Value.float .f64 b] = pure (.float .f64 (double.write ((double.read b).integral .zero))) := by
     show(match FloatKind.f64.decode b with
      | .nan s t=>_
      |d=>_)=_
     rw[hdec]
     cases hd:double.read b with
     |nan s f=>rw[hd] at hn;cases hn
     |infinity s=>rfl
     |number s m i=>rfl
    rw[ht]
    rfl
   rw[hrun]
   refine⟨_,rfl,RowKit.Below.refl _ _,?_⟩
   rw[hb]
   exact .d _ _ (.flt _)
theorem Trunc_ok (x:Nat) (hx:zM x=false):CallsTo EE 237 [.d (.flt x)] (·=.d (.flt (lD x))):=by
 refine callsTo_of_AW (fn:=Tryz.f237) Tryz.func237 rfl (by kernel_rfl) rfl ?_
 conv=>whnf
 refine⟨_,f9 x hx,?_⟩
 rintro r rfl
 conv=>whnf
def sH (b:Nat):Nat:=(IntKind.u64.wrap (BitVec.ofInt 64 b &&& ~~~BitVec.ofInt 64 9223372036854775808).toNat).toNat
theorem Abs_ok (x:Nat):CallsTo EE 251 [.d (.flt x)] (fun r=>∃ b,canon b=x∧r=.d (.flt (canon (sH b)))):=by
 refine callsTo_of_AW (fn:=Tryz.f251) Tryz.func251 rfl (by kernel_rfl) rfl ?_
 conv=>whnf
 refine⟨_,vG x,?_⟩
 rintro r ⟨b,rfl,hb⟩
 conv=>whnf
 refine⟨_,frombits_ok _,?_⟩
 rintro r rfl
 conv=>whnf
 exact⟨b,hb,rfl⟩
theorem IsInf_ok (x:Nat):CallsTo EE 236 [.d (.flt x),i64 0] (fun r=>∃ b,canon b=x∧r=bv (fcmp .gtr (canon (sH b)) 9218868437227405311)):=by
 refine callsTo_of_AW (fn:=Tryz.f236) Tryz.func236 rfl (by kernel_rfl) rfl ?_
 conv=>whnf
 refine kbi (fun _=>?_) (fun h=>absurd rfl h)
 conv=>whnf
 refine⟨_,Abs_ok x,?_⟩
 rintro r ⟨b,hb,rfl⟩
 conv=>whnf
 refine kbi (fun h=>?_) (fun h=>?_)
 ·conv=>whnf
  exact⟨b,hb,congrArg bv (show true=_ from (show fcmp .gtr (canon (sH b)) 9218868437227405311=true from h).symm)⟩
 ·conv=>whnf
  exact⟨b,hb,congrArg bv (show false=_ from (Bool.not_eq_true _▸(show ¬ fcmp .gtr (canon (sH b)) 9218868437227405311=true from h):fcmp .gtr (canon (sH b)) 9218868437227405311=false).symm)⟩
def wG (x:Nat):Int:=if zM x=true then 0 else (match double.read x with|.infinity _=>1|_=>if fcmp .eql x 0=true then 2 else if fcmp .eql x (lD x)=true then 3 else 4)
theorem absB_mod (b:Nat):sH b=b % 9223372036854775808:=by
 unfold sH
 have h1:(BitVec.ofInt 64 (b:Int) &&& ~~~BitVec.ofInt 64 9223372036854775808).toNat=b % 9223372036854775808:=by
  rw[BitVec.toNat_and,show(~~~BitVec.ofInt 64 9223372036854775808).toNat=2 ^ 63 - 1 by decide,Nat.and_two_pow_sub_one_eq_mod,BitVec.toNat_ofInt]
  omega
 rw[h1]
 have:IntKind.u64.wrap (((b % 9223372036854775808:Nat)):Int)=((b % 9223372036854775808:Nat):Int):=by
  unfold IntKind.wrap
  simp[IntKind.bits,IntKind.signed]
  omega
 rw[this]
 rfl
theorem oR {b:Nat}:double.read (sH b)=(match double.read b with|.number _ m i=>.number false m i|.infinity _=>.infinity false|.nan _ f=>.nan false f):=by
 rw[absB_mod]
 unfold Format.read
 rw[show double.signWeight=9223372036854775808 by decide]
 have h1:b % 9223372036854775808 / 9223372036854775808 % 2=0:=by omega
 simp only[h1,Nat.mod_mod]
 split
 ·rfl
 ·split
  ·rfl
  ·split <;> rfl
theorem oT (x:Nat):CallsTo EE 195 [.d (.flt x)] (·=i64 (wG x)):=by
 refine callsTo_of_AW (fn:=Tryz.f195) Tryz.func195 rfl (by kernel_rfl) rfl ?_
 conv=>whnf
 refine ocase (pU x) (fun h=>?_) (fun h=>?_)
 ·conv=>whnf
  unfold wG
  rw[if_pos h]
 have h':zM x=false:=by simpa using h
 conv=>whnf
 refine⟨_,IsInf_ok x,?_⟩
 rintro r ⟨b,hb,rfl⟩
 have hbb:canon b=b:=lP (by rw[hb];exact h')
 have hxb:b=x:=by rw[← hb,hbb]
 subst hxb
 have hinf:fcmp .gtr (canon (sH b)) 9218868437227405311=(match double.read b with|.infinity _=>true|_=>false):=by
  have hnb:zM (sH b)=false:=by
   have:=h'
   unfold zM at this ⊢
   rw[oR]
   cases hd:double.read b <;> rw[hd] at this <;> first|rfl|cases this
  have hcn:canon (sH b)=sH b:=by unfold canon;rw[hnb];rfl
  rw[hcn,gtr_max,oR]
  cases double.read b <;> rfl
 rw[hinf]
 cases hd:double.read b with
 |nan s f=>unfold zM at h';rw[hd] at h';cases h'
 |infinity s =>
  conv=>whnf
  unfold wG
  rw[if_neg h,hd]
 |number s m i =>
  conv=>whnf
  refine kbi (fun h0=>?_) (fun h0=>?_)
  ·have h0:fcmp .eql b 0=true:=h0
   conv=>whnf
   unfold wG
   rw[if_neg h,hd]
   simp only
   rw[if_pos h0]
  have h0:¬ fcmp .eql b 0=true:=h0
  conv=>whnf
  refine⟨_,Trunc_ok b h',?_⟩
  rintro r rfl
  conv=>whnf
  refine kbi (fun h1=>?_) (fun h1=>?_)
  ·have h1:fcmp .eql b (lD b)=true:=h1
   conv=>whnf
   unfold wG
   rw[if_neg h,hd]
   simp only
   rw[if_neg h0,if_pos h1]
  ·have h1:¬ fcmp .eql b (lD b)=true:=h1
   conv=>whnf
   unfold wG
   rw[if_neg h,hd]
   simp only
   rw[if_neg h0,if_neg h1]
end Ai
namespace Ai
set_option maxRecDepth 100000
open Go Go.Proofs Ieee
theorem inf_eql0 {x:Nat} {s:Bool} (h:double.read x=.infinity s):fcmp .eql x 0=false:=by
 unfold fcmp Format.order
 rw[h,gF]
 cases s <;> rfl
theorem isNo_ok (x:Nat):CallsTo EE 221 [.d (.flt x)] (·=bp (zM x=true∨fcmp .eql x 0=true)):=by
 refine callsTo_of_AW (fn:=Tryz.f221) Tryz.func221 rfl (by kernel_rfl) rfl ?_
 conv=>whnf
 refine⟨_,oT x,?_⟩
 rintro r rfl
 conv=>whnf
 refine kbi (fun h1=>?_) (fun h1=>?_)
 ·have h1:wG x=0:=by simpa using h1
  conv=>whnf
  refine bpt (.inl ?_)
  unfold wG at h1
  split at h1
  ·assumption
  ·split at h1
   ·cases h1
   ·split at h1
    ·cases h1
    ·split at h1 <;> cases h1
 have h1:¬ wG x=0:=by simpa using h1
 have hn:¬ zM x=true:=fun e=>h1 (by unfold wG;rw[if_pos e])
 conv=>whnf
 refine kbi (fun h2=>?_) (fun h2=>?_)
 ·have h2:wG x=2:=by simpa using h2
  conv=>whnf
  refine bpt (.inr ?_)
  unfold wG at h2
  rw[if_neg hn] at h2
  split at h2
  ·cases h2
  ·split at h2
   ·assumption
   ·split at h2 <;> cases h2
 ·have h2:¬ wG x=2:=by simpa using h2
  conv=>whnf
  refine bpf fun e=>e.elim hn fun e=>h2 ?_
  unfold wG
  rw[if_neg hn]
  split
  ·rename_i s hs
   rw[inf_eql0 hs] at e;cases e
  ·rw[if_pos e]
theorem qK (b:Bool):CallsTo EE 141 [bv b] (·=i64 (if b=true then 1 else 0)):=by
 refine callsTo_of_AW (fn:=Tryz.f141) Tryz.func141 rfl (by kernel_rfl) rfl ?_
 cases b
 ·conv=>whnf
  rfl
 ·conv=>whnf
  rfl
theorem SameNumI_ok (x y:Nat) (hx:x<18446744073709551616) (hy:y<18446744073709551616):CallsTo EE 206 [.d (.flt x),.d (.flt y)] (·=bp (dC x y)):=by
 refine callsTo_of_AW (fn:=Tryz.f206) Tryz.func206 rfl (by kernel_rfl) rfl ?_
 have bits:∀ {z b:Nat},zM z=false→canon b=z→b=z:=fun {z b} h e=>by
  have:=lP (b:=b) (by rw[e];exact h)
  rw[← e,this]
 have rest:∀ (hn:¬ (zM x=true∧zM y=true)) (b c:Nat),canon b=x→canon c=y→((b:Int)=(c:Int)↔dC x y):=by
  intro hn b c hb hc
  have key:(b=c)↔dC x y:=by
   by_cases h:zM x=true∨zM y=true
   ·constructor
    ·rintro rfl
     exfalso
     have:x=y:=hb.symm.trans hc
     subst this
     exact hn ⟨h.elim id id,h.elim id id⟩
    ·rintro(e|e)
     ·exact absurd e.2 hn
     ·exact absurd h e.1
   ·have nx:zM x=false:=by simpa using fun e=>h (.inl e)
    have ny:zM y=false:=by simpa using fun e=>h (.inr e)
    rw[bits nx hb,bits ny hc]
    constructor
    ·intro e
     exact .inr ⟨h,(r7 hx hy nx ny).2 e⟩
    ·rintro(e|e)
     ·exact absurd e.1 h
     ·exact(r7 hx hy nx ny).1 e.2
  rw[← key]
  omega
 conv=>whnf
 refine ocase (pU x) (fun h=>?_) (fun h=>?_)
 ·conv=>whnf
  refine ocase (pU y) (fun h2=>?_) (fun h2=>?_)
  ·conv=>whnf
   exact bpt (.inl ⟨.inl h,h,h2⟩)
  ·conv=>whnf
   refine⟨_,vG x,?_⟩
   rintro r ⟨b,rfl,hb⟩
   conv=>whnf
   refine⟨_,vG y,?_⟩
   rintro r ⟨c,rfl,hc⟩
   conv=>whnf
   have:=rest (fun e=>h2 e.2) b c hb hc
   refine kbi (fun h3=>?_) (fun h3=>?_)
   ·conv=>whnf
    exact bpt (this.1 (by simpa using h3))
   ·conv=>whnf
    exact bpf (fun e=>absurd (this.2 e) (by simpa using h3))
 ·conv=>whnf
  refine⟨_,vG x,?_⟩
  rintro r ⟨b,rfl,hb⟩
  conv=>whnf
  refine⟨_,vG y,?_⟩
  rintro r ⟨c,rfl,hc⟩
  conv=>whnf
  have:=rest (fun e=>h e.1) b c hb hc
  refine kbi (fun h3=>?_) (fun h3=>?_)
  ·conv=>whnf
   exact bpt (this.1 (by simpa using h3))
  ·conv=>whnf
   exact bpf (fun e=>absurd (this.2 e) (by simpa using h3))
theorem eM (c:Int) (x y:Nat) (hc:4≤c∧c≤9) (hx:x<18446744073709551616) (hy:y<18446744073709551616):CallsTo EE 223 [i64 c,.d (.flt x),.d (.flt y)] (·=.d (.flt (yN c x y))):=by
 refine callsTo_of_AW (fn:=Tryz.f223) Tryz.func223 rfl (by kernel_rfl) rfl ?_
 conv=>whnf
 refine kbi (fun h1=>?_) (fun h1=>?_)
 ·have:c=4:=by simpa using h1
  conv=>whnf
  subst this;rfl
 have h1:¬ c=4:=by simpa using h1
 conv=>whnf
 refine kbi (fun h2=>?_) (fun h2=>?_)
 ·have:c=5:=by simpa using h2
  conv=>whnf
  subst this;rfl
 have h2:¬ c=5:=by simpa using h2
 conv=>whnf
 refine kbi (fun h3=>?_) (fun h3=>?_)
 ·have:c=6:=by simpa using h3
  conv=>whnf
  subst this;rfl
 have h3:¬ c=6:=by simpa using h3
 conv=>whnf
 refine kbi (fun h4=>?_) (fun h4=>?_)
 ·have:c=7:=by simpa using h4
  conv=>whnf
  subst this;rfl
 have h4:¬ c=7:=by simpa using h4
 conv=>whnf
 refine kbi (fun h5=>?_) (fun h5=>?_)
 ·have:c=8:=by simpa using h5
  conv=>whnf
  refine kbi (fun hl=>?_) (fun hl=>?_)
  ·conv=>whnf
   refine⟨_,qK true,?_⟩
   rintro r rfl
   conv=>whnf
   simp[yN,this,hl];rfl
  ·conv=>whnf
   refine⟨_,qK false,?_⟩
   rintro r rfl
   conv=>whnf
   simp[yN,this,hl];rfl
 have h5:¬ c=8:=by simpa using h5
 conv=>whnf
 refine ocase (SameNumI_ok x y hx hy) (fun h=>?_) (fun h=>?_)
 ·conv=>whnf
  refine⟨_,qK true,?_⟩
  rintro r rfl
  conv=>whnf
  simp[yN,h1,h2,h3,h4,h5,h];rfl
 ·conv=>whnf
  refine⟨_,qK false,?_⟩
  rintro r rfl
  conv=>whnf
  simp[yN,h1,h2,h3,h4,h5,h];rfl
end Ai
namespace Ai
set_option maxRecDepth 100000
open Go Go.Proofs
theorem lV {t:Th} {o:OpL} {i:Nat} (h:∀ x∈t.stack,x<18446744073709551616):yL t o i<18446744073709551616:=by
 unfold yL
 rw[List.getD_eq_getElem?_getD]
 cases hg:(t.stack.drop (zQ t o))[i]? with
 |none=>decide
 |some x=>exact h x (List.mem_of_mem_drop (List.mem_of_getElem? hg))
theorem n4 {x0 x1 x2:AV} (i0:Inert x0) (i1:Inert x1) (i2:Inert x2) (s:StL) {p:Key→Bool} (h:(p (.n 900) || p (.n 901) || p (.n 902))=false):scrPL p ([x0,x1,x2]++stRef s)=[x0,x1,x2]++stRef s:=by
 have:=xL (E:=0) i0 i1 i2 s h
 simpa[scrPO] using this
theorem hscrL {L X:List AV} {p:Key→Bool} (h:L=X) (hp:scrPL p X=X):scrPL p L=X:=by rw[h];exact hp
theorem spawn_vs3 {x0 x1 x2:AV} (i0:Inert x0) (i1:Inert x1) (i2:Inert x2) {s s':StL} {L:List AV} {v:AV} (hv:v=.dref (.n 900) s'.ths.length) (hL:L=[x0,x1,x2]++stRef s) (hc:s'.cells.length=s.cells.length) (ho:s'.owner.length=s.owner.length) (hf:s'.fault=s.fault) :
  zW (scrPL (isK (.n 900)) L) (3+0) [v]=[x0,x1,x2]++stRef s':=by
 subst hv hL
 simp only[stRef,List.cons_append,List.nil_append,scrPL,i0.scr,i1.scr,i2.scr,hc,ho,hf]
 rfl
theorem lC {S:St} {l:List Th} {k:Nat} {t:Th} {els:List (List D)} (hk:k<l.length) (h9:S.H (.n 900)=some (.rs 109 6 (rowsA l k t))) (hfam:∀ j,j≠k→(h:j<l.length)→S.H (.s 900 j)=some (.ds 100 1 (stk l[j])))
  (h8:S.H (.n 899)=some (.ds 100 1 els)) (he:els.take t.stack.length=stk t):kP S (.n 900) l.length ((l.set k t).map zF):=by
 unfold kP
 rw[h9]
 refine⟨by simp,fun j row hj hr=>?_⟩
 by_cases hjk:j=k
 ·subst hjk
  have:(rowsA l j t)[j]?=some (yE t):=zN hk
  rw[this] at hr
  simp only[Option.some.injEq] at hr
  subst hr
  refine⟨zF t,by simp[hj],?_⟩
  simp[yE,fz1s,fz1,h8,i64,zF,he]
  rfl
 ·have:(rowsA l k t)[j]?=some (thRow 900 j l[j]):=by
   unfold rowsA
   rw[List.getElem?_set_ne (fun e=>hjk e.symm)]
   exact xJ hj
  rw[this] at hr
  simp only[Option.some.injEq] at hr
  subst hr
  exact⟨zF l[j],by rw[List.getElem?_map,List.getElem?_set_ne (fun e=>hjk e.symm)];simp[hj],fz_row (hfam j hjk hj)⟩
theorem rA (t:Th) (o:OpL):CallsTo EE 222 [agg (zF t),.fp (encOp o)] (·=bv (t.st==3&&t.cond==o.a)):=by
 refine callsTo_of_AW (fn:=Tryz.f222) Tryz.func222 rfl (by kernel_rfl) rfl ?_
 conv=>whnf
 refine kbi (fun h1=>?_) (fun h1=>?_)
 ·have h1:t.st=3:=by simpa using h1
  conv=>whnf
  refine kbi (fun h2=>?_) (fun h2=>?_)
  ·have h2:t.cond=o.a:=by simpa using h2
   conv=>whnf
   rw[h1,h2];simp
  ·have h2:¬ t.cond=o.a:=by simpa using h2
   conv=>whnf
   rw[h1];simp[h2]
 ·have h1:¬ t.st=3:=by simpa using h1
  conv=>whnf
  simp[h1]
theorem sW {l:List Th} {k:Nat} (hk:k<l.length) {t':Th} (a:Int) (h1:t'.st≠3) (h2:l[k].st≠3):(l.set k t').findIdx? (fun t=>t.st==3&&t.cond==a)=wM l a:=by
 unfold wM
 have:∀ (m:List Th) (k:Nat) (hk:k<m.length),m[k].st≠3→(m.set k t').findIdx? (fun t=>t.st==3&&t.cond==a)=m.findIdx? (fun t=>t.st==3&&t.cond==a):=by
  intro m
  induction m with
  |nil=>intro k hk;cases hk
  |cons x m ih =>
   intro k hk h2
   cases k with
   |zero=>simp[List.findIdx?_cons,h1,show x.st≠3 from h2]
   |succ k=>simp[List.findIdx?_cons,ih k (by simpa using hk) (by simpa using h2)]
 exact this l k hk h2
theorem qD {X:List (List AV)} {p:Key→Bool} {l:List Th} {k:Nat} {t:Th} (hX:X=rowsA l k t) (h1:p (.n 899)=false) (h2:∀ j,p (.s 900 j)=false):X.map (scrPL p)=rowsA l k t:=by
 rw[hX];exact uF h1 h2 l k t
theorem uE (l:List Th) (i:Nat):(thRows 900 l)[i]?=(l[i]?).map (thRow 900 i):=by
 by_cases h:i<l.length
 ·rw[xJ h,List.getElem?_eq_getElem h];rfl
 ·rw[List.getElem?_eq_none (by rw[zR];omega),List.getElem?_eq_none (by omega)];rfl
theorem tM {l:List Th} {k j:Nat} {t:Th} {X:List (List AV)} (hj:j<l.length) (hjk:j≠k) (hX:X=rowsA l k t) :
  xG X 6 ((j:Nat):Int).toNat (0+2) [i64 4]=rowsA (l.modify j fun u=>{ u with st:=4 }) k t:=by
 subst hX
 have hf:xG (rowsA l k t) 6 ((j:Nat):Int).toNat (0+2) [i64 4]=(rowsA l k t).modify j fun c=>zW c 2 [i64 4]:=by
  unfold xG
  rfl
 rw[hf]
 apply List.ext_getElem?
 intro i
 rw[List.getElem?_modify]
 by_cases hik:i=k
 ·subst hik
  have h1:(rowsA l i t)[i]?=(if i<l.length then some (yE t) else none):=by
   unfold rowsA;rw[List.getElem?_set,zR];simp
  have h2:(rowsA (l.modify j fun u=>{ u with st:=4 }) i t)[i]?=(if i<l.length then some (yE t) else none):=by
   unfold rowsA;rw[List.getElem?_set,zR];simp
  rw[h1,h2]
  simp[hjk]
 ·have h1:∀ (m:List Th),(rowsA m k t)[i]?=(thRows 900 m)[i]?:=fun m=>by unfold rowsA;rw[List.getElem?_set_ne (fun e=>hik e.symm)]
  rw[h1,h1]
  simp only[uE,List.getElem?_modify]
  by_cases hij:j=i
  ·subst hij
   simp[hj,thRow,zW]
  ·simp[hij]
theorem tB {l:List Th} {j:Nat} (i:Nat):zS (l.modify j fun u=>{ u with st:=4 }) i=zS l i:=by
 unfold zS
 simp only[List.getElem?_modify]
 cases l[i]? with
 |none=>rfl
 |some u=>by_cases h:j=i <;> simp[h,stk]
theorem pX {l:List Th} {a:Int} {j:Nat} (h:wM l a=some j):∃ h:j<l.length,l[j].st=3∧l[j].cond=a:=by
 unfold wM at h
 rw[List.findIdx?_eq_some_iff_getElem] at h
 obtain⟨h1,h2,_⟩:=h
 exact⟨h1,by simpa using h2⟩
theorem xH (t:Th) (o:OpL):(stk t).take (zC t o).stack.length=stk (zC t o):=by
 simp[stk,zC,List.map_take]
theorem qV (t:Th):(stk t).take t.stack.length=stk t:=by simp[stk,List.take_of_length_le]
def mC (l:List Th) (k:Nat) (r:List AV):List (List AV):=(thRows 900 l).set k r
theorem xQ {l:List Th} {k off:Nat} {X:List (List AV)} {r:List AV} {v:AV} (hk:k<l.length) (hX:X=mC l k r):xG X 6 ((k:Nat):Int).toNat off [v]=mC l k (zW r off [v]):=by
 subst hX
 have hf:xG (mC l k r) 6 ((k:Nat):Int).toNat off [v]=(mC l k r).modify k fun c=>zW c off [v]:=by
  unfold xG
  rw[show(Nat.beq off 0&&Nat.beq [v].length 6)=false from Bool.and_false _]
  rfl
 rw[hf]
 unfold mC
 apply List.ext_getElem?
 intro j
 rw[List.getElem?_modify]
 by_cases hj:k=j
 ·subst hj
  rw[List.getElem?_set_self (by rw[zR];exact hk),List.getElem?_set_self (by rw[zR];exact hk)];simp
 ·rw[List.getElem?_set_ne hj,List.getElem?_set_ne hj];simp[hj]
theorem xP {l:List Th} {k:Nat} {X:List (List AV)} {r:List AV} {p:Key→Bool} (hp:∀ j,p (.s 900 j)=false) (hX:X=mC l k r):X.map (scrPL p)=mC l k (scrPL p r):=by
 subst hX
 unfold mC
 rw[List.map_set,yF fun j _=>hp j]
theorem tH {l:List Th} {k n:Nat} {X N:List (List AV)} {t:Th} {row:List AV} (hn:n=l.length) (hX:X=rowsA l k t) (hN:N=[row]) (hq:scrPL (isK (.n 900)) row=row) :
  (X.take n++N).map (scrPL (isK (.n 900)))=rowsA l k t++[row]:=by
 subst hn hX hN
 rw[List.take_of_length_le (by rw[rowsA_len];exact Nat.le_refl _),List.map_append,uF rfl (fun _=>rfl)]
 simp[hq]
theorem vS {l:List Th} {k:Nat} {X:List (List AV)} {r:List AV} {t:Th} (h1:X=mC l k r) (h2:r=yE t):X=rowsA l k t:=by subst h1 h2;rfl
def DoIE (E:TypeId) (pre:List AV) (g:Nat→Option Ob) (k:Nat) (s':StL) (t':Th) (e':Ev) (S:St):Prop :=
 ∃ (l':List Th) (els:List (List D)),k<l'.length∧s'.ths=l'.set k t'∧(∀ j,j≠k→g j=zS l' j)∧els.take t'.stack.length=stk t' ∧
  ((l'.length=s'.ths.length∧At [(7,.ptr (.n 7) 0),(8,.ptr (.n 8) 0)] [(.l 0,.vs E (pre++stRef s')),(.n 7,.vs 107 ((encEv e').map .d)),(.n 8,.vs 107 [i64 0,i64 0,i64 0,i64 0,i64 0]),(.n 899,.ds 100 1 els),(.n 900,.rs 109 6 (rowsA l' k t')),(.n 901,.ds 100 1 (s'.cells.map encF)),(.n 902,.ds 3 1 (s'.owner.map encInt))] [(900,g)] S))
def DoIF (E:TypeId) (pre:List AV) (g:Nat→Option Ob) (k:Nat) (s':StL) (l':List Th) (t':Th) (r:Int) (e':Ev) (S:St):Prop :=
 k<l'.length∧s'.ths=l'.set k t'++[jH r]∧(∀ j,j≠k→g j=zS l' j) ∧
  At [(7,.ptr (.n 7) 0),(8,.ptr (.n 8) 0)] [(.l 0,.vs E (pre++stRef s')),(.n 7,.vs 107 ((encEv e').map .d)),(.n 8,.vs 107 [i64 0,i64 0,i64 0,i64 0,i64 0]),(.n 899,.ds 100 1 (stk t')),(.n 900,.rs 109 6 (rowsA l' k t'++[[i64 r,i64 0,i64 1,i64 (-1),i64 (-1),.ref (.n 905) 0 0]])),(.n 901,.ds 100 1 (s'.cells.map encF)),(.n 902,.ds 3 1 (s'.owner.map encInt)),(.n 905,.ds 100 1 [])] [(900,g)] S
def DoI2 (E:TypeId) (pre:List AV) (g:Nat→Option Ob) (k:Nat) (s':StL) (e':Ev) (S:St):Prop :=
 (∃ t',DoIE E pre g k s' t' e' S)∨∃ l' t' r,DoIF E pre g k s' l' t' r e' S
theorem doI_swB (hI:yP) (E:TypeId) (x0 x1 x2:AV) (i0:Inert x0) (i1:Inert x1) (i2:Inert x2) (g:Nat→Option Ob) (hg:∀ p j,(g j).map (scrPO p)=g j) (s:StL) (k:Nat) (o:OpL) (e:Ev) (hk:k<s.ths.length) (h5:s.ths.length≤5) (hgj:∀ j,j≠k→g j=zS s.ths j)
  (hs:s.small) (ho:o.fits s s.ths[k]) (hpc:InR s.ths[k].pc 0 1048576) (hst3:s.ths[k].st≠3) (he:e.kind=1) (hel:e.lock=-1) (hfl:∀ x∈s.ths[k].stack,x<18446744073709551616) (hjo:o.code=15→∃ j,yR (yL s.ths[k] o 0) s.ths.length=some j∧zU s s.ths[k]=some j)
  (Q:AX→St→Prop) (K:St→Prop) (S:St) (hS:At (doI1 3 k o s.ths[k]) (doIO E [x0,x1,x2] s k o e s.ths[k] (zC s.ths[k] o)) [(900,g)] S) (hK:∀ S',DoI2 E [x0,x1,x2] g k (doL s k o e).1 (doL s k o e).2 S'→K S') :
  mK EE Tryz.f176.ntmps K Q 1 (dropC 7 (Tryz.f176.body.getD .skip)) S:=by
 have hst:=hs.2.1 _ (List.getElem_mem hk)
 have hgd:s.ths.getD k th0=s.ths[k]:=by simp[List.getD_eq_getElem?_getD,hk]
 generalize ht0:s.ths[k]=t at *
 obtain⟨τ,H,rfl⟩:=hS.form
 clear hS
 obtain⟨o1,o2,o3,o4,o5⟩:=ho
 obtain⟨eth,ekind,eobj,elock,epc⟩:=e
 have he:ekind=1:=he
 subst he
 have hel:elock=-1:=hel
 subst hel
 have hkn:zQ t o≤t.stack.length:=Nat.sub_le _ _
 have hkl:(t.stack.take (zQ t o)).length=zQ t o:=by simp;omega
 have hpl:(zC t o).stack.length=zQ t o:=hkl
 conv=>whnf
 refine kbi (fun hc=>?_) (fun hc=>?_)
 ·have hc:o.code=1:=by simpa using hc
  conv=>whnf
  refine .inr (.inr (.inr ⟨[0],by kernel_rfl,8,[],?_⟩))
  conv=>whnf
  refine⟨yE (zC t o),⟨by repeat (first|exact zN hk|refine yZ ?_ (zX rfl _)),by simp[yE]⟩,?_⟩
  conv=>whnf
  refine⟨by kernel_rfl,?_⟩
  conv=>whnf
  refine⟨⟨rfl,by rw[hpl];simp;omega,by rw[hpl];simp;omega⟩,?_⟩
  conv=>whnf
  have hd:doL s k o ⟨eth,1,eobj,-1,epc⟩=(s.put k (zL (zC t o) o.v),⟨eth,1,eobj,-1,epc⟩):=by unfold doL;rw[hgd];simp[hc]
  rw[hd] at hK
  dsimp only at hK
  refine hK _ (.inl ⟨zL (zC t o) o.v,s.ths,stk (zL (zC t o) o.v),hk,rfl,hgj,qV _,by simp[StL.put],⟨rfl,rfl,trivial⟩,⟨?_,?_,rfl,?_,?_,?_,?_,trivial⟩,⟨fun j=>?_,trivial⟩⟩)
  ·rw[show stRef _=stRef s by simp[stRef,StL.put]]
   conv=>lhs;whnf
   all_goals (
    refine congrArg some ?_
    repeat (refine yK ?_ (xL i0 i1 i2 s rfl))
    all_goals rfl)
  ·rfl
  ·conv=>lhs;whnf
   show some (Ob.ds 100 1 _)=some (Ob.ds 100 1 _)
   simp[stk,zL,zC,encF]
  ·conv=>lhs;whnf
   all_goals (
    refine congrArg (fun x=>some (Ob.rs 109 6 x)) ?_
    apply vS
    ·repeat (first|exact rfl|apply xQ hk|apply xP (fun _=>rfl))
    ·show[_,_,_,_,_,AV.ref (.n 899) 0 ((zC t o).stack.length+1)]=_
     simp[yE,zL]
     exact⟨rfl,rfl,rfl,rfl,rfl⟩)
  ·rfl
  ·rfl
  ·repeat (first|exact rfl|refine hscrO ?_ (hg _ _)|conv=>lhs;whnf)
 have n1:¬ o.code=1:=by simpa using hc
 clear hc
 conv=>whnf
 refine kbi (fun hc=>?_) (fun hc=>?_)
 ·have hc:o.code=2:=by simpa using hc
  have hr:=o2 (.inl hc)
  conv=>whnf
  refine .inr (.inl ⟨4,[],?_⟩)
  conv=>whnf
  refine⟨by kernel_rfl,?_⟩
  conv=>whnf
  refine .inr (.inr (.inr ⟨[0],by kernel_rfl,14,[],?_⟩))
  conv=>whnf
  refine⟨yE (zC t o),⟨by repeat (first|exact zN hk|refine yZ ?_ (zX rfl _)),by simp[yE]⟩,?_⟩
  conv=>whnf
  refine⟨⟨by omega,by omega⟩,?_⟩
  conv=>whnf
  refine⟨encF (s.cells.getD o.a.toNat 0),⟨by rw[Nat.zero_add];exact aB hr,by simp[encF]⟩,?_⟩
  conv=>whnf
  refine⟨by kernel_rfl,?_⟩
  conv=>whnf
  refine⟨⟨rfl,by rw[hpl];simp;omega,by rw[hpl];simp;omega⟩,?_⟩
  conv=>whnf
  have hd:doL s k o ⟨eth,1,eobj,-1,epc⟩=(s.put k (zL (zC t o) (s.cells.getD o.a.toNat 0)),⟨eth,2,o.a,(-1),epc⟩):=by unfold doL;rw[hgd];simp[hc]
  rw[hd] at hK
  dsimp only at hK
  refine hK _ (.inl ⟨zL (zC t o) (s.cells.getD o.a.toNat 0),s.ths,stk (zL (zC t o) (s.cells.getD o.a.toNat 0)),hk,rfl,hgj,qV _,by simp[StL.put],⟨rfl,rfl,trivial⟩,⟨?_,?_,rfl,?_,?_,?_,?_,trivial⟩,⟨fun j=>?_,trivial⟩⟩)
  ·rw[show stRef _=stRef s by simp[stRef,StL.put]]
   conv=>lhs;whnf
   all_goals (
    refine congrArg some ?_
    repeat (refine yK ?_ (xL i0 i1 i2 s rfl))
    all_goals rfl)
  ·rfl
  ·conv=>lhs;whnf
   show some (Ob.ds 100 1 _)=some (Ob.ds 100 1 _)
   simp[stk,zL,zC,encF]
  ·conv=>lhs;whnf
   all_goals (
    refine congrArg (fun x=>some (Ob.rs 109 6 x)) ?_
    apply vS
    ·repeat (first|exact rfl|apply xQ hk|apply xP (fun _=>rfl))
    ·show[_,_,_,_,_,AV.ref (.n 899) 0 ((zC t o).stack.length+1)]=_
     simp[yE,zL]
     exact⟨rfl,rfl,rfl,rfl,rfl⟩)
  ·rfl
  ·rfl
  ·repeat (first|exact rfl|refine hscrO ?_ (hg _ _)|conv=>lhs;whnf)
 have n2:¬ o.code=2:=by simpa using hc
 clear hc
 conv=>whnf
 refine kbi (fun hc=>?_) (fun hc=>?_)
 ·have hc:o.code=3:=by simpa using hc
  have hr:=o2 (.inr hc)
  have htk:xK o=1:=by simp[xK,zA,hc]
  conv=>whnf
  refine .inr (.inl ⟨4,[],?_⟩)
  conv=>whnf
  refine⟨by kernel_rfl,?_⟩
  conv=>whnf
  refine .inr (.inl ⟨9,[],?_⟩)
  conv=>whnf
  refine⟨encF (yL t o 0),⟨by omega,wP o5 (by omega),by simp[encF]⟩,?_⟩
  conv=>whnf
  refine⟨by kernel_rfl,?_⟩
  conv=>whnf
  refine⟨⟨by omega,by omega⟩,?_⟩
  conv=>whnf
  have hd:doL s k o ⟨eth,1,eobj,-1,epc⟩=({ s with cells:=s.cells.set o.a.toNat (yL t o 0) }.put k (zC t o),⟨eth,3,o.a,(-1),epc⟩):=by unfold doL;rw[hgd];simp[hc]
  rw[hd] at hK
  dsimp only at hK
  refine hK _ (.inl ⟨zC t o,s.ths,stk t,hk,rfl,hgj,xH t o,by simp[StL.put],⟨rfl,rfl,trivial⟩,⟨?_,?_,rfl,?_,?_,?_,?_,trivial⟩,⟨fun j=>?_,trivial⟩⟩)
  ·rw[show stRef _=stRef s by simp[stRef,StL.put]]
   conv=>lhs;whnf
   all_goals (
    refine congrArg some ?_
    repeat (refine yK ?_ (xL i0 i1 i2 s rfl))
    all_goals rfl)
  ·rfl
  ·rfl
  ·conv=>lhs;whnf
   all_goals (
    refine congrArg (fun x=>some (Ob.rs 109 6 x)) ?_
    apply vS
    ·repeat (first|exact rfl|apply xQ hk|apply xP (fun _=>rfl))
    ·rfl)
  ·conv=>lhs;whnf
   show some (Ob.ds 100 1 ((s.cells.map encF).set (0+o.a.toNat) (encF (yL t o 0))))=some (Ob.ds 100 1 ((s.cells.set o.a.toNat (yL t o 0)).map encF))
   rw[Nat.zero_add,List.map_set]
  ·rfl
  ·repeat (first|exact rfl|refine hscrO ?_ (hg _ _)|conv=>lhs;whnf)
 have n3:¬ o.code=3:=by simpa using hc
 clear hc
 conv=>whnf
 refine kbi (fun hc=>?_) (fun hc=>?_)
 ·have hc:o.code=10:=by simpa using hc
  conv=>whnf
  have hd:doL s k o ⟨eth,1,eobj,-1,epc⟩=(s.put k ({ zC t o with pc:=o.a }),⟨eth,1,eobj,-1,epc⟩):=by unfold doL;rw[hgd];simp[hc]
  rw[hd] at hK
  dsimp only at hK
  refine hK _ (.inl ⟨({ zC t o with pc:=o.a }),s.ths,stk t,hk,rfl,hgj,xH t o,by simp[StL.put],⟨rfl,rfl,trivial⟩,⟨?_,?_,rfl,?_,?_,?_,?_,trivial⟩,⟨fun j=>?_,trivial⟩⟩)
  ·rw[show stRef _=stRef s by simp[stRef,StL.put]]
   conv=>lhs;whnf
   all_goals (
    refine congrArg some ?_
    repeat (refine yK ?_ (xL i0 i1 i2 s rfl))
    all_goals rfl)
  ·rfl
  ·rfl
  ·conv=>lhs;whnf
   all_goals (
    refine congrArg (fun x=>some (Ob.rs 109 6 x)) ?_
    apply vS
    ·repeat (first|exact rfl|apply xQ hk|apply xP (fun _=>rfl))
    ·rfl)
  ·rfl
  ·rfl
  ·repeat (first|exact rfl|refine hscrO ?_ (hg _ _)|conv=>lhs;whnf)
 have n10:¬ o.code=10:=by simpa using hc
 clear hc
 conv=>whnf
 refine kbi (fun hc=>?_) (fun hc=>?_)
 ·have hc:o.code=11:=by simpa using hc
  have htk:xK o=1:=by simp[xK,zA,hc]
  conv=>whnf
  refine⟨encF (yL t o 0),⟨by omega,wP o5 (by omega),by simp[encF]⟩,?_⟩
  conv=>whnf
  refine ocase (isNo_ok _) (fun hn=>?_) (fun hn=>?_)
  ·conv=>whnf
   have hd:doL s k o ⟨eth,1,eobj,-1,epc⟩=(s.put k ({ zC t o with pc:=o.a }),⟨eth,1,eobj,-1,epc⟩):=by unfold doL;rw[hgd];simp[hc];rw[if_pos hn]
   rw[hd] at hK
   dsimp only at hK
   refine hK _ (.inl ⟨({ zC t o with pc:=o.a }),s.ths,stk t,hk,rfl,hgj,xH t o,by simp[StL.put],⟨rfl,rfl,trivial⟩,⟨?_,?_,rfl,?_,?_,?_,?_,trivial⟩,⟨fun j=>?_,trivial⟩⟩)
   ·rw[show stRef _=stRef s by simp[stRef,StL.put]]
    conv=>lhs;whnf
    all_goals (
     refine congrArg some ?_
     repeat (refine yK ?_ (xL i0 i1 i2 s rfl))
     all_goals rfl)
   ·rfl
   ·rfl
   ·conv=>lhs;whnf
    all_goals (
     refine congrArg (fun x=>some (Ob.rs 109 6 x)) ?_
     apply vS
     ·repeat (first|exact rfl|apply xQ hk|apply xP (fun _=>rfl))
     ·rfl)
   ·rfl
   ·rfl
   ·repeat (first|exact rfl|refine hscrO ?_ (hg _ _)|conv=>lhs;whnf)
  ·conv=>whnf
   have hd:doL s k o ⟨eth,1,eobj,-1,epc⟩=(s.put k (zC t o),⟨eth,1,eobj,-1,epc⟩):=by unfold doL;rw[hgd];simp[hc];rw[if_neg hn]
   rw[hd] at hK
   dsimp only at hK
   refine hK _ (.inl ⟨zC t o,s.ths,stk t,hk,rfl,hgj,xH t o,by simp[StL.put],⟨rfl,rfl,trivial⟩,⟨?_,?_,rfl,?_,?_,?_,?_,trivial⟩,⟨fun j=>?_,trivial⟩⟩)
   ·rw[show stRef _=stRef s by simp[stRef,StL.put]]
    conv=>lhs;whnf
    all_goals (
     refine congrArg some ?_
     repeat (refine yK ?_ (xL i0 i1 i2 s rfl))
     all_goals rfl)
   ·rfl
   ·rfl
   ·conv=>lhs;whnf
    all_goals (
     refine congrArg (fun x=>some (Ob.rs 109 6 x)) ?_
     apply vS
     ·repeat (first|exact rfl|apply xQ hk|apply xP (fun _=>rfl))
     ·rfl)
   ·rfl
   ·rfl
   ·repeat (first|exact rfl|refine hscrO ?_ (hg _ _)|conv=>lhs;whnf)
 have n11:¬ o.code=11:=by simpa using hc
 clear hc
 conv=>whnf
 refine kbi (fun hc=>?_) (fun hc=>?_)
 ·have hc:o.code=12:=by simpa using hc
  have hr:=o3 (.inl hc)
  conv=>whnf
  refine .inr (.inl ⟨4,[],?_⟩)
  conv=>whnf
  refine⟨by kernel_rfl,?_⟩
  conv=>whnf
  refine .inr (.inl ⟨7,[],?_⟩)
  conv=>whnf
  refine⟨by kernel_rfl,?_⟩
  conv=>whnf
  refine⟨⟨by omega,by omega⟩,?_⟩
  conv=>whnf
  have hd:doL s k o ⟨eth,1,eobj,-1,epc⟩=({ s with owner:=s.owner.set o.a.toNat ((k:Nat):Int) }.put k (zC t o),⟨eth,4,o.a,(-1),epc⟩):=by unfold doL;rw[hgd];simp[hc]
  rw[hd] at hK
  dsimp only at hK
  refine hK _ (.inl ⟨zC t o,s.ths,stk t,hk,rfl,hgj,xH t o,by simp[StL.put],⟨rfl,rfl,trivial⟩,⟨?_,?_,rfl,?_,?_,?_,?_,trivial⟩,⟨fun j=>?_,trivial⟩⟩)
  ·rw[show stRef _=stRef s by simp[stRef,StL.put]]
   conv=>lhs;whnf
   all_goals (
    refine congrArg some ?_
    repeat (refine yK ?_ (xL i0 i1 i2 s rfl))
    all_goals rfl)
  ·rfl
  ·rfl
  ·conv=>lhs;whnf
   all_goals (
    refine congrArg (fun x=>some (Ob.rs 109 6 x)) ?_
    apply vS
    ·repeat (first|exact rfl|apply xQ hk|apply xP (fun _=>rfl))
    ·rfl)
  ·rfl
  ·conv=>lhs;whnf
   show some (Ob.ds 3 1 ((s.owner.map encInt).set (0+o.a.toNat) (encInt ((k:Nat):Int))))=some (Ob.ds 3 1 ((s.owner.set o.a.toNat ((k:Nat):Int)).map encInt))
   rw[Nat.zero_add,List.map_set]
  ·repeat (first|exact rfl|refine hscrO ?_ (hg _ _)|conv=>lhs;whnf)
 have n12:¬ o.code=12:=by simpa using hc
 clear hc
 conv=>whnf
 refine kbi (fun hc=>?_) (fun hc=>?_)
 ·have hc:o.code=13:=by simpa using hc
  have hr:=o3 (.inr hc)
  conv=>whnf
  refine .inr (.inl ⟨4,[],?_⟩)
  conv=>whnf
  refine⟨by kernel_rfl,?_⟩
  conv=>whnf
  refine .inr (.inl ⟨6,[],?_⟩)
  conv=>whnf
  refine⟨by kernel_rfl,?_⟩
  conv=>whnf
  refine⟨⟨by omega,by omega⟩,?_⟩
  conv=>whnf
  have hd:doL s k o ⟨eth,1,eobj,-1,epc⟩=({ s with owner:=s.owner.set o.a.toNat (-1) }.put k (zC t o),⟨eth,5,o.a,(-1),epc⟩):=by unfold doL;rw[hgd];simp[hc]
  rw[hd] at hK
  dsimp only at hK
  refine hK _ (.inl ⟨zC t o,s.ths,stk t,hk,rfl,hgj,xH t o,by simp[StL.put],⟨rfl,rfl,trivial⟩,⟨?_,?_,rfl,?_,?_,?_,?_,trivial⟩,⟨fun j=>?_,trivial⟩⟩)
  ·rw[show stRef _=stRef s by simp[stRef,StL.put]]
   conv=>lhs;whnf
   all_goals (
    refine congrArg some ?_
    repeat (refine yK ?_ (xL i0 i1 i2 s rfl))
    all_goals rfl)
  ·rfl
  ·rfl
  ·conv=>lhs;whnf
   all_goals (
    refine congrArg (fun x=>some (Ob.rs 109 6 x)) ?_
    apply vS
    ·repeat (first|exact rfl|apply xQ hk|apply xP (fun _=>rfl))
    ·rfl)
  ·rfl
  ·conv=>lhs;whnf
   show some (Ob.ds 3 1 ((s.owner.map encInt).set (0+o.a.toNat) (encInt (-1))))=some (Ob.ds 3 1 ((s.owner.set o.a.toNat (-1)).map encInt))
   rw[Nat.zero_add,List.map_set]
  ·repeat (first|exact rfl|refine hscrO ?_ (hg _ _)|conv=>lhs;whnf)
 have n13:¬ o.code=13:=by simpa using hc
 clear hc
 conv=>whnf
 refine kbi (fun hc=>?_) (fun hc=>?_)
 ·have hc:o.code=14:=by simpa using hc
  conv=>whnf
  refine .inr (.inl ⟨7,[],?_⟩)
  conv=>whnf
  refine⟨by kernel_rfl,?_⟩
  conv=>whnf
  refine .inr (.inr (.inr ⟨[0],by kernel_rfl,12,[],?_⟩))
  conv=>whnf
  refine⟨yE (zC t o),⟨by repeat (first|exact zN hk|refine yZ ?_ (zX rfl _)),by simp[yE]⟩,?_⟩
  conv=>whnf
  refine⟨by kernel_rfl,?_⟩
  conv=>whnf
  refine⟨⟨rfl,by rw[hpl];simp;omega,by rw[hpl];simp;omega⟩,?_⟩
  conv=>whnf
  refine .inr (.inr (.inr ⟨[0],by kernel_rfl,9,[2715],?_⟩))
  conv=>whnf
  refine⟨_,kR o.a,?_⟩
  conv=>whnf
  refine⟨by kernel_rfl,?_⟩
  conv=>whnf
  refine⟨⟨fun c hc'=>?_,?_,?_⟩,?_⟩
  ·have hc':c∈[[i64 o.a,i64 0,i64 1,i64 (-1),i64 (-1),AV.ref (.n 905) 0 0]]:=hc'
   simp only[List.mem_singleton] at hc'
   subst hc';rfl
  ·show(s.ths.length+1)*64≤_
   omega
  ·show s.ths.length+1≤_
   omega
  conv=>whnf
  have hd:doL s k o ⟨eth,1,eobj,-1,epc⟩=({ s with ths:=s.ths++[jH o.a] }.put k (zL (zC t o) (FloatKind.f64.nearest (s.ths.length:Int))),⟨eth,6,s.ths.length,(-1),epc⟩):=by unfold doL;rw[hgd];simp[hc]
  rw[hd] at hK
  dsimp only at hK
  refine hK _ (.inr ⟨s.ths,zL (zC t o) (FloatKind.f64.nearest (s.ths.length:Int)),o.a,hk,?_,hgj,⟨rfl,rfl,trivial⟩,⟨?_,rfl,rfl,?_,?_,rfl,rfl,rfl,trivial⟩,⟨fun j=>?_,trivial⟩⟩)
  ·simp[StL.put,List.set_append_left _ _ hk]
  ·conv=>lhs;whnf
   refine congrArg (fun x=>some (Ob.vs E x)) ?_
   refine spawn_vs3 i0 i1 i2 (s:=s) ?_ ?_ rfl rfl rfl
   ·conv=>lhs;whnf
    all_goals simp[StL.put]
   all_goals (
    repeat (refine hscrL ?_ (n4 i0 i1 i2 s rfl))
    all_goals rfl)
  ·conv=>lhs;whnf
   show some (Ob.ds 100 1 _)=some (Ob.ds 100 1 _)
   simp[stk,zL,zC,encF]
  ·conv=>lhs;whnf
   refine congrArg (fun x=>some (Ob.rs 109 6 x)) ?_
   refine tH rfl ?_ rfl rfl
   apply vS
   ·repeat (first|exact rfl|apply xQ hk|apply xP (fun _=>rfl))
   ·show[_,_,_,_,_,AV.ref (.n 899) 0 ((zC t o).stack.length+1)]=_
    simp[yE,zL]
    exact⟨rfl,rfl,rfl,rfl,rfl⟩
  ·repeat (first|exact rfl|refine hscrO ?_ (hg _ _)|conv=>lhs;whnf)
 have n14:¬ o.code=14:=by simpa using hc
 clear hc
 conv=>whnf
 refine kbi (fun hc=>?_) (fun hc=>?_)
 ·have hc:o.code=15:=by simpa using hc
  have htk:xK o=1:=by simp[xK,zA,hc]
  obtain⟨jj,hj1,hj2⟩:=hjo hc
  conv=>whnf
  refine .inr (.inl ⟨14,[],?_⟩)
  conv=>whnf
  refine⟨encF (yL t o 0),⟨by omega,wP o5 (by omega),by simp[encF]⟩,?_⟩
  conv=>whnf
  refine⟨_,hI _ _,?_⟩
  conv=>whnf
  refine⟨by kernel_rfl,?_⟩
  conv=>whnf
  have hd:doL s k o ⟨eth,1,eobj,-1,epc⟩=(s.put k (zC t o),⟨eth,7,(zU s t).getD (-1),(-1),epc⟩):=by unfold doL;rw[hgd];simp[hc]
  rw[hd] at hK
  dsimp only at hK
  refine hK _ (.inl ⟨zC t o,s.ths,stk t,hk,rfl,hgj,xH t o,by simp[StL.put],⟨rfl,rfl,trivial⟩,⟨?_,?_,rfl,?_,?_,?_,?_,trivial⟩,⟨fun j=>?_,trivial⟩⟩)
  ·rw[show stRef _=stRef s by simp[stRef,StL.put]]
   conv=>lhs;whnf
   all_goals (
    refine congrArg some ?_
    repeat (refine yK ?_ (xL i0 i1 i2 s rfl))
    all_goals rfl)
  ·conv=>lhs;whnf
   show some (Ob.vs 107 [i64 eth,i64 7,i64 ((yR (yL t o 0) s.ths.length).getD 0),i64 (-1),i64 epc])=some (Ob.vs 107 [i64 eth,i64 7,i64 ((zU s t).getD (-1)),i64 (-1),i64 epc])
   rw[hj1,hj2]
   rfl
  ·rfl
  ·conv=>lhs;whnf
   all_goals (
    refine congrArg (fun x=>some (Ob.rs 109 6 x)) ?_
    apply vS
    ·repeat (first|exact rfl|apply xQ hk|apply xP (fun _=>rfl))
    ·rfl)
  ·rfl
  ·rfl
  ·repeat (first|exact rfl|refine hscrO ?_ (hg _ _)|conv=>lhs;whnf)
 have n15:¬ o.code=15:=by simpa using hc
 clear hc
 conv=>whnf
 refine kbi (fun hc=>?_) (fun hc=>?_)
 ·have hc:o.code=16:=by simpa using hc
  have hr:=o4 hc
  conv=>whnf
  refine .inr (.inl ⟨8,[],?_⟩)
  conv=>whnf
  refine⟨by kernel_rfl,?_⟩
  conv=>whnf
  refine .inr (.inl ⟨6,[],?_⟩)
  conv=>whnf
  refine⟨by kernel_rfl,?_⟩
  conv=>whnf
  refine⟨⟨by omega,by omega⟩,?_⟩
  conv=>whnf
  refine⟨yE (zC t o),⟨by repeat (first|exact zN hk|refine yZ ?_ (zX rfl _)),by simp[yE]⟩,?_⟩
  conv=>whnf
  refine .inr (.inr (.inr ⟨[0,1,2],by kernel_rfl,by kernel_rfl,by kernel_rfl,13,[],?_⟩))
  conv=>whnf
  refine⟨by kernel_rfl,?_⟩
  conv=>whnf
  have hd:doL s k o ⟨eth,1,eobj,-1,epc⟩=({ s with owner:=s.owner.set o.b.toNat (-1) }.put k ({ zC t o with st:=3,cond:=o.a,lock:=o.b,pc:=(zC t o).pc - 1 }),⟨eth,8,o.a,o.b,epc⟩):=by unfold doL;rw[hgd];simp[hc]
  rw[hd] at hK
  dsimp only at hK
  refine hK _ (.inl ⟨({ zC t o with st:=3,cond:=o.a,lock:=o.b,pc:=(zC t o).pc - 1 }),s.ths,stk t,hk,rfl,hgj,xH t o,by simp[StL.put],⟨rfl,rfl,trivial⟩,⟨?_,?_,rfl,?_,?_,?_,?_,trivial⟩,⟨fun j=>?_,trivial⟩⟩)
  ·rw[show stRef _=stRef s by simp[stRef,StL.put]]
   conv=>lhs;whnf
   all_goals (
    refine congrArg some ?_
    repeat (refine yK ?_ (xL i0 i1 i2 s rfl))
    all_goals rfl)
  ·rfl
  ·rfl
  ·conv=>lhs;whnf
   all_goals (
    refine congrArg (fun x=>some (Ob.rs 109 6 x)) ?_
    apply vS
    ·repeat (first|exact rfl|apply xQ hk|apply xP (fun _=>rfl))
    ·have ew:IntKind.i64.wrap (t.pc+1 - 1)=t.pc+1 - 1:=zE (by have:=hpc.1;omega) (by have:=hpc.2;omega)
     show[_,AV.d (.int .i64 (IntKind.i64.wrap (t.pc+1 - 1))),_,_,_,_]=_
     rw[ew]
     rfl)
  ·rfl
  ·conv=>lhs;whnf
   show some (Ob.ds 3 1 ((s.owner.map encInt).set (0+o.b.toNat) (encInt (-1))))=some (Ob.ds 3 1 ((s.owner.set o.b.toNat (-1)).map encInt))
   rw[Nat.zero_add,List.map_set]
  ·repeat (first|exact rfl|refine hscrO ?_ (hg _ _)|conv=>lhs;whnf)
 have n16:¬ o.code=16:=by simpa using hc
 clear hc
 conv=>whnf
 refine kbi (fun hc=>?_) (fun hc=>?_)
 ·have hc:o.code=17:=by simpa using hc
  have hcall:CallsTo EE 219 [sl ((s.ths.set k (zC t o)).map zF),.fn 222 [.fp (encOp o)]] (·=i64 (lN (wM s.ths o.a))):=by
   rw[← sW hk (t':=zC t o) o.a hst3 (by rw[ht0];exact hst3)]
   exact kW _ (by simp;omega) 222 _ (.inr ⟨_,rfl⟩) (fun t=>t.st==3&&t.cond==o.a) (fun u _=>rA u o)
  conv=>whnf
  refine .inr (.inl ⟨4,[],?_⟩)
  conv=>whnf
  refine⟨by kernel_rfl,?_⟩
  conv=>whnf
  refine .inl ⟨[sl ((s.ths.set k (zC t o)).map zF),.fn 222 [.fp (encOp o)]],[],_,⟨_,_,rfl,⟨_,rfl,lC (l:=s.ths) (k:=k) (t:=zC t o) (els:=stk t) hk ?_ ?_ ?_ (xH t o)⟩,_,_,rfl,rfl,rfl⟩,rfl,hcall,?_⟩
  ·conv=>lhs;whnf
   refine congrArg (fun x=>some (Ob.rs 109 6 x)) ?_
   repeat (first|exact rfl|refine qD ?_ rfl (fun _=>rfl))
  ·intro j hj hjl
   refine Eq.trans (b:=g j) ?_ ((hgj j hj).trans (by simp[zS,hjl]))
   repeat (first|exact rfl|refine hscrO ?_ (hg _ _)|conv=>lhs;whnf)
  ·rfl
  rintro r rfl
  refine⟨rfl,?_⟩
  cases hwk:wM s.ths o.a with
  |none =>
   conv=>whnf
   refine kbi (fun hw=>?_) (fun hw=>?_)
   ·simp[lN] at hw
   conv=>whnf
   have hd:doL s k o ⟨eth,1,eobj,-1,epc⟩=(s.put k (zC t o),⟨eth,10,o.a,(-1),epc⟩):=by unfold doL;rw[hgd];simp[hc,hwk]
   rw[hd] at hK
   dsimp only at hK
   refine hK _ (.inl ⟨zC t o,s.ths,stk t,hk,rfl,hgj,xH t o,by simp[StL.put],⟨rfl,rfl,trivial⟩,⟨?_,?_,rfl,?_,?_,?_,?_,trivial⟩,⟨fun j=>?_,trivial⟩⟩)
   ·rw[show stRef _=stRef s by simp[stRef,StL.put]]
    conv=>lhs;whnf
    all_goals (
     refine congrArg some ?_
     repeat (refine yK ?_ (xL i0 i1 i2 s rfl))
     all_goals rfl)
   ·rfl
   ·rfl
   ·conv=>lhs;whnf
    all_goals (
     refine congrArg (fun x=>some (Ob.rs 109 6 x)) ?_
     apply vS
     ·repeat (first|exact rfl|apply xQ hk|apply xP (fun _=>rfl))
     ·rfl)
   ·rfl
   ·rfl
   ·repeat (first|exact rfl|refine hscrO ?_ (hg _ _)|conv=>lhs;whnf)
  |some j =>
   obtain⟨hjl,hj3,hjc⟩:=pX hwk
   have hjk:j≠k:=by
    rintro rfl
    rw[ht0] at hj3;exact hst3 hj3
   conv=>whnf
   refine kbi (fun hw=>?_) (fun hw=>?_)
   rotate_left 1
   ·simp[lN] at hw
   conv=>whnf
   refine .inr (.inl ⟨6,[],?_⟩)
   conv=>whnf
   have hd:doL s k o ⟨eth,1,eobj,-1,epc⟩=({ s with ths:=s.ths.modify j fun u=>{ u with st:=4 } }.put k (zC t o),⟨eth,10,o.a,j,epc⟩):=by unfold doL;rw[hgd];simp[hc,hwk]
   rw[hd] at hK
   dsimp only at hK
   refine⟨by kernel_rfl,?_⟩
   conv=>whnf
   refine⟨⟨by show(0:Int)≤(j:Int);omega,by show(j:Int)<s.ths.length;omega⟩,?_⟩
   conv=>whnf
   refine hK _ (.inl ⟨zC t o,s.ths.modify j fun u=>{ u with st:=4 },stk t,by simpa using hk,rfl,fun i hi=>(hgj i hi).trans (tB i).symm,xH t o,by simp[StL.put],⟨rfl,rfl,trivial⟩,⟨?_,?_,rfl,?_,?_,?_,?_,trivial⟩,⟨fun j=>?_,trivial⟩⟩)
   ·rw[show stRef _=stRef s by simp[stRef,StL.put]]
    conv=>lhs;whnf
    all_goals (
     refine congrArg some ?_
     repeat (refine yK ?_ (xL i0 i1 i2 s rfl))
     all_goals rfl)
   ·rfl
   ·rfl
   ·conv=>lhs;whnf
    all_goals (
     refine congrArg (fun x=>some (Ob.rs 109 6 x)) ?_
     refine tM hjl hjk ?_
     repeat (first|exact rfl|refine qD ?_ rfl (fun _=>rfl)))
   ·rfl
   ·rfl
   ·repeat (first|exact rfl|refine hscrO ?_ (hg _ _)|conv=>lhs;whnf)
 have n17:¬ o.code=17:=by simpa using hc
 clear hc
 conv=>whnf
 have hcode:4≤o.code∧o.code≤9:=by have:=o1.1;have:=o1.2;omega
 have htk:xK o=2:=by simp only[xK,zA];rw[if_neg (by omega),if_neg (by omega),if_pos hcode];rfl
 refine .inr (.inr (.inr ⟨[0],by kernel_rfl,15,[],?_⟩))
 conv=>whnf
 refine⟨yE (zC t o),⟨by repeat (first|exact zN hk|refine yZ ?_ (zX rfl _)),by simp[yE]⟩,?_⟩
 conv=>whnf
 refine⟨encF (yL t o 0),⟨by omega,wP o5 (by omega),by simp[encF]⟩,?_⟩
 conv=>whnf
 refine⟨encF (yL t o 1),⟨by omega,wP o5 (by omega),by simp[encF]⟩,?_⟩
 conv=>whnf
 refine⟨_,eM _ _ _ hcode (lV hfl) (lV hfl),?_⟩
 conv=>whnf
 refine⟨by kernel_rfl,?_⟩
 conv=>whnf
 refine⟨⟨rfl,by rw[hpl];simp;omega,by rw[hpl];simp;omega⟩,?_⟩
 conv=>whnf
 have hd:doL s k o ⟨eth,1,eobj,-1,epc⟩=(s.put k (zL (zC t o) (yN o.code (yL t o 0) (yL t o 1))),⟨eth,1,eobj,-1,epc⟩):=by unfold doL;rw[hgd];simp[n1,n2,n3,n10,n11,n12,n13,n14,n15,n16,n17]
 rw[hd] at hK
 dsimp only at hK
 refine hK _ (.inl ⟨zL (zC t o) (yN o.code (yL t o 0) (yL t o 1)),s.ths,stk (zL (zC t o) (yN o.code (yL t o 0) (yL t o 1))),hk,rfl,hgj,qV _,by simp[StL.put],⟨rfl,rfl,trivial⟩,⟨?_,?_,rfl,?_,?_,?_,?_,trivial⟩,⟨fun j=>?_,trivial⟩⟩)
 ·rw[show stRef _=stRef s by simp[stRef,StL.put]]
  conv=>lhs;whnf
  all_goals (
   refine congrArg some ?_
   repeat (refine yK ?_ (xL i0 i1 i2 s rfl))
   all_goals rfl)
 ·rfl
 ·conv=>lhs;whnf
  show some (Ob.ds 100 1 _)=some (Ob.ds 100 1 _)
  simp[stk,zL,zC,encF]
 ·conv=>lhs;whnf
  all_goals (
   refine congrArg (fun x=>some (Ob.rs 109 6 x)) ?_
   apply vS
   ·repeat (first|exact rfl|apply xQ hk|apply xP (fun _=>rfl))
   ·show[_,_,_,_,_,AV.ref (.n 899) 0 ((zC t o).stack.length+1)]=_
    simp[yE,zL]
    exact⟨rfl,rfl,rfl,rfl,rfl⟩)
 ·rfl
 ·rfl
 ·repeat (first|exact rfl|refine hscrO ?_ (hg _ _)|conv=>lhs;whnf)
end Ai
namespace Ai
set_option maxRecDepth 100000
open Go Go.Proofs
def InertL (pre:List AV):Prop:=∀ x∈pre,Inert x
theorem fD:∀ {pre:List AV},InertL pre→∀ p,scrPL p pre=pre
 | [],_,p=>rfl
 |x::xs,h,p=>by simp only[scrPL];rw[(h x List.mem_cons_self).scr,fD (fun y hy=>h y (List.mem_cons_of_mem _ hy))]
theorem inertL_ren:∀ {pre:List AV},InertL pre→∀ f,renL f pre=pre
 | [],_,f=>rfl
 |x::xs,h,f=>by simp only[renL];rw[(h x List.mem_cons_self).ren,inertL_ren (fun y hy=>h y (List.mem_cons_of_mem _ hy))]
theorem cH:∀ {pre:List AV},InertL pre→∀ κ q,kA κ q pre=pre
 | [],_,κ,q=>rfl
 |x::xs,h,κ,q=>by simp only[kA];rw[(h x List.mem_cons_self).cut,cH (fun y hy=>h y (List.mem_cons_of_mem _ hy))]
theorem dJ (p:Key→Bool):∀ a b:List AV,scrPL p (a++b)=scrPL p a++scrPL p b
 | [],b=>rfl
 |x::a,b=>by simp only[List.cons_append,scrPL];rw[dJ p a b]
theorem renL_app (f:Key→Key):∀ a b:List AV,renL f (a++b)=renL f a++renL f b
 | [],b=>rfl
 |x::a,b=>by simp only[List.cons_append,renL];rw[renL_app f a b]
theorem cutL_app (κ:Key) (q:Nat):∀ a b:List AV,kA κ q (a++b)=kA κ q a++kA κ q b
 | [],b=>rfl
 |x::a,b=>by simp only[List.cons_append,kA];rw[cutL_app κ q a b]
def wA:Key→Bool
 | .n k=>Nat.beq k 899 || Nat.beq k 900 || Nat.beq k 901 || Nat.beq k 902
 | .s o _=>Nat.beq o 900
 | .l k=>Nat.beq k 0
def stHA (E:TypeId) (pre:List AV) (s:StL) (k:Nat) (t:Th):Key→Option Ob
 | .l j=>bif Nat.beq j 0 then some (.vs E (pre++stRef s)) else none
 | .n j=>bif Nat.beq j 899 then some (.ds 100 1 (stk t)) else bif Nat.beq j 900 then some (.rs 109 6 (rowsA s.ths k t)) else bif Nat.beq j 901 then some (.ds 100 1 (s.cells.map encF)) else bif Nat.beq j 902 then some (.ds 3 1 (s.owner.map encInt)) else none
 | .s o j=>bif Nat.beq o 900 then (bif Nat.beq j k then none else zS s.ths j) else none
def stHC (E:TypeId) (pre:List AV) (s:StL):Key→Option Ob
 | .l j=>bif Nat.beq j 0 then some (.vs E (pre++stRef s)) else none
 | .n j=>bif Nat.beq j 900 then some (.rs 109 6 (thRows 900 s.ths)) else bif Nat.beq j 901 then some (.ds 100 1 (s.cells.map encF)) else bif Nat.beq j 902 then some (.ds 3 1 (s.owner.map encInt)) else none
 | .s o j=>bif Nat.beq o 900 then zS s.ths j else none
theorem thRows_set {l:List Th} {k:Nat} {t:Th} (hk:k<l.length):thRows 900 (l.set k t)=(thRows 900 l).set k (thRow 900 k t):=by
 apply List.ext_getElem?
 intro i
 rw[uE,List.getElem?_set,List.getElem?_set]
 by_cases h:k=i
 ·subst h
  simp[hk,zR]
 ·simp[h,uE]
theorem nV {l:List Th} {k:Nat} {t u:Th} (hk:k<l.length):rowsA (l.set k u) k t=rowsA l k t:=by
 unfold rowsA
 rw[thRows_set hk,List.set_set]
theorem nQ {l:List Th} {k j:Nat} {t:Th} (h:j≠k):zS (l.set k t) j=zS l j:=by
 unfold zS;rw[List.getElem?_set_ne (Ne.symm h)]
theorem thFam_self {l:List Th} {k:Nat} (h:k<l.length):zS l k=some (.ds 100 1 (stk l[k])):=by
 unfold zS;rw[List.getElem?_eq_getElem h];rfl
theorem rows_cut {l:List Th} {k:Nat} {t:Th}:(rowsA l k t).map (kA (.n 899) t.stack.length)=rowsA l k t:=by
 unfold rowsA
 rw[List.map_set]
 congr 1
 ·apply List.ext_getElem?
  intro i
  rw[List.getElem?_map,uE]
  cases l[i]? with
  |none=>rfl
  |some u=>rfl
 ·have:Nat.ble (0+t.stack.length) t.stack.length=true:=by rw[Nat.zero_add,Nat.ble_eq];exact Nat.le_refl _
  show[_,_,_,_,_,(bif Nat.ble (0+t.stack.length) t.stack.length then AV.ref (.n 899) 0 t.stack.length else .junk)]=_
  rw[this];rfl
theorem stRef_cut (s:StL) (q:Nat):kA (.n 899) q (stRef s)=stRef s:=rfl
theorem eS (s:StL):scrPL (fun o=>!wA o) (stRef s)=stRef s:=rfl
def doIPost (E:TypeId) (pre:List AV) (k:Nat) (s':StL) (e':Ev) (r:AV) (H1:Key→Option Ob):Prop :=
 r=agg (encEv e')∧∃ (h:k<s'.ths.length),H1=stHA E pre s' k s'.ths[k]
theorem doI_fin (E:TypeId) (pre:List AV) (hp:InertL pre) (g:Nat→Option Ob) (k:Nat) (hg:∀ p j,(g j).map (scrPO p)=g j) (hgc:∀ q j,(g j).map (cutO (.n 899) q)=g j) (hgk:g k=none) (s':StL) (e':Ev) (S:St) (t':Th) (h:DoIE E pre g k s' t' e' S) :
  AW EE Tryz.f176.ntmps (dropC 8 (Tryz.f176.body.getD .skip)) (retIO EE Tryz.f176 (doIPost E pre k s' e')) S:=by
 obtain⟨l',els,hk,hths,hgj,hels,hlen,hat⟩:=h
 obtain⟨τ,H,rfl⟩:=hat.form
 conv=>whnf
 refine⟨_,m9 (.n 899) t'.stack.length (e:=100) (sz:=1) (els:=els) ?_,?_⟩
 ·rfl
 conv=>whnf
 refine⟨wA,?_,?_⟩
 ·rfl
 have hk':k<s'.ths.length:=by rw[hths];simpa using hk
 have htk:s'.ths[k]=t':=by simp[hths]
 refine⟨hk',?_⟩
 rw[htk]
 funext κ
 cases κ with
 |l j =>
  by_cases h:j=0
  ·subst h
   show some (Ob.vs E (scrPL _ (kA _ _ (pre++stRef s'))))=some (Ob.vs E (pre++stRef s'))
   rw[cutL_app,cH hp,stRef_cut,dJ,fD hp,eS]
  ·simp[yJ,wA,stHA,nbeq_ne h]
 |n j =>
  by_cases h1:j=899
  ·subst h1
   show some (Ob.ds 100 1 (els.take t'.stack.length))=some (Ob.ds 100 1 (stk t'))
   rw[hels]
  by_cases h2:j=900
  ·subst h2
   show some (Ob.rs 109 6 (((rowsA l' k t').map (kA (.n 899) t'.stack.length)).map (scrPL fun o=>!wA o)))=some (Ob.rs 109 6 (rowsA s'.ths k t'))
   rw[rows_cut,hths,nV hk]
   exact congrArg (fun x=>some (Ob.rs 109 6 x)) (uF rfl (fun _=>rfl) _ _ _)
  by_cases h3:j=901
  ·subst h3;rfl
  by_cases h4:j=902
  ·subst h4;rfl
  simp[yJ,wA,stHA,nbeq_ne h1,nbeq_ne h2,nbeq_ne h3,nbeq_ne h4]
 |s o j =>
  by_cases h:o=900
  ·subst h
   show((g j).map (cutO (.n 899) t'.stack.length)).map (scrPO fun o=>!wA o)=bif Nat.beq j k then none else zS s'.ths j
   rw[hgc,hg]
   by_cases hj:j=k
   ·subst hj;rw[nbeq_self,hgk];rfl
   ·rw[nbeq_ne hj,hgj j hj,hths,nQ hj];rfl
  ·simp[yJ,wA,stHA,nbeq_ne h]
theorem rowsA_app {l:List Th} {k:Nat} {t u:Th} (hk:k<l.length):rowsA (l++[u]) k t=rowsA l k t++[thRow 900 l.length u]:=by
 unfold rowsA
 have:thRows 900 (l++[u])=thRows 900 l++[thRow 900 l.length u]:=by
  apply List.ext_getElem?
  intro i
  rw[uE]
  by_cases h:i<l.length
  ·rw[List.getElem?_append_left h,List.getElem?_append_left (by rw[zR];exact h),uE]
  ·rw[List.getElem?_append_right (by omega),List.getElem?_append_right (by rw[zR];omega),zR]
   by_cases h2:i - l.length=0
   ·have:i=l.length:=by omega
    subst this
    simp
   ·rw[List.getElem?_eq_none (by simp;omega),List.getElem?_eq_none (by simp;omega)];rfl
 rw[this,List.set_append_left _ _ (by rw[zR];exact hk)]
theorem rowsA_ren {l:List Th} {k:Nat} {t:Th}:(rowsA l k t).map (renL (swp (.n 905) (.s 900 l.length)))=rowsA l k t:=by
 unfold rowsA
 rw[List.map_set,lF (Nat.le_refl _)]
 rfl
theorem thFam_app {l:List Th} {u:Th} {j:Nat}:zS (l++[u]) j=bif Nat.beq j l.length then some (.ds 100 1 (stk u)) else zS l j:=by
 unfold zS
 by_cases h:j=l.length
 ·subst h;rw[nbeq_self];simp
 ·rw[nbeq_ne h]
  by_cases h2:j<l.length
  ·rw[List.getElem?_append_left h2];rfl
  ·rw[List.getElem?_eq_none (by simp;omega),List.getElem?_eq_none (by omega)];rfl
theorem doI_finF (E:TypeId) (pre:List AV) (hp:InertL pre) (g:Nat→Option Ob) (k:Nat) (hg:∀ p j,(g j).map (scrPO p)=g j) (hgr:∀ f j,(g j).map (renO f)=g j) (hgk:g k=none) (s':StL) (e':Ev) (S:St) (l':List Th) (t':Th) (r:Int) (h:DoIF E pre g k s' l' t' r e' S) :
  AW EE Tryz.f176.ntmps (dropC 8 (Tryz.f176.body.getD .skip)) (retIO EE Tryz.f176 (doIPost E pre k s' e')) S:=by
 obtain⟨hk,hths,hgj,hat⟩:=h
 obtain⟨τ,H,rfl⟩:=hat.form
 conv=>whnf
 refine⟨_,jR 905 900 l'.length,?_⟩
 conv=>whnf
 refine⟨wA,?_,?_⟩
 ·rfl
 have hk':k<s'.ths.length:=by rw[hths];simp;omega
 have htk:s'.ths[k]=t':=by
  have:s'.ths[k]?=some t':=by rw[hths,List.getElem?_append_left (by simpa using hk)];simp[hk]
  rw[List.getElem?_eq_getElem hk'] at this
  exact Option.some.inj this
 refine⟨hk',?_⟩
 rw[htk]
 have hnk:l'.length≠k:=by omega
 funext κ
 cases κ with
 |l j =>
  by_cases h:j=0
  ·subst h
   show some (Ob.vs E (scrPL _ (renL _ (pre++stRef s'))))=some (Ob.vs E (pre++stRef s'))
   rw[renL_app,inertL_ren hp,dJ,fD hp]
   rfl
  ·simp[yJ,wA,stHA,nbeq_ne h]
 |n j =>
  by_cases h1:j=899
  ·subst h1;rfl
  by_cases h2:j=900
  ·subst h2
   show some (Ob.rs 109 6 (((rowsA l' k t'++[_]).map (renL (swp (.n 905) (.s 900 l'.length)))).map (scrPL fun o=>!wA o)))=some (Ob.rs 109 6 (rowsA s'.ths k t'))
   rw[hths,rowsA_app (by simpa using hk),nV hk,List.map_append,rowsA_ren,List.map_append,uF rfl (fun _=>rfl),List.length_set]
   rfl
  by_cases h3:j=901
  ·subst h3;rfl
  by_cases h4:j=902
  ·subst h4;rfl
  simp[yJ,wA,stHA,nbeq_ne h1,nbeq_ne h2,nbeq_ne h3,nbeq_ne h4]
 |s o j =>
  by_cases h:o=900
  ·subst h
   rw[show stHA E pre s' k t' (.s 900 j)=(bif Nat.beq j k then none else zS s'.ths j) from rfl,hths,thFam_app,List.length_set]
   by_cases hjn:j=l'.length
   ·subst hjn
    rw[nbeq_ne hnk,nbeq_self]
    have e:swp (.n 905) (.s 900 l'.length) (.s 900 l'.length)=.n 905:=by simp[swp,Key.beq,nbeq_self]
    simp only[yJ,St.swap,e]
    rfl
   ·have e:swp (.n 905) (.s 900 l'.length) (.s 900 j)=.s 900 j:=by simp[swp,Key.beq,nbeq_ne hjn]
    rw[nbeq_ne hjn]
    simp only[yJ,St.swap,e]
    show(((g j).map (renO _)).map (scrPO fun o=>!wA o))=bif Nat.beq j k then none else zS (l'.set k t') j
    rw[hgr,hg]
    by_cases hj:j=k
    ·subst hj;rw[nbeq_self,hgk];rfl
    ·rw[nbeq_ne hj,hgj j hj,nQ hj];rfl
  ·simp[yJ,wA,stHA,nbeq_ne h]
end Ai
namespace Ai
set_option maxRecDepth 100000
open Go Go.Proofs
def fam0 (l:List Th) (k:Nat) (j:Nat):Option Ob:=bif Nat.beq j k then none else zS l j
theorem yX (l:List Th) (k:Nat) (p:Key→Bool) (j:Nat):(fam0 l k j).map (scrPO p)=fam0 l k j:=by
 unfold fam0;cases Nat.beq j k
 ·exact yH p l j
 ·rfl
theorem gP (l:List Th) (k:Nat) (p:Key→Key) (j:Nat):(fam0 l k j).map (renO p)=fam0 l k j:=by
 unfold fam0;cases Nat.beq j k
 ·exact thFam_ren p l j
 ·rfl
theorem fam0_cut (l:List Th) (k:Nat) (κ:Key) (q j:Nat):(fam0 l k j).map (cutO κ q)=fam0 l k j:=by
 unfold fam0;cases Nat.beq j k
 ·show(zS l j).map _=zS l j
  unfold zS;cases l[j]? <;> rfl
 ·rfl
theorem doI_okA (hI:yP) (E:TypeId) (x0 x1 x2:AV) (i0:Inert x0) (i1:Inert x1) (i2:Inert x2) (s:StL) (k:Nat) (o:OpL) (e:Ev) (hk:k<s.ths.length) (h5:s.ths.length≤5)
  (hs:s.small) (ho:o.fits s s.ths[k]) (hpc:InR s.ths[k].pc 0 1048576) (hst3:s.ths[k].st≠3) (he:e.kind=1) (hel:e.lock=-1) (hfl:∀ x∈s.ths[k].stack,x<18446744073709551616) (hjo:o.code=15→∃ j,yR (yL s.ths[k] o 0) s.ths.length=some j∧zU s s.ths[k]=some j)
  (H0:Key→Option Ob) (h0:H0 (.l 0)=some (.vs E ([x0,x1,x2]++stRef s))) (h1:H0 (.n 899)=some (.ds 100 1 (stk s.ths[k]))) (h2:H0 (.n 900)=some (.rs 109 6 (rowsA s.ths k s.ths[k]))) (h3:∀ j,H0 (.s 900 j)=fam0 s.ths k j)
  (h4:H0 (.n 901)=some (.ds 100 1 (s.cells.map encF))) (h6:H0 (.n 902)=some (.ds 3 1 (s.owner.map encInt))) :
  IOCall EE 176 [.ptr (.l 0) 3,i64 k,agg (encOp o),agg (encEv e)] H0 (doIPost E [x0,x1,x2] k (doL s k o e).1 (doL s k o e).2):=by
 refine io_of_AW (fn:=Tryz.f176) (c:=Tryz.f176.body.getD .skip) Tryz.func176 rfl (by kernel_rfl) rfl ?_
 have hat:At [(0,.ptr (.l 0) 3),(1,i64 k),(2,agg (encOp o)),(3,agg (encEv e))] [(.l 0,.vs E ([x0,x1,x2]++stRef s)),(.n 899,.ds 100 1 (stk s.ths[k])),(.n 900,.rs 109 6 (rowsA s.ths k s.ths[k])),(.n 901,.ds 100 1 (s.cells.map encF)),(.n 902,.ds 3 1 (s.owner.map encInt))] [(900,fam0 s.ths k)]
   ⟨fun i=>[AV.ptr (.l 0) 3,i64 k,agg (encOp o),agg (encEv e)].getD i .junk,H0⟩ :=
  ⟨⟨rfl,rfl,rfl,rfl,trivial⟩,⟨h0,h1,h2,h4,h6,trivial⟩,⟨h3,trivial⟩⟩
 obtain⟨τ,H,hf⟩:=hat.form
 rw[hf]
 have hst:=hs.2.1 _ (List.getElem_mem hk)
 have hgk:fam0 s.ths k k=none:=by unfold fam0;rw[nbeq_self];rfl
 refine dD 7 (At (doI1 3 k o s.ths[k]) (doIO E [x0,x1,x2] s k o e s.ths[k] (zC s.ths[k] o)) [(900,fam0 s.ths k)]) (fun K hK=>doI_preB E x0 x1 x2 i0 i1 i2 (fam0 s.ths k) (yX _ _) s k o e hk s.ths[k] ho.2.2.2.2 hst hpc τ H _ K hK) (fun S hS=>?_)
 refine dD 1 (DoI2 E [x0,x1,x2] (fam0 s.ths k) k (doL s k o e).1 (doL s k o e).2) (fun K hK=>doI_swB hI E x0 x1 x2 i0 i1 i2 (fam0 s.ths k) (yX _ _) s k o e hk h5 (fun j hj=>by unfold fam0;rw[nbeq_ne hj];rfl) hs ho hpc hst3 he hel hfl hjo _ K S hS hK) (fun S' hS'=>?_)
 have hp:InertL [x0,x1,x2]:=by
  intro x hx
  simp only[List.mem_cons,List.not_mem_nil,or_false] at hx
  rcases hx with rfl|rfl|rfl <;> assumption
 rcases hS' with ⟨t',h⟩|⟨l',t',r,h⟩
 ·exact doI_fin E _ hp _ k (yX _ _) (fam0_cut _ _ _) hgk _ _ S' t' h
 ·exact doI_finF E _ hp _ k (yX _ _) (gP _ _) hgk _ _ S' l' t' r h
theorem rowsA_sw {l:List Th} {k:Nat} (hk:k<l.length):(thRows 900 l).map (renL (swp (.n 899) (.s 900 k)))=rowsA l k l[k]:=by
 apply List.ext_getElem?
 intro i
 rw[List.getElem?_map,uE]
 by_cases h:i=k
 ·subst h
  have e:swp (.n 899) (.s 900 i) (.s 900 i)=.n 899:=by simp[swp,Key.beq,nbeq_self]
  have:(rowsA l i l[i])[i]?=some (yE l[i]):=zN hk
  rw[this,List.getElem?_eq_getElem hk]
  simp[thRow,yE,renL,ren,e]
 ·rw[rowsA_ne h,uE]
  cases hl:l[i]? with
  |none=>rfl
  |some u=>simp[eQ (a:=899) (o:=900) h]
theorem rowsA_back {l:List Th} {k:Nat} (hk:k<l.length):(rowsA l k l[k]).map (renL (swp (.n 899) (.s 900 k)))=thRows 900 l:=by
 rw[← rowsA_sw hk,List.map_map]
 conv=>rhs;rw[← List.map_id (thRows 900 l)]
 apply List.map_congr_left
 intro c hc
 exact qE _ _ c fun c _=>ren_ren _ _ c
theorem stRef_ren (s:StL) (k:Nat):renL (swp (.n 899) (.s 900 k)) (stRef s)=stRef s:=rfl
theorem swH_stHA {E:TypeId} {pre:List AV} (hp:InertL pre) {s:StL} {k:Nat} (hk:k<s.ths.length):swH (.n 899) (.s 900 k) (stHA E pre s k s.ths[k])=stHC E pre s:=by
 funext κ
 cases κ with
 |l j =>
  have e:swp (.n 899) (.s 900 k) (.l j)=.l j:=rfl
  by_cases h:j=0
  ·subst h
   simp only[swH,e]
   show some (Ob.vs E (renL _ (pre++stRef s)))=some (Ob.vs E (pre++stRef s))
   rw[renL_app,inertL_ren hp,stRef_ren]
  ·simp[swH,e,stHA,stHC,nbeq_ne h]
 |n j =>
  by_cases h1:j=899
  ·subst h1
   have e:swp (.n 899) (.s 900 k) (.n 899)=.s 900 k:=rfl
   simp only[swH,e]
   show(bif Nat.beq k k then none else zS s.ths k).map _=none
   rw[nbeq_self];rfl
  have e:swp (.n 899) (.s 900 k) (.n j)=.n j:=by simp[swp,Key.beq,nbeq_ne h1]
  simp only[swH,e]
  by_cases h2:j=900
  ·subst h2
   show some (Ob.rs 109 6 ((rowsA s.ths k s.ths[k]).map (renL (swp (.n 899) (.s 900 k)))))=some (Ob.rs 109 6 (thRows 900 s.ths))
   rw[rowsA_back hk]
  by_cases h3:j=901
  ·subst h3;rfl
  by_cases h4:j=902
  ·subst h4;rfl
  simp[stHA,stHC,nbeq_ne h1,nbeq_ne h2,nbeq_ne h3,nbeq_ne h4]
 |s o j =>
  by_cases h:o=900
  ·subst h
   by_cases hj:j=k
   ·subst hj
    have e:swp (.n 899) (.s 900 j) (.s 900 j)=.n 899:=by simp[swp,Key.beq,nbeq_self]
    simp only[swH,e]
    show some (Ob.ds 100 1 (stk s.ths[j]))=zS s.ths j
    rw[thFam_self hk]
   ·have e:swp (.n 899) (.s 900 k) (.s 900 j)=.s 900 j:=by simp[swp,Key.beq,nbeq_ne hj]
    simp only[swH,e]
    show(bif Nat.beq j k then none else zS s.ths j).map _=zS s.ths j
    rw[nbeq_ne hj]
    exact thFam_ren _ _ _
  ·have e:swp (.n 899) (.s 900 k) (.s o j)=.s o j:=by simp[swp,Key.beq,nbeq_ne h]
   simp[swH,e,stHA,stHC,nbeq_ne h]
def AtC (E:TypeId) (pre:List AV) (s:StL) (H0:Key→Option Ob):Prop :=
 H0 (.l 0)=some (.vs E (pre++stRef s))∧H0 (.n 899)=none∧H0 (.n 900)=some (.rs 109 6 (thRows 900 s.ths))∧(∀ j,H0 (.s 900 j)=zS s.ths j)∧H0 (.n 901)=some (.ds 100 1 (s.cells.map encF))∧H0 (.n 902)=some (.ds 3 1 (s.owner.map encInt))
theorem IOCall.mono {E:Env} {g:FuncId} {xs:List AV} {H0:Key→Option Ob} {Post Post':AV→(Key→Option Ob)→Prop} (h:IOCall E g xs H0 Post) (hp:∀ r H1,Post r H1→Post' r H1):IOCall E g xs H0 Post':=by
 intro w0 A m w vs hH hl hrel
 refine(h w0 A m w vs hH hl hrel).mono ?_
 rintro v w' ⟨r,H1,m1,h1,h2,h3⟩
 exact⟨r,H1,m1,hp r H1 h1,h2,h3⟩
end Ai
namespace Ai
set_option maxRecDepth 100000
open Go Go.Proofs
theorem uI {S:St} {E:TypeId} {pre:List AV} (hp:InertL pre) {s':StL} {l:List Th} {k:Nat} {t':Th} (hk:k<l.length) (hl:s'.ths=l.set k t') (h0:S.H (.l 0)=some (.vs E (pre++stRef s'))) (h1:S.H (.n 899)=some (.ds 100 1 (stk t')))
  (h2:S.H (.n 900)=some (.rs 109 6 (rowsA l k t'))) (h3:∀ j,S.H (.s 900 j)=fam0 l k j) (h4:S.H (.n 901)=some (.ds 100 1 (s'.cells.map encF))) (h6:S.H (.n 902)=some (.ds 3 1 (s'.owner.map encInt))) :
  ∃ (h:k<s'.ths.length),yJ wA S.H=stHA E pre s' k s'.ths[k]:=by
 have hk':k<s'.ths.length:=by rw[hl];simpa using hk
 refine⟨hk',?_⟩
 have htk:s'.ths[k]=t':=by simp[hl]
 rw[htk]
 funext κ
 cases κ with
 |l j =>
  by_cases h:j=0
  ·subst h
   show(S.H (.l 0)).map _=_
   rw[h0]
   show some (Ob.vs E (scrPL _ (pre++stRef s')))=some (Ob.vs E (pre++stRef s'))
   rw[dJ,fD hp,eS]
  ·simp[yJ,wA,stHA,nbeq_ne h]
 |n j =>
  by_cases e1:j=899
  ·subst e1
   show(S.H (.n 899)).map _=_
   rw[h1];rfl
  by_cases e2:j=900
  ·subst e2
   show(S.H (.n 900)).map _=_
   rw[h2]
   show some (Ob.rs 109 6 ((rowsA l k t').map (scrPL fun o=>!wA o)))=some (Ob.rs 109 6 (rowsA s'.ths k t'))
   rw[hl,nV hk]
   exact congrArg (fun x=>some (Ob.rs 109 6 x)) (uF rfl (fun _=>rfl) _ _ _)
  by_cases e3:j=901
  ·subst e3
   show(S.H (.n 901)).map _=_
   rw[h4];rfl
  by_cases e4:j=902
  ·subst e4
   show(S.H (.n 902)).map _=_
   rw[h6];rfl
  simp[yJ,wA,stHA,nbeq_ne e1,nbeq_ne e2,nbeq_ne e3,nbeq_ne e4]
 |s o j =>
  by_cases h:o=900
  ·subst h
   show(S.H (.s 900 j)).map _=bif Nat.beq j k then none else zS s'.ths j
   rw[h3,yX]
   by_cases hj:j=k
   ·subst hj;simp[fam0,nbeq_self]
   ·unfold fam0;rw[nbeq_ne hj,hl,nQ hj]
  ·simp[yJ,wA,stHA,nbeq_ne h]
theorem eV {E:TypeId} {pre:List AV} {s:StL} {k:Nat} {t:Th}:∀ κ,wA κ=false→stHA E pre s k t κ=none
 | .l j,h=>by have h:Nat.beq j 0=false:=h;simp[stHA,h]
 | .n j,h=>by
  have h:(Nat.beq j 899 || Nat.beq j 900 || Nat.beq j 901 || Nat.beq j 902)=false:=h
  simp only[Bool.or_eq_false_iff] at h
  simp[stHA,h.1.1.1,h.1.1.2,h.1.2,h.2]
 | .s o j,h=>by have h:Nat.beq o 900=false:=h;simp[stHA,h]
theorem oZ {E:TypeId} {pre:List AV} (hp:InertL pre) (s:StL):renO (swp (.n 999) (.l 99)) (.vs E (pre++stRef s))=.vs E (pre++stRef s):=by
 show Ob.vs E (renL _ (pre++stRef s))=_
 rw[renL_app,inertL_ren hp]
 rfl
theorem gZ (l:List Th) (k:Nat) (t:Th):renO (swp (.n 999) (.l 99)) (.rs 109 6 (rowsA l k t))=.rs 109 6 (rowsA l k t):=by
 show Ob.rs 109 6 ((rowsA l k t).map (renL _))=_
 unfold rowsA
 rw[List.map_set,qU]
 rfl
theorem gY {p:Key→Bool} (h1:p (.n 899)=false) (h2:∀ j,p (.s 900 j)=false) (l:List Th) (k:Nat) (t:Th):scrPO p (.rs 109 6 (rowsA l k t))=.rs 109 6 (rowsA l k t):=congrArg (Ob.rs 109 6) (uF h1 h2 l k t)
theorem rR {x X:Ob} {f:Key→Key} (h:x=X) (hp:renO f X=X):renO f x=X:=by rw[h];exact hp
theorem FzA_ptr {S:St} {o:Key} {off:Nat} {E:TypeId} {cs:List AV} {ds:List D} (h:S.H o=some (.vs E cs)) (hf:FzC S (cs.drop off) ds):FzA S (.ptr o off) (.fp ds):=by
 simp only[FzA,h]
 exact⟨ds,rfl,hf⟩
theorem fz_stA {S:St} {s:StL} {k:Nat} {t:Th} {els:List (List D)} (hk:k<s.ths.length) (ht:s.ths[k]=t) (h9:S.H (.n 900)=some (.rs 109 6 (rowsA s.ths k t))) (hfam:∀ j,j≠k→(h:j<s.ths.length)→S.H (.s 900 j)=some (.ds 100 1 (stk s.ths[j])))
  (h8:S.H (.n 899)=some (.ds 100 1 els)) (he:els.take t.stack.length=stk t) (h3:S.H (.n 901)=some (.ds 100 1 (s.cells.map encF))) (h4:S.H (.n 902)=some (.ds 3 1 (s.owner.map encInt))):FzC S (stRef s) (encSt s):=by
 have hv:=lC hk h9 hfam h8 he
 rw[← ht,List.set_getElem_self] at hv
 refine⟨.sl (s.ths.map zF),_,rfl,⟨_,rfl,hv⟩,.sl (s.cells.map encF),_,rfl,?_,.sl (s.owner.map encInt),_,rfl,?_,di s.fault,[],rfl,rfl,rfl⟩
 ·simp[FzD,fz1,h3,List.take_of_length_le]
 ·simp[FzD,fz1,h4,List.take_of_length_le]
theorem tN {X:List (List AV)} {l:List Th} {k:Nat} {t:Th} (h:k<l.length) (hX:X=rowsA l k t):X[((k:Nat):Int).toNat]?=some (yE t):=by
 rw[hX];exact zN h
theorem fault_vs {pre:List AV} {s:StL} {n:Int} {L:List AV} (hL:L=pre++stRef s):zW L (pre.length+3) [i64 n]=pre++stRef { s with fault:=n }:=by
 subst hL
 induction pre with
 |nil=>rfl
 |cons x xs ih =>
  show zW (x::(xs++stRef s)) (xs.length+1+3) [i64 n]=x::(xs++_)
  rw[show xs.length+1+3=(xs.length+3)+1 from by omega]
  exact congrArg (x::·) ih
theorem stepI_A (hI:yP) (E:TypeId) (x0 x1 x2:AV) (i0:Inert x0) (i1:Inert x1) (i2:Inert x2) (p:ProgL) (s:StL) (k:Nat) (hp:p.wf) (hk:k<s.ths.length) (h5:s.ths.length≤5)
  (hs:s.small) (hr:s.ths[k].ready p s k) (hst3:s.ths[k].st≠3) (hfl:∀ x∈s.ths[k].stack,x<18446744073709551616) (hjo:∀ o,yA p s.ths[k]=some o→zV s k o=0→o.code=15→∃ j,yR (yL s.ths[k] o 0) s.ths.length=some j∧zU s s.ths[k]=some j)
  (H0:Key→Option Ob) (h0:H0 (.l 0)=some (.vs E ([x0,x1,x2]++stRef s))) (h1:H0 (.n 899)=some (.ds 100 1 (stk s.ths[k]))) (h2:H0 (.n 900)=some (.rs 109 6 (rowsA s.ths k s.ths[k]))) (h3:∀ j,H0 (.s 900 j)=fam0 s.ths k j)
  (h4:H0 (.n 901)=some (.ds 100 1 (s.cells.map encF))) (h6:H0 (.n 902)=some (.ds 3 1 (s.owner.map encInt))) :
  IOCall EE 129 [.ptr (.l 0) 3,agg (encProg p),i64 k] H0 (doIPost E [x0,x1,x2] k (stepL p s k).1 (stepL p s k).2):=by
 refine io_of_AW (fn:=Tryz.f129) (c:=Tryz.f129.body.getD .skip) Tryz.func129 rfl (by kernel_rfl) rfl ?_
 have hat:At [(0,.ptr (.l 0) 3),(1,agg (encProg p)),(2,i64 k)] [(.l 0,.vs E ([x0,x1,x2]++stRef s)),(.n 899,.ds 100 1 (stk s.ths[k])),(.n 900,.rs 109 6 (rowsA s.ths k s.ths[k])),(.n 901,.ds 100 1 (s.cells.map encF)),(.n 902,.ds 3 1 (s.owner.map encInt))] [(900,fam0 s.ths k)]
   ⟨fun i=>[AV.ptr (.l 0) 3,agg (encProg p),i64 k].getD i .junk,H0⟩ :=
  ⟨⟨rfl,rfl,rfl,trivial⟩,⟨h0,h1,h2,h4,h6,trivial⟩,⟨h3,trivial⟩⟩
 obtain⟨τ,H,hf⟩:=hat.form
 rw[hf]
 have hst:=hs.2.1 _ (List.getElem_mem hk)
 have hgd:s.ths.getD k th0=s.ths[k]:=by simp[List.getD_eq_getElem?_getD,hk]
 have hp3:InertL [x0,x1,x2]:=by
  intro x hx
  simp only[List.mem_cons,List.not_mem_nil,or_false] at hx
  rcases hx with rfl|rfl|rfl <;> assumption
 have hpc:=hr.pc
 clear hat hf h0 h1 h2 h3 h4 h6
 generalize ht0:s.ths[k]=t at *
 conv=>whnf
 refine⟨⟨by omega,by omega⟩,?_⟩
 conv=>whnf
 refine⟨yE t,⟨by repeat (first|exact zN hk|refine yZ ?_ (zX rfl t)),by simp[yE]⟩,?_⟩
 conv=>whnf
 refine .inr (.inl ⟨10,[],?_⟩)
 conv=>whnf
 refine⟨yE t,⟨by repeat (first|exact zN hk|refine yZ ?_ (zX rfl t)),by simp[yE]⟩,?_⟩
 conv=>whnf
 refine⟨_,Eq.mp (congrArg (fun x=>CallsTo EE 160 [agg (encProg p),.agg [i64 t.rt,i64 t.pc,i64 t.st,i64 t.cond,i64 t.lock,sl x]] _) (qV t).symm) (tT p t hp hr.inP),?_,?_⟩
 ·intro c hc
  simp only[List.mem_cons,List.not_mem_nil,or_false] at hc
  rcases hc with rfl|rfl
  ·exact .inr ⟨encOp _,rfl,rfl⟩
  ·exact .inl ⟨_,rfl,rfl⟩
 conv=>whnf
 refine⟨by kernel_rfl,?_⟩
 conv=>whnf
 refine⟨yE t,⟨by repeat (first|exact zN hk|refine yZ ?_ (zX rfl t)),by simp[yE]⟩,?_⟩
 conv=>whnf
 have hp3:InertL [x0,x1,x2]:=by
  intro x hx
  simp only[List.mem_cons,List.not_mem_nil,or_false] at hx
  rcases hx with rfl|rfl|rfl <;> assumption
 refine kbi (fun h4=>?_) (fun h4=>?_)
 ·have h4:t.st=4:=by simpa using h4
  have hlk:=hr.lock h4
  have hd:stepL p s k=({ s with owner:=s.owner.set t.lock.toNat ((k:Nat):Int) }.put k { t with st:=1,cond:=-1,lock:=-1,pc:=if (yA p t).isSome=true then t.pc+1 else t.pc },{ ev0 k t with kind:=9,obj:=t.cond,lock:=t.lock }):=by
   unfold stepL;rw[hgd,if_pos h4]
  conv=>whnf
  refine .inr (.inl ⟨12,[],?_⟩)
  conv=>whnf
  refine⟨yE t,⟨by repeat (first|exact zN hk|refine yZ ?_ (zX rfl _)),by simp[yE]⟩,?_⟩
  conv=>whnf
  refine⟨yE t,⟨by repeat (first|exact zN hk|refine yZ ?_ (zX rfl _)),by simp[yE]⟩,?_⟩
  conv=>whnf
  refine⟨by kernel_rfl,?_⟩
  conv=>whnf
  refine .inr (.inl ⟨9,[],?_⟩)
  conv=>whnf
  refine⟨yE t,⟨by repeat (first|exact zN hk|refine yZ ?_ (zX rfl _)),by simp[yE]⟩,?_⟩
  conv=>whnf
  refine⟨by kernel_rfl,?_⟩
  conv=>whnf
  refine⟨⟨by omega,by omega⟩,?_⟩
  conv=>whnf
  refine .inr (.inl ⟨7,[],?_⟩)
  conv=>whnf
  refine⟨yE { t with st:=1,cond:=-1,lock:=-1 },⟨yZ (tN hk ?_) (zX rfl _),by simp[yE]⟩,?_⟩
  ·apply vS
   ·repeat (first|exact rfl|apply xQ hk|apply xP (fun _=>rfl))
   ·rfl
  conv=>whnf
  refine⟨_,qK _,?_⟩
  conv=>whnf
  refine⟨by kernel_rfl,?_⟩
  conv=>whnf
  refine⟨_,Weak.refl,?_⟩
  conv=>whnf
  rw[hd]
  refine⟨wA,by rfl,?_⟩
  refine uI hp3 (l:=s.ths) (t':={ t with st:=1,cond:=-1,lock:=-1,pc:=if (yA p t).isSome=true then t.pc+1 else t.pc }) hk rfl ?_ ?_ ?_ (fun j=>?_) ?_ ?_
  ·refine Eq.trans ?_ (congrArg (fun x=>some (Ob.vs E ([x0,x1,x2]++x))) (show stRef s=stRef _ by simp[stRef,StL.put]))
   conv=>lhs;whnf
   all_goals (
    refine congrArg some ?_
    repeat (refine yK ?_ (xL i0 i1 i2 s rfl))
    all_goals rfl)
  ·rfl
  ·conv=>lhs;whnf
   all_goals (
    refine congrArg (fun x=>some (Ob.rs 109 6 x)) ?_
    apply vS
    ·repeat (first|exact rfl|apply xQ hk|apply xP (fun _=>rfl))
    ·have ew:IntKind.i64.wrap (t.pc+(if (yA p t).isSome=true then 1 else 0))=(if (yA p t).isSome=true then t.pc+1 else t.pc):=by have a:=hpc.1;have b:=hpc.2;split <;> rw[zE (by omega) (by omega)];omega
     show[_,AV.d (.int .i64 (IntKind.i64.wrap (t.pc+(if (yA p t).isSome=true then 1 else 0)))),_,_,_,_]=_
     rw[ew]
     rfl)
  ·repeat (first|exact rfl|refine hscrO ?_ (yX _ _ _ _)|conv=>lhs;whnf)
  ·rfl
  ·conv=>lhs;whnf
   show some (Ob.ds 3 1 ((s.owner.map encInt).set (0+t.lock.toNat) (encInt ((k:Nat):Int))))=some (Ob.ds 3 1 ((s.owner.set t.lock.toNat ((k:Nat):Int)).map encInt))
   rw[Nat.zero_add,List.map_set]
 have h4:¬ t.st=4:=by simpa using h4
 cases hn:yA p t with
 |none =>
  conv=>whnf
  have hd:stepL p s k=(s.put k { t with st:=2 },{ ev0 k t with kind:=11 }):=by
   unfold stepL;rw[hgd];simp[h4,hn]
  refine⟨_,Weak.refl,?_⟩
  conv=>whnf
  rw[hd]
  refine⟨wA,by rfl,?_⟩
  refine uI hp3 (l:=s.ths) (t':={ t with st:=2 }) hk rfl ?_ ?_ ?_ (fun j=>?_) ?_ ?_
  ·refine Eq.trans ?_ (congrArg (fun x=>some (Ob.vs E ([x0,x1,x2]++x))) (show stRef s=stRef _ by simp[stRef,StL.put]))
   conv=>lhs;whnf
   all_goals (
    refine congrArg some ?_
    repeat (refine yK ?_ (xL i0 i1 i2 s rfl))
    all_goals rfl)
  ·rfl
  ·conv=>lhs;whnf
   all_goals (
    refine congrArg (fun x=>some (Ob.rs 109 6 x)) ?_
    apply vS
    ·repeat (first|exact rfl|apply xQ hk|apply xP (fun _=>rfl))
    ·rfl)
  ·repeat (first|exact rfl|refine hscrO ?_ (yX _ _ _ _)|conv=>lhs;whnf)
  ·rfl
  ·rfl
 |some o =>
  obtain⟨hoS,hoF⟩:=hr.op o hn
  conv=>whnf
  refine .inl ⟨[.fp (encSt s),i64 k,agg (encOp o)],[],_,⟨_,_,rfl,FzA_ptr (E:=E) (cs:=[x0,x1,x2]++stRef s) ?_ (fz_stA (k:=k) (t:=t) (els:=stk t) hk ht0 ?_ (fun j hj hjl=>?_) rfl (by simp[stk,List.take_of_length_le]) ?_ ?_),_,_,rfl,rfl,_,_,rfl,⟨encOp o,rfl,_,_,rfl,rfl,_,_,rfl,rfl,_,_,rfl,rfl,_,_,rfl,rfl,rfl⟩,rfl⟩,rfl,oC hI s k o hk hs hoS,?_⟩
  ·conv=>lhs;whnf
   all_goals (
    refine congrArg some ?_
    repeat (refine yK ?_ (xL i0 i1 i2 s rfl))
    all_goals rfl)
  ·conv=>lhs;whnf
   all_goals (
    refine congrArg (fun x=>some (Ob.rs 109 6 x)) ?_
    repeat (first|exact rfl|refine qD ?_ rfl (fun _=>rfl)))
  ·refine Eq.trans (b:=fam0 s.ths k j) ?_ (by simp[fam0,nbeq_ne hj,zS,hjl])
   repeat (first|exact rfl|refine hscrO ?_ (yX _ _ _ _)|conv=>lhs;whnf)
  ·rfl
  ·rfl
  rintro r rfl
  refine⟨rfl,?_⟩
  conv=>whnf
  refine kbi (fun h6=>?_) (fun h6=>?_)
  ·have h6:¬ zV s k o=0:=by simpa using h6
   have hd:stepL p s k=({ s with fault:=zV s k o },{ ev0 k t with kind:=12,obj:=zV s k o }):=by
    unfold stepL;rw[hgd];simp[h4,hn,h6]
   conv=>whnf
   refine⟨_,Weak.refl,?_⟩
   conv=>whnf
   rw[hd]
   refine⟨wA,by rfl,?_⟩
   refine uI hp3 (l:=s.ths) (t':=t) hk (by show s.ths=s.ths.set k t;rw[← ht0,List.set_getElem_self]) ?_ ?_ ?_ (fun j=>?_) ?_ ?_
   ·conv=>lhs;whnf
    refine congrArg some ?_
    repeat (refine yK ?_ (xL i0 i1 i2 { s with fault:=zV s k o } rfl))
    refine congrArg (Ob.vs E) (fault_vs (pre:=[x0,x1,x2]) ?_)
    repeat (refine hscrL ?_ (n4 i0 i1 i2 s rfl))
    all_goals rfl
   ·rfl
   ·conv=>lhs;whnf
    all_goals (
     refine congrArg (fun x=>some (Ob.rs 109 6 x)) ?_
     apply vS
     ·repeat (first|exact rfl|apply xQ hk|apply xP (fun _=>rfl))
     ·rfl)
   ·repeat (first|exact rfl|refine hscrO ?_ (yX _ _ _ _)|conv=>lhs;whnf)
   ·rfl
   ·rfl
  ·have h6:zV s k o=0:=by simpa using h6
   have hd:stepL p s k=doL s k o (ev0 k t):=by
    unfold stepL;rw[hgd];simp[h4,hn,h6]
   conv=>whnf
   refine .inr (.inl ⟨999,99,wA,_,doI_okA hI E x0 x1 x2 i0 i1 i2 s k o { ev0 k t with kind:=1 } hk h5 hs (by rw[ht0];exact hoF h6) (by rw[ht0];exact hpc) (by rw[ht0];exact hst3) rfl rfl (by rw[ht0];exact hfl) (by rw[ht0];exact hjo o hn h6) _ ?_ ?_ ?_ (fun j=>?_) ?_ ?_,rfl,?_⟩)
   ·conv=>lhs;whnf
    refine congrArg some ?_
    repeat (first|exact rfl|refine yK ?_ (xL i0 i1 i2 s rfl)|refine rR ?_ (oZ hp3 s))
   ·rw[ht0]
    rfl
   ·rw[ht0]
    conv=>lhs;whnf
    refine congrArg some ?_
    repeat (first|exact rfl|refine yK ?_ (gY rfl (fun _=>rfl) _ _ _)|refine rR ?_ (gZ _ _ _))
   ·repeat (first|exact rfl|refine hscrO ?_ (yX _ _ _ _)|refine iT ?_ (gP _ _ _ _)|conv=>lhs;whnf)
   ·rfl
   ·rfl
   rintro r H1 ⟨rfl,hk2,rfl⟩
   refine⟨eV,?_,?_⟩
   ·intro n hn
    have:n=0:=by simpa[wA] using hn
    subst this
    exact⟨E,_,_,rfl,rfl⟩
   conv=>whnf
   refine⟨_,Weak.refl,?_⟩
   conv=>whnf
   rw[hd]
   refine⟨wA,by rfl,?_⟩
   refine uI hp3 (l:=(doL s k o (ev0 k t)).1.ths) (t':=(doL s k o (ev0 k t)).1.ths[k]) hk2 (List.set_getElem_self _).symm ?_ ?_ ?_ (fun j=>?_) ?_ ?_
   ·conv=>lhs;whnf
    refine congrArg some ?_
    repeat (first|exact rfl|refine yK ?_ (xL i0 i1 i2 _ rfl)|refine rR ?_ (oZ hp3 _))
   ·rfl
   ·conv=>lhs;whnf
    refine congrArg some ?_
    repeat (first|exact rfl|refine yK ?_ (gY rfl (fun _=>rfl) _ _ _)|refine rR ?_ (gZ _ _ _))
   ·refine Eq.trans (b:=fam0 (doL s k o (ev0 k t)).1.ths k j) ?_ rfl
    repeat (first|exact rfl|refine hscrO ?_ (yX _ _ _ _)|refine iT ?_ (gP _ _ _ _)|conv=>lhs;whnf)
   ·rfl
   ·rfl
end Ai
namespace Ai
set_option maxRecDepth 100000
open Go Go.Proofs
theorem io_canon {E : TypeId} {pre : List AV} (hp : InertL pre) {s s' : StL} {k : Nat} {e' : Ev} {H0 : Key → Option Ob} {g : FuncId} {xs : List AV} (hk : k < s.ths.length) (hx : xs.map (ren (swp (.n 899) (.s 900 k))) = xs) (hH : AtC E pre s H0)
    (h : ∀ H0 : Key → Option Ob, H0 (.l 0) = some (.vs E (pre ++ stRef s)) → H0 (.n 899) = some (.ds 100 1 (stk s.ths[k])) → H0 (.n 900) = some (.rs 109 6 (rowsA s.ths k s.ths[k])) → (∀ j, H0 (.s 900 j) = fam0 s.ths k j) →
      H0 (.n 901) = some (.ds 100 1 (s.cells.map encF)) → H0 (.n 902) = some (.ds 3 1 (s.owner.map encInt)) → IOCall EE g xs H0 (doIPost E pre k s' e')) :
    IOCall EE g xs H0 (fun r H1 => r = agg (encEv e') ∧ H1 = stHC E pre s') := by
  obtain ⟨h0, h1, h2, h3, h4, h6⟩ := hH
  have eH : ∀ {κ κ' : Key} {ob : Ob}, swp (.n 899) (.s 900 k) κ = κ' → H0 κ' = some ob → swH (.n 899) (.s 900 k) H0 κ = some (renO (swp (.n 899) (.s 900 k)) ob) := fun e1 e2 => by simp [swH, e1, e2]
  have := h (swH (.n 899) (.s 900 k) H0)
    (by rw [eH (κ := .l 0) (κ' := .l 0) rfl h0]
        show some (Ob.vs E (renL _ (pre ++ stRef s))) = _
        rw [renL_app, inertL_ren hp, stRef_ren])
    (by rw [eH (κ := .n 899) (κ' := .s 900 k) rfl ((h3 k).trans (thFam_self hk))]; rfl)
    (by rw [eH (κ := .n 900) (κ' := .n 900) rfl h2]
        show some (Ob.rs 109 6 ((thRows 900 s.ths).map (renL (swp (.n 899) (.s 900 k))))) = _
        rw [rowsA_sw hk])
    (fun j => by
      by_cases hj : j = k
      · subst hj
        have e : swp (.n 899) (.s 900 j) (.s 900 j) = .n 899 := by simp [swp, Key.beq, nbeq_self]
        simp only [swH, e, h1, fam0, nbeq_self]; rfl
      · have e : swp (.n 899) (.s 900 k) (.s 900 j) = .s 900 j := by simp [swp, Key.beq, nbeq_ne hj]
        simp only [swH, e, h3, fam0, nbeq_ne hj]
        exact thFam_ren _ _ _)
    (by rw [eH (κ := .n 901) (κ' := .n 901) rfl h4]; rfl) (by rw [eH (κ := .n 902) (κ' := .n 902) rfl h6]; rfl)
  have := IOCall.sw (.n 899) (.s 900 k) (fun n h => by cases h) (fun n h => by cases h) this
  rw [swH_swH, hx] at this
  refine IOCall.mono this fun r H1 ⟨hr, hk', hh⟩ => ⟨?_, ?_⟩
  · have : ren (swp (.n 899) (.s 900 k)) (ren (swp (.n 899) (.s 900 k)) r) = ren (swp (.n 899) (.s 900 k)) (agg (encEv e')) := by rw [hr]
    rw [ren_ren] at this
    rw [this]; rfl
  · have : swH (.n 899) (.s 900 k) (swH (.n 899) (.s 900 k) H1) = swH (.n 899) (.s 900 k) (stHA E pre s' k s'.ths[k]) := by rw [hh]
    rw [swH_swH, swH_stHA hp] at this
    exact this
theorem agg_ren (f:Key→Key) (l:List D):ren f (agg l)=agg l:=by
 show AV.agg (renL f (l.map .d))=_
 have:∀ l:List D,renL f (l.map .d)=l.map .d:=by
  intro l
  induction l with
  |nil=>rfl
  |cons x xs ih=>simp only[List.map_cons,renL,ih];rfl
 rw[this];rfl
theorem stepI_ok (hI:yP) (E:TypeId) (x0 x1 x2:AV) (i0:Inert x0) (i1:Inert x1) (i2:Inert x2) (p:ProgL) (s:StL) (k:Nat) (hp:p.wf) (hk:k<s.ths.length) (h5:s.ths.length≤5)
  (hs:s.small) (hr:s.ths[k].ready p s k) (hst3:s.ths[k].st≠3) (hfl:∀ x∈s.ths[k].stack,x<18446744073709551616) (hjo:∀ o,yA p s.ths[k]=some o→zV s k o=0→o.code=15→∃ j,yR (yL s.ths[k] o 0) s.ths.length=some j∧zU s s.ths[k]=some j)
  (H0:Key→Option Ob) (hH:AtC E [x0,x1,x2] s H0) :
  IOCall EE 129 [.ptr (.l 0) 3,agg (encProg p),i64 k] H0 (fun r H1=>r=agg (encEv (stepL p s k).2)∧H1=stHC E [x0,x1,x2] (stepL p s k).1):=by
 have hp3:InertL [x0,x1,x2]:=by
  intro x hx
  simp only[List.mem_cons,List.not_mem_nil,or_false] at hx
  rcases hx with rfl|rfl|rfl <;> assumption
 refine io_canon hp3 hk ?_ hH fun H0 a b c d e f=>stepI_A hI E x0 x1 x2 i0 i1 i2 p s k hp hk h5 hs hr hst3 hfl hjo H0 a b c d e f
 simp only[List.map_cons,List.map_nil,agg_ren]
 rfl
end Ai
namespace Ai
set_option maxRecDepth 100000
open Go Go.Proofs
structure RunI (p:ProgL) (Inv:StL→Prop):Prop where
 small:∀ s,Inv s→s.small∧s.ths.length≤5
 seen:∀ s,Inv s→∀ t∈s.ths,t.seen p s
 ready:∀ s,Inv s→∀ k,k∈enabledL p s→(h:k<s.ths.length)→s.ths[k].ready p s k
 awake:∀ s,Inv s→∀ k,k∈enabledL p s→(h:k<s.ths.length)→s.ths[k].st≠3
 flt:∀ s,Inv s→∀ t∈s.ths,∀ x∈t.stack,x<18446744073709551616
 joins:∀ s,Inv s→∀ k,k∈enabledL p s→(h:k<s.ths.length)→∀ o,yA p s.ths[k]=some o→zV s k o=0→o.code=15→∃ j,yR (yL s.ths[k] o 0) s.ths.length=some j∧zU s s.ths[k]=some j
 step:∀ s,Inv s→∀ k∈enabledL p s,Inv (stepL p s k).1
def numA (k:Nat):Nat:=bif Nat.beq k 900 then 903 else bif Nat.beq k 903 then 900 else bif Nat.beq k 901 then 904 else bif Nat.beq k 904 then 901 else bif Nat.beq k 902 then 905 else bif Nat.beq k 905 then 902 else k
theorem numA_numA (k:Nat):numA (numA k)=k:=by
 by_cases h1:k=900
 ·subst h1;rfl
 by_cases h2:k=903
 ·subst h2;rfl
 by_cases h3:k=901
 ·subst h3;rfl
 by_cases h4:k=904
 ·subst h4;rfl
 by_cases h5:k=902
 ·subst h5;rfl
 by_cases h6:k=905
 ·subst h6;rfl
 simp[numA,nbeq_ne h1,nbeq_ne h2,nbeq_ne h3,nbeq_ne h4,nbeq_ne h5,nbeq_ne h6]
def shN (g:Nat→Nat):Key→Key
 | .n k=>.n (g k)
 | .s o j=>.s (g o) j
 | .l k=>.l k
def mkSh (g:Nat→Nat) (hg:∀ k,g (g k)=k):Sh:=⟨⟨shN g,fun κ=>by cases κ <;> simp[shN,hg]⟩,fun _=>rfl⟩
def shA:Sh:=mkSh numA numA_numA
end Ai
namespace Ai
set_option maxRecDepth 100000
open Go Go.Proofs
def bI (n:Nat):Code→Option (Array Oper)
 | .region i ops _=>bif Nat.beq i n then some ops else none
 | .seq a b=>match bI n a with|some x=>some x|none=>bI n b
 | .cond _ a b=>match bI n a with|some x=>some x|none=>bI n b
 | .block _ a=>bI n a
 | .loop a=>bI n a
 | _=>none
theorem w9 (x:D):Inert (.d x):=⟨fun _=>rfl,fun _=>rfl,fun _ _=>rfl⟩
def mW:Key→Bool
 | .n k=>Nat.beq k 900 || Nat.beq k 901 || Nat.beq k 902
 | .s o _=>Nat.beq o 900
 | .l k=>Nat.beq k 0
theorem eU {E:TypeId} {pre:List AV} {s:StL}:∀ κ,mW κ=false→stHC E pre s κ=none
 | .l j,h=>by have h:Nat.beq j 0=false:=h;simp[stHC,h]
 | .n j,h=>by
  have h:(Nat.beq j 900 || Nat.beq j 901 || Nat.beq j 902)=false:=h
  simp only[Bool.or_eq_false_iff] at h
  simp[stHC,h.1.1,h.1.2,h.2]
 | .s o j,h=>by have h:Nat.beq o 900=false:=h;simp[stHC,h]
end Ai
namespace Ai
set_option maxRecDepth 100000
open Go Go.Proofs Ieee
theorem order_symm {x y:Nat}:double.order x y=some .eq↔double.order y x=some .eq:=by
 have key:∀ {x y:Nat},double.order x y=some .eq→double.order y x=some .eq:=by
  intro x y h
  unfold Format.order at *
  cases hx:double.read x with
  |nan s f=>rw[hx] at h;cases h
  |infinity s =>
   cases hy:double.read y with
   |nan t f=>rw[hx,hy] at h;cases h
   |infinity t=>rw[hx,hy] at h;cases s <;> cases t <;> first|rfl|cases h
   |number t n i=>rw[hx,hy] at h;cases s <;> cases h
  |number s m e =>
   cases hy:double.read y with
   |nan t f=>rw[hx,hy] at h;cases h
   |infinity t=>rw[hx,hy] at h;cases t <;> cases h
   |number t n i =>
    rw[hx,hy] at h
    simp only[Datum.order,Option.some.injEq] at h ⊢
    have h:=Std.LawfulEqCmp.eq_of_compare h
    rw[Int.min_comm i e,h]
    exact Std.ReflCmp.compare_self
 exact⟨key,key⟩
theorem eql_symm {x y:Nat}:fcmp .eql x y=fcmp .eql y x:=by
 have:∀ a b:Nat,fcmp .eql a b=true↔double.order a b=some .eq:=fun a b=>by simp[fcmp]
 rw[Bool.eq_iff_iff,this,this]
 exact order_symm
theorem near_cut:(List.range 1001).all (fun q=>canon (double.nearest false q 0)==FloatKind.f64.nearest (q:Int))=true:=by decide +kernel
theorem near_cut' {q:Nat} (h:q≤1000):canon (double.nearest false q 0)=FloatKind.f64.nearest (q:Int):=by
 have:=near_cut
 simp only[List.all_eq_true,List.mem_range,beq_iff_eq] at this
 exact this q (by omega)
theorem inI56_ok (n lo hi:Int):CallsTo EE 80 [i64 n,i64 lo,i64 hi] (·=bp (InR n lo hi)):=by
 refine callsTo_of_AW (fn:=Tryz.f80) Tryz.func80 rfl (by kernel_rfl) rfl ?_
 conv=>whnf
 repeat' (refine kbi (fun h=>?_) (fun h=>?_) <;> first|contradiction|conv=>whnf)
 all_goals simp only[decide_eq_true_eq] at *
 all_goals first|exact bpt (by unfold InR;omega)|exact bpf (by unfold InR;omega)
theorem cE {x:Nat} {many n:Int} (h1:1≤many∧many≤1000) (hx0:fcmp .lss x 0=false) (hxm:fcmp .lss x (FloatKind.f64.nearest many)=true) (hn:floatToIntVal .f64 x .i64=some n) (hr:0≤n∧n<many) :
  (wG x=2∨wG x=3)↔fcmp .eql (FloatKind.f64.nearest n) x=true:=by
 have hdec:FloatKind.f64.decode x=double.read x:=rfl
 unfold floatToIntVal at hn
 rw[hdec] at hn
 have z0:FloatKind.f64.nearest 0=0:=by decide
 unfold wG
 cases hd:double.read x with
 |nan s f =>
  rw[hd] at hn;cases hn
 |infinity s=>rw[hd] at hn;cases hn
 |number s m i =>
  have hnan:¬ zM x=true:=by unfold zM;rw[hd];simp[Datum.isNaN]
  rw[if_neg hnan]
  rw[hd] at hn
  simp only[Datum.toInt,Datum.integral] at hn
  simp only
  have hcut0:m=0→Toward.cut .zero s (m <<< i.toNat) (-i).toNat=0:=by
   rintro rfl
   rw[cZ];simp
  by_cases e0:fcmp .eql x 0=true
  ·rw[if_pos e0]
   have hm:m=0:=by
    have o:double.order x 0=some .eq:=by simpa[fcmp] using e0
    unfold Format.order at o
    rw[hd,gF] at o
    simp only[Datum.order,Option.some.injEq] at o
    have o:=Std.LawfulEqCmp.eq_of_compare o
    simp only[signed,Nat.shiftLeft_eq] at o
    have:0<2 ^ (i - min i double.leastPlace).toNat:=Nat.pow_pos (by decide)
    have o2:m*2 ^ (i - min i double.leastPlace).toNat=0:=by
     simp only[Nat.zero_mul] at o
     generalize m*2 ^ (i - min i double.leastPlace).toNat=u at o ⊢
     cases s <;> simp at o <;> omega
    rcases Nat.mul_eq_zero.1 o2 with e|e
    ·exact e
    ·omega
   have hn0:n=0:=by
    rw[hcut0 hm] at hn
    split at hn
    ·simp only[Option.some.injEq] at hn
     rw[← hn]
     cases s <;> rfl
    ·cases hn
   subst hn0
   rw[z0,eql_symm,e0]
   simp
  ·rw[if_neg e0]
   have hs:s=false:=by
    cases s with
    |false=>rfl
    |true =>
     exfalso
     have o:double.order x 0≠some .lt:=by simpa[fcmp] using hx0
     have o2:double.order x 0≠some .eq:=by simpa[fcmp] using e0
     unfold Format.order at o o2
     rw[hd,gF] at o o2
     simp only[Datum.order,Option.some.injEq,ne_eq] at o o2
     rw[cmp_lt] at o
     simp only[signed,if_true,Nat.shiftLeft_eq,Nat.zero_mul] at o o2
     by_cases hm:m=0
     ·subst hm;simp at o2;try exact o2 rfl
     ·have:0<m*2 ^ (i - min i double.leastPlace).toNat:=Nat.mul_pos (by omega) (Nat.pow_pos (by decide))
      generalize m*2 ^ (i - min i double.leastPlace).toNat=u at o o2 this
      simp at o
      omega
   subst hs
   generalize hq:Toward.cut .zero false (m <<< i.toNat) (-i).toNat=q at *
   have hnq:n=(q:Int):=by
    split at hn
    ·simp only[Option.some.injEq] at hn
     rw[← hn]
     show((q <<< 0:Nat):Int)=q
     rw[Nat.shiftLeft_zero]
    ·cases hn
   have ht:lD x=FloatKind.f64.nearest n:=by
    unfold lD
    rw[hd]
    simp only[Datum.integral,hq,Format.write]
    rw[hnq,near_cut' (by omega)]
   rw[ht,eql_symm]
   by_cases h:fcmp .eql (FloatKind.f64.nearest n) x=true
   ·rw[if_pos h];simp[h]
   ·rw[if_neg h];simp[h]
theorem kind_nan {x:Nat} (h:wG x=2∨wG x=3):zM x=false:=by
 cases hn:zM x with
 |false=>rfl
 |true =>
  exfalso
  have:wG x=0:=by unfold wG;rw[if_pos hn]
  omega
theorem geq_lss {x y:Nat} (h:fcmp .geq x y=true) (e:fcmp .lss x y=true):False:=by
 have h:(double.order x y==some .gt || double.order x y==some .eq)=true:=h
 have e:(double.order x y==some .lt)=true:=e
 simp only[Bool.or_eq_true,beq_iff_eq] at h e
 rw[e] at h
 rcases h with h|h <;> cases h
theorem rH {x:Nat} {many:Int} (h1:InR many 1 1000) (hn:zM x=false) (h:fcmp .geq x (FloatKind.f64.nearest many)=false):fcmp .lss x (FloatKind.f64.nearest many)=true:=by
 obtain⟨b,rfl⟩:∃ b:Nat,many=(b:Int):=⟨many.toNat,by have:=h1.1;omega⟩
 obtain⟨k,hk⟩:=iI (m:=b) (by have:=h1.1;omega) (by have:=h1.2;omega)
 have h:(double.order x (FloatKind.f64.nearest (b:Int))==some .gt || double.order x (FloatKind.f64.nearest (b:Int))==some .eq)=false:=h
 show(double.order x (FloatKind.f64.nearest (b:Int))==some .lt)=true
 obtain⟨c,hc⟩:∃ c,double.order x (FloatKind.f64.nearest (b:Int))=some c:=by
  unfold Format.order
  rw[hk]
  unfold zM at hn
  cases hd:double.read x with
  |nan s f=>rw[hd] at hn;cases hn
  |infinity s=>exact⟨_,rfl⟩
  |number s m e=>exact⟨_,rfl⟩
 rw[hc] at h ⊢
 cases c with
 |lt=>rfl
 |eq=>cases h
 |gt=>cases h
theorem idx_none {x:Nat} {many:Int} (hk:¬ (wG x=2∨wG x=3)):yR x many=none:=by
 unfold yR
 split
 ·rename_i hc
  obtain⟨n,g1,g2,g3⟩:=nC x many hc.1.1 hc.1.2 hc.2.1 hc.2.2
  rw[g1]
  simp only
  rw[if_neg]
  intro e
  exact hk ((cE hc.1 hc.2.1 hc.2.2 g1 ⟨g2,g3⟩).2 e)
 ·rfl
theorem lW:yP:=by
 intro x many
 refine callsTo_of_AW (fn:=Tryz.f209) Tryz.func209 rfl (by kernel_rfl) rfl ?_
 conv=>whnf
 refine⟨_,oT x,?_⟩
 rintro r rfl
 conv=>whnf
 refine ocase (inI56_ok _ _ _) (fun h1=>?_) (fun h1=>?_)
 ·conv=>whnf
  refine kbi (fun k2=>?_) (fun k2=>?_)
  ·have k2:¬ wG x=2:=by simpa using k2
   conv=>whnf
   refine kbi (fun k3=>?_) (fun k3=>?_)
   ·have k3:¬ wG x=3:=by simpa using k3
    conv=>whnf
    rw[idx_none (by omega)]
    rfl
   have hk:wG x=2∨wG x=3:=.inr (by simpa using k3)
   conv=>whnf
   refine kbi (fun hx0=>?_) (fun hx0=>?_)
   ·have hx0:fcmp .lss x 0=true:=hx0
    conv=>whnf
    rw[show yR x many=none by unfold yR;rw[if_neg];rintro⟨_,e,_⟩;rw[hx0] at e;cases e]
    rfl
   have hx0:fcmp .lss x 0=false:=by
    have hx0:¬ fcmp .lss x 0=true:=hx0
    simpa using hx0
   conv=>whnf
   refine kbi (fun hg=>?_) (fun hg=>?_)
   ·have hg:fcmp .geq x (FloatKind.f64.nearest many)=true:=hg
    conv=>whnf
    rw[show yR x many=none by unfold yR;rw[if_neg];rintro⟨_,_,e⟩;exact geq_lss hg e]
    rfl
   have hg:fcmp .geq x (FloatKind.f64.nearest many)=false:=by
    have hg:¬ fcmp .geq x (FloatKind.f64.nearest many)=true:=hg
    simpa using hg
   have hxm:=rH h1 (kind_nan hk) hg
   obtain⟨n,g1,g2,g3⟩:=nC x many h1.1 h1.2 hx0 hxm
   have he:=(cE h1 hx0 hxm g1 ⟨g2,g3⟩).1 hk
   conv=>whnf
   refine⟨n,g1,?_⟩
   conv=>whnf
   rw[show yR x many=some n by unfold yR;rw[if_pos ⟨h1,hx0,hxm⟩,g1];simp only;rw[if_pos he]]
   rfl
  ·have hk:wG x=2∨wG x=3:=.inl (by simpa using k2)
   conv=>whnf
   refine kbi (fun hx0=>?_) (fun hx0=>?_)
   ·have hx0:fcmp .lss x 0=true:=hx0
    conv=>whnf
    rw[show yR x many=none by unfold yR;rw[if_neg];rintro⟨_,e,_⟩;rw[hx0] at e;cases e]
    rfl
   have hx0:fcmp .lss x 0=false:=by
    have hx0:¬ fcmp .lss x 0=true:=hx0
    simpa using hx0
   conv=>whnf
   refine kbi (fun hg=>?_) (fun hg=>?_)
   ·have hg:fcmp .geq x (FloatKind.f64.nearest many)=true:=hg
    conv=>whnf
    rw[show yR x many=none by unfold yR;rw[if_neg];rintro⟨_,_,e⟩;exact geq_lss hg e]
    rfl
   have hg:fcmp .geq x (FloatKind.f64.nearest many)=false:=by
    have hg:¬ fcmp .geq x (FloatKind.f64.nearest many)=true:=hg
    simpa using hg
   have hxm:=rH h1 (kind_nan hk) hg
   obtain⟨n,g1,g2,g3⟩:=nC x many h1.1 h1.2 hx0 hxm
   have he:=(cE h1 hx0 hxm g1 ⟨g2,g3⟩).1 hk
   conv=>whnf
   refine⟨n,g1,?_⟩
   conv=>whnf
   rw[show yR x many=some n by unfold yR;rw[if_pos ⟨h1,hx0,hxm⟩,g1];simp only;rw[if_pos he]]
   rfl
 ·conv=>whnf
  rw[show yR x many=none by unfold yR;rw[if_neg];rintro⟨e,_⟩;exact h1 e]
  rfl
end Ai
namespace Ai
set_option maxRecDepth 100000
open Go Go.Proofs Ieee
def F64 (x:Nat):Prop:=x<18446744073709551616
theorem i8 (s:Bool) (m:Nat) (i:Int):F64 (double.nearest s m i):=by
 unfold F64 Format.nearest
 have e1:double.signWeight=9223372036854775808:=by decide
 have e2:double.infRung=9218868437227405312:=by decide
 split
 ·unfold Format.word;rw[e1];split <;> omega
 ·unfold Format.word
  rw[e1,e2]
  simp only
  generalize (max (i+↑m.log2 - ↑double.fractionBits) double.leastPlace - double.leastPlace).toNat*double.binade+Toward.even.cut s (m <<< (i - max (i+↑m.log2 - ↑double.fractionBits) double.leastPlace).toNat) (max (i+↑m.log2 - ↑double.fractionBits) double.leastPlace - i).toNat=r
  split <;> omega
theorem eK (d:Datum):F64 (double.write d):=by
 cases d with
 |number s m i=>exact i8 s m i
 |infinity s=>unfold F64 Format.write Format.word;cases s <;> decide
 |nan s f =>
  show(if s=true then double.signWeight+(double.infRung+f % double.binade) else double.infRung+f % double.binade)<18446744073709551616
  rw[show double.signWeight=9223372036854775808 by decide,show double.infRung=9218868437227405312 by decide,show double.binade=4503599627370496 by decide]
  split <;> omega
theorem nearN_f64 (n:Int):F64 (FloatKind.f64.nearest n):=eK (.number (n<0) n.natAbs 0)
theorem fop_f64 (op:BinOp) (x y:Nat):F64 (fop op x y):=by
 have hn:F64 nanC:=by unfold F64;decide
 have key:∀ o:Option Datum,F64 ((o.map double.write).getD nanC):=by
  intro o
  cases o with
  |none=>exact hn
  |some d=>exact eK d
 unfold fop floatBits
 cases op <;> first|exact hn|exact key _
theorem reckon_f64 (c:Int) (x y:Nat):F64 (yN c x y):=by
 unfold yN
 repeat' split
 all_goals first|exact fop_f64 _ _ _|(unfold F64 oneF;decide)|(unfold F64;decide)
def StL.flt (s:StL):Prop:=(∀ c∈s.cells,F64 c)∧∀ t∈s.ths,∀ x∈t.stack,F64 x
theorem wU {s:StL} {k:Nat} {t:Th} (h:s.flt) (ht:∀ x∈t.stack,F64 x):(s.put k t).flt:=by
 refine⟨h.1,fun u hu=>?_⟩
 rcases List.mem_or_eq_of_mem_set hu with e|e
 ·exact h.2 u e
 ·subst e;exact ht
theorem topN_f64 {t:Th} {o:OpL} {i:Nat} (h:∀ x∈t.stack,F64 x):F64 (yL t o i):=lV h
theorem flt_do {s:StL} {k:Nat} {o:OpL} {e:Ev} (hk:k<s.ths.length) (h:s.flt) (ho:F64 o.v):(doL s k o e).1.flt:=by
 have hgd:s.ths.getD k th0=s.ths[k]:=by simp[List.getD_eq_getElem?_getD,hk]
 have ht:=h.2 _ (List.getElem_mem hk)
 generalize s.ths[k]=t at *
 unfold doL
 simp only[hgd]
 have hpop:∀ x∈(zC t o).stack,F64 x:=fun x hx=>ht x (List.mem_of_mem_take hx)
 have hpush:∀ v,F64 v→∀ x∈(zL (zC t o) v).stack,F64 x:=by
  intro v hv x hx
  rcases List.mem_append.1 hx with e|e
  ·exact hpop x e
  ·simp only[List.mem_cons,List.not_mem_nil,or_false] at e
   subst e;exact hv
 by_cases n1:o.code=1
 ·rw[if_pos n1];exact wU h (hpush _ ho)
 rw[if_neg n1]
 by_cases n2:o.code=2
 ·rw[if_pos n2]
  refine wU h (hpush _ ?_)
  rw[List.getD_eq_getElem?_getD]
  cases hg:s.cells[o.a.toNat]? with
  |none=>unfold F64;decide
  |some c=>exact h.1 c (List.mem_of_getElem? hg)
 rw[if_neg n2]
 by_cases n3:o.code=3
 ·rw[if_pos n3]
  refine wU ⟨fun c hc=>?_,h.2⟩ hpop
  rcases List.mem_or_eq_of_mem_set hc with e|e
  ·exact h.1 c e
  ·subst e;exact topN_f64 ht
 rw[if_neg n3]
 by_cases n10:o.code=10
 ·rw[if_pos n10];exact wU h hpop
 rw[if_neg n10]
 by_cases n11:o.code=11
 ·rw[if_pos n11]
  refine wU h ?_
  split
  ·exact hpop
  ·exact hpop
 rw[if_neg n11]
 by_cases n12:o.code=12
 ·rw[if_pos n12];exact wU (s:={ s with owner:=_ }) h hpop
 rw[if_neg n12]
 by_cases n13:o.code=13
 ·rw[if_pos n13];exact wU (s:={ s with owner:=_ }) h hpop
 rw[if_neg n13]
 by_cases n14:o.code=14
 ·rw[if_pos n14]
  refine wU (s:={ s with ths:=_ }) ⟨h.1,fun u hu=>?_⟩ (hpush _ (nearN_f64 _))
  rcases List.mem_append.1 hu with e|e
  ·exact h.2 u e
  ·simp only[List.mem_cons,List.not_mem_nil,or_false] at e
   subst e;intro x hx;cases hx
 rw[if_neg n14]
 by_cases n15:o.code=15
 ·rw[if_pos n15];exact wU h hpop
 rw[if_neg n15]
 by_cases n16:o.code=16
 ·rw[if_pos n16];exact wU (s:={ s with owner:=_ }) h hpop
 rw[if_neg n16]
 by_cases n17:o.code=17
 ·rw[if_pos n17]
  cases wM s.ths o.a with
  |none=>exact wU h hpop
  |some j =>
   refine wU (s:={ s with ths:=_ }) ⟨h.1,fun u hu=>?_⟩ hpop
   obtain⟨i,hi,rfl⟩:=List.mem_iff_getElem.1 hu
   have hil:i<s.ths.length:=by simpa using hi
   have:=h.2 _ (List.getElem_mem hil)
   rw[List.getElem_modify]
   split
   ·exact this
   ·exact this
 rw[if_neg n17]
 exact wU h (hpush _ (reckon_f64 _ _ _))
theorem flt_step {p:ProgL} (hv:p.flt) {s:StL} {k:Nat} (hk:k<s.ths.length) (h:s.flt):(stepL p s k).1.flt:=by
 have hgd:s.ths.getD k th0=s.ths[k]:=by simp[List.getD_eq_getElem?_getD,hk]
 have ht:=h.2 _ (List.getElem_mem hk)
 unfold stepL
 simp only[hgd]
 split
 ·exact wU (s:={ s with owner:=_ }) h ht
 ·split
  ·exact wU h ht
  ·rename_i o hn
   split
   ·refine flt_do hk h ?_
    unfold yA at hn
    by_cases hr:s.ths[k].rt.toNat<p.rs.length
    ·have e:p.rs.getD s.ths[k].rt.toNat []=p.rs[s.ths[k].rt.toNat]:=by rw[List.getD_eq_getElem?_getD,List.getElem?_eq_getElem hr];rfl
     rw[e] at hn
     exact hv _ (List.getElem_mem hr) o (List.mem_of_getElem? hn)
    ·have e:p.rs.getD s.ths[k].rt.toNat []=[]:=by rw[List.getD_eq_getElem?_getD,List.getElem?_eq_none (by omega)];rfl
     rw[e] at hn
     simp at hn
   ·exact h
theorem flt_new (p:ProgL):(vL p).flt:=by
 refine⟨fun c hc=>?_,fun t ht=>?_⟩
 ·obtain⟨_,rfl⟩:=List.mem_replicate.1 hc
  unfold F64;decide
 ·have:t=jH 0:=by simpa[vL] using ht
  subst this
  intro x hx;cases hx
theorem goes_st {p:ProgL} {s:StL} {k:Nat} (h:k∈enabledL p s) (hk:k<s.ths.length):s.ths[k].st=1∨s.ths[k].st=4:=by
 have:=(List.mem_filter.1 h).2
 unfold qI at this
 have this:=of_decide_eq_true this
 simp only[List.getD_eq_getElem?_getD,List.getElem?_eq_getElem hk,Option.getD_some] at this
 exact this.2.1
theorem joins_top {s:StL} {k:Nat} {o:OpL} (hk:k<s.ths.length) (hf:zV s k o=0) (h15:o.code=15):∃ j,yR (yL s.ths[k] o 0) s.ths.length=some j∧zU s s.ths[k]=some j:=by
 have hgd:s.ths.getD k th0=s.ths[k]:=by simp[List.getD_eq_getElem?_getD,hk]
 unfold zV at hf
 simp only[hgd] at hf
 generalize s.ths[k]=t at *
 have ht:zA o.code=(1,0):=by rw[h15];decide
 rw[ht] at hf
 simp only at hf
 split at hf
 ·cases hf
 rename_i h1
 have hl:1≤t.stack.length:=by
  have:=fun e=>h1 (.inl e)
  omega
 split at hf
 ·cases hf
 split at hf
 ·cases hf
 rename_i h3
 have hj:¬ (zU s t).getD (-1)<0:=fun e=>h3 ⟨h15,e⟩
 have hkn:zQ t o=t.stack.length - 1:=by simp[zQ,xK,ht]
 have htop:t.stack.getLast?=some (yL t o 0):=by
  unfold yL
  rw[hkn,List.getLast?_eq_getElem?,List.getD_eq_getElem?_getD,List.getElem?_drop]
  rw[Nat.add_zero,List.getElem?_eq_getElem (by omega)]
  rfl
 unfold zU at hj ⊢
 rw[htop] at hj ⊢
 simp only[Option.bind_some] at hj ⊢
 cases hi:yR (yL t o 0) s.ths.length with
 |none=>rw[hi] at hj;exact absurd (by decide) hj
 |some j=>exact⟨j,rfl,rfl⟩
theorem runI {p:ProgL} (hg:p.goodS) (hv:p.flt):RunI p (fun s=>SInv p s∧s.flt):={
 small:=fun s h=>(runOK hg).small s h.1
 seen:=fun s h=>(runOK hg).seen s h.1
 ready:=fun s h=>(runOK hg).ready s h.1
 awake:=fun s h k hk hl=>by
  have:=goes_st hk hl
  omega
 flt:=fun s h=>h.2.2
 joins:=fun s h k hk hl o hn hf h15=>joins_top hl hf h15
 step:=fun s h k hk=>by
  have:k<s.ths.length:=by have:=(List.mem_filter.1 hk).1;simpa using this
  exact⟨(runOK hg).step s h.1 k hk,flt_step hv this h.2⟩ }
end Ai
namespace Ai
set_option maxRecDepth 100000
open Go Go.Proofs
noncomputable def yB (p:ProgL) (s:StL) (n:Nat):List (Nat × Int):=((List.range n).filter fun k=>decide (0≤zG p s (s.ths.getD k th0))).map fun k=>(k,zG p s (s.ths.getD k th0))
noncomputable def bU (p:ProgL) (s:StL):List (Nat × Int):=yB p s s.ths.length
def pN (e:Nat × Int):List D:=[.sl [[di e.1],[di e.2]]]
theorem zZ {p:ProgL} {s:StL} {n:Nat}:yB p s (n+1)=yB p s n++(if 0≤zG p s (s.ths.getD n th0) then [(n,zG p s (s.ths.getD n th0))] else []):=by
 unfold yB
 rw[List.range_succ,List.filter_append,List.map_append]
 congr 1
 by_cases h:0≤zG p s (s.ths.getD n th0)
 ·rw[List.filter_cons_of_pos (by simpa using h),if_pos h];rfl
 ·rw[List.filter_cons_of_neg (by simpa using h),if_neg h];rfl
theorem cW {p:ProgL} {s:StL} {n:Nat}:(yB p s n).length≤n:=by
 unfold yB
 rw[List.length_map]
 exact Nat.le_trans (List.length_filter_le _ _) (by simp)
theorem oY (hI:yP) (p:ProgL) (s:StL) (hp:p.wf) (hs:s.small) (hv:∀ t∈s.ths,t.seen p s) :
  CallsTo EE 69 [.fp (encSt s),agg (encProg p)] (·=.uq 26 1 ((bU p s).map pN)):=by
 refine callsTo_of_AW (fn:=Tryz.f69) Tryz.func69 rfl (by kernel_rfl) rfl ?_
 conv=>whnf
 refine yV (fun k:Nat=>[(0,.fp (encSt s)),(3,.ptr (.n 3) 0),(5,.ref (.n 10) 0 (yB p s k).length),(14,sl (s.ths.map zF)),(15,i64 (s.ths.map zF).length),(16,i64 k)])
  (fun k=>[(.n 3,.vs 39 ((encProg p).map .d)),(.n 10,.ds 26 1 ((yB p s k).map pN))]) (fun k=>s.ths.length - k) (fun k=>k≤s.ths.length) 0
  Weak.refl ⟨rfl,rfl,rfl,rfl,rfl,rfl,trivial⟩ ⟨rfl,rfl,trivial⟩ (Nat.zero_le _) ?_
 intro k τ H hk
 have hk:k≤s.ths.length:=hk
 conv=>whnf
 refine kbi (fun h=>?_) (fun h=>?_)
 ·have hlt:=xO h
  conv=>whnf
  refine⟨zF s.ths[k],yD zF hlt rfl,?_⟩
  conv=>whnf
  have hg:s.ths.getD k th0=s.ths[k]:=by simp[List.getD_eq_getElem?_getD,hlt]
  have hle:(yB p s k).length≤k:=cW
  have hn:=hs.1
  refine⟨_,eP hI p s s.ths[k] hp (hs.2.1 _ (List.getElem_mem hlt)) (hv _ (List.getElem_mem hlt)),?_⟩
  rintro r ⟨w,rfl,hw⟩
  by_cases hb:0≤zG p s s.ths[k]
  ·have hw:=hw hb
   subst hw
   have hsk:yB p s (k+1)=yB p s k++[(k,zG p s s.ths[k])]:=by rw[zZ,hg,if_pos hb]
   simp only[bp,tQ hb]
   conv=>whnf
   refine .inl ?_
   conv=>whnf
   refine⟨⟨rfl,by show((yB p s k).length+1)*24≤_;omega,by show(yB p s k).length+1≤_;omega⟩,?_⟩
   conv=>whnf
   refine⟨k+1,by show k+1≤s.ths.length;omega,by show s.ths.length - (k+1)<s.ths.length - k;omega,⟨rfl,rfl,?_,rfl,rfl,next_i64 hlt (by omega),trivial⟩,⟨rfl,?_,trivial⟩⟩
   ·rw[hsk]
    show AV.ref (.n 10) 0 ((yB p s k).length+1)=_
    simp
   ·rw[hsk]
    show some (Ob.ds 26 1 (((yB p s k).map pN).take (yB p s k).length++[pN (k,zG p s s.ths[k])]))=_
    rw[List.take_of_length_le (by simp)]
    simp
  ·simp only[bp,x4 hb]
   conv=>whnf
   have hsk:yB p s (k+1)=yB p s k:=by rw[zZ,hg,if_neg hb];simp
   refine⟨k+1,by show k+1≤s.ths.length;omega,by show s.ths.length - (k+1)<s.ths.length - k;omega,⟨rfl,rfl,?_,rfl,rfl,next_i64 hlt (by omega),trivial⟩,⟨rfl,?_,trivial⟩⟩
   ·rw[hsk];rfl
   ·rw[hsk];rfl
 ·have hge:s.ths.length≤k:=by simpa using h
  have hkk:k=s.ths.length:=by omega
  subst hkk
  conv=>whnf
  show AV.uq 26 1 (List.take (yB p s s.ths.length).length (List.map pN (yB p s s.ths.length)))=_
  rw[List.take_of_length_le (by simp)]
  rfl
end Ai
namespace Ai.Cyc
structure BS where
 out:List Nat
 queue:List Nat
 far:List (Nat × Nat)
deriving DecidableEq
def setF (l:List (Nat × Nat)) (k v:Nat):List (Nat × Nat):=if l.any (fun p=>p.1==k)=true then l.map (fun p=>if p.1==k then (k,v) else p) else l++[(k,v)]
def u9 (l:List (Nat × Nat)) (k:Nat):Nat:=((l.find? fun p=>p.1==k).map (·.2)).getD 0
def bsE (goal cur:Nat) (st:BS) (e:Nat × Nat):BS :=
 if (e.2 != cur || decide (0<st.out.getD e.1 0))=true then st
 else if (e.1 != goal)=true then ⟨st.out.set e.1 (u9 st.far cur+1),st.queue++[e.1],setF st.far e.1 (u9 st.far cur+1)⟩
 else ⟨st.out.set e.1 (u9 st.far cur+1),st.queue,st.far⟩
def bs0 (goal:Nat):BS:=⟨List.replicate 100 0,[goal],[(goal,0)]⟩
def jA (goal:Nat) (edges:List (Nat × Nat)):Nat→Nat→BS→Option BS
 | 0,_,_=>none
 |f+1,i,st=>if i<st.queue.length then jA goal edges f (i+1) (edges.foldl (bsE goal (st.queue.getD i 0)) st) else some st
def nextI (edges:List (Nat × Nat)) (far:List Nat) (n at_ left:Nat):Nat :=
 edges.foldl (fun nx e=>if (e.1==at_&&e.2 != n&&far.getD e.2 0==left)=true then min nx e.2 else nx) 100
def oX (edges:List (Nat × Nat)) (far:List Nat) (n:Nat):Nat→List Nat→Nat→List Nat
 | 0,out,_=>out
 |left+1,out,at_=>oX edges far n left (out++[nextI edges far n at_ (left+1)]) (nextI edges far n at_ (left+1))
def fL (edges:List (Nat × Nat)) (n:Nat):Option (List Nat) :=
 match jA n edges 7 0 (bs0 n) with
 |none=>none
 |some st=>if st.out.getD n 0=0 then some [] else some (oX edges st.out n (st.out.getD n 0 - 1) [n] n)
def bC (edges:List (Nat × Nat)) (to:Nat):Nat→Nat→List (List Nat)→List Nat→Option (List Nat)
 | 0,_,_,_=>none
 |f+1,i,ways,seen =>
  if i<ways.length then
   match edges.find? (fun e=>e.1==(ways.getD i []).getLastD 0) with
   |none=>bC edges to f (i+1) ways seen
   |some e=>if e.2=to then some (ways.getD i []) else if seen.contains e.2=true then bC edges to f (i+1) ways seen
     else bC edges to f (i+1) (ways++[ways.getD i []++[e.2]]) (seen++[e.2])
  else some []
def dV (edges:List (Nat × Nat)) (n:Nat):Option (List Nat):=bC edges n 8 0 [[n]] []
def opts:List (Option Nat):=[none,some 0,some 1,some 2,some 3,some 4]
def ed (k:Nat) (o:Option Nat):List (Nat × Nat):=match o with|some b=>[(k,b)]|none=>[]
def ok (edges:List (Nat × Nat)):Bool:=(List.range 5).all fun n=>(fL edges n).isSome&&fL edges n==dV edges n
def bJ (a:Option Nat):Bool:=opts.all fun b=>opts.all fun c=>opts.all fun d=>opts.all fun e=>ok (ed 0 a++ed 1 b++ed 2 c++ed 3 d++ed 4 e)
theorem okN:bJ none=true:=by decide +kernel
theorem ok0:bJ (some 0)=true:=by decide +kernel
theorem ok1:bJ (some 1)=true:=by decide +kernel
theorem ok2:bJ (some 2)=true:=by decide +kernel
theorem ok3:bJ (some 3)=true:=by decide +kernel
theorem ok4:bJ (some 4)=true:=by decide +kernel
theorem ok_all (a b c d e:Option Nat) (ha:a∈opts) (hb:b∈opts) (hc:c∈opts) (hd:d∈opts) (he:e∈opts):ok (ed 0 a++ed 1 b++ed 2 c++ed 3 d++ed 4 e)=true:=by
 have h:bJ a=true:=by
  simp only[opts,List.mem_cons,List.not_mem_nil,or_false] at ha
  rcases ha with rfl|rfl|rfl|rfl|rfl|rfl
  ·exact okN
  ·exact ok0
  ·exact ok1
  ·exact ok2
  ·exact ok3
  ·exact ok4
 simp only[bJ,List.all_eq_true] at h
 exact h b hb c hc d hd e he
end Ai.Cyc
namespace Ai
set_option maxRecDepth 100000
open Go Go.Proofs Cyc
def vU (e:Nat × Nat):List D:=[.sl [[di e.1],[di e.2]]]
def arr (l:List Nat):List D:=l.map fun (x:Nat)=>di (x:Int)
def xI (x:Nat):List D:=[di (x:Int)]
def uP (l:List (Nat × Nat)):List (Int × List D):=l.map fun p=>(((p.1:Nat):Int),[di (p.2:Int)])
structure BSok (goal:Nat) (st:BS) (m:Nat):Prop where
 len:st.out.length=100
 far:∀ p∈st.far,p.2≤m
 que:st.queue.length≤m+1
 key:∀ q∈st.queue,∃ v,st.far.find? (fun p=>p.1==q)=some (q,v)
 pos:∀ p∈st.far,p.1=goal∨0<st.out.getD p.1 0
 flen:st.far.length≤m+1
theorem bs0_ok (goal:Nat):BSok goal (bs0 goal) 0:=⟨by simp[bs0],by simp[bs0],by simp[bs0],by simp[bs0],by simp[bs0],by simp[bs0]⟩
theorem sQ {goal:Nat} {st:BS} {m k:Nat} (h:BSok goal st m):u9 st.far k≤m:=by
 unfold u9
 cases hf:st.far.find? (fun p=>p.1==k) with
 |none=>simp
 |some p=>exact h.far p (List.mem_of_find?_eq_some hf)
theorem atM_far (l:List (Nat × Nat)) (k:Nat):atM (uP l) (k:Int)=(l.find? fun p=>p.1==k).map fun p=>[di (p.2:Int)]:=by
 unfold atM uP
 rw[List.find?_map]
 have:((fun p:Int × List D=>p.1==(k:Int)) ∘ fun p:Nat × Nat=>(((p.1:Nat):Int),[di (p.2:Int)]))=fun p:Nat × Nat=>p.1==k:=by
  funext p
  show(((p.1:Nat):Int)==(k:Int))=(p.1==k)
  rw[Bool.eq_iff_iff,beq_iff_eq,beq_iff_eq]
  omega
 rw[this]
 cases l.find? fun p=>p.1==k <;> rfl
theorem hasM_far (l:List (Nat × Nat)) (k:Nat):eD (uP l) (k:Int)=l.any fun p=>p.1==k:=by
 unfold eD uP
 rw[List.any_map]
 congr 1
 funext p
 show(((p.1:Nat):Int)==(k:Int))=(p.1==k)
 rw[Bool.eq_iff_iff,beq_iff_eq,beq_iff_eq]
 omega
theorem idxM_far {l:List (Nat × Nat)} {k:Nat} (h:(l.any fun p=>p.1==k)=false):vO (uP l) (k:Int)=l.length:=by
 unfold vO
 have h2:=hasM_far l k
 rw[h] at h2
 have:(uP l).findIdx? (fun p=>p.1==(k:Int))=none:=by
  rw[List.findIdx?_eq_none_iff]
  unfold eD at h2
  simpa using h2
 rw[this]
 simp[uP]
theorem addM_far {l:List (Nat × Nat)} {k:Nat} (h:(l.any fun p=>p.1==k)=false):aI (uP l) (k:Int)=uP l++[((k:Int),[])]:=by
 unfold aI
 rw[hasM_far,h]
 rfl
theorem putM_far {l:List (Nat × Nat)} {k v:Nat}:gG (uP l++[((k:Int),[])]) l.length [di (v:Int)]=uP (l++[(k,v)]):=by
 unfold gG
 apply List.ext_getElem?
 intro i
 rw[List.getElem?_modify]
 by_cases h:i<l.length
 ·rw[List.getElem?_append_left (by simpa[uP] using h)]
  have:¬ l.length=i:=by omega
  simp only[uP,this,if_false,List.map_append]
  rw[List.getElem?_append_left (by simpa using h)]
  simp
 ·by_cases h2:i=l.length
  ·subst h2
   simp[uP]
  ·have e1:(uP l++[((k:Int),[])])[i]?=none:=List.getElem?_eq_none (by simp[uP];omega)
   have e2:(uP (l++[(k,v)]))[i]?=none:=List.getElem?_eq_none (by simp[uP];omega)
   rw[e1,e2];rfl
theorem r5 {l:List (Nat × Nat)} {k v:Nat} (h:(l.any fun p=>p.1==k)=false):setF l k v=l++[(k,v)]:=by
 unfold setF
 rw[h]
 rfl
theorem absent {goal:Nat} {st:BS} {m k:Nat} (h:BSok goal st m) (h0:st.out.getD k 0=0) (hg:k≠goal):(st.far.any fun p=>p.1==k)=false:=by
 rw[List.any_eq_false]
 intro p hp e
 have e:p.1=k:=by simpa using e
 rcases h.pos p hp with h1|h1
 ·exact hg (e▸h1)
 ·rw[e,h0] at h1;omega
theorem f6 {goal cur:Nat} {st:BS} {m:Nat} {e:Nat × Nat} (h:BSok goal st m) (he:e.1<100):BSok goal (bsE goal cur st e) (m+1):=by
 have hmono:BSok goal st (m+1):=⟨h.len,fun p hp=>Nat.le_succ_of_le (h.far p hp),Nat.le_succ_of_le h.que,h.key,h.pos,Nat.le_succ_of_le h.flen⟩
 unfold bsE
 split
 ·exact hmono
 rename_i h1
 have h0:st.out.getD e.1 0=0:=by
  simp only[Bool.or_eq_true,decide_eq_true_eq,not_or] at h1
  omega
 have hset:∀ (i:Nat),0<st.out.getD i 0→0<(st.out.set e.1 (u9 st.far cur+1)).getD i 0:=by
  intro i hi
  simp only[List.getD_eq_getElem?_getD,List.getElem?_set]
  split
  ·split
   ·simp
   ·rename_i h2 h3
    rw[h.len] at h3
    omega
  ·simpa[List.getD_eq_getElem?_getD] using hi
 split
 ·rename_i hg
  have hg:e.1≠goal:=by simpa using hg
  have hab:=absent h h0 hg
  rw[r5 hab]
  refine⟨by simpa using h.len,fun p hp=>?_,by simp;exact h.que,fun q hq=>?_,fun p hp=>?_,by simp;exact h.flen⟩
  ·rcases List.mem_append.1 hp with h2|h2
   ·exact Nat.le_succ_of_le (h.far p h2)
   ·simp only[List.mem_cons,List.not_mem_nil,or_false] at h2
    subst h2
    exact Nat.succ_le_succ (sQ h)
  ·rw[List.find?_append]
   rcases List.mem_append.1 hq with h2|h2
   ·obtain⟨v,hv⟩:=h.key q h2
    exact⟨v,by rw[hv];rfl⟩
   ·simp only[List.mem_cons,List.not_mem_nil,or_false] at h2
    subst h2
    have:st.far.find? (fun p=>p.1==e.1)=none:=by
     rw[List.find?_eq_none]
     intro p hp
     have:=List.any_eq_false.1 hab p hp
     exact this
    rw[this]
    exact⟨u9 st.far cur+1,by simp⟩
  ·rcases List.mem_append.1 hp with h2|h2
   ·rcases h.pos p h2 with h3|h3
    ·exact .inl h3
    ·exact .inr (hset _ h3)
   ·simp only[List.mem_cons,List.not_mem_nil,or_false] at h2
    subst h2
    right
    simp[List.getD_eq_getElem?_getD,h.len,he]
 ·refine⟨by simpa using h.len,fun p hp=>Nat.le_succ_of_le (h.far p hp),Nat.le_succ_of_le h.que,h.key,fun p hp=>?_,Nat.le_succ_of_le h.flen⟩
  rcases h.pos p hp with h3|h3
  ·exact .inl h3
  ·exact .inr (hset _ h3)
end Ai
