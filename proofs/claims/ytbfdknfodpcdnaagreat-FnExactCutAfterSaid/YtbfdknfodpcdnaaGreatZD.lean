import Derived.Test.YtbfdknfodpcdnaaGreatZC
set_option maxHeartbeats 8000000
set_option linter.unusedVariables false
set_option linter.unusedSimpArgs false
namespace Ai
set_option maxRecDepth 100000
open Go Go.Proofs
def ev0 (k:Nat) (t:Th):Ev:=⟨k,0,-1,-1,t.pc⟩
noncomputable def zG (p:ProgL) (s:StL) (k:Nat):StL × Ev :=
 let t:=s.ths.getD k th0
 if t.st=4 then
  ({ s with owner:=s.owner.set t.lock.toNat k }.put k { t with st:=1,cond:=-1,lock:=-1,pc:=if (yE p t).isSome then t.pc+1 else t.pc },{ ev0 k t with kind:=9,obj:=t.cond,lock:=t.lock })
 else match yE p t with
  |none=>(s.put k { t with st:=2 },{ ev0 k t with kind:=11 })
  |some o=>if yB s k o=0 then doL s k o (ev0 k t) else ({ s with fault:=yB s k o },{ ev0 k t with kind:=12,obj:=yB s k o })
structure Th.ready (t:Th) (p:ProgL) (s:StL) (k:Nat):Prop where
 inP:t.inP p
 pc:InR t.pc 0 1048576
 lock:t.st=4→0≤t.lock∧t.lock<s.owner.length
 op:∀ o,yE p t=some o→o.inS s∧(yB s k o=0→o.fits s t)
theorem jY {X:List (List AV)} {sz k off j:Nat} {xs c:List AV} (hj:j≠k) (h:X[j]?=some c):(yW X sz k off xs)[j]?=some c:=by
 unfold yW
 cases (Nat.beq off 0&&Nat.beq xs.length sz) with
 |true=>simp only[cond_true];rw[List.getElem?_set_ne (Ne.symm hj)];exact h
 |false=>simp only[cond_false];rw[List.getElem?_modify,h];simp[Ne.symm hj]
theorem wD {X:List (List AV)} {sz k off:Nat} {xs c c':List AV} (h:X[k]?=some c) (e:(bif Nat.beq off 0&&Nat.beq xs.length sz then xs else yJ c off xs)=c'):(yW X sz k off xs)[k]?=some c':=by
 unfold yW
 subst e
 have hk:=(List.getElem?_eq_some_iff.1 h).1
 cases (Nat.beq off 0&&Nat.beq xs.length sz) with
 |true=>simp only[cond_true];rw[List.getElem?_set_self hk]
 |false=>simp only[cond_false];rw[List.getElem?_modify,h];simp
theorem fz_st3 {s:StL} {S:St} {rows:List (List AV)} {n m l:Nat} (h1:S.H (.n 900)=some (.rs 158 6 rows)) (hv:∀ (j:Nat) (row:List AV) (t:Th),s.ths[j]?=some t→rows[j]?=some row→fz1s S row=some (zD t))
  (h3:S.H (.n 901)=some (.ds 74 1 (s.cells.map encF))) (h4:S.H (.n 902)=some (.ds 3 1 (s.owner.map encInt))) (hn:n=s.ths.length) (hm:m=s.cells.length) (hl:l=s.owner.length) :
  FzC S [.dref (.n 900) n,.ref (.n 901) 0 m,.ref (.n 902) 0 l,i64 s.fault] (zX s):=by
 subst hn hm hl;exact fz_st2 h1 hv h3 h4
theorem l3Step_4 (hI:xP) (p:ProgL) (s:StL) (k:Nat) (hp:p.wf) (hk:k<s.ths.length) (h5:s.ths.length≤5) (hs:s.small) (hr:s.ths[k].ready p s k) (h40:s.ths[k].st=4) :
  CallsTo EE 107 [agg (encProg p),agg (zX s),i64 k] (·=.tup [agg (zX (zG p s k).1),agg (encEv (zG p s k).2)]):=by
 refine callsTo_of_AW (fn:=Tryz.f107) Tryz.func107 rfl (by kernel_rfl) rfl ?_
 have hg:s.ths.getD k th0=s.ths[k]:=by simp[List.getD_eq_getElem?_getD,hk]
 conv=>whnf
 refine⟨zD s.ths[k],zQ zD hk rfl,?_⟩
 conv=>whnf
 refine⟨_,tC p s.ths[k] hp hr.inP,?_⟩
 rintro r rfl
 conv=>whnf
 refine kbi (fun h4=>?_) (fun h4=>?_)
 ·have h4:s.ths[k].st=4:=by simpa using h4
  conv=>whnf
  refine⟨_,rD s hs,?_⟩
  rintro r rfl
  conv=>whnf
  have hl:=hr.lock h4
  refine⟨⟨hl.1,by simp;omega⟩,?_⟩
  conv=>whnf
  refine⟨⟨by omega,by simp;omega⟩,?_⟩
  conv=>whnf
  refine⟨⟨by omega,by simp;omega⟩,?_⟩
  conv=>whnf
  refine⟨⟨by omega,by simp;omega⟩,?_⟩
  conv=>whnf
  cases hn:yE p s.ths[k] with
  |none =>
   conv=>whnf
   refine .inr (.inl ⟨4,[],?_⟩)
   conv=>whnf
   refine⟨by kernel_rfl,?_⟩
   conv=>whnf
   have hd:zG p s k=({ s with owner:=s.owner.set s.ths[k].lock.toNat k }.put k { s.ths[k] with st:=1,cond:=-1,lock:=-1 },{ ev0 k s.ths[k] with kind:=9,obj:=s.ths[k].cond,lock:=s.ths[k].lock }):=by
    unfold zG;rw[hg];simp[h4,hn]
   rw[hd]
   refine .inl ?_
   conv=>whnf
   refine⟨[agg (zX _),agg (encEv _)],⟨_,_,rfl,⟨_,rfl,?_⟩,_,_,rfl,⟨_,rfl,?_⟩,rfl⟩,rfl⟩
   ·refine @fz_st3 _ _ ?_ _ _ _ ?_ ?_ ?_ ?_ ?_ ?_ ?_
    rotate_left 1
    ·conv=>lhs;whnf
     rfl
    ·intro j row t' ht hrr
     have hjl:j<s.ths.length:=by have:=(List.getElem?_eq_some_iff.1 ht).1;simpa[StL.put] using this
     have r0:=xR (o:=900) (List.getElem?_eq_getElem hjl)
     by_cases hj:j=k
     ·subst hj
      have e:t'={ s.ths[j] with st:=1,cond:=-1,lock:=-1 }:=by simpa[StL.put,hjl] using ht.symm
      subst e
      have e2:row=thRow 900 j { s.ths[j] with st:=1,cond:=-1,lock:=-1 }:=by
       refine Option.some.inj (hrr.symm.trans ?_)
       refine xL ?_ (yG rfl)
       refine wD (c:=[i64 s.ths[j].rt,i64 s.ths[j].pc,i64 1,i64 (-1),i64 s.ths[j].lock,.ref (.s 900 j) 0 s.ths[j].stack.length]) ?_ rfl
       refine wD (c:=[i64 s.ths[j].rt,i64 s.ths[j].pc,i64 1,i64 s.ths[j].cond,i64 s.ths[j].lock,.ref (.s 900 j) 0 s.ths[j].stack.length]) ?_ rfl
       refine wD (c:=thRow 900 j s.ths[j]) ?_ rfl
       repeat (first|exact r0|refine xL ?_ (yG rfl))
      subst e2
      refine fz_rowT (els:=stk s.ths[j]) ?_ (by simp[stk,List.take_of_length_le])
      conv=>lhs;whnf
      repeat (refine hscr ?_ rfl;conv=>lhs;whnf)
      rw[jO hjl]
     ·have e:t'=s.ths[j]:=by
       have:(s.ths.set k _)[j]?=some t':=ht
       rw[List.getElem?_set_ne (Ne.symm hj),List.getElem?_eq_getElem hjl] at this
       exact(Option.some.inj this).symm
      subst e
      have e2:row=thRow 900 j s.ths[j]:=by
       refine Option.some.inj (hrr.symm.trans ?_)
       repeat (first|exact r0|refine xL ?_ (yG rfl)|refine jY hj ?_)
      subst e2
      refine fz_rowT (els:=stk s.ths[j]) ?_ (by simp[stk,List.take_of_length_le])
      conv=>lhs;whnf
      repeat (refine hscr ?_ rfl;conv=>lhs;whnf)
      rw[jO hjl]
    ·conv=>lhs;whnf
     rfl
    ·conv=>lhs;whnf
     show some (Ob.ds 3 1 ((s.owner.map encInt).set (0+s.ths[k].lock.toNat) (encInt k)))=some (Ob.ds 3 1 ((s.owner.set s.ths[k].lock.toNat k).map encInt))
     rw[Nat.zero_add,List.map_set]
    ·simp[StL.put]
    ·simp[StL.put]
    ·simp[StL.put]
   ·exact fz_ev k 9 s.ths[k].cond s.ths[k].lock s.ths[k].pc
  |some o =>
   conv=>whnf
   refine⟨⟨by omega,by simp;omega⟩,?_⟩
   conv=>whnf
   have r0:=xR (o:=900) (List.getElem?_eq_getElem hk)
   refine⟨[i64 s.ths[k].rt,i64 s.ths[k].pc,i64 1,i64 (-1),i64 (-1),.ref (.s 900 k) 0 s.ths[k].stack.length],⟨?_,by simp⟩,?_⟩
   ·refine wD (c:=[i64 s.ths[k].rt,i64 s.ths[k].pc,i64 1,i64 (-1),i64 s.ths[k].lock,.ref (.s 900 k) 0 s.ths[k].stack.length]) ?_ rfl
    refine wD (c:=[i64 s.ths[k].rt,i64 s.ths[k].pc,i64 1,i64 s.ths[k].cond,i64 s.ths[k].lock,.ref (.s 900 k) 0 s.ths[k].stack.length]) ?_ rfl
    refine wD (c:=thRow 900 k s.ths[k]) ?_ rfl
    repeat (first|exact r0|refine xL ?_ (yG rfl))
   conv=>whnf
   rw[zK (by have:=hr.pc.1;omega) (by have:=hr.pc.2;omega)]
   refine⟨⟨by omega,by simp;omega⟩,?_⟩
   conv=>whnf
   refine .inr (.inl ⟨4,[],?_⟩)
   conv=>whnf
   refine⟨by kernel_rfl,?_⟩
   conv=>whnf
   have hd:zG p s k=({ s with owner:=s.owner.set s.ths[k].lock.toNat k }.put k { s.ths[k] with st:=1,cond:=-1,lock:=-1,pc:=s.ths[k].pc+1 },{ ev0 k s.ths[k] with kind:=9,obj:=s.ths[k].cond,lock:=s.ths[k].lock }):=by
    unfold zG;rw[hg];simp[h4,hn]
   rw[hd]
   refine .inl ?_
   conv=>whnf
   refine⟨[agg (zX _),agg (encEv _)],⟨_,_,rfl,⟨_,rfl,?_⟩,_,_,rfl,⟨_,rfl,?_⟩,rfl⟩,rfl⟩
   ·refine @fz_st3 _ _ ?_ _ _ _ ?_ ?_ ?_ ?_ ?_ ?_ ?_
    rotate_left 1
    ·conv=>lhs;whnf
     rfl
    ·intro j row t' ht hrr
     have hjl:j<s.ths.length:=by have:=(List.getElem?_eq_some_iff.1 ht).1;simpa[StL.put] using this
     have r0:=xR (o:=900) (List.getElem?_eq_getElem hjl)
     by_cases hj:j=k
     ·subst hj
      have e:t'={ s.ths[j] with st:=1,cond:=-1,lock:=-1,pc:=s.ths[j].pc+1 }:=by simpa[StL.put,hjl] using ht.symm
      subst e
      have e2:row=thRow 900 j { s.ths[j] with st:=1,cond:=-1,lock:=-1,pc:=s.ths[j].pc+1 }:=by
       refine Option.some.inj (hrr.symm.trans ?_)
       refine xL ?_ (yG rfl)
       refine wD (c:=[i64 s.ths[j].rt,i64 s.ths[j].pc,i64 1,i64 (-1),i64 (-1),.ref (.s 900 j) 0 s.ths[j].stack.length]) ?_ rfl
       refine wD (c:=[i64 s.ths[j].rt,i64 s.ths[j].pc,i64 1,i64 (-1),i64 s.ths[j].lock,.ref (.s 900 j) 0 s.ths[j].stack.length]) ?_ rfl
       refine wD (c:=[i64 s.ths[j].rt,i64 s.ths[j].pc,i64 1,i64 s.ths[j].cond,i64 s.ths[j].lock,.ref (.s 900 j) 0 s.ths[j].stack.length]) ?_ rfl
       refine wD (c:=thRow 900 j s.ths[j]) ?_ rfl
       repeat (first|exact r0|refine xL ?_ (yG rfl))
      subst e2
      refine fz_rowT (els:=stk s.ths[j]) ?_ (by simp[stk,List.take_of_length_le])
      conv=>lhs;whnf
      repeat (refine hscr ?_ rfl;conv=>lhs;whnf)
      rw[jO hjl]
     ·have e:t'=s.ths[j]:=by
       have:(s.ths.set k _)[j]?=some t':=ht
       rw[List.getElem?_set_ne (Ne.symm hj),List.getElem?_eq_getElem hjl] at this
       exact(Option.some.inj this).symm
      subst e
      have e2:row=thRow 900 j s.ths[j]:=by
       refine Option.some.inj (hrr.symm.trans ?_)
       repeat (first|exact r0|refine xL ?_ (yG rfl)|refine jY hj ?_)
      subst e2
      refine fz_rowT (els:=stk s.ths[j]) ?_ (by simp[stk,List.take_of_length_le])
      conv=>lhs;whnf
      repeat (refine hscr ?_ rfl;conv=>lhs;whnf)
      rw[jO hjl]
    ·conv=>lhs;whnf
     rfl
    ·conv=>lhs;whnf
     show some (Ob.ds 3 1 ((s.owner.map encInt).set (0+s.ths[k].lock.toNat) (encInt k)))=some (Ob.ds 3 1 ((s.owner.set s.ths[k].lock.toNat k).map encInt))
     rw[Nat.zero_add,List.map_set]
    ·simp[StL.put]
    ·simp[StL.put]
    ·simp[StL.put]
   ·exact fz_ev k 9 s.ths[k].cond s.ths[k].lock s.ths[k].pc
 ·exact absurd (by simpa using h40) h4
end Ai
namespace Ai
open Go Go.Proofs
section
variable {S:St} {H1:Key→Option Ob} {L:Key→Bool} {f:Key→Key}
theorem rJ (hS:∀ κ,L κ=true→S.H κ=(H1 κ).map (renO f)) (hf:∀ κ,L κ=true→f κ=κ) (h0:∀ κ,L κ=false→H1 κ=none) {v:AV} {d:D} (h:fz1 ⟨fun _=>.junk,H1⟩ v=some d):fz1 S (ren f v)=some d:=by
 cases v with
 |d x=>cases x <;> exact h
 |ref o off n =>
  have ho:L o=true:=by
   cases hl:L o with
   |true=>rfl
   |false =>
    have:=h0 o hl
    simp[fz1,this] at h
  simp only[ren,hf o ho,fz1,hS o ho]
  simp only[fz1] at h
  cases hH:H1 o with
  |none=>rw[hH] at h;cases h
  |some ob =>
   rw[hH] at h
   cases ob with
   |ds e sz els=>exact h
   |vs e cs=>cases h
   |rs e sz rows=>cases h
   |mp ag ps=>cases h
 | _=>cases h
theorem l1 (hS:∀ κ,L κ=true→S.H κ=(H1 κ).map (renO f)) (hf:∀ κ,L κ=true→f κ=κ) (h0:∀ κ,L κ=false→H1 κ=none):∀ {vs:List AV} {ds:List D},fz1s ⟨fun _=>.junk,H1⟩ vs=some ds→fz1s S (renL f vs)=some ds
 | [],ds,h=>h
 |v::vs,ds,h=>by
  simp only[fz1s] at h
  split at h
  ·rename_i x hx
   split at h
   ·rename_i xs hxs
    simp only[renL,fz1s,rJ hS hf h0 hx,l1 hS hf h0 hxs]
    exact h
   ·cases h
  ·cases h
theorem FzC_back (hS:∀ κ,L κ=true→S.H κ=(H1 κ).map (renO f)) (hf:∀ κ,L κ=true→f κ=κ) (h0:∀ κ,L κ=false→H1 κ=none):∀ {vs:List AV} {ds:List D},FzC ⟨fun _=>.junk,H1⟩ vs ds→FzC S (renL f vs) ds
 | [],ds,h=>h
 |v::vs,ds,h=>by
  obtain⟨x,xs,rfl,hx,hxs⟩:=h
  refine⟨x,xs,rfl,?_,FzC_back hS hf h0 hxs⟩
  cases v with
  |dref o n =>
   obtain⟨els,rfl,hv⟩:=hx
   refine⟨els,rfl,?_⟩
   unfold kP at hv ⊢
   simp only at hv
   have ho:L o=true:=by
    cases hl:L o with
    |true=>rfl
    |false=>rw[h0 o hl] at hv;exact hv.elim
   rw[hf o ho,hS o ho]
   cases hH:H1 o with
   |none=>rw[hH] at hv;exact hv.elim
   |some ob =>
    rw[hH] at hv
    cases ob with
    |ds e sz els=>exact hv.elim
    |vs e cs=>exact hv.elim
    |mp ag ps=>exact hv.elim
    |rs e sz rows =>
     refine⟨hv.1,fun j row hj hr=>?_⟩
     have hr:(rows.map (renL f))[j]?=some row:=hr
     rw[List.getElem?_map] at hr
     obtain⟨r0,g1,rfl⟩:=Option.map_eq_some_iff.1 hr
     obtain⟨d,g2,g3⟩:=hv.2 j r0 hj g1
     exact⟨d,g2,l1 hS hf h0 g3⟩
  |d x=>exact rJ hS hf h0 hx
  |ref o off n=>exact rJ hS hf h0 hx
  | _=>exact rJ hS hf h0 hx
end
end Ai
namespace Ai
set_option maxRecDepth 100000
open Go Go.Proofs
theorem qI (a b o:Nat) (l:List Th):(thRows o l).map (renL (swp (.n a) (.l b)))=thRows o l:=by
 apply List.ext_getElem?
 intro i
 rw[List.getElem?_map]
 by_cases hj:i<l.length
 ·rw[yR hj]
  rfl
 ·rw[List.getElem?_eq_none (by rw[zU];omega)]
  rfl
theorem d9 {x X:Option Ob} {f:Key→Key} (h:x=X) (hp:X.map (renO f)=X):x.map (renO f)=X:=by rw[h];exact hp
theorem s5 (s:StL) (j:Nat):(match ownH (xH s) (.s 900 j) with|some ob=>some ob|none=>(none:Option Ob))=zE s.ths j:=by
 show(match ((s.ths.map stk)[j]?).map (Ob.ds 74 1) with|some ob=>some ob|none=>(none:Option Ob))=(s.ths[j]?).map fun t=>.ds 74 1 (stk t)
 rw[List.getElem?_map]
 cases s.ths[j]? <;> rfl
theorem l3Step_n (hI:xP) (p:ProgL) (s:StL) (k:Nat) (hp:p.wf) (hk:k<s.ths.length) (h5:s.ths.length≤5) (hs:s.small) (hr:s.ths[k].ready p s k) (h40:¬ s.ths[k].st=4) :
  CallsTo EE 107 [agg (encProg p),agg (zX s),i64 k] (·=.tup [agg (zX (zG p s k).1),agg (encEv (zG p s k).2)]):=by
 refine callsTo_of_AW (fn:=Tryz.f107) Tryz.func107 rfl (by kernel_rfl) rfl ?_
 have hg:s.ths.getD k th0=s.ths[k]:=by simp[List.getD_eq_getElem?_getD,hk]
 conv=>whnf
 refine⟨zD s.ths[k],zQ zD hk rfl,?_⟩
 conv=>whnf
 refine⟨_,tC p s.ths[k] hp hr.inP,?_⟩
 rintro r rfl
 conv=>whnf
 refine kbi (fun h4=>?_) (fun h4=>?_)
 ·exact absurd (by simpa using h4) h40
 ·conv=>whnf
  cases hn:yE p s.ths[k] with
  |none =>
   conv=>whnf
   refine⟨_,rD s hs,?_⟩
   rintro r rfl
   conv=>whnf
   refine⟨⟨by omega,by simp;omega⟩,?_⟩
   conv=>whnf
   refine .inr (.inl ⟨4,[],?_⟩)
   conv=>whnf
   refine⟨by kernel_rfl,?_⟩
   conv=>whnf
   have hd:zG p s k=(s.put k { s.ths[k] with st:=2 },{ ev0 k s.ths[k] with kind:=11 }):=by
    unfold zG;rw[hg];simp[h40,hn]
   rw[hd]
   refine .inl ?_
   conv=>whnf
   refine⟨[agg (zX _),agg (encEv _)],⟨_,_,rfl,⟨_,rfl,?_⟩,_,_,rfl,⟨_,rfl,?_⟩,rfl⟩,rfl⟩
   ·refine @fz_st3 _ _ ?_ _ _ _ ?_ ?_ ?_ ?_ ?_ ?_ ?_
    rotate_left 1
    ·conv=>lhs;whnf
     rfl
    ·intro j row t' ht hrr
     have hjl:j<s.ths.length:=by have:=(List.getElem?_eq_some_iff.1 ht).1;simpa[StL.put] using this
     have r0:=xR (o:=900) (List.getElem?_eq_getElem hjl)
     by_cases hj:j=k
     ·subst hj
      have e:t'={ s.ths[j] with st:=2 }:=by simpa[StL.put,hjl] using ht.symm
      subst e
      have e2:row=thRow 900 j { s.ths[j] with st:=2 }:=by
       refine Option.some.inj (hrr.symm.trans ?_)
       refine xL ?_ (yG rfl)
       refine wD (c:=thRow 900 j s.ths[j]) ?_ rfl
       repeat (first|exact r0|refine xL ?_ (yG rfl))
      subst e2
      refine fz_rowT (els:=stk s.ths[j]) ?_ (by simp[stk,List.take_of_length_le])
      conv=>lhs;whnf
      repeat (refine hscr ?_ rfl;conv=>lhs;whnf)
      rw[jO hjl]
     ·have e:t'=s.ths[j]:=by
       have:(s.ths.set k _)[j]?=some t':=ht
       rw[List.getElem?_set_ne (Ne.symm hj),List.getElem?_eq_getElem hjl] at this
       exact(Option.some.inj this).symm
      subst e
      have e2:row=thRow 900 j s.ths[j]:=by
       refine Option.some.inj (hrr.symm.trans ?_)
       repeat (first|exact r0|refine xL ?_ (yG rfl)|refine jY hj ?_)
      subst e2
      refine fz_rowT (els:=stk s.ths[j]) ?_ (by simp[stk,List.take_of_length_le])
      conv=>lhs;whnf
      repeat (refine hscr ?_ rfl;conv=>lhs;whnf)
      rw[jO hjl]
    ·conv=>lhs;whnf
     rfl
    ·conv=>lhs;whnf
     rfl
    ·simp[StL.put]
    ·simp[StL.put]
    ·simp[StL.put]
   ·exact fz_ev k 11 (-1) (-1) s.ths[k].pc
  |some o =>
   conv=>whnf
   refine⟨_,l3Code_ok hI s k o hk hs (hr.op o hn).1,?_⟩
   rintro r rfl
   conv=>whnf
   refine kbi (fun h6=>?_) (fun h6=>?_)
   ·have h6:¬ yB s k o=0:=by simpa using h6
    conv=>whnf
    refine⟨_,l3Fault_ok s (ev0 k s.ths[k]) _ hs,?_⟩
    rintro r rfl
    conv=>whnf
    have hd:zG p s k=({ s with fault:=yB s k o },{ ev0 k s.ths[k] with kind:=12,obj:=yB s k o }):=by
     unfold zG;rw[hg];simp[h40,hn,h6]
    rw[hd]
    rfl
   ·have h6:yB s k o=0:=by simpa using h6
    conv=>whnf
    have hd:zG p s k=doL s k o (ev0 k s.ths[k]):=by
     unfold zG;rw[hg];simp[h40,hn,h6]
    rw[hd]
    refine .inr (.inl ⟨5,[2700,2701,2703,2706],?_⟩)
    conv=>whnf
    refine⟨_,rD s hs,?_⟩
    conv=>whnf
    refine⟨by kernel_rfl,?_⟩
    conv=>whnf
    refine .inr (.inl ⟨999,0,lendK,doPost (doL s k o (ev0 k s.ths[k])).1 (doL s k o (ev0 k s.ths[k])).2,?_,rfl,?_⟩)
    ·show IOCall EE 170 [.agg [.dref (.n 900) (s.ths.map wI).length,.ref (.n 901) 0 (s.cells.map encF).length,.ref (.n 902) 0 (s.owner.map encInt).length,i64 s.fault],i64 k,agg (encOp o),agg (encEv (ev0 k s.ths[k]))] _ _
     rw[List.length_map,List.length_map,List.length_map]
     refine l3Do_ok hI s k o (ev0 k s.ths[k]) hk h5 hs ((hr.op o hn).2 h6) hr.pc _ ⟨?_,fun j=>?_,?_,?_⟩
     ·conv=>lhs;whnf
      refine congrArg some ?_
      refine yM ?_ (by exact congrArg _ (zR fun _ _=>rfl))
      exact congrArg (Ob.rs 158 6) (qI 999 0 900 s.ths)
     ·conv=>lhs;whnf
      repeat (first|(refine hscrO ?_ (zH _ _ _);conv=>lhs;whnf)|(refine d9 ?_ (thFam_ren _ _ _);conv=>lhs;whnf))
      exact s5 s j
     ·conv=>lhs;whnf
      rfl
     ·conv=>lhs;whnf
      rfl
    ·rintro r H1 ⟨rfl,q1,q2⟩
     refine⟨q2,(fun n hn=>by cases hn),?_⟩
     conv=>whnf
     refine .inl ?_
     conv=>whnf
     refine⟨[agg (zX (doL s k o (ev0 k s.ths[k])).1),agg (encEv (doL s k o (ev0 k s.ths[k])).2)],⟨_,_,rfl,⟨_,rfl,?_⟩,_,_,rfl,⟨_,rfl,?_⟩,rfl⟩,rfl⟩
     ·refine FzC_back (f:=swp (.n 999) (.l 0)) (vs:=stRef (doL s k o (ev0 k s.ths[k])).1) (L:=lendK) (fun κ hκ=>?_) (fun κ hκ=>?_) q2 q1
      ·cases κ with
       |n i =>
        have:i=900∨i=901∨i=902:=by
         simp only[lendK,Bool.or_eq_true,Nat.beq_eq] at hκ
         omega
        rcases this with rfl|rfl|rfl
        ·rfl
        ·rfl
        ·rfl
       |s i j =>
        have:i=900:=by simpa only[lendK,Nat.beq_eq] using hκ
        subst this
        rfl
       |l i=>cases hκ
      ·cases κ with
       |n i =>
        have:i=900∨i=901∨i=902:=by
         simp only[lendK,Bool.or_eq_true,Nat.beq_eq] at hκ
         omega
        rcases this with rfl|rfl|rfl <;> rfl
       |s i j=>rfl
       |l i=>cases hκ
     ·exact fz_ev _ _ _ _ _
end Ai
namespace Ai
set_option maxRecDepth 100000
open Go Go.Proofs
def gL:Prop:=∀ (x:Nat) (many n:Int),yX x many=some n→0≤n∧n<many
theorem gT (hR:gL) {s:StL} {t:Th} {n:Int} (h:yA s t=some n):0≤n∧n<s.ths.length:=by
 unfold yA at h
 cases hl:t.stack.getLast? with
 |none=>rw[hl] at h;cases h
 |some x=>rw[hl] at h;exact hR x _ n h
def zZ (p:ProgL) (s:StL) (t:Th):Int :=
 if t.st=4 then s.owner.getD t.lock.toNat 0
 else match yE p t with
  |none=>-1
  |some o=>if t.st=1 then
    (if o.code=12 then s.owner.getD o.a.toNat 0
    else if o.code=15 then (match yA s t with|some k=>if (s.ths.getD k.toNat th0).st=2 then -1 else k|none=>-1)
    else -1)
   else -1
structure Th.seen (t:Th) (p:ProgL) (s:StL):Prop where
 inP:t.inP p
 lock:t.st=4→0≤t.lock∧t.lock<s.owner.length
 op:∀ o,yE p t=some o→o.code=12→0≤o.a∧o.a<s.owner.length
theorem cK (hI:xP) (hR:gL) (p:ProgL) (s:StL) (t:Th) (hp:p.wf) (ht:t.stack.length≤1048576) (hv:t.seen p s) :
  CallsTo EE 186 [agg (encProg p),agg (zX s),agg (zD t)] (·=i64 (zZ p s t)):=by
 refine callsTo_of_AW (fn:=Tryz.f186) Tryz.func186 rfl (by kernel_rfl) rfl ?_
 have own_get:∀ (a:Int),0≤a∧a<s.owner.length→0≤a∧(s.owner.map encInt)[a.toNat]?=some (encInt (s.owner.getD a.toNat 0))∧(encInt (s.owner.getD a.toNat 0)).length=1:=by
  intro a ha
  refine⟨ha.1,?_,rfl⟩
  have:a.toNat<s.owner.length:=by omega
  simp[this,List.getD_eq_getElem?_getD]
 conv=>whnf
 refine kbi (fun h4=>?_) (fun h4=>?_)
 ·have h4:t.st=4:=by simpa using h4
  conv=>whnf
  refine⟨_,own_get t.lock (hv.lock h4),?_⟩
  conv=>whnf
  simp only[zZ,if_pos h4]
 have h4:¬ t.st=4:=by simpa using h4
 conv=>whnf
 refine⟨_,tC p t hp hv.inP,?_⟩
 rintro r rfl
 conv=>whnf
 refine kbi (fun h1=>?_) (fun h1=>?_)
 ·have h1:¬ t.st=1:=by simpa using h1
  conv=>whnf
  have:zZ p s t=-1:=by
   unfold zZ;rw[if_neg h4]
   cases yE p t with
   |none=>rfl
   |some o=>simp[h1]
  rw[this]
 have h1:t.st=1:=by simpa using h1
 cases hn:yE p t with
 |none =>
  conv=>whnf
  have:zZ p s t=-1:=by
   unfold zZ;rw[if_neg h4,hn]
  rw[this]
 |some o =>
  conv=>whnf
  refine kbi (fun h2=>?_) (fun h2=>?_)
  ·have h2:o.code=12:=by simpa using h2
   conv=>whnf
   refine⟨_,own_get o.a (hv.op o hn h2),?_⟩
   conv=>whnf
   simp[zZ,h4,hn,h1,h2]
  have h2:¬ o.code=12:=by simpa using h2
  conv=>whnf
  refine kbi (fun h3=>?_) (fun h3=>?_)
  ·have h3:o.code=15:=by simpa using h3
   conv=>whnf
   refine⟨_,nV hI s t ht,?_⟩
   rintro r rfl
   conv=>whnf
   cases hj:yA s t with
   |none =>
    conv=>whnf
    refine kbi (fun h5=>absurd h5 (by decide)) (fun h5=>?_)
    conv=>whnf
    simp[zZ,h4,hn,h1,h2,h3,hj]
   |some k =>
    obtain⟨k1,k2⟩:=gT hR hj
    have hk:k.toNat<s.ths.length:=by omega
    conv=>whnf
    refine kbi (fun h5=>?_) (fun h5=>?_)
    ·conv=>whnf
     refine⟨zD s.ths[k.toNat],⟨k1,by simp[hk],rfl⟩,?_⟩
     conv=>whnf
     refine kbi (fun h6=>?_) (fun h6=>?_)
     ·have h6:¬ s.ths[k.toNat].st=2:=by simpa using h6
      conv=>whnf
      simp[zZ,h4,hn,h1,h2,h3,hj,List.getD_eq_getElem?_getD,hk,h6]
     ·have h6:s.ths[k.toNat].st=2:=by simpa using h6
      conv=>whnf
      simp[zZ,h4,hn,h1,h2,h3,hj,List.getD_eq_getElem?_getD,hk,h6]
    ·exact absurd (by simpa using k1) h5
  have h3:¬ o.code=15:=by simpa using h3
  conv=>whnf
  simp[zZ,h4,hn,h1,h2,h3]
end Ai
namespace Ai
set_option maxRecDepth 100000
open Go Go.Proofs
open Classical in
/-- may this thread go? -/
noncomputable def jG (p:ProgL) (s:StL) (k:Nat):Bool:=decide (s.fault=0∧((s.ths.getD k th0).st=1∨(s.ths.getD k th0).st=4)∧zZ p s (s.ths.getD k th0)<0)
noncomputable def zM (p:ProgL) (s:StL) (n:Nat):List Nat:=(List.range n).filter (jG p s)
noncomputable def zA (p:ProgL) (s:StL):List Nat:=zM p s s.ths.length
def vH (k:Nat):List D:=[di k]
theorem xD {p:ProgL} {s:StL} {n:Nat}:zM p s (n+1)=zM p s n++(if jG p s n=true then [n] else []):=by
 unfold zM
 rw[List.range_succ,List.filter_append]
 congr 1
 cases h:jG p s n <;> simp[h]
theorem kS {p:ProgL} {s:StL} {n:Nat}:(zM p s n).length≤n:=by
 unfold zM
 have:=List.length_filter_le (jG p s) (List.range n)
 simpa using this
theorem rE (hI:xP) (hR:gL) (p:ProgL) (s:StL) (hp:p.wf) (hs:s.small) (hv:∀ t∈s.ths,t.seen p s) :
  CallsTo EE 126 [agg (encProg p),agg (zX s)] (·=.uq 3 1 ((zA p s).map vH)):=by
 refine callsTo_of_AW (fn:=Tryz.f126) Tryz.func126 rfl (by kernel_rfl) rfl ?_
 conv=>whnf
 refine yN (fun k:Nat=>[(2,.ptr (.n 2) 0),(3,.ptr (.n 3) 0),(5,.ref (.n 5) 0 (zM p s k).length),(9,sl (s.ths.map zD)),(10,i64 (s.ths.map zD).length),(11,i64 k)])
  (fun k=>[(.n 2,.vs 42 ((encProg p).map .d)),(.n 3,.vs 37 ((zX s).map .d)),(.n 5,.ds 3 1 ((zM p s k).map vH))]) (fun k=>s.ths.length - k) (fun k=>k≤s.ths.length) 0
  (weak_nil 5 (.n 5) 3 1 rfl) ?_ ?_ (Nat.zero_le _) ?_
 ·exact⟨rfl,rfl,rfl,rfl,rfl,rfl,trivial⟩
 ·exact⟨rfl,rfl,rfl,trivial⟩
 rintro k τ H hk
 conv=>whnf
 refine kbi (fun h=>?_) (fun h=>?_)
 ·have hlt:=yK h
  conv=>whnf
  refine⟨zD s.ths[k],zQ zD hlt rfl,?_⟩
  conv=>whnf
  have hg:s.ths.getD k th0=s.ths[k]:=by simp[List.getD_eq_getElem?_getD,hlt]
  have hle:(zM p s k).length≤k:=kS
  have hn:=hs.1
  refine kbi (fun hf=>?_) (fun hf=>?_)
  ·have hf:s.fault=0:=by simpa using hf
   conv=>whnf
   refine kbi (fun h1=>?_) (fun h1=>?_)
   ·have h1:s.ths[k].st=1:=by simpa using h1
    conv=>whnf
    refine⟨_,cK hI hR p s s.ths[k] hp (hs.2.1 _ (List.getElem_mem hlt)) (hv _ (List.getElem_mem hlt)),?_⟩
    rintro r rfl
    conv=>whnf
    refine kbi (fun hb=>?_) (fun hb=>?_)
    ·have hb:zZ p s s.ths[k]<0:=by simpa using hb
     conv=>whnf
     refine⟨⟨rfl,by simp;omega,by simp;omega⟩,?_⟩
     conv=>whnf
     have hgo:jG p s k=true:=by unfold jG;rw[hg];exact decide_eq_true ⟨hf,.inl h1,hb⟩
     have hsk:zM p s (k+1)=zM p s k++[k]:=by rw[xD,hgo];simp
     refine⟨k+1,by omega,by show s.ths.length - (k+1)<s.ths.length - k;omega,⟨rfl,rfl,?_,rfl,rfl,zJ hlt (by omega),trivial⟩,⟨rfl,rfl,?_,trivial⟩⟩
     ·rw[hsk]
      show AV.ref (.n 5) 0 ((zM p s k).length+1)=_
      simp
     ·rw[hsk]
      show some (Ob.ds 3 1 (((zM p s k).map vH).take (zM p s k).length++[[di k]]))=_
      rw[List.take_of_length_le (by simp)]
      simp[vH]
    ·have hb:¬ zZ p s s.ths[k]<0:=by simpa using hb
     conv=>whnf
     have hgo:jG p s k=false:=by unfold jG;rw[hg];exact decide_eq_false fun e=>hb e.2.2
     have hsk:zM p s (k+1)=zM p s k:=by rw[xD,hgo];simp
     refine⟨k+1,by omega,by show s.ths.length - (k+1)<s.ths.length - k;omega,⟨rfl,rfl,?_,rfl,rfl,zJ hlt (by omega),trivial⟩,⟨rfl,rfl,?_,trivial⟩⟩
     ·rw[hsk];rfl
     ·rw[hsk];rfl
   ·have h1:¬ s.ths[k].st=1:=by simpa using h1
    conv=>whnf
    refine kbi (fun h4=>?_) (fun h4=>?_)
    ·have h4:s.ths[k].st=4:=by simpa using h4
     conv=>whnf
     refine⟨_,cK hI hR p s s.ths[k] hp (hs.2.1 _ (List.getElem_mem hlt)) (hv _ (List.getElem_mem hlt)),?_⟩
     rintro r rfl
     conv=>whnf
     refine kbi (fun hb=>?_) (fun hb=>?_)
     ·have hb:zZ p s s.ths[k]<0:=by simpa using hb
      conv=>whnf
      refine⟨⟨rfl,by simp;omega,by simp;omega⟩,?_⟩
      conv=>whnf
      have hgo:jG p s k=true:=by unfold jG;rw[hg];exact decide_eq_true ⟨hf,.inr h4,hb⟩
      have hsk:zM p s (k+1)=zM p s k++[k]:=by rw[xD,hgo];simp
      refine⟨k+1,by omega,by show s.ths.length - (k+1)<s.ths.length - k;omega,⟨rfl,rfl,?_,rfl,rfl,zJ hlt (by omega),trivial⟩,⟨rfl,rfl,?_,trivial⟩⟩
      ·rw[hsk]
       show AV.ref (.n 5) 0 ((zM p s k).length+1)=_
       simp
      ·rw[hsk]
       show some (Ob.ds 3 1 (((zM p s k).map vH).take (zM p s k).length++[[di k]]))=_
       rw[List.take_of_length_le (by simp)]
       simp[vH]
     ·have hb:¬ zZ p s s.ths[k]<0:=by simpa using hb
      conv=>whnf
      have hgo:jG p s k=false:=by unfold jG;rw[hg];exact decide_eq_false fun e=>hb e.2.2
      have hsk:zM p s (k+1)=zM p s k:=by rw[xD,hgo];simp
      refine⟨k+1,by omega,by show s.ths.length - (k+1)<s.ths.length - k;omega,⟨rfl,rfl,?_,rfl,rfl,zJ hlt (by omega),trivial⟩,⟨rfl,rfl,?_,trivial⟩⟩
      ·rw[hsk];rfl
      ·rw[hsk];rfl
    ·have h4:¬ s.ths[k].st=4:=by simpa using h4
     conv=>whnf
     have hgo:jG p s k=false:=by unfold jG;rw[hg];exact decide_eq_false fun e=>e.2.1.elim h1 h4
     have hsk:zM p s (k+1)=zM p s k:=by rw[xD,hgo];simp
     refine⟨k+1,by omega,by show s.ths.length - (k+1)<s.ths.length - k;omega,⟨rfl,rfl,?_,rfl,rfl,zJ hlt (by omega),trivial⟩,⟨rfl,rfl,?_,trivial⟩⟩
     ·rw[hsk];rfl
     ·rw[hsk];rfl
  ·have hf:¬ s.fault=0:=by simpa using hf
   conv=>whnf
   have hgo:jG p s k=false:=by unfold jG;exact decide_eq_false fun e=>hf e.1
   have hsk:zM p s (k+1)=zM p s k:=by rw[xD,hgo];simp
   refine⟨k+1,by omega,by show s.ths.length - (k+1)<s.ths.length - k;omega,⟨rfl,rfl,?_,rfl,rfl,zJ hlt (by omega),trivial⟩,⟨rfl,rfl,?_,trivial⟩⟩
   ·rw[hsk];rfl
   ·rw[hsk];rfl
 ·have hge:s.ths.length≤k:=by simpa using h
  have hkk:k=s.ths.length:=by omega
  subst hkk
  conv=>whnf
  refine congrArg (AV.uq 3 1) ?_
  rw[List.take_of_length_le (by simp)]
  rfl
end Ai
namespace Ai
set_option maxRecDepth 100000
open Go Go.Proofs
open Classical in
/-- how a run stands -/
noncomputable def xF (p:ProgL) (s:StL) (steps budget:Int):Int :=
 if s.fault≠0 then 2 else if zA p s=[] then (if ∃ t∈s.ths,t.st≠2 then 3 else 1) else if steps=budget then 4 else 0
theorem l4Code_ok (hI:xP) (hR:gL) (p:ProgL) (s:StL) (steps budget:Int) (hp:p.wf) (hs:s.small) (hv:∀ t∈s.ths,t.seen p s) :
  CallsTo EE 127 [agg (encProg p),agg (zX s),i64 steps,i64 budget] (·=i64 (xF p s steps budget)):=by
 refine callsTo_of_AW (fn:=Tryz.f127) Tryz.func127 rfl (by kernel_rfl) rfl ?_
 have hn:=hs.1
 conv=>whnf
 refine kbi (fun hf=>?_) (fun hf=>?_)
 ·have hf:s.fault≠0:=by simpa using hf
  conv=>whnf
  unfold xF
  rw[if_pos hf]
 have hf:¬ s.fault≠0:=by simpa using hf
 conv=>whnf
 refine⟨_,rE hI hR p s hp hs hv,?_⟩
 rintro r rfl
 refine .inl ?_
 conv=>whnf
 refine kbi (fun h0=>?_) (fun h0=>?_)
 ·have h0:zA p s=[]:=by
   have:(((zA p s).map vH).length:Int)=0:=by simpa using h0
   simp at this
   exact this
  conv=>whnf
  refine yN (fun k:Nat=>[(8,i64 0),(20,sl (s.ths.map zD)),(21,i64 (s.ths.map zD).length),(22,i64 k)]) (fun k=>[]) (fun k=>s.ths.length - k) (fun k=>k≤s.ths.length∧∀ j u,j<k→s.ths[j]?=some u→u.st=2) 0
   Weak.refl ⟨rfl,rfl,rfl,rfl,trivial⟩ trivial ⟨Nat.zero_le _,fun j u hj=>by omega⟩ ?_
  rintro k τ H ⟨hk,hall⟩
  conv=>whnf
  refine kbi (fun h=>?_) (fun h=>?_)
  ·have hlt:=yK h
   conv=>whnf
   refine⟨zD s.ths[k],zQ zD hlt rfl,?_⟩
   conv=>whnf
   refine kbi (fun h2=>?_) (fun h2=>?_)
   ·have h2:s.ths[k].st≠2:=by simpa using h2
    conv=>whnf
    unfold xF
    rw[if_neg hf,if_pos h0,if_pos ⟨_,List.getElem_mem hlt,h2⟩]
   ·have h2:s.ths[k].st=2:=by simpa using h2
    conv=>whnf
    refine⟨k+1,⟨by omega,fun j u hj hu=>?_⟩,by show s.ths.length - (k+1)<s.ths.length - k;omega,⟨rfl,rfl,rfl,zJ hlt (by omega),trivial⟩,trivial⟩
    by_cases hjk:j=k
    ·subst hjk
     rw[List.getElem?_eq_getElem hlt] at hu
     simp only[Option.some.injEq] at hu
     subst hu;exact h2
    ·exact hall j u (by omega) hu
  ·have hge:s.ths.length≤k:=by simpa using h
   conv=>whnf
   unfold xF
   rw[if_neg hf,if_pos h0,if_neg]
   rintro⟨t,ht,h2⟩
   obtain⟨j,hj,rfl⟩:=List.mem_iff_getElem.1 ht
   exact h2 (hall j _ (by omega) (List.getElem?_eq_getElem hj))
 have h0:¬ zA p s=[]:=fun e=>h0 (by rw[e];rfl)
 conv=>whnf
 refine kbi (fun h1=>?_) (fun h1=>?_)
 ·have h1:steps=budget:=by simpa using h1
  conv=>whnf
  unfold xF
  rw[if_neg hf,if_neg h0,if_pos h1]
 ·have h1:¬ steps=budget:=by simpa using h1
  conv=>whnf
  unfold xF
  rw[if_neg hf,if_neg h0,if_neg h1]
end Ai
namespace Ai
set_option maxRecDepth 100000
open Go Go.Proofs
theorem tB (hI:xP) (p:ProgL) (s:StL) (k:Nat) (hp:p.wf) (hk:k<s.ths.length) (h5:s.ths.length≤5) (hs:s.small) (hr:s.ths[k].ready p s k) :
  CallsTo EE 107 [agg (encProg p),agg (zX s),i64 k] (·=.tup [agg (zX (zG p s k).1),agg (encEv (zG p s k).2)]):=by
 by_cases h:s.ths[k].st=4
 ·exact l3Step_4 hI p s k hp hk h5 hs hr h
 ·exact l3Step_n hI p s k hp hk h5 hs hr h
end Ai
namespace Ai
set_option maxRecDepth 100000
open Go Go.Proofs
def xC (p:ProgL):StL:=⟨[jH 0],List.replicate p.cells.toNat 0,List.replicate p.locks.toNat (-1),0⟩
theorem kY (p:Key→Bool) (k:Nat) (x:D):(List.replicate k [AV.d x]).map (scrPL p)=List.replicate k [AV.d x]:=by simp[scrPL,scrP]
def oN (p:ProgL) (k:Nat) (c2:AV):List (Key × Ob):=[(.n 1,.vs 42 ((encProg p).map .d)),(.n 2,.vs 37 [.d .nil,.d .nil,.d .nil,i64 0]),(.n 3,.vs 37 [.ref (.n 7) 0 1,.dref (.n 50) k,c2,i64 0]),(.n 7,.ds 158 6 [zD (jH 0)]),(.n 50,.rs 74 1 (List.replicate k [.d (.flt 0)]))]
def oN2 (p:ProgL) (k j:Nat):List (Key × Ob):=[(.n 1,.vs 42 ((encProg p).map .d)),(.n 2,.vs 37 [.d .nil,.d .nil,.d .nil,i64 0]),(.n 3,.vs 37 [.ref (.n 7) 0 1,.dref (.n 50) k,.dref (.n 51) j,i64 0]),(.n 7,.ds 158 6 [zD (jH 0)]),(.n 50,.rs 74 1 (List.replicate k [.d (.flt 0)])),
 (.n 51,.rs 3 1 (List.replicate j [i64 (-1)]))]
theorem v7 {S:St} {o:Key} {n:Nat} {e:TypeId} {sz:Nat} {els:List (List D)} {rows:List (List AV)} (h:S.H o=some (.rs e sz rows)) (hl:els.length=n) (hr:rows.length=n) (hv:∀ (j:Nat) (row:List AV) (d:List D),rows[j]?=some row→els[j]?=some d→fz1s S row=some d):kP S o n els:=by
 unfold kP
 rw[h]
 refine⟨hl,fun j row hj hrow=>?_⟩
 have:j<els.length:=by omega
 exact⟨els[j],List.getElem?_eq_getElem this,hv j row _ hrow (List.getElem?_eq_getElem this)⟩
theorem l3New_ok (p:ProgL) (h1:InR p.cells 0 1048576) (h2:InR p.locks 0 1048576):CallsTo EE 106 [agg (encProg p)] (·=agg (zX (xC p))):=by
 refine callsTo_of_AW (fn:=Tryz.f106) Tryz.func106 rfl (by kernel_rfl) rfl ?_
 conv=>whnf
 refine⟨_,mX 0,?_⟩
 rintro r rfl
 conv=>whnf
 refine yN (fun k:Nat=>[(1,.ptr (.n 1) 0),(2,.ptr (.n 2) 0),(3,.ptr (.n 3) 0),(4,i64 k)]) (fun k=>oN p k (.d .nil)) (fun k=>p.cells.toNat - k) (fun k=>(k:Int)≤p.cells) 0
  (fH (.n 3) (.n 50) 37 74 1 1 _ (by intro n h;cases h) (by intro h;cases h) rfl rfl) ⟨rfl,rfl,rfl,rfl,trivial⟩ ⟨rfl,rfl,rfl,rfl,rfl,trivial⟩ h1.1 ?_
 rintro k τ H hk
 conv=>whnf
 refine kbi (fun h=>?_) (fun h=>?_)
 ·have hlt:(k:Int)<p.cells:=by simpa using h
  have:=h1.2
  conv=>whnf
  refine⟨⟨fun c hc=>?_,by show(k+1)*8≤_;omega,by show k+1≤_;omega⟩,?_⟩
  ·have hc:c∈[[AV.d (.flt (canon 0))]]:=hc
   simp only[List.mem_singleton] at hc
   subst hc;rfl
  conv=>whnf
  refine⟨k+1,by omega,by show p.cells.toNat - (k+1)<p.cells.toNat - k;omega,⟨rfl,rfl,rfl,o8 (by rw[zK (by omega) (by omega)];rfl),trivial⟩,⟨rfl,rfl,rfl,rfl,?_,trivial⟩⟩
  show some (Ob.rs 74 1 (((((List.replicate k [AV.d (.flt 0)]).map (scrPL (isK (.n 17)))).take k++[[AV.d (.flt (canon 0))]]).map (scrPL (isK (.n 50))))))=_
  rw[kY,List.take_of_length_le (by simp),List.map_append,kY,List.replicate_succ']
  rfl
 ·have hge:¬ (k:Int)<p.cells:=by simpa using h
  have hkc:k=p.cells.toNat:=by omega
  conv=>whnf
  refine yN (fun j:Nat=>[(1,.ptr (.n 1) 0),(2,.ptr (.n 2) 0),(3,.ptr (.n 3) 0),(5,i64 j)]) (fun j=>oN2 p k j) (fun j=>p.locks.toNat - j) (fun j=>(j:Int)≤p.locks) 0
   (fH (.n 3) (.n 51) 37 3 1 2 _ (by intro n h;cases h) (by intro h;cases h) rfl rfl) ⟨rfl,rfl,rfl,rfl,trivial⟩ ⟨rfl,rfl,rfl,rfl,?_,rfl,trivial⟩ h2.1 ?_
  ·show some (Ob.rs 74 1 ((List.replicate k [AV.d (.flt 0)]).map (scrPL (isK (.n 51)))))=_
   rw[kY]
  rintro j τ H hj
  conv=>whnf
  refine kbi (fun h=>?_) (fun h=>?_)
  ·have hlt:(j:Int)<p.locks:=by simpa using h
   have:=h2.2
   conv=>whnf
   refine⟨⟨fun c hc=>?_,by show(j+1)*8≤_;omega,by show j+1≤_;omega⟩,?_⟩
   ·have hc:c∈[[i64 (-1)]]:=hc
    simp only[List.mem_singleton] at hc
    subst hc;rfl
   conv=>whnf
   refine⟨j+1,by omega,by show p.locks.toNat - (j+1)<p.locks.toNat - j;omega,⟨rfl,rfl,rfl,o8 (by rw[zK (by omega) (by omega)];rfl),trivial⟩,⟨rfl,rfl,rfl,rfl,?_,?_,trivial⟩⟩
   ·show some (Ob.rs 74 1 (((List.replicate k [AV.d (.flt 0)]).map (scrPL (isK (.n 28)))).map (scrPL (isK (.n 51)))))=_
    rw[kY,kY]
   ·show some (Ob.rs 3 1 (((((List.replicate j [i64 (-1)]).map (scrPL (isK (.n 28)))).take j++[[i64 (-1)]]).map (scrPL (isK (.n 51))))))=_
    rw[kY,List.take_of_length_le (by simp),List.map_append,kY,List.replicate_succ']
    rfl
  ·have hge:¬ (j:Int)<p.locks:=by simpa using h
   have hjc:j=p.locks.toNat:=by omega
   subst hkc hjc
   conv=>whnf
   refine .inr (.inl ⟨agg (zX (xC p)),⟨_,rfl,?_⟩,rfl⟩)
   refine⟨.sl ([jH 0].map zD),_,rfl,rfl,.sl ((List.replicate p.cells.toNat 0).map encF),_,rfl,⟨_,rfl,?_⟩,.sl ((List.replicate p.locks.toNat (-1)).map encInt),_,rfl,⟨_,rfl,?_⟩,di 0,[],rfl,rfl,rfl⟩
   ·refine v7 (rows:=List.replicate p.cells.toNat [.d (.flt 0)]) (by rfl) (by simp) (by simp) ?_
    intro i row d hr hd
    simp only[List.getElem?_map,List.getElem?_replicate] at hr hd
    split at hr
    ·simp only[Option.some.injEq] at hr
     subst hr
     rw[if_pos ‹_›] at hd
     simp only[Option.map_some,Option.some.injEq] at hd
     subst hd;rfl
    ·cases hr
   ·refine v7 (rows:=List.replicate p.locks.toNat [i64 (-1)]) (by rfl) (by simp) (by simp) ?_
    intro i row d hr hd
    simp only[List.getElem?_map,List.getElem?_replicate] at hr hd
    split at hr
    ·simp only[Option.some.injEq] at hr
     subst hr
     rw[if_pos ‹_›] at hd
     simp only[Option.map_some,Option.some.injEq] at hd
     subst hd;rfl
    ·cases hr
end Ai
namespace Ai
set_option maxRecDepth 100000
open Go Go.Proofs
def lM (c:Int) (tr:List Ev) (tk:List Int) (s:StL):List D:=[di c,.sl (tr.map encEv),.sl (tk.map encInt),.sl (s.ths.map zD),.sl (s.cells.map encF),.sl (s.owner.map encInt),di s.fault]
def vB (picks tk:List Int) (n:Nat):Int:=if tk.length<picks.length then (picks.getD tk.length 0).tmod n else 0
noncomputable def bI (p:ProgL) (picks:List Int) (budget:Int):Nat→StL→List Ev→List Int→List D
 | 0,s,tr,tk=>lM 0 tr tk s
 |n+1,s,tr,tk =>
  if 0<xF p s tr.length budget then lM (xF p s tr.length budget) tr tk s
  else
   let k:=vB picks tk (zA p s).length
   let w:=(zA p s).getD k.toNat 0
   bI p picks budget n (zG p s w).1 (tr++[(zG p s w).2]) (tk++[k])
structure RunOK (p:ProgL) (Inv:StL→Prop):Prop where
 small:∀ s,Inv s→s.small∧s.ths.length≤5
 seen:∀ s,Inv s→∀ t∈s.ths,t.seen p s
 ready:∀ s,Inv s→∀ k,k∈zA p s→(h:k<s.ths.length)→s.ths[k].ready p s k
 step:∀ s,Inv s→∀ k∈zA p s,Inv (zG p s k).1
def jC (tr:List Ev):List (List AV):=tr.map fun e=>(encEv e).map .d
def jB (tk:List Int):List (List AV):=tk.map fun i=>[i64 i]
def oR (p:ProgL) (s:StL) (tr:List Ev) (tk:List Int):List (Key × Ob):=[(.n 3,.vs 42 ((encProg p).map .d)),(.n 6,.vs 46 [i64 0,.d .nil,.d .nil,.d .nil,.d .nil,.d .nil,i64 0]),
 (.n 7,.vs 46 [i64 0,.dref (.n 50) tr.length,.dref (.n 51) tk.length,sl (s.ths.map zD),sl (s.cells.map encF),sl (s.owner.map encInt),i64 s.fault]),(.n 50,.rs 105 5 (jC tr)),(.n 51,.rs 3 1 (jB tk))]
theorem evRows_view {S:St} {tr:List Ev} (j:Nat) (row:List AV) (d:List D) (h1:(jC tr)[j]?=some row) (h2:(tr.map encEv)[j]?=some d):fz1s S row=some d:=by
 simp only[jC,List.getElem?_map] at h1 h2
 cases h:tr[j]? with
 |none=>rw[h] at h1;cases h1
 |some e =>
  rw[h] at h1 h2
  simp only[Option.map_some,Option.some.injEq] at h1 h2
  subst h1 h2
  rfl
theorem inRows_view {S:St} {tk:List Int} (j:Nat) (row:List AV) (d:List D) (h1:(jB tk)[j]?=some row) (h2:(tk.map encInt)[j]?=some d):fz1s S row=some d:=by
 simp only[jB,List.getElem?_map] at h1 h2
 cases h:tk[j]? with
 |none=>rw[h] at h1;cases h1
 |some e =>
  rw[h] at h1 h2
  simp only[Option.map_some,Option.some.injEq] at h1 h2
  subst h1 h2
  rfl
theorem en_get {l:List Nat} {k:Nat} (h:k<l.length):(l.map vH)[k]?=some (vH (l.getD k 0)):=by simp[h,List.getD_eq_getElem?_getD]
theorem bV (q:Key→Bool) (tr:List Ev):(jC tr).map (scrPL q)=jC tr:=by
 unfold jC;rw[List.map_map];rfl
theorem bP (q:Key→Bool) (tk:List Int):(jB tk).map (scrPL q)=jB tk:=by
 unfold jB;rw[List.map_map];rfl
theorem codeL_nn (p:ProgL) (s:StL) (a b:Int):0≤xF p s a b:=by
 unfold xF
 split
 ·decide
 ·split
  ·split <;> decide
  ·split <;> decide
theorem ev_scr' {X:List (List AV)} {q:Key→Bool} {tr:List Ev} (h:X=jC tr):X.map (scrPL q)=jC tr:=by rw[h];exact bV q tr
theorem in_scr' {X:List (List AV)} {q:Key→Bool} {tk:List Int} (h:X=jB tk):X.map (scrPL q)=jB tk:=by rw[h];exact bP q tk
theorem ev_push {X:List (List AV)} {q:Key→Bool} {tr:List Ev} {e:Ev} (h:X=jC tr):(X.take tr.length++[(encEv e).map AV.d]).map (scrPL q)=jC (tr++[e]):=by
 rw[h,List.take_of_length_le (by simp[jC]),List.map_append,bV]
 simp only[jC,List.map_append]
 rfl
theorem in_push {X:List (List AV)} {q:Key→Bool} {tk:List Int} {i:Int} (h:X=jB tk):(X.take tk.length++[[i64 i]]).map (scrPL q)=jB (tk++[i]):=by
 rw[h,List.take_of_length_le (by simp[jB]),List.map_append,bP]
 simp only[jB,List.map_append]
 rfl
theorem l4Run_ok (hI:xP) (hR:gL) (p:ProgL) (hp:p.wf) (h1:InR p.cells 0 1048576) (h2:InR p.locks 0 1048576) (Inv:StL→Prop) (hI0:Inv (xC p)) (hok:RunOK p Inv) (picks:List Int) (budget:Int) (hpk:∀ i∈picks,0≤i) (hl:picks.length≤1048576) (hb:InR budget 0 1048576) :
  CallsTo EE 104 [agg (encProg p),sl (picks.map encInt),i64 budget] (·=agg (bI p picks budget (budget.toNat+1) (xC p) [] [])):=by
 refine callsTo_of_AW (fn:=Tryz.f104) Tryz.func104 rfl (by kernel_rfl) rfl ?_
 conv=>whnf
 refine⟨_,l3New_ok p h1 h2,?_⟩
 rintro r rfl
 conv=>whnf
 refine yN (fun x:StL × List Ev × List Int=>[(1,sl (picks.map encInt)),(2,i64 budget),(3,.ptr (.n 3) 0),(6,.ptr (.n 6) 0),(7,.ptr (.n 7) 0)]) (fun x=>oR p x.1 x.2.1 x.2.2) (fun x=>budget.toNat - x.2.1.length)
  (fun x=>Inv x.1∧x.2.1.length=x.2.2.length∧(x.2.1.length:Int)≤budget∧bI p picks budget (budget.toNat+1 - x.2.1.length) x.1 x.2.1 x.2.2=bI p picks budget (budget.toNat+1) (xC p) [] []) (xC p,[],[])
  ((fH (.n 7) (.n 50) 46 105 5 1 _ (by intro n h;cases h) (by intro h;cases h) rfl rfl).trans (fH (.n 7) (.n 51) 46 3 1 2 _ (by intro n h;cases h) (by intro h;cases h) rfl rfl))
  ⟨rfl,rfl,rfl,rfl,rfl,trivial⟩ ⟨rfl,rfl,rfl,rfl,rfl,trivial⟩ ⟨hI0,rfl,hb.1,rfl⟩ ?_
 rintro⟨s,tr,tk⟩ τ H ⟨hinv,hlen,hle,hrun⟩
 have hs:=hok.small s hinv
 conv=>whnf
 refine⟨_,l4Code_ok hI hR p s tr.length budget hp hs.1 (hok.seen s hinv),?_⟩
 rintro r rfl
 have hfuel:budget.toNat+1 - tr.length=(budget.toNat - tr.length)+1:=by
  have:(tr.length:Int)≤budget:=hle
  omega
 have hrun:bI p picks budget (budget.toNat+1 - tr.length) s tr tk=_:=hrun
 rw[hfuel] at hrun
 conv=>whnf
 refine kbi (fun hc=>?_) (fun hc=>?_)
 ·have hc:0<xF p s tr.length budget:=by simpa using hc
  conv=>whnf
  refine .inr (.inl ⟨agg (lM (xF p s tr.length budget) tr tk s),⟨_,rfl,?_⟩,?_⟩)
  ·refine⟨di _,_,rfl,rfl,.sl (tr.map encEv),_,rfl,⟨_,rfl,v7 (rows:=jC tr) (by rfl) (by simp) (by simp[jC]) ?_⟩,.sl (tk.map encInt),_,rfl,⟨_,rfl,v7 (rows:=jB tk) (by rfl) (by simp) (by simp[jB]) ?_⟩,_,_,rfl,rfl,_,_,rfl,rfl,_,_,rfl,rfl,_,_,rfl,rfl,rfl⟩
   ·exact evRows_view
   ·exact inRows_view
  ·rw[← hrun]
   simp only[bI,if_pos hc]
 have hc:¬ 0<xF p s tr.length budget:=by simpa using hc
 conv=>whnf
 refine⟨_,rE hI hR p s hp hs.1 (hok.seen s hinv),?_⟩
 rintro r rfl
 refine .inl ?_
 conv=>whnf
 have hc0:xF p s tr.length budget=0:=by have:=codeL_nn p s tr.length budget;omega
 have hen:zA p s≠[]:=by
  intro he
  apply hc
  unfold xF
  by_cases hf:s.fault≠0
  ·rw[if_pos hf];decide
  ·rw[if_neg hf,if_pos he];split <;> decide
 have hlb:(tr.length:Int)≠budget:=by
  intro he
  apply hc
  unfold xF
  by_cases hf:s.fault≠0
  ·rw[if_pos hf];decide
  ·rw[if_neg hf,if_neg hen,if_pos he];decide
 have hepos:0<(zA p s).length:=List.length_pos_iff.2 hen
 have hrun2:bI p picks budget (budget.toNat - tr.length) (zG p s ((zA p s).getD (vB picks tk (zA p s).length).toNat 0)).1 (tr++[(zG p s ((zA p s).getD (vB picks tk (zA p s).length).toNat 0)).2]) (tk++[vB picks tk (zA p s).length])=bI p picks budget (budget.toNat+1) (xC p) [] []:=by
  rw[← hrun];simp only[bI,if_neg hc]
 refine kbi (fun hp1=>?_) (fun hp1=>?_)
 ·have hp1:tk.length<picks.length:=by simpa using hp1
  conv=>whnf
  refine⟨encInt picks[tk.length],⟨by omega,by simp[hp1],rfl⟩,?_⟩
  have hnz:(((zA p s).map vH).length:Int)≠0:=by simp;omega
  conv=>whnf
  refine⟨hnz,?_⟩
  conv=>whnf
  have hpn:0≤picks[tk.length]:=hpk _ (List.getElem_mem hp1)
  have hkk:vB picks tk (zA p s).length=picks[tk.length].tmod ((zA p s).map vH).length:=by
   simp[vB,hp1,List.getD_eq_getElem?_getD]
  have hk1:0≤picks[tk.length].tmod ((zA p s).map vH).length:=Int.tmod_nonneg _ hpn
  have hk2:picks[tk.length].tmod ((zA p s).map vH).length<(zA p s).length:=by
   have:=Int.tmod_lt_of_pos picks[tk.length] (b:=(((zA p s).map vH).length:Int)) (by simp;omega)
   simpa using this
  rw[hkk] at hrun2
  generalize hkv:picks[tk.length].tmod ((zA p s).map vH).length=kk at *
  have hkl:kk.toNat<(zA p s).length:=by omega
  have hmem:(zA p s).getD kk.toNat 0∈zA p s:=by rw[List.getD_eq_getElem?_getD,List.getElem?_eq_getElem hkl];exact List.getElem_mem hkl
  have hwl:(zA p s).getD kk.toNat 0<s.ths.length:=by have:=(List.mem_filter.1 hmem).1;simpa using this
  refine .inr (.inl ⟨15,[],?_⟩)
  conv=>whnf
  refine⟨vH ((zA p s).getD kk.toNat 0),⟨hk1,en_get hkl,rfl⟩,?_⟩
  conv=>whnf
  refine⟨_,tB hI p s ((zA p s).getD kk.toNat 0) hp hwl hs.2 hs.1 (hok.ready s hinv _ hmem hwl),?_⟩
  conv=>whnf
  refine⟨by kernel_rfl,?_⟩
  conv=>whnf
  generalize hst:zG p s ((zA p s).getD kk.toNat 0)=st at *
  have hle':(tr.length:Int)≤budget:=hle
  have hlen':tr.length=tk.length:=hlen
  have hb2:=hb.2
  refine⟨⟨fun c hc'=>?_,by show(tr.length+1)*40≤_;omega,by show tr.length+1≤_;omega⟩,?_⟩
  ·have hc':c∈[(encEv st.2).map AV.d]:=hc'
   simp only[List.mem_singleton] at hc'
   subst hc';rfl
  conv=>whnf
  refine⟨⟨fun c hc'=>?_,by show(tk.length+1)*8≤_;omega,by show tk.length+1≤_;omega⟩,?_⟩
  ·have hc':c∈[[i64 kk]]:=hc'
   simp only[List.mem_singleton] at hc'
   subst hc';rfl
  conv=>whnf
  refine⟨(st.1,tr++[st.2],tk++[kk]),⟨hst▸hok.step s hinv _ hmem,by simp;exact hlen',by simp;omega,?_⟩,?_,⟨rfl,rfl,rfl,rfl,rfl,trivial⟩,⟨rfl,rfl,?_,?_,?_,trivial⟩⟩
  ·show bI p picks budget (budget.toNat+1 - (tr++[st.2]).length) st.1 (tr++[st.2]) (tk++[kk])=_
   rw[show budget.toNat+1 - (tr++[st.2]).length=budget.toNat - tr.length by simp]
   exact hrun2
  ·show budget.toNat - (tr++[st.2]).length<budget.toNat - tr.length
   simp;omega
  ·show some (Ob.vs 46 [i64 (xF p s tr.length budget),.dref (.n 50) (tr.length+1),.dref (.n 51) (tk.length+1),_,_,_,_])=some (Ob.vs 46 [i64 0,.dref (.n 50) (tr++[st.2]).length,.dref (.n 51) (tk++[kk]).length,_,_,_,_])
   rw[hc0,List.length_append,List.length_append]
   rfl
  ·conv=>lhs;whnf
   refine congrArg some ?_
   repeat (refine yM ?_ (congrArg (Ob.rs 105 5) (bV _ _)))
   refine congrArg (Ob.rs 105 5) (ev_push (tr:=tr) (e:=st.2) ?_)
   repeat (first|rfl|refine ev_scr' ?_)
  ·conv=>lhs;whnf
   refine congrArg some ?_
   repeat (refine yM ?_ (congrArg (Ob.rs 3 1) (bP _ _)))
   refine congrArg (Ob.rs 3 1) (in_push (tk:=tk) (i:=kk) ?_)
   repeat (first|rfl|refine in_scr' ?_)
 ·have hp1:¬ tk.length<picks.length:=by simpa using hp1
  conv=>whnf
  have hk0:vB picks tk (zA p s).length=0:=by simp[vB,hp1]
  rw[hk0,Int.toNat_zero] at hrun2
  have hmem:(zA p s).getD 0 0∈zA p s:=by rw[List.getD_eq_getElem?_getD,List.getElem?_eq_getElem hepos];exact List.getElem_mem hepos
  have hwl:(zA p s).getD 0 0<s.ths.length:=by have:=(List.mem_filter.1 hmem).1;simpa using this
  refine .inr (.inl ⟨15,[],?_⟩)
  conv=>whnf
  refine⟨vH ((zA p s).getD 0 0),⟨by omega,en_get hepos,rfl⟩,?_⟩
  conv=>whnf
  refine⟨_,tB hI p s ((zA p s).getD 0 0) hp hwl hs.2 hs.1 (hok.ready s hinv _ hmem hwl),?_⟩
  conv=>whnf
  refine⟨by kernel_rfl,?_⟩
  conv=>whnf
  generalize hst:zG p s ((zA p s).getD 0 0)=st at *
  have hle':(tr.length:Int)≤budget:=hle
  have hlen':tr.length=tk.length:=hlen
  have hb2:=hb.2
  refine⟨⟨fun c hc'=>?_,by show(tr.length+1)*40≤_;omega,by show tr.length+1≤_;omega⟩,?_⟩
  ·have hc':c∈[(encEv st.2).map AV.d]:=hc'
   simp only[List.mem_singleton] at hc'
   subst hc';rfl
  conv=>whnf
  refine⟨⟨fun c hc'=>?_,by show(tk.length+1)*8≤_;omega,by show tk.length+1≤_;omega⟩,?_⟩
  ·have hc':c∈[[i64 0]]:=hc'
   simp only[List.mem_singleton] at hc'
   subst hc';rfl
  conv=>whnf
  refine⟨(st.1,tr++[st.2],tk++[0]),⟨hst▸hok.step s hinv _ hmem,by simp;exact hlen',by simp;omega,?_⟩,?_,⟨rfl,rfl,rfl,rfl,rfl,trivial⟩,⟨rfl,rfl,?_,?_,?_,trivial⟩⟩
  ·show bI p picks budget (budget.toNat+1 - (tr++[st.2]).length) st.1 (tr++[st.2]) (tk++[0])=_
   rw[show budget.toNat+1 - (tr++[st.2]).length=budget.toNat - tr.length by simp]
   exact hrun2
  ·show budget.toNat - (tr++[st.2]).length<budget.toNat - tr.length
   simp;omega
  ·show some (Ob.vs 46 [i64 (xF p s tr.length budget),.dref (.n 50) (tr.length+1),.dref (.n 51) (tk.length+1),_,_,_,_])=some (Ob.vs 46 [i64 0,.dref (.n 50) (tr++[st.2]).length,.dref (.n 51) (tk++[0]).length,_,_,_,_])
   rw[hc0,List.length_append,List.length_append]
   rfl
  ·conv=>lhs;whnf
   refine congrArg some ?_
   repeat (refine yM ?_ (congrArg (Ob.rs 105 5) (bV _ _)))
   refine congrArg (Ob.rs 105 5) (ev_push (tr:=tr) (e:=st.2) ?_)
   repeat (first|rfl|refine ev_scr' ?_)
  ·conv=>lhs;whnf
   refine congrArg some ?_
   repeat (refine yM ?_ (congrArg (Ob.rs 3 1) (bP _ _)))
   refine congrArg (Ob.rs 3 1) (in_push (tk:=tk) (i:=0) ?_)
   repeat (first|rfl|refine in_scr' ?_)
end Ai
namespace Ai
set_option maxRecDepth 100000
open Go Go.Proofs
def FloatIn:Prop:=∀ (x:Nat) (many:Int),1≤many→many≤1000→fcmp .lss x 0=false→fcmp .lss x (FloatKind.f64.nearest many)=true→∃ n,floatToIntVal .f64 x .i64=some n∧0≤n∧n<many
theorem idxRange_of (h:FloatIn):gL:=by
 intro x many n hi
 unfold yX at hi
 split at hi
 ·rename_i hc
  obtain⟨m,h1,h2,h3⟩:=h x many hc.1.1 hc.1.2 hc.2.1 hc.2.2
  rw[h1] at hi
  simp only at hi
  split at hi
  ·simp only[Option.some.injEq] at hi
   subst hi;exact⟨h2,h3⟩
  ·cases hi
 ·cases hi
theorem eA (hF:FloatIn):xP:=by
 intro x many
 refine callsTo_of_AW (fn:=Tryz.f250) Tryz.func250 rfl (by kernel_rfl) rfl ?_
 conv=>whnf
 refine ocase (gS _ _ _) (fun h1=>?_) (fun h1=>?_)
 ·conv=>whnf
  refine kbi (fun h2=>?_) (fun h2=>?_)
  ·have h2:fcmp .lss x 0=true:=h2
   conv=>whnf
   have:yX x many=none:=by
    unfold yX;rw[if_neg]
    rintro⟨_,e,_⟩
    rw[h2] at e
    cases e
   rw[this]
   rfl
  have h2:fcmp .lss x 0=false:=by
   have h2:¬ fcmp .lss x 0=true:=h2
   simpa using h2
  conv=>whnf
  refine kbi (fun h3=>?_) (fun h3=>?_)
  ·have h3:fcmp .lss x (FloatKind.f64.nearest many)=true:=h3
   conv=>whnf
   obtain⟨n,g1,g2,g3⟩:=hF x many h1.1 h1.2 h2 h3
   refine⟨n,g1,?_⟩
   conv=>whnf
   refine kbi (fun h4=>?_) (fun h4=>?_)
   ·conv=>whnf
    have:yX x many=none:=by
     unfold yX;rw[if_pos ⟨h1,h2,h3⟩,g1]
     simp only
     rw[if_neg]
     intro e
     have h4:fcmp .neq (FloatKind.f64.nearest n) x=true:=h4
     rw[aS,e] at h4
     cases h4
    rw[this]
    rfl
   ·conv=>whnf
    refine⟨n,g1,?_⟩
    conv=>whnf
    have:yX x many=some n:=by
     unfold yX;rw[if_pos ⟨h1,h2,h3⟩,g1]
     simp only
     rw[if_pos]
     have h4:¬ fcmp .neq (FloatKind.f64.nearest n) x=true:=h4
     rw[aS] at h4
     simpa using h4
    rw[this]
    rfl
  ·have h3:¬ fcmp .lss x (FloatKind.f64.nearest many)=true:=h3
   conv=>whnf
   have:yX x many=none:=by
    unfold yX;rw[if_neg]
    rintro⟨_,_,e⟩
    exact h3 e
   rw[this]
   rfl
 ·conv=>whnf
  have:yX x many=none:=by
   unfold yX;rw[if_neg]
   rintro⟨e,_⟩
   exact h1 e
  rw[this]
  rfl
end Ai
namespace Ai
set_option maxRecDepth 100000
open Go Go.Proofs Ieee
def nearB (m:Nat):Bool:=double.read (FloatKind.f64.nearest ((m:Nat):Int))==.number false (m <<< (52 - m.log2)) (-((52 - m.log2:Nat):Int))
theorem near_all:(List.range 1001).all (fun m=>m==0 || nearB m)=true:=by decide +kernel
theorem mI {m:Nat} (h1:1≤m) (h2:m≤1000):∃ k:Nat,double.read (FloatKind.f64.nearest ((m:Nat):Int))=.number false (m <<< k) (-(k:Int)):=by
 have:=near_all
 simp only[List.all_eq_true,List.mem_range] at this
 have:=this m (by omega)
 simp only[Bool.or_eq_true,beq_iff_eq] at this
 rcases this with h|h
 ·omega
 ·unfold nearB at h
  exact⟨_,by simpa using h⟩
theorem oI (s:Bool) (n d:Nat):Toward.cut .zero s n d=n / (1 <<< min d (n.log2+2)):=by
 simp[Toward.cut]
theorem cut_lt {m d b:Nat} (hb:0<b) (h:m<b*2 ^ d):Toward.cut .zero false m d<b:=by
 rw[oI,Nat.shiftLeft_eq,Nat.one_mul]
 by_cases hd:d≤m.log2+2
 ·rw[Nat.min_eq_left hd]
  exact(Nat.div_lt_iff_lt_mul (Nat.pow_pos (by decide))).2 h
 ·rw[Nat.min_eq_right (by omega)]
  have h1:m<2 ^ (m.log2+2):=Nat.lt_of_lt_of_le Nat.lt_log2_self (Nat.pow_le_pow_right (by decide) (by omega))
  rw[Nat.div_eq_of_lt h1];exact hb
theorem cmp_lt (a b:Int):compare a b=.lt↔a<b:=by
 show compareOfLessAndEq a b=.lt↔a<b
 unfold compareOfLessAndEq
 by_cases h:a<b
 ·simp[h]
 ·by_cases h2:a=b
  ·simp[h2]
  ·simp[h,h2]
theorem rK:FloatIn:=by
 intro x many h1 h2 hx0 hxm
 obtain⟨b,rfl⟩:∃ b:Nat,many=(b:Int):=⟨many.toNat,by omega⟩
 obtain⟨k,hk⟩:=mI (m:=b) (by omega) (by omega)
 have o1:double.order x 0≠some .lt:=by simpa[fcmp] using hx0
 have o2:double.order x (FloatKind.f64.nearest (b:Int))=some .lt:=by simpa[fcmp] using hxm
 unfold Format.order at o1 o2
 rw[fR] at o1
 rw[hk] at o2
 have hdec:FloatKind.f64.decode x=double.read x:=rfl
 unfold floatToIntVal
 rw[hdec]
 cases hd:double.read x with
 |nan s f=>rw[hd] at o2;cases o2
 |infinity s =>
  rw[hd] at o1 o2
  simp only[Datum.order] at o1 o2
  exact absurd o2 o1
 |number s m i =>
  rw[hd] at o1 o2
  simp only[Datum.order,Option.some.injEq,ne_eq] at o1 o2
  rw[cmp_lt] at o1 o2
  have hs:s=false∨m=0:=by
   cases s with
   |false=>exact .inl rfl
   |true =>
    right
    simp only[signed,if_true,Nat.shiftLeft_eq] at o1
    by_cases hm:m=0
    ·exact hm
    ·exfalso
     apply o1
     have:0<m*2 ^ (i - min i double.leastPlace).toNat:=Nat.mul_pos (by omega) (Nat.pow_pos (by decide))
     simp
     omega
  rcases hs with rfl|rfl
  ·simp only[signed,Bool.false_eq_true,if_false,Nat.shiftLeft_eq,Int.ofNat_lt] at o2
   have o2:m*2 ^ (i - min i (-(k:Int))).toNat<b*2 ^ k*2 ^ (-(k:Int) - min i (-(k:Int))).toNat:=by exact_mod_cast o2
   have hlt:Toward.cut .zero false (m <<< i.toNat) (-i).toNat<b:=by
    refine cut_lt (by omega) ?_
    rw[Nat.shiftLeft_eq]
    by_cases hi:0≤i
    ·rw[Int.min_eq_right (by omega)] at o2
     have e1:(i - -(k:Int)).toNat=i.toNat+k:=by omega
     have e2:(-(k:Int) - -(k:Int)).toNat=0:=by omega
     rw[e1,e2,Nat.pow_add,Nat.pow_zero,Nat.mul_one,← Nat.mul_assoc] at o2
     have e3:(-i).toNat=0:=by omega
     rw[e3,Nat.pow_zero,Nat.mul_one]
     exact Nat.lt_of_mul_lt_mul_right o2
    ·have e3:i.toNat=0:=by omega
     rw[e3,Nat.pow_zero,Nat.mul_one]
     by_cases hik:i≤-(k:Int)
     ·rw[Int.min_eq_left hik] at o2
      have e1:(i - i).toNat=0:=by omega
      have e2:(-i).toNat=k+(-(k:Int) - i).toNat:=by omega
      rw[e1,Nat.pow_zero,Nat.mul_one,Nat.mul_assoc,← Nat.pow_add] at o2
      rw[e2];exact o2
     ·rw[Int.min_eq_right (by omega)] at o2
      have e1:k=(-i).toNat+(i - -(k:Int)).toNat:=by omega
      have e2:(-(k:Int) - -(k:Int)).toNat=0:=by omega
      rw[e2,Nat.pow_zero,Nat.mul_one] at o2
      generalize hq:(i - -(k:Int)).toNat=q at *
      rw[e1,Nat.pow_add,← Nat.mul_assoc] at o2
      exact Nat.lt_of_mul_lt_mul_right o2
   simp only[Datum.toInt,Datum.integral,signed,Bool.false_eq_true,if_false,Nat.shiftLeft_zero]
   rw[if_pos]
   ·exact⟨_,rfl,by omega,by omega⟩
   ·have e4:IntKind.i64.min=-9223372036854775808:=by decide
    have e5:IntKind.i64.max=9223372036854775807:=by decide
    rw[e4,e5]
    omega
  ·have hc:Toward.cut .zero s (0 <<< i.toNat) (-i).toNat=0:=by rw[oI];simp
   simp only[Datum.toInt,Datum.integral,hc,signed]
   refine⟨0,?_,by omega,by omega⟩
   cases s <;> decide
theorem toIndexS:xP:=eA rK
theorem lE:gL:=idxRange_of rK
end Ai
namespace Ai
set_option maxRecDepth 100000
open Go Go.Proofs
structure TInv (p:ProgL) (t:Th):Prop where
 rt:0≤t.rt∧t.rt<p.rs.length
 pc:0≤t.pc∧t.pc≤(p.rs.getD t.rt.toNat []).length
 st:t.stack.length≤8
 lock:t.st=3∨t.st=4→0≤t.lock∧t.lock<p.locks
structure SInv (p:ProgL) (s:StL):Prop where
 len:s.ths.length≤5
 cells:(s.cells.length:Int)=p.cells
 owner:(s.owner.length:Int)=p.locks
 ths:∀ t∈s.ths,TInv p t
theorem dZ {p:ProgL} (hg:p.goodS) {t:Th} (h:TInv p t) {o:OpL} (hn:yE p t=some o):o.goodS p (p.rs.getD t.rt.toNat []).length∧t.pc<(p.rs.getD t.rt.toNat []).length:=by
 have hr:t.rt.toNat<p.rs.length:=by have:=h.rt;omega
 have e:p.rs.getD t.rt.toNat []=p.rs[t.rt.toNat]:=by simp[List.getD_eq_getElem?_getD,hr]
 unfold yE at hn
 rw[e] at hn ⊢
 obtain⟨h1,h2⟩:=List.getElem?_eq_some_iff.1 hn
 refine⟨(hg.2 _ (List.getElem_mem hr)).1 o (h2▸List.getElem_mem h1),?_⟩
 have:=h.pc;omega
theorem jQ {p:ProgL} (hg:p.goodS) {s:StL} (hi:SInv p s) {k:Nat} (h:k<s.ths.length):s.ths[k].ready p s k:=by
 have ht:=hi.ths _ (List.getElem_mem h)
 have hgd:s.ths.getD k th0=s.ths[k]:=by simp[List.getD_eq_getElem?_getD,h]
 have hr:s.ths[k].rt.toNat<p.rs.length:=by have:=ht.rt;omega
 have e:p.rs.getD s.ths[k].rt.toNat []=p.rs[s.ths[k].rt.toNat]:=by simp[List.getD_eq_getElem?_getD,hr]
 have h24:(p.rs.getD s.ths[k].rt.toNat []).length≤24:=by rw[e];exact(hg.2 _ (List.getElem_mem hr)).2
 refine⟨⟨⟨ht.rt.1,by have:=ht.rt.2;omega⟩,ht.pc.1,ht.pc.2⟩,⟨ht.pc.1,by have:=ht.pc.2;omega⟩,fun h4=>?_,fun o ho=>?_⟩
 ·have:=ht.lock (.inr h4)
  rw[hi.owner];exact this
 ·obtain⟨⟨g1,g2⟩,hlt⟩:=dZ hg ht ho
  obtain⟨c1,c2,c3,_⟩:=g1
  obtain⟨a1,a2,a3,a4,a5,a6⟩:=g2
  refine⟨⟨fun hc=>?_,fun hc=>?_⟩,fun hf=>⟨c1,fun hc=>?_,fun hc=>?_,fun hc=>?_,?_⟩⟩
  ·exact⟨c2.1,by rw[hi.owner];exact a3 (.inr hc)⟩
  ·exact⟨c3.1,by rw[hi.owner];exact(a5 hc).2⟩
  ·exact⟨c2.1,by rw[hi.cells];exact a1 hc⟩
  ·exact⟨c2.1,by rw[hi.owner];exact a3 hc⟩
  ·exact⟨c3.1,by rw[hi.owner];exact(a5 hc).2⟩
  ·unfold yB at hf
   simp only[hgd] at hf
   split at hf
   ·cases hf
   ·omega
end Ai
namespace Ai
set_option maxRecDepth 100000
open Go Go.Proofs
theorem vP {p:ProgL} {s:StL} {k:Nat} {t:Th} (hi:SInv p s) (ht:TInv p t):SInv p (s.put k t):=by
 refine⟨by simpa[StL.put] using hi.len,hi.cells,hi.owner,fun u hu=>?_⟩
 rcases List.mem_or_eq_of_mem_set hu with h|h
 ·exact hi.ths u h
 ·subst h;exact ht
theorem inv_cells {p:ProgL} {s:StL} (hi:SInv p s) (i:Nat) (x:Nat):SInv p { s with cells:=s.cells.set i x }:=⟨hi.len,by simpa using hi.cells,hi.owner,hi.ths⟩
theorem mL {p:ProgL} {s:StL} (hi:SInv p s) (i:Nat) (x:Int):SInv p { s with owner:=s.owner.set i x }:=⟨hi.len,hi.cells,by simpa using hi.owner,hi.ths⟩
theorem inv_pop {p:ProgL} {t:Th} {o:OpL} (h:TInv p t) (hlt:t.pc<(p.rs.getD t.rt.toNat []).length):TInv p (zF t o):=by
 refine⟨h.rt,⟨by have:=h.pc;show 0≤t.pc+1;omega,by show t.pc+1≤_;exact hlt⟩,?_,h.lock⟩
 show(t.stack.take _).length≤8
 have:=h.st
 simp;omega
theorem inv_push {p:ProgL} {t:Th} {o:OpL} {x:Nat} (h:TInv p t) (hlt:t.pc<(p.rs.getD t.rt.toNat []).length) (h1:(zB o.code).1≤t.stack.length) (h8:(t.stack.length:Int) - (zB o.code).1+1≤8) (ht:0≤(zB o.code).1):TInv p (zS (zF t o) x):=by
 have hp:=inv_pop (o:=o) h hlt
 refine⟨hp.rt,hp.pc,?_,hp.lock⟩
 show(t.stack.take (yD t o)++[x]).length≤8
 simp[yD,xZ];omega
theorem inv_do {p:ProgL} (hg:p.goodS) {s:StL} (hi:SInv p s) {k:Nat} (h:k<s.ths.length) {o:OpL} (hn:yE p s.ths[k]=some o) (hf:yB s k o=0) (e:Ev):SInv p (doL s k o e).1:=by
 have ht:=hi.ths _ (List.getElem_mem h)
 have hgd:s.ths.getD k th0=s.ths[k]:=by simp[List.getD_eq_getElem?_getD,h]
 obtain⟨⟨g1,g2⟩,hlt⟩:=dZ hg ht hn
 obtain⟨c1,c2,c3,_⟩:=g1
 obtain⟨a1,a2,a3,a4,a5,a6⟩:=g2
 have htk:0≤(zB o.code).1:=by
  unfold zB;split
  ·decide
  ·split
   ·decide
   ·split <;> decide
 unfold yB at hf
 simp only[hgd] at hf
 generalize s.ths[k]=t at *
 split at hf
 ·cases hf
 rename_i hst
 split at hf
 ·cases hf
 split at hf
 ·cases hf
 split at hf
 ·cases hf
 rename_i h14
 have hp:=inv_pop (o:=o) ht hlt
 have push:∀ x,(zB o.code).2=1→TInv p (zS (zF t o) x):=fun x h2=>inv_push ht hlt (by omega) (by omega) htk
 unfold doL
 simp only[hgd]
 have jump:((o.code=10∨o.code=11)→TInv p { zF t o with pc:=o.a }):=fun hc=>⟨hp.rt,⟨c2.1,a2 hc⟩,hp.st,hp.lock⟩
 by_cases n1:o.code=1
 ·rw[if_pos n1];exact vP hi (push _ (by simp[zB,n1]))
 rw[if_neg n1]
 by_cases n2:o.code=2
 ·rw[if_pos n2];exact vP hi (push _ (by simp[zB,n2]))
 rw[if_neg n2]
 by_cases n3:o.code=3
 ·rw[if_pos n3];exact vP (inv_cells hi _ _) hp
 rw[if_neg n3]
 by_cases n10:o.code=10
 ·rw[if_pos n10];exact vP hi (jump (.inl n10))
 rw[if_neg n10]
 by_cases n11:o.code=11
 ·rw[if_pos n11]
  refine vP hi ?_
  split
  ·exact jump (.inr n11)
  ·exact hp
 rw[if_neg n11]
 by_cases n12:o.code=12
 ·rw[if_pos n12];exact vP (mL hi _ _) hp
 rw[if_neg n12]
 by_cases n13:o.code=13
 ·rw[if_pos n13];exact vP (mL hi _ _) hp
 rw[if_neg n13]
 by_cases n14:o.code=14
 ·rw[if_pos n14]
  have h5:s.ths.length≤4:=by
   have:=hi.len
   have:s.ths.length≠5:=fun e=>h14 ⟨n14,e⟩
   omega
  refine vP ⟨by simp;omega,hi.cells,hi.owner,fun u hu=>?_⟩ (push _ (by simp[zB,n14]))
  rcases List.mem_append.1 hu with h|h
  ·exact hi.ths u h
  ·simp only[List.mem_singleton] at h
   subst h
   exact⟨⟨c2.1,a4 n14⟩,⟨Int.le_refl _,Int.natCast_nonneg _⟩,Nat.zero_le _,fun e=>by rcases e with e|e <;> cases e⟩
 rw[if_neg n14]
 by_cases n15:o.code=15
 ·rw[if_pos n15];exact vP hi hp
 rw[if_neg n15]
 by_cases n16:o.code=16
 ·rw[if_pos n16]
  refine vP (mL hi _ _) ⟨hp.rt,⟨?_,?_⟩,hp.st,fun _=>⟨c3.1,(a5 n16).2⟩⟩
  ·show 0≤t.pc+1 - 1
   have:=ht.pc;omega
  ·show t.pc+1 - 1≤_
   have:=ht.pc;show _≤((p.rs.getD t.rt.toNat []).length:Int);omega
 rw[if_neg n16]
 by_cases n17:o.code=17
 ·rw[if_pos n17]
  cases hw:yY s.ths o.a with
  |none=>exact vP hi hp
  |some j =>
   refine vP ⟨by simpa using hi.len,hi.cells,hi.owner,fun u hu=>?_⟩ hp
   obtain⟨i,hi2,rfl⟩:=List.mem_iff_getElem.1 hu
   have hil:i<s.ths.length:=by simpa using hi2
   have hT:=hi.ths _ (List.getElem_mem hil)
   rw[List.getElem_modify]
   split
   ·rename_i hji
    subst hji
    unfold yY at hw
    rw[List.findIdx?_eq_some_iff_getElem] at hw
    obtain⟨_,hpw,_⟩:=hw
    simp only[Bool.and_eq_true,beq_iff_eq] at hpw
    exact⟨hT.rt,hT.pc,hT.st,fun _=>hT.lock (.inl hpw.1)⟩
   ·exact hT
 rw[if_neg n17]
 refine vP hi (push _ ?_)
 have:4≤o.code∧o.code≤9:=by have:=c1.1;have:=c1.2;omega
 simp only[zB]
 rw[if_neg (by omega),if_neg (by omega),if_pos this]
theorem inv_step {p:ProgL} (hg:p.goodS) {s:StL} (hi:SInv p s) {k:Nat} (h:k<s.ths.length):SInv p (zG p s k).1:=by
 have ht:=hi.ths _ (List.getElem_mem h)
 have hgd:s.ths.getD k th0=s.ths[k]:=by simp[List.getD_eq_getElem?_getD,h]
 unfold zG
 simp only[hgd]
 split
 ·rename_i h4
  refine vP (mL hi _ _) ⟨ht.rt,?_,ht.st,fun e=>by rcases e with e|e <;> cases e⟩
  cases hn:yE p s.ths[k] with
  |none=>exact ht.pc
  |some o =>
   have:=(dZ hg ht hn).2
   have:=ht.pc
   refine⟨?_,?_⟩
   ·show 0≤s.ths[k].pc+1
    omega
   ·show s.ths[k].pc+1≤((p.rs.getD s.ths[k].rt.toNat []).length:Int)
    omega
 ·split
  ·exact vP hi ⟨ht.rt,ht.pc,ht.st,fun e=>by rcases e with e|e <;> cases e⟩
  ·rename_i o hn
   split
   ·rename_i hf
    exact inv_do hg hi h hn hf _
   ·exact⟨hi.len,hi.cells,hi.owner,hi.ths⟩
theorem o6 {p:ProgL} (hg:p.goodS):SInv p (xC p):=by
 obtain⟨b1,b2,b3,b4⟩:=hg.1
 refine⟨by simp[xC],?_,?_,fun t ht=>?_⟩
 ·have:=b1.1;simp[xC];omega
 ·have:=b2.1;simp[xC];omega
 ·have:t=jH 0:=by simpa[xC] using ht
  subst this
  refine⟨⟨Int.le_refl _,?_⟩,⟨Int.le_refl _,Int.natCast_nonneg _⟩,Nat.zero_le _,fun e=>by rcases e with e|e <;> cases e⟩
  have:=b4.1
  show(0:Int)<p.rs.length
  omega
theorem pJ {p:ProgL} (hg:p.goodS):RunOK p (SInv p):=by
 obtain⟨b1,b2,b3,b4⟩:=hg.1
 refine⟨fun s hi=>⟨⟨by have:=hi.len;omega,fun t ht=>by have:=(hi.ths t ht).st;omega,?_,?_⟩,hi.len⟩,fun s hi t ht=>?_,fun s hi k hk h=>jQ hg hi h,fun s hi k hk=>?_⟩
 ·have:=hi.cells;have:=b1.2;omega
 ·have:=hi.owner;have:=b2.2;omega
 ·obtain⟨j,hj,rfl⟩:=List.mem_iff_getElem.1 ht
  have hr:=jQ hg hi hj
  refine⟨hr.inP,hr.lock,fun o ho hc=>?_⟩
  obtain⟨⟨g1,g2⟩,_⟩:=dZ hg (hi.ths _ ht) ho
  have:=g1.2.1.1
  have:=g2.2.2.1 (.inl hc)
  rw[hi.owner]
  exact⟨by assumption,by assumption⟩
 ·have:k<s.ths.length:=by have:=(List.mem_filter.1 hk).1;simpa using this
  exact inv_step hg hi this
theorem l4Run_good (p:ProgL) (hp:p.wf) (hg:p.goodS) (picks:List Int) (budget:Int) (hpk:∀ i∈picks,0≤i) (hl:picks.length≤1048576) (hb:InR budget 0 1048576) :
  CallsTo EE 104 [agg (encProg p),sl (picks.map encInt),i64 budget] (·=agg (bI p picks budget (budget.toNat+1) (xC p) [] [])):=by
 obtain⟨b1,b2,b3,b4⟩:=hg.1
 exact l4Run_ok toIndexS lE p hp ⟨b1.1,by have:=b1.2;omega⟩ ⟨b2.1,by have:=b2.2;omega⟩ (SInv p) (o6 hg) (pJ hg) picks budget hpk hl hb
end Ai
namespace Ai
set_option maxRecDepth 100000
open Go Go.Proofs
theorem sJ (o:OpL):CallsTo EE 221 [agg (encOp o)] (·=.tup [i64 (zB o.code).1,i64 (zB o.code).2]):=by
 refine callsTo_of_AW (fn:=Tryz.f221) Tryz.func221 rfl (by kernel_rfl) rfl ?_
 have go1:(o.code=1∨o.code=2∨o.code=14)→zB o.code=(0,1):=fun h=>by simp[zB,h]
 have go2:¬ (o.code=1∨o.code=2∨o.code=14)→(o.code=3∨o.code=11∨o.code=15)→zB o.code=(1,0):=fun h1 h=>by simp[zB,h1,h]
 conv=>whnf
 refine kbi (fun h1=>?_) (fun h1=>?_)
 ·have:o.code=1:=by simpa using h1
  conv=>whnf
  rw[go1 (.inl this)]
 conv=>whnf
 refine kbi (fun h2=>?_) (fun h2=>?_)
 ·have:o.code=2:=by simpa using h2
  conv=>whnf
  rw[go1 (.inr (.inl this))]
 conv=>whnf
 refine kbi (fun h3=>?_) (fun h3=>?_)
 ·have:o.code=14:=by simpa using h3
  conv=>whnf
  rw[go1 (.inr (.inr this))]
 have hn:¬ (o.code=1∨o.code=2∨o.code=14):=by simp at h1 h2 h3;omega
 conv=>whnf
 refine kbi (fun g1=>?_) (fun g1=>?_)
 ·have:o.code=3:=by simpa using g1
  conv=>whnf
  rw[go2 hn (.inl this)]
 conv=>whnf
 refine kbi (fun g2=>?_) (fun g2=>?_)
 ·have:o.code=11:=by simpa using g2
  conv=>whnf
  rw[go2 hn (.inr (.inl this))]
 conv=>whnf
 refine kbi (fun g3=>?_) (fun g3=>?_)
 ·have:o.code=15:=by simpa using g3
  conv=>whnf
  rw[go2 hn (.inr (.inr this))]
 have hn2:¬ (o.code=3∨o.code=11∨o.code=15):=by simp at g1 g2 g3;omega
 have go3:4≤o.code∧o.code≤9→zB o.code=(2,1):=fun h=>by simp only[zB,if_neg hn,if_neg hn2];exact if_pos h
 have go4:¬ (4≤o.code∧o.code≤9)→zB o.code=(0,0):=fun h=>by simp only[zB,if_neg hn,if_neg hn2];exact if_neg h
 conv=>whnf
 refine kbi (fun k1=>?_) (fun k1=>?_)
 ·have:o.code=4:=by simpa using k1
  conv=>whnf
  rw[go3 (by omega)]
 conv=>whnf
 refine kbi (fun k2=>?_) (fun k2=>?_)
 ·have:o.code=5:=by simpa using k2
  conv=>whnf
  rw[go3 (by omega)]
 conv=>whnf
 refine kbi (fun k3=>?_) (fun k3=>?_)
 ·have:o.code=6:=by simpa using k3
  conv=>whnf
  rw[go3 (by omega)]
 conv=>whnf
 refine kbi (fun k4=>?_) (fun k4=>?_)
 ·have:o.code=7:=by simpa using k4
  conv=>whnf
  rw[go3 (by omega)]
 conv=>whnf
 refine kbi (fun k5=>?_) (fun k5=>?_)
 ·have:o.code=8:=by simpa using k5
  conv=>whnf
  rw[go3 (by omega)]
 conv=>whnf
 refine kbi (fun k6=>?_) (fun k6=>?_)
 ·have:o.code=9:=by simpa using k6
  conv=>whnf
  rw[go3 (by omega)]
 conv=>whnf
 rw[go4 (by simp at k1 k2 k3 k4 k5 k6;omega)]
theorem eY (p:ProgL) (t:Th) (hp:p.wf) (h:t.inP p):CallsTo EE 178 [agg (encProg p),agg (zD t)] (·=.tup [agg (encOp ((yE p t).getD op0)),bv (yE p t).isSome]):=by
 refine callsTo_of_AW (fn:=Tryz.f178) Tryz.func178 rfl (by kernel_rfl) rfl ?_
 obtain⟨⟨a1,a2⟩,b1,b2⟩:=h
 have hr:t.rt.toNat<p.rs.length:=by omega
 conv=>whnf
 refine⟨yF p.rs[t.rt.toNat],⟨a1,?_,rfl⟩,?_⟩
 ·show(p.rs.map yF)[t.rt.toNat]?=_
  simp[hr]
 conv=>whnf
 have hrow:p.rs.getD t.rt.toNat []=p.rs[t.rt.toNat]:=by simp[List.getD_eq_getElem?_getD,hr]
 rw[hrow] at b2
 refine kbi (fun h=>?_) (fun h=>?_)
 ·have h1:t.pc.toNat<p.rs[t.rt.toNat].length:=by simp at h;omega
  have h2:yE p t=some p.rs[t.rt.toNat][t.pc.toNat]:=by unfold yE;rw[hrow];simp[h1]
  conv=>whnf
  refine⟨encOp p.rs[t.rt.toNat][t.pc.toNat],⟨b1,?_,rfl⟩,?_⟩
  ·simp[h1]
  conv=>whnf
  rw[h2]
  rfl
 ·have h1:t.pc=(p.rs[t.rt.toNat].length:Int):=by simp at h;omega
  have h2:yE p t=none:=by unfold yE;rw[hrow,h1];simp
  conv=>whnf
  rw[h2]
  rfl
end Ai
namespace Ai
set_option maxRecDepth 100000
open Go Go.Proofs
def yV:Prop:=∀ (x:Nat) (many:Int),CallsTo EE 224 [.d (.flt x),i64 many] (·=.tup [i64 ((yX x many).getD 0),bv (yX x many).isSome])
theorem iO (hI:yV) (s:StL) (t:Th) (ht:t.stack.length≤1048576):CallsTo EE 222 [.fp (zX s),agg (zD t)] (·=.tup [i64 ((yA s t).getD 0),bv (yA s t).isSome]):=by
 refine callsTo_of_AW (fn:=Tryz.f222) Tryz.func222 rfl (by kernel_rfl) rfl ?_
 conv=>whnf
 refine kbi (fun h=>?_) (fun h=>?_)
 ·have h1:t.stack=[]:=by
   have:(t.stack.map encF).length=0:=by simpa using h
   simpa using this
  conv=>whnf
  simp[yA,h1]
 ·have hne:t.stack≠[]:=fun e=>h (by rw[e];rfl)
  have hpos:0<t.stack.length:=List.length_pos_iff.2 hne
  conv=>whnf
  refine .inr (.inl ⟨18,[],?_⟩)
  conv=>whnf
  refine⟨encF (t.stack.getLast hne),⟨?_,?_,rfl⟩,?_⟩
  ·rw[zK (by simp;omega) (by simp;omega)];simp;omega
  ·rw[zK (by simp;omega) (by simp;omega)]
   have e:((((t.stack.map encF).length:Int) - 1).toNat)=t.stack.length - 1:=by simp
   rw[e,List.getElem?_map,← List.getLast?_eq_getElem?,List.getLast?_eq_some_getLast hne]
   rfl
  conv=>whnf
  refine⟨_,hI _ _,?_⟩
  conv=>whnf
  have hj:yA s t=yX (t.stack.getLast hne) (s.ths.map zD).length:=by
   unfold yA
   rw[List.getLast?_eq_some_getLast hne]
   simp
  rw[← hj]
  refine⟨by kernel_rfl,?_⟩
  conv=>whnf
end Ai
namespace Ai
set_option maxRecDepth 100000
open Go Go.Proofs
open Classical in
/-- impl.(*State).waits: whether a thread waits -/
theorem waitsI_ok (hI:yV) (p:ProgL) (s:StL) (t:Th) (hp:p.wf) (ht:t.stack.length≤1048576) (hv:t.seen p s) :
  CallsTo EE 230 [.fp (zX s),agg (encProg p),agg (zD t)] (fun r=>∃ w:Int,r=.tup [i64 w,bp (0≤zZ p s t)]∧(0≤zZ p s t→w=zZ p s t)):=by
 refine callsTo_of_AW (fn:=Tryz.f230) Tryz.func230 rfl (by kernel_rfl) rfl ?_
 have own_get:∀ (a:Int),0≤a∧a<s.owner.length→0≤a∧(s.owner.map encInt)[a.toNat]?=some (encInt (s.owner.getD a.toNat 0))∧(encInt (s.owner.getD a.toNat 0)).length=1:=by
  intro a ha
  refine⟨ha.1,?_,rfl⟩
  have:a.toNat<s.owner.length:=by omega
  simp[this,List.getD_eq_getElem?_getD]
 conv=>whnf
 refine kbi (fun h4=>?_) (fun h4=>?_)
 ·have h4:t.st=4:=by simpa using h4
  have hb:zZ p s t=s.owner.getD t.lock.toNat 0:=by simp only[zZ,if_pos h4]
  conv=>whnf
  refine .inr (.inl ⟨19,[],?_⟩)
  conv=>whnf
  refine⟨_,own_get t.lock (hv.lock h4),?_⟩
  conv=>whnf
  refine⟨_,own_get t.lock (hv.lock h4),?_⟩
  conv=>whnf
  refine kbi (fun h0=>?_) (fun h0=>?_)
  ·have h0:0≤s.owner.getD (t.lock).toNat 0:=by simpa using h0
   conv=>whnf
   refine⟨by kernel_rfl,?_⟩
   conv=>whnf
   exact⟨_,by rw[hb];simp only[bp,pb_t h0],fun _=>hb.symm⟩
  ·have h0:¬ 0≤s.owner.getD (t.lock).toNat 0:=by simpa using h0
   conv=>whnf
   refine⟨by kernel_rfl,?_⟩
   conv=>whnf
   exact⟨_,by rw[hb];simp only[bp,pb_f h0],fun _=>hb.symm⟩
 have h4:¬ t.st=4:=by simpa using h4
 have none_:zZ p s t=-1→∃ w:Int,AV.tup [i64 0,bv false]=.tup [i64 w,bp (0≤zZ p s t)]∧(0≤zZ p s t→w=zZ p s t):=fun e =>
  ⟨0,by rw[e];simp only[bp,pb_f (show ¬ (0:Int)≤-1 by decide)],fun h=>by rw[e] at h;exact absurd h (by decide)⟩
 conv=>whnf
 refine kbi (fun h1=>?_) (fun h1=>?_)
 ·have h1:t.st=1:=by simpa using h1
  conv=>whnf
  refine⟨_,eY p t hp hv.inP,?_⟩
  rintro r rfl
  conv=>whnf
  cases hn:yE p t with
  |none =>
   conv=>whnf
   exact none_ (by unfold zZ;rw[if_neg h4,hn])
  |some o =>
   conv=>whnf
   refine kbi (fun h2=>?_) (fun h2=>?_)
   ·have h2:o.code=12:=by simpa using h2
    have hb:zZ p s t=s.owner.getD o.a.toNat 0:=by simp[zZ,h4,hn,h1,h2]
    conv=>whnf
    refine .inr (.inl ⟨19,[],?_⟩)
    conv=>whnf
    refine⟨_,own_get o.a (hv.op o hn h2),?_⟩
    conv=>whnf
    refine⟨_,own_get o.a (hv.op o hn h2),?_⟩
    conv=>whnf
    refine kbi (fun h0=>?_) (fun h0=>?_)
    ·have h0:0≤s.owner.getD (o.a).toNat 0:=by simpa using h0
     conv=>whnf
     refine⟨by kernel_rfl,?_⟩
     conv=>whnf
     exact⟨_,by rw[hb];simp only[bp,pb_t h0],fun _=>hb.symm⟩
    ·have h0:¬ 0≤s.owner.getD (o.a).toNat 0:=by simpa using h0
     conv=>whnf
     refine⟨by kernel_rfl,?_⟩
     conv=>whnf
     exact⟨_,by rw[hb];simp only[bp,pb_f h0],fun _=>hb.symm⟩
   have h2:¬ o.code=12:=by simpa using h2
   conv=>whnf
   refine kbi (fun h3=>?_) (fun h3=>?_)
   ·have h3:o.code=15:=by simpa using h3
    conv=>whnf
    refine⟨_,iO hI s t ht,?_⟩
    rintro r rfl
    conv=>whnf
    cases hj:yA s t with
    |none =>
     conv=>whnf
     refine .inr (.inl ⟨15,[],?_⟩)
     conv=>whnf
     refine⟨by kernel_rfl,?_⟩
     conv=>whnf
     exact none_ (by simp[zZ,h4,hn,h1,h2,h3,hj])
    |some k =>
     obtain⟨k1,k2⟩:=gT lE hj
     have hk:k.toNat<s.ths.length:=by omega
     conv=>whnf
     refine .inr (.inl ⟨15,[],?_⟩)
     conv=>whnf
     refine⟨zD s.ths[k.toNat],⟨k1,by simp[hk],rfl⟩,?_⟩
     conv=>whnf
     refine kbi (fun h6=>?_) (fun h6=>?_)
     ·have h6:¬ s.ths[k.toNat].st=2:=by simpa using h6
      conv=>whnf
      refine⟨by kernel_rfl,?_⟩
      conv=>whnf
      have hb:zZ p s t=k:=by simp[zZ,h4,hn,h1,h2,h3,hj,List.getD_eq_getElem?_getD,hk,h6]
      exact⟨k,by rw[hb];simp only[bp,pb_t k1];rfl,fun _=>hb.symm⟩
     ·have h6:s.ths[k.toNat].st=2:=by simpa using h6
      conv=>whnf
      refine⟨by kernel_rfl,?_⟩
      conv=>whnf
      have hb:zZ p s t=-1:=by simp[zZ,h4,hn,h1,h2,h3,hj,List.getD_eq_getElem?_getD,hk,h6]
      exact⟨k,by rw[hb];simp only[bp,pb_f (show ¬ (0:Int)≤-1 by decide)];rfl,fun h=>by rw[hb] at h;exact absurd h (by decide)⟩
   ·have h3:¬ o.code=15:=by simpa using h3
    conv=>whnf
    exact none_ (by simp[zZ,h4,hn,h1,h2,h3])
 ·have h1:¬ t.st=1:=by simpa using h1
  conv=>whnf
  exact none_ (by
   unfold zZ;rw[if_neg h4]
   cases yE p t with
   |none=>rfl
   |some o=>simp[h1])
end Ai
namespace Ai
set_option maxRecDepth 100000
open Go Go.Proofs
theorem enabledI_ok (hI:yV) (p:ProgL) (s:StL) (hp:p.wf) (hs:s.small) (hv:∀ t∈s.ths,t.seen p s) :
  CallsTo EE 193 [.fp (zX s),agg (encProg p)] (·=.uq 3 1 ((zA p s).map vH)):=by
 refine callsTo_of_AW (fn:=Tryz.f193) Tryz.func193 rfl (by kernel_rfl) rfl ?_
 conv=>whnf
 refine yN (fun k:Nat=>[(0,.fp (zX s)),(3,.ptr (.n 3) 0),(5,.ref (.n 10) 0 (zM p s k).length),(14,sl (s.ths.map zD)),(15,i64 (s.ths.map zD).length),(16,i64 k)])
  (fun k=>[(.n 3,.vs 42 ((encProg p).map .d)),(.n 10,.ds 3 1 ((zM p s k).map vH))]) (fun k=>s.ths.length - k) (fun k=>k≤s.ths.length) 0
  Weak.refl ⟨rfl,rfl,rfl,rfl,rfl,rfl,trivial⟩ ⟨rfl,rfl,trivial⟩ (Nat.zero_le _) ?_
 rintro k τ H hk
 conv=>whnf
 refine kbi (fun h=>?_) (fun h=>?_)
 ·have hlt:=yK h
  conv=>whnf
  refine⟨zD s.ths[k],zQ zD hlt rfl,?_⟩
  conv=>whnf
  have hg:s.ths.getD k th0=s.ths[k]:=by simp[List.getD_eq_getElem?_getD,hlt]
  have hle:(zM p s k).length≤k:=kS
  have hn:=hs.1
  refine⟨_,waitsI_ok hI p s s.ths[k] hp (hs.2.1 _ (List.getElem_mem hlt)) (hv _ (List.getElem_mem hlt)),?_⟩
  rintro r ⟨w,rfl,-⟩
  conv=>whnf
  refine kbi (fun hf=>?_) (fun hf=>?_)
  ·have hf:s.fault=0:=by simpa using hf
   by_cases hb:0≤zZ p s s.ths[k]
   ·simp only[bp,pb_t hb]
    conv=>whnf
    have hgo:jG p s k=false:=by unfold jG;rw[hg];exact decide_eq_false fun e=>by have:=e.2.2;omega
    have hsk:zM p s (k+1)=zM p s k:=by rw[xD,hgo];simp
    refine⟨k+1,by omega,by show s.ths.length - (k+1)<s.ths.length - k;omega,⟨rfl,rfl,?_,rfl,rfl,zJ hlt (by omega),trivial⟩,⟨rfl,?_,trivial⟩⟩
    ·rw[hsk];rfl
    ·rw[hsk];rfl
   ·simp only[bp,pb_f hb]
    conv=>whnf
    refine kbi (fun h1=>?_) (fun h1=>?_)
    ·have h1:s.ths[k].st=1:=by simpa using h1
     conv=>whnf
     refine⟨⟨rfl,by simp;omega,by simp;omega⟩,?_⟩
     conv=>whnf
     have hgo:jG p s k=true:=by unfold jG;rw[hg];exact decide_eq_true ⟨hf,.inl h1,by omega⟩
     have hsk:zM p s (k+1)=zM p s k++[k]:=by rw[xD,hgo];simp
     refine⟨k+1,by omega,by show s.ths.length - (k+1)<s.ths.length - k;omega,⟨rfl,rfl,?_,rfl,rfl,zJ hlt (by omega),trivial⟩,⟨rfl,?_,trivial⟩⟩
     ·rw[hsk]
      show AV.ref (.n 10) 0 ((zM p s k).length+1)=_
      simp
     ·rw[hsk]
      show some (Ob.ds 3 1 (((zM p s k).map vH).take (zM p s k).length++[[di k]]))=_
      rw[List.take_of_length_le (by simp)]
      simp[vH]
    ·have h1:¬ s.ths[k].st=1:=by simpa using h1
     conv=>whnf
     refine kbi (fun h4=>?_) (fun h4=>?_)
     ·have h4:s.ths[k].st=4:=by simpa using h4
      conv=>whnf
      refine⟨⟨rfl,by simp;omega,by simp;omega⟩,?_⟩
      conv=>whnf
      have hgo:jG p s k=true:=by unfold jG;rw[hg];exact decide_eq_true ⟨hf,.inr h4,by omega⟩
      have hsk:zM p s (k+1)=zM p s k++[k]:=by rw[xD,hgo];simp
      refine⟨k+1,by omega,by show s.ths.length - (k+1)<s.ths.length - k;omega,⟨rfl,rfl,?_,rfl,rfl,zJ hlt (by omega),trivial⟩,⟨rfl,?_,trivial⟩⟩
      ·rw[hsk]
       show AV.ref (.n 10) 0 ((zM p s k).length+1)=_
       simp
      ·rw[hsk]
       show some (Ob.ds 3 1 (((zM p s k).map vH).take (zM p s k).length++[[di k]]))=_
       rw[List.take_of_length_le (by simp)]
       simp[vH]
     ·have h4:¬ s.ths[k].st=4:=by simpa using h4
      conv=>whnf
      have hgo:jG p s k=false:=by unfold jG;rw[hg];exact decide_eq_false fun e=>e.2.1.elim h1 h4
      have hsk:zM p s (k+1)=zM p s k:=by rw[xD,hgo];simp
      refine⟨k+1,by omega,by show s.ths.length - (k+1)<s.ths.length - k;omega,⟨rfl,rfl,?_,rfl,rfl,zJ hlt (by omega),trivial⟩,⟨rfl,?_,trivial⟩⟩
      ·rw[hsk];rfl
      ·rw[hsk];rfl
  ·have hf:¬ s.fault=0:=by simpa using hf
   conv=>whnf
   have hgo:jG p s k=false:=by unfold jG;exact decide_eq_false fun e=>hf e.1
   have hsk:zM p s (k+1)=zM p s k:=by rw[xD,hgo];simp
   refine⟨k+1,by omega,by show s.ths.length - (k+1)<s.ths.length - k;omega,⟨rfl,rfl,?_,rfl,rfl,zJ hlt (by omega),trivial⟩,⟨rfl,?_,trivial⟩⟩
   ·rw[hsk];rfl
   ·rw[hsk];rfl
 ·have hge:s.ths.length≤k:=by simpa using h
  have hkk:k=s.ths.length:=by omega
  subst hkk
  conv=>whnf
  refine congrArg (AV.uq 3 1) ?_
  rw[List.take_of_length_le (by simp)]
  rfl
end Ai
namespace Ai
set_option maxRecDepth 100000
open Go Go.Proofs
theorem l8 (hI:yV) (s:StL) (k:Nat) (o:OpL) (hk:k<s.ths.length) (hs:s.small) (ho:o.inS s):CallsTo EE 180 [.fp (zX s),i64 k,agg (encOp o)] (·=i64 (yB s k o)):=by
 refine callsTo_of_AW (fn:=Tryz.f180) Tryz.func180 rfl (by kernel_rfl) rfl ?_
 have hg:s.ths.getD k th0=s.ths[k]:=by simp[List.getD_eq_getElem?_getD,hk]
 have hst:=hs.2.1 _ (List.getElem_mem hk)
 conv=>whnf
 refine⟨zD s.ths[k],zQ zD hk rfl,?_⟩
 conv=>whnf
 refine⟨_,sJ o,?_⟩
 rintro r rfl
 conv=>whnf
 have ht:0≤(zB o.code).1∧(zB o.code).1≤2∧0≤(zB o.code).2∧(zB o.code).2≤1:=by
  unfold zB;split
  ·decide
  ·split
   ·decide
   ·split <;> decide
 have e1:(IntKind.i64.wrap ((s.ths[k].stack.length:Int) - (zB o.code).1))=(s.ths[k].stack.length:Int) - (zB o.code).1:=zK (by omega) (by omega)
 refine kbi (fun h1=>?_) (fun h1=>?_)
 ·conv=>whnf
  have h1:(s.ths[k].stack.length:Int)<(zB o.code).1:=by simpa using h1
  simp only[yB,hg]
  rw[if_pos (.inl h1)]
 have h1:¬ (s.ths[k].stack.length:Int)<(zB o.code).1:=by simpa using h1
 conv=>whnf
 rw[show(List.map encF s.ths[k].stack).length=s.ths[k].stack.length by simp,e1,zK (by omega) (by omega)]
 refine kbi (fun h2=>?_) (fun h2=>?_)
 ·have h2:8<(s.ths[k].stack.length:Int) - (zB o.code).1+(zB o.code).2:=by simpa using h2
  conv=>whnf
  simp only[yB,hg]
  rw[if_pos (.inr h2)]
 have h2:¬ 8<(s.ths[k].stack.length:Int) - (zB o.code).1+(zB o.code).2:=by simpa using h2
 have hn1:¬ ((s.ths[k].stack.length:Int)<(zB o.code).1∨8<(s.ths[k].stack.length:Int) - (zB o.code).1+(zB o.code).2):=fun e=>e.elim h1 h2
 conv=>whnf
 have fin:∀ n:Int,(if (o.code=13∧s.owner.getD o.a.toNat 0≠k)∨(o.code=16∧s.owner.getD o.b.toNat 0≠k) then 2
   else if o.code=15∧(yA s s.ths[k]).getD (-1)<0 then 3
   else if o.code=14∧s.ths.length=5 then 4 else 0)=n→AV.d (.int .i64 n)=i64 (yB s k o):=by
  intro n hn
  rw[← hn]
  simp only[yB,hg]
  rw[if_neg hn1]
 have own_get:∀ (a:Int),0≤a∧a<s.owner.length→0≤a∧(s.owner.map encInt)[a.toNat]?=some (encInt (s.owner.getD a.toNat 0))∧(encInt (s.owner.getD a.toNat 0)).length=1:=by
  intro a ha
  refine⟨ha.1,?_,rfl⟩
  have:a.toNat<s.owner.length:=by omega
  simp[this,List.getD_eq_getElem?_getD]
 refine kbi (fun h3=>?_) (fun h3=>?_)
 ·have h3:o.code=13:=by simpa using h3
  conv=>whnf
  refine .inr (.inl ⟨10,[],?_⟩)
  conv=>whnf
  refine⟨_,own_get o.a (ho.1 h3),?_⟩
  conv=>whnf
  refine kbi (fun h4=>?_) (fun h4=>?_)
  ·have h4:s.owner.getD o.a.toNat 0≠k:=by simpa using h4
   conv=>whnf
   refine⟨by kernel_rfl,?_⟩
   conv=>whnf
   exact fin 2 (by rw[if_pos (.inl ⟨h3,h4⟩)])
  have h4:¬ s.owner.getD o.a.toNat 0≠k:=by simpa using h4
  conv=>whnf
  refine⟨by kernel_rfl,?_⟩
  conv=>whnf
  exact fin 0 (by rw[if_neg (by rintro(⟨_,e⟩|⟨e,_⟩);exact h4 e;omega),if_neg (by omega),if_neg (by omega)])
 have h3:¬ o.code=13:=by simpa using h3
 conv=>whnf
 refine kbi (fun h4=>?_) (fun h4=>?_)
 ·have h4:o.code=16:=by simpa using h4
  conv=>whnf
  refine .inr (.inl ⟨10,[],?_⟩)
  conv=>whnf
  refine⟨_,own_get o.b (ho.2 h4),?_⟩
  conv=>whnf
  refine kbi (fun h5=>?_) (fun h5=>?_)
  ·have h5:s.owner.getD o.b.toNat 0≠k:=by simpa using h5
   conv=>whnf
   refine⟨by kernel_rfl,?_⟩
   conv=>whnf
   exact fin 2 (by rw[if_pos (.inr ⟨h4,h5⟩)])
  have h5:¬ s.owner.getD o.b.toNat 0≠k:=by simpa using h5
  conv=>whnf
  refine⟨by kernel_rfl,?_⟩
  conv=>whnf
  exact fin 0 (by rw[if_neg (by rintro(⟨e,_⟩|⟨_,e⟩);exact h3 e;exact h5 e),if_neg (by omega),if_neg (by omega)])
 have h4:¬ o.code=16:=by simpa using h4
 have hn2:¬ ((o.code=13∧s.owner.getD o.a.toNat 0≠k)∨(o.code=16∧s.owner.getD o.b.toNat 0≠k)):=by
  rintro(⟨e,_⟩|⟨e,_⟩)
  ·exact h3 e
  ·exact h4 e
 conv=>whnf
 refine kbi (fun h5=>?_) (fun h5=>?_)
 ·have h5:o.code=15:=by simpa using h5
  conv=>whnf
  refine⟨_,iO hI s s.ths[k] hst,?_⟩
  rintro r rfl
  conv=>whnf
  cases hj:yA s s.ths[k] with
  |none =>
   conv=>whnf
   exact fin 3 (by rw[if_neg hn2,if_pos ⟨h5,by rw[hj];decide⟩])
  |some n =>
   conv=>whnf
   have:=gT lE hj
   exact fin 0 (by rw[if_neg hn2,if_neg (fun e=>by have e2:=e.2;rw[hj] at e2;simp only[Option.getD_some] at e2;omega),if_neg (by omega)])
 have h5:¬ o.code=15:=by simpa using h5
 conv=>whnf
 refine kbi (fun h6=>?_) (fun h6=>?_)
 ·have h6:o.code=14:=by simpa using h6
  conv=>whnf
  refine kbi (fun h7=>?_) (fun h7=>?_)
  ·have h7:s.ths.length=5:=by
    have:((s.ths.map zD).length:Int)=5:=by simpa using h7
    simp at this;omega
   conv=>whnf
   exact fin 4 (by rw[if_neg hn2,if_neg (fun e=>h5 e.1),if_pos ⟨h6,h7⟩])
  have h7:¬ s.ths.length=5:=fun e=>h7 (by simp[e])
  conv=>whnf
  exact fin 0 (by rw[if_neg hn2,if_neg (fun e=>h5 e.1),if_neg (fun e=>h7 e.2)])
 have h6:¬ o.code=14:=by simpa using h6
 conv=>whnf
 exact fin 0 (by rw[if_neg hn2,if_neg (fun e=>h5 e.1),if_neg (fun e=>h6 e.1)])
end Ai
namespace Ai
set_option maxRecDepth 100000
open Go Go.Proofs
def onP (p:ProgL) (k:Nat):List (Key × Ob):=[(.n 2,.vs 37 [.d .nil,.d .nil,.d .nil,i64 0]),(.n 3,.vs 37 [.dref (.n 6) 1,.ref (.n 9) 0 p.cells.toNat,.ref (.n 12) 0 p.locks.toNat,i64 0]),
 (.n 6,.rs 158 6 [[i64 0,i64 0,i64 1,i64 (-1),i64 (-1),.ref (.n 905) 0 0]]),(.n 905,.ds 74 1 []),(.n 9,.ds 74 1 (List.replicate p.cells.toNat [.flt 0])),(.n 12,.ds 3 1 (List.replicate k [di (-1)]++List.replicate (p.locks.toNat - k) [di 0]))]
theorem repl_step {n k:Nat} {d:D} {b:List D} (h:k<n):xY (List.replicate k [d]++List.replicate (n - k) b) 1 (0+((k:Nat):Int).toNat) 0 [d]=List.replicate (k+1) [d]++List.replicate (n - (k+1)) b:=by
 have e1:0+((k:Nat):Int).toNat=k:=by omega
 have e2:n - k=(n - (k+1))+1:=by omega
 rw[e1]
 unfold xY
 rw[show(Nat.beq 0 0&&Nat.beq [d].length 1)=true from rfl,cond_true,List.set_append,List.length_replicate,if_neg (by omega),Nat.sub_self,e2,List.replicate_succ,List.set_cons_zero,List.replicate_succ']
 simp
theorem start_ok (p:ProgL) (h1:InR p.cells 0 1048576) (h2:InR p.locks 0 1048576):CallsTo EE 116 [agg (encProg p)] (·=.own (xH (xC p))):=by
 refine callsTo_of_AW (fn:=Tryz.f116) Tryz.func116 rfl (by kernel_rfl) rfl ?_
 have a1:=h1.1
 have a2:=h1.2
 have b1:=h2.1
 have b2:=h2.2
 conv=>whnf
 refine .inr (.inl ⟨10,[2715],?_⟩)
 conv=>whnf
 refine⟨_,gZ 0,?_⟩
 conv=>whnf
 refine⟨⟨by omega,by omega,by show 8*p.cells≤_;omega,by omega⟩,?_⟩
 conv=>whnf
 refine⟨⟨by omega,by omega,by show 8*p.locks≤_;omega,by omega⟩,?_⟩
 conv=>whnf
 refine⟨by kernel_rfl,?_⟩
 conv=>whnf
 refine yN (fun k:Nat=>[(2,.ptr (.n 2) 0),(3,.ptr (.n 3) 0),(16,i64 p.locks.toNat),(17,i64 k)]) (fun k=>onP p k) (fun k=>p.locks.toNat - k) (fun k=>k≤p.locks.toNat) 0
  Weak.refl ⟨rfl,rfl,rfl,rfl,trivial⟩ ⟨rfl,rfl,rfl,rfl,rfl,rfl,trivial⟩ (Nat.zero_le _) ?_
 rintro k τ H hk
 conv=>whnf
 refine kbi (fun h=>?_) (fun h=>?_)
 ·have hlt:k<p.locks.toNat:=lt_of_dec h
  conv=>whnf
  refine⟨⟨by omega,by omega⟩,?_⟩
  conv=>whnf
  refine⟨k+1,by omega,by show p.locks.toNat - (k+1)<p.locks.toNat - k;omega,⟨rfl,rfl,rfl,zJ hlt (by omega),trivial⟩,⟨rfl,rfl,rfl,rfl,rfl,?_,trivial⟩⟩
  exact congrArg (fun x=>some (Ob.ds 3 1 x)) (repl_step hlt)
 ·have hge:p.locks.toNat≤k:=ge_of_dec (by simpa using h)
  have hkc:k=p.locks.toNat:=by omega
  subst hkc
  conv=>whnf
  refine .inr (.inr ⟨xH (xC p),_,(wV 6 900).trans ((uS 905 900 0).trans ((wV 9 901).trans (wV 12 902))),?_,?_,gA ⟨⟨rfl,fun j q hq=>?_⟩,?_,?_,trivial,trivial⟩,rfl⟩)
  ·show some [AV.agg [.dref 900 1,.ref 901 0 p.cells.toNat,.ref 902 0 p.locks.toNat,i64 0]]=_
   simp[ownR,ownR1,xH,kW,xC]
   exact⟨rfl,rfl,rfl⟩
  ·intro v hv
   simp only[xH,List.mem_cons,List.not_mem_nil,or_false] at hv
   rcases hv with rfl|rfl|rfl|rfl
   ·rfl
   ·trivial
   ·trivial
   ·trivial
  ·match j,hq with
   | 0,hq=>injection hq with hq;subst hq;rfl
   |j+1,hq=>cases hq
  ·show some (Ob.ds 74 1 (List.replicate p.cells.toNat [.flt 0]))=some (Ob.ds 74 1 ((List.replicate p.cells.toNat 0).map encF))
   rw[List.map_replicate];rfl
  ·show some (Ob.ds 3 1 (List.replicate p.locks.toNat [di (-1)]++List.replicate (p.locks.toNat - p.locks.toNat) [di 0]))=some (Ob.ds 3 1 ((List.replicate p.locks.toNat (-1)).map encInt))
   rw[List.map_replicate,Nat.sub_self]
   exact congrArg (fun x=>some (Ob.ds 3 1 x)) (List.append_nil _)
end Ai
namespace Ai
set_option maxRecDepth 100000
open Go Go.Proofs
def y8 (o:Option Nat):Int:=match o with|some k=>k|none=>-1
theorem oD {α:Type} {f:α→Bool} {l:List α} {k:Nat} (hk:k<l.length) (h:∀ x∈l.take k,f x=false) (hf:f l[k]=true):l.findIdx? f=some k:=by
 rw[List.findIdx?_eq_some_iff_getElem]
 refine⟨hk,hf,fun j hj=>?_⟩
 have:=h l[j] (List.mem_take_iff_getElem.2 ⟨j,by omega,rfl⟩)
 simp[this]
theorem oE {α:Type} {f:α→Bool} {l:List α} (h:∀ x∈l,f x=false):l.findIdx? f=none:=by
 rw[List.findIdx?_eq_none_iff];exact h
theorem fE (l:List Th) (hl:l.length≤1048576) (g:FuncId) (caps:List AV) (hc:caps=[]∨∃ c,caps=[.fp c]) (f:Th→Bool) (hg:∀ t∈l,CallsTo EE g (agg (zD t)::caps) (·=bv (f t))) :
  CallsTo EE 225 [sl (l.map zD),.fn g caps] (·=i64 (y8 (l.findIdx? f))):=by
 refine callsTo_of_AW (fn:=Tryz.f225) Tryz.func225 rfl (by kernel_rfl) rfl ?_
 rcases hc with rfl|⟨c,rfl⟩
 ·conv=>whnf
  refine yN (fun k:Nat=>[(0,sl (l.map zD)),(1,.fn g []),(7,i64 (l.map zD).length),(8,i64 k)]) (fun k=>[]) (fun k=>l.length - k) (fun k=>k≤l.length∧∀ x∈l.take k,f x=false) 0
   Weak.refl ⟨rfl,rfl,rfl,rfl,trivial⟩ trivial ⟨Nat.zero_le _,by simp⟩ ?_
  rintro k τ H ⟨hk,hall⟩
  conv=>whnf
  refine kbi (fun h=>?_) (fun h=>?_)
  ·have hlt:=yK h
   conv=>whnf
   refine⟨zD l[k],zQ zD hlt rfl,?_⟩
   conv=>whnf
   refine⟨_,hg _ (List.getElem_mem hlt),?_⟩
   rintro r rfl
   cases hf:f l[k] with
   |true =>
    conv=>whnf
    rw[oD hlt hall hf];rfl
   |false =>
    conv=>whnf
    exact⟨k+1,⟨by omega,gO hall hlt hf⟩,by show l.length - (k+1)<l.length - k;omega,⟨rfl,rfl,rfl,zJ hlt (by omega),trivial⟩,trivial⟩
  ·have hge:l.length≤k:=by simpa using h
   conv=>whnf
   rw[oE (dR hall hge)];rfl
 ·conv=>whnf
  refine yN (fun k:Nat=>[(0,sl (l.map zD)),(1,.fn g [.fp c]),(7,i64 (l.map zD).length),(8,i64 k)]) (fun k=>[]) (fun k=>l.length - k) (fun k=>k≤l.length∧∀ x∈l.take k,f x=false) 0
   Weak.refl ⟨rfl,rfl,rfl,rfl,trivial⟩ trivial ⟨Nat.zero_le _,by simp⟩ ?_
  rintro k τ H ⟨hk,hall⟩
  conv=>whnf
  refine kbi (fun h=>?_) (fun h=>?_)
  ·have hlt:=yK h
   conv=>whnf
   refine⟨zD l[k],zQ zD hlt rfl,?_⟩
   conv=>whnf
   refine⟨_,hg _ (List.getElem_mem hlt),?_⟩
   rintro r rfl
   cases hf:f l[k] with
   |true =>
    conv=>whnf
    rw[oD hlt hall hf];rfl
   |false =>
    conv=>whnf
    exact⟨k+1,⟨by omega,gO hall hlt hf⟩,by show l.length - (k+1)<l.length - k;omega,⟨rfl,rfl,rfl,zJ hlt (by omega),trivial⟩,trivial⟩
  ·have hge:l.length≤k:=by simpa using h
   conv=>whnf
   rw[oE (dR hall hge)];rfl
theorem fixI_nn {α:Type} {f:α→Bool} {l:List α}:decide (y8 (l.findIdx? f)≥0)=l.any f:=by
 cases h:l.findIdx? f with
 |none =>
  rw[List.findIdx?_eq_none_iff] at h
  have:l.any f=false:=by
   rw[List.any_eq_false];intro x hx;simp[h x hx]
  rw[this];rfl
 |some k =>
  rw[List.findIdx?_eq_some_iff_getElem] at h
  obtain⟨hk,hf,_⟩:=h
  have:l.any f=true:=List.any_eq_true.2 ⟨_,List.getElem_mem hk,hf⟩
  rw[this]
  simp[y8]
theorem tR (l:List Th) (hl:l.length≤1048576) (g:FuncId) (f:Th→Bool) (hg:∀ t∈l,CallsTo EE g [agg (zD t)] (·=bv (f t))) :
  CallsTo EE 231 [sl (l.map zD),.fn g []] (·=bv (l.any f)):=by
 refine callsTo_of_AW (fn:=Tryz.f231) Tryz.func231 rfl (by kernel_rfl) rfl ?_
 conv=>whnf
 refine⟨_,fE l hl g [] (.inl rfl) f hg,?_⟩
 rintro r rfl
 conv=>whnf
 rw[← fixI_nn]
 refine kbi (fun h=>?_) (fun h=>?_)
 ·conv=>whnf
  rw[h]
 ·conv=>whnf
  rw[show decide (y8 (l.findIdx? f)≥0)=false by simpa using h]
theorem codeOf1_ok (t:Th):CallsTo EE 232 [agg (zD t)] (·=bv (t.st != 2)):=by
 refine callsTo_of_AW (fn:=Tryz.f232) Tryz.func232 rfl (by kernel_rfl) rfl ?_
 conv=>whnf
 refine kbi (fun h=>?_) (fun h=>?_)
 ·conv=>whnf
  have:t.st≠2:=by simpa using h
  simp[this]
 ·conv=>whnf
  have:t.st=2:=by simpa using h
  simp[this]
theorem codeOf_ok (p:ProgL) (s:StL) (steps budget:Int) (hs:s.small) :
  CallsTo EE 194 [agg (encProg p),.fp (zX s),sl ((zA p s).map vH),i64 steps,i64 budget] (·=i64 (xF p s steps budget)):=by
 refine callsTo_of_AW (fn:=Tryz.f194) Tryz.func194 rfl (by kernel_rfl) rfl ?_
 have hn:=hs.1
 conv=>whnf
 refine kbi (fun hf=>?_) (fun hf=>?_)
 ·have hf:s.fault≠0:=by simpa using hf
  conv=>whnf
  unfold xF
  rw[if_pos hf]
 have hf:¬ s.fault≠0:=by simpa using hf
 conv=>whnf
 refine kbi (fun h0=>?_) (fun h0=>?_)
 ·have h0:zA p s=[]:=by
   have:(((zA p s).map vH).length:Int)=0:=by simpa using h0
   simp at this
   exact this
  conv=>whnf
  refine⟨_,tR s.ths hn 232 _ (fun t _=>codeOf1_ok t),?_⟩
  rintro r rfl
  cases hany:s.ths.any (fun t=>t.st != 2) with
  |true =>
   conv=>whnf
   obtain⟨t,ht,h2⟩:=List.any_eq_true.1 hany
   unfold xF
   rw[if_neg hf,if_pos h0,if_pos ⟨t,ht,by simpa using h2⟩]
  |false =>
   conv=>whnf
   rw[List.any_eq_false] at hany
   unfold xF
   rw[if_neg hf,if_pos h0,if_neg]
   rintro⟨t,ht,h2⟩
   exact hany t ht (by simpa using h2)
 have h0:¬ zA p s=[]:=fun e=>h0 (by rw[e];rfl)
 conv=>whnf
 refine kbi (fun h1=>?_) (fun h1=>?_)
 ·have h1:steps=budget:=by simpa using h1
  conv=>whnf
  unfold xF
  rw[if_neg hf,if_neg h0,if_pos h1]
 ·have h1:¬ steps=budget:=by simpa using h1
  conv=>whnf
  unfold xF
  rw[if_neg hf,if_neg h0,if_neg h1]
end Ai
namespace Ai
set_option maxRecDepth 100000
open Go Go.Proofs
def fN (l:List Th) (k:Nat):List (List AV):=thRows 900 (l.take k)++(l.drop k).map fun t=>(zD t).map .d
theorem renL_d (f:Key→Key):∀ xs:List D,renL f (xs.map .d)=xs.map .d
 | []=>rfl
 |x::xs=>by simp only[List.map_cons,renL,ren,renL_d f xs]
theorem scrL_d (p:Key→Bool):∀ xs:List D,scrPL p (xs.map .d)=xs.map .d
 | []=>rfl
 |x::xs=>by simp only[List.map_cons,scrPL,scrP,scrL_d p xs]
theorem m4 {α:Type} (f:Key→Key) (enc:α→List D) (l:List α):(l.map fun t=>(enc t).map AV.d).map (renL f)=l.map fun t=>(enc t).map AV.d:=by
 rw[List.map_map];exact List.map_congr_left fun t _=>renL_d f _
theorem dRows_scr {α:Type} (p:Key→Bool) (enc:α→List D) (l:List α):(l.map fun t=>(enc t).map AV.d).map (scrPL p)=l.map fun t=>(enc t).map AV.d:=by
 rw[List.map_map];exact List.map_congr_left fun t _=>scrL_d p _
theorem rowsK_scr {p:Key→Bool} (l:List Th) (k:Nat) (h:∀ j,p (.s 900 j)=false):(fN l k).map (scrPL p)=fN l k:=by
 unfold fN
 rw[List.map_append,zR fun j _=>h j,dRows_scr]
theorem rowsK_get {l:List Th} {k:Nat} (h:k<l.length):(fN l k)[k]?=some ((zD l[k]).map .d):=by
 unfold fN
 have hl:(thRows 900 (l.take k)).length=k:=by rw[zU];simp;omega
 rw[List.getElem?_append_right (by omega),hl,Nat.sub_self,List.getElem?_map,List.getElem?_drop,Nat.add_zero,List.getElem?_eq_getElem h]
 rfl
theorem rowsK_round {l:List Th} {k a:Nat} {X:List (List AV)} {v:AV} (h:k<l.length) (hX:X=fN l k) (hv:v=.ref (.n a) 0 l[k].stack.length) :
  (yW X 6 ((k:Nat):Int).toNat (0+5) [v]).map (renL (swp (.n a) (.s 900 k)))=fN l (k+1):=by
 subst hX hv
 have hl:(l.take k).length=k:=by simp;omega
 have hd:l.drop k=l[k]::l.drop (k+1):=List.drop_eq_getElem_cons h
 have e2:swp (.n a) (.s 900 k) (.n a)=.s 900 k:=by simp[swp,zI]
 unfold yW fN
 rw[show(Nat.beq (0+5) 0&&Nat.beq [AV.ref (.n a) 0 l[k].stack.length].length 6)=false from rfl,cond_false,show((k:Nat):Int).toNat=k from rfl,hd,List.map_cons]
 have hm:∀ (A:List (List AV)) (x:List AV) (B:List (List AV)) (f:List AV→List AV),A.length=k→(A++x::B).modify k f=A++f x::B:=by
  intro A x B f hA
  apply List.ext_getElem?
  intro j
  rw[List.getElem?_modify]
  rcases Nat.lt_trichotomy j k with hj|hj|hj
  ·rw[List.getElem?_append_left (by omega),List.getElem?_append_left (by omega)]
   simp only[if_neg (show ¬ k=j by omega)];simp
  ·subst hj
   rw[List.getElem?_append_right (by omega),List.getElem?_append_right (by omega),hA];simp
  ·rw[List.getElem?_append_right (by omega),List.getElem?_append_right (by omega)]
   simp only[if_neg (show ¬ k=j by omega)]
   rw[show j - A.length=(j - k - 1)+1 by omega];simp
 rw[hm _ _ _ _ (by rw[zU];exact hl),List.map_append,nI (by omega),List.map_cons,m4,lY l k h,tT,hl,List.append_assoc,List.singleton_append]
 congr 2
 simp[zD,yJ,renL,ren,thRow,e2]
theorem m5 (s:StL) (hs:s.small):CallsTo EE 118 [agg (zX s)] (·=.own (xH s)):=by
 obtain⟨s1,s2,s3,s4⟩:=hs
 refine callsTo_of_AW (fn:=Tryz.f118) Tryz.func118 rfl (by kernel_rfl) rfl ?_
 conv=>whnf
 refine .inr (.inl ⟨13,[],?_⟩)
 conv=>whnf
 refine⟨_,bG s.cells s3,.inr ⟨_,rfl,?_⟩⟩
 conv=>whnf
 refine⟨_,CloneI_ok s.owner s4,.inr ⟨_,rfl,?_⟩⟩
 conv=>whnf
 refine⟨_,CloneT_ok s.ths s1,.inr ⟨_,rfl,?_⟩⟩
 conv=>whnf
 refine⟨by kernel_rfl,?_⟩
 conv=>whnf
 refine fD (fun k:Nat=>[(2,.ptr 2 0),(3,.ptr 3 0),(19,i64 s.ths.length),(20,i64 k)])
  (fun k=>[(2,.vs 37 [.d .nil,.d .nil,.d .nil,i64 0]),(3,.vs 37 [.dref 900 s.ths.length,.ref 7 0 s.cells.length,.ref 10 0 s.owner.length,i64 s.fault]),(7,.ds 74 1 (s.cells.map encF)),(10,.ds 3 1 (s.owner.map encInt)),(900,.rs 158 6 (fN s.ths k))])
  (fun k=>[(900,zE (s.ths.take k))]) (fun k=>s.ths.length - k) (fun k=>k≤s.ths.length) 0 ((aX (.n 15) (els:=s.ths.map zD) rfl).trans (wV 15 900)) ?_ ?_ ?_ (Nat.zero_le _) ?_
 ·refine⟨rfl,rfl,?_,rfl,trivial⟩
  show i64 (s.ths.map zD).length=_
  rw[List.length_map]
 ·refine⟨rfl,?_,rfl,rfl,?_,trivial⟩
  ·show some (Ob.vs 37 [.dref 900 (s.ths.map zD).length,.ref 7 0 (s.cells.map encF).length,.ref 10 0 (s.owner.map encInt).length,i64 s.fault])=_
   simp
  ·show some (Ob.rs 158 6 (((s.ths.map zD).map (List.map .d)).map (renL (swp (.n 15) (.n 900)))))=_
   rw[List.map_map (f:=zD),show(List.map AV.d ∘ zD)=fun t=>(zD t).map AV.d from rfl,m4]
   simp[fN,thRows,ownRows]
 ·refine⟨fun j=>?_,trivial⟩
  simp[zE]
  rfl
 rintro k τ H hk
 conv=>whnf
 refine kbi (fun h=>?_) (fun h=>?_)
 ·have hlt:k<s.ths.length:=by simpa using h
  have ht:=s2 _ (List.getElem_mem hlt)
  conv=>whnf
  refine .inr (.inl ⟨11,[],?_⟩)
  conv=>whnf
  refine⟨⟨by omega,by omega,by decide,by omega⟩,?_⟩
  conv=>whnf
  refine⟨⟨by omega,by omega⟩,?_⟩
  conv=>whnf
  refine⟨(zD s.ths[k]).map .d,⟨?_,by simp[zD]⟩,?_⟩
  ·repeat (first|exact rowsK_get hlt|refine xL ?_ (scrL_d _ _))
  conv=>whnf
  refine⟨⟨by simp[encF],by simp;omega,by simp;omega⟩,?_⟩
  conv=>whnf
  refine⟨by kernel_rfl,?_⟩
  conv=>whnf
  refine⟨⟨by omega,by omega⟩,?_⟩
  conv=>whnf
  refine⟨k+1,_,uS 26 900 k,by omega,by show s.ths.length - (k+1)<s.ths.length - k;omega,⟨rfl,rfl,rfl,zJ hlt (by omega),trivial⟩,⟨rfl,rfl,rfl,rfl,?_,trivial⟩,⟨fun j=>?_,trivial⟩⟩
  ·conv=>lhs;whnf
   refine congrArg some ?_
   refine congrArg (Ob.rs 158 6) (rowsK_round hlt ?_ ?_)
   ·exact rowsK_scr _ _ fun j=>rfl
   ·conv=>lhs;whnf
    show AV.ref (.n 26) 0 (0+(s.ths[k].stack.map encF).length)=_
    rw[List.length_map,Nat.zero_add]
  ·have hl:(s.ths.take k).length=k:=by simp;omega
   by_cases hj:j=k
   ·subst hj
    have e:swp (.n 26) (.s 900 j) (.s 900 j)=.n 26:=by simp[swp,Key.beq]
    show(St.H _ (swp (.n 26) (.s 900 j) (.s 900 j))).map _=_
    rw[e]
    show some (Ob.ds 74 ti74.sz (List.take 0 []++List.map encF s.ths[j].stack))=_
    rw[zE,lY s.ths j hlt,List.getElem?_append_right (by omega),hl]
    simp[stk]
   ·have e:swp (.n 26) (.s 900 k) (.s 900 j)=.s 900 j:=by simp[swp,Key.beq,nbeq_ne hj]
    show(St.H _ (swp (.n 26) (.s 900 k) (.s 900 j))).map _=_
    rw[e]
    refine Eq.trans (d9 (X:=zE (s.ths.take k) j) ?_ (thFam_ren _ _ _)) (eD hj)
    conv=>lhs;whnf
    repeat (refine hscrO ?_ (zH _ _ _);conv=>lhs;whnf)
    rfl
 ·have hge:s.ths.length≤k:=by simpa using h
  have hkk:k=s.ths.length:=by omega
  subst hkk
  conv=>whnf
  refine .inr (.inr ⟨xH s,_,(wV 7 901).trans (wV 10 902),?_,?_,gA ⟨⟨?_,fun j q hq=>?_⟩,rfl,rfl,trivial,trivial⟩,rfl⟩)
  ·show some [AV.agg [.dref 900 s.ths.length,.ref 901 0 s.cells.length,.ref 902 0 s.owner.length,i64 s.fault]]=_
   simp[ownR,ownR1,xH,kW]
   exact⟨rfl,rfl,rfl⟩
  ·intro v hv
   simp only[xH,List.mem_cons,List.not_mem_nil,or_false] at hv
   rcases hv with rfl|rfl|rfl|rfl
   ·show(s.ths.map wI).length=(s.ths.map stk).length
    simp
   ·trivial
   ·trivial
   ·trivial
  ·show some (Ob.rs 158 6 (((fN s.ths s.ths.length).map (renL (swp (.n 7) (.n 901)))).map (renL (swp (.n 10) (.n 902)))))=some (Ob.rs 158 6 (thRows 900 s.ths))
   have e:fN s.ths s.ths.length=thRows 900 s.ths:=by simp[fN]
   rw[e,vI,vI]
  ·show((zE (s.ths.take s.ths.length) j).map (renO _)).map (renO _)=_
   rw[thFam_ren,thFam_ren,List.take_length,zE]
   rw[List.getElem?_map] at hq
   obtain⟨t,ht,rfl⟩:=Option.map_eq_some_iff.1 hq
   rw[ht];rfl
end Ai
namespace Ai
set_option maxRecDepth 100000
open Go Go.Proofs
structure Inert (x:AV):Prop where
 scr:∀ p,scrP p x=x
 ren:∀ f,ren f x=x
 cut:∀ κ q,cut κ q x=x
def yO (t:Th):List AV:=[i64 t.rt,i64 t.pc,i64 t.st,i64 t.cond,i64 t.lock,.ref (.n 899) 0 t.stack.length]
def rowsA (l:List Th) (k:Nat) (t:Th):List (List AV):=(thRows 900 l).set k (yO t)
theorem rowsA_len (l:List Th) (k:Nat) (t:Th):(rowsA l k t).length=l.length:=by simp[rowsA,zU]
theorem yC {l:List Th} {k:Nat} {t:Th} (h:k<l.length):(rowsA l k t)[((k:Nat):Int).toNat]?=some (yO t):=by
 show(rowsA l k t)[k]?=_
 unfold rowsA
 rw[List.getElem?_set_self (by rw[zU];exact h)]
theorem rowsA_ne {l:List Th} {k j:Nat} {t:Th} (h:j≠k):(rowsA l k t)[j]?=(thRows 900 l)[j]?:=by
 unfold rowsA
 rw[List.getElem?_set_ne (Ne.symm h)]
theorem yI {p:Key→Bool} (h:p (.n 899)=false) (t:Th):scrPL p (yO t)=yO t:=by simp[yO,scrPL,scrP,h]
theorem qK {p:Key→Bool} (h1:p (.n 899)=false) (h2:∀ j,p (.s 900 j)=false) (l:List Th) (k:Nat) (t:Th):(rowsA l k t).map (scrPL p)=rowsA l k t:=by
 unfold rowsA
 rw[List.map_set,zR fun j _=>h2 j,yI h1]
theorem mG {l:List Th} {k off:Nat} {t t':Th} {v:AV} {X:List (List AV)} (hk:k<l.length) (hX:X=rowsA l k t) (h:yJ (yO t) off [v]=yO t'):yW X 6 ((k:Nat):Int).toNat off [v]=rowsA l k t':=by
 subst hX
 have hf:yW (rowsA l k t) 6 ((k:Nat):Int).toNat off [v]=(rowsA l k t).modify k fun c=>yJ c off [v]:=by
  unfold yW
  rw[show(Nat.beq off 0&&Nat.beq [v].length 6)=false from Bool.and_false _]
  rfl
 rw[hf]
 unfold rowsA
 apply List.ext_getElem?
 intro j
 rw[List.getElem?_modify]
 by_cases hj:k=j
 ·subst hj
  rw[List.getElem?_set_self (by rw[zU];exact hk),List.getElem?_set_self (by rw[zU];exact hk)];simp[h]
 ·rw[List.getElem?_set_ne hj,List.getElem?_set_ne hj];simp[hj]
theorem wA {E:TypeId} {x0 x1 x2:AV} (i0:Inert x0) (i1:Inert x1) (i2:Inert x2) (s:StL) {p:Key→Bool} (h:(p (.n 900) || p (.n 901) || p (.n 902))=false):scrPO p (.vs E ([x0,x1,x2]++stRef s))=.vs E ([x0,x1,x2]++stRef s):=by
 simp only[Bool.or_eq_false_iff] at h
 simp[scrPO,scrPL,scrP,stRef,i0.scr,i1.scr,i2.scr,h.1.1,h.1.2,h.2]
theorem wB {E:TypeId} (s:StL) {p:Key→Bool} (h:(p (.n 900) || p (.n 901) || p (.n 902))=false):scrPO p (.vs E ([]++stRef s))=.vs E ([]++stRef s):=by
 simp only[Bool.or_eq_false_iff] at h
 simp[scrPO,scrPL,scrP,stRef,h.1.1,h.1.2,h.2]
def doI1 (OFF:Nat) (k:Nat) (o:OpL) (t:Th):List (Nat × AV):=[(0,.ptr (.l 0) OFF),(1,i64 k),(6,.ptr (.n 6) 0),(7,.ptr (.n 7) 0),(8,.ptr (.n 8) 0),(9,.dptr (.n 900) k 0),(13,sl ((t.stack.drop (yD t o)).map encF))]
def doIO (E:TypeId) (pre:List AV) (s:StL) (k:Nat) (o:OpL) (e:Ev) (t t':Th):List (Key × Ob):=[(.l 0,.vs E (pre++stRef s)),(.n 6,.vs 135 ((encOp o).map .d)),(.n 7,.vs 105 ((encEv e).map .d)),
 (.n 8,.vs 105 [i64 0,i64 0,i64 0,i64 0,i64 0]),(.n 899,.ds 74 1 (stk t)),(.n 900,.rs 158 6 (rowsA s.ths k t')),(.n 901,.ds 74 1 (s.cells.map encF)),(.n 902,.ds 3 1 (s.owner.map encInt))]
theorem doI_preB (E:TypeId) (x0 x1 x2:AV) (i0:Inert x0) (i1:Inert x1) (i2:Inert x2) (g:Nat→Option Ob) (hg:∀ p j,(g j).map (scrPO p)=g j) (s:StL) (k:Nat) (o:OpL) (e:Ev) (hk:k<s.ths.length) (t:Th) (htk:(zB o.code).1≤t.stack.length) (ht8:t.stack.length≤1048576) (hpc:InR t.pc 0 1048576)
  (τ:Nat→AV) (H:Key→Option Ob) (Q:AX→St→Prop) (K:St→Prop) (hK:∀ s',At (doI1 3 k o t) (doIO E [x0,x1,x2] s k o e t (zF t o)) [(900,g)] s'→K s') :
  pR EE Tryz.f181.ntmps K Q 7 (Tryz.f181.body.getD .skip) (aD [(0,.ptr (.l 0) 3),(1,i64 k),(2,agg (encOp o)),(3,agg (encEv e))] (aC [(.l 0,.vs E ([x0,x1,x2]++stRef s)),(.n 899,.ds 74 1 (stk t)),(.n 900,.rs 158 6 (rowsA s.ths k t)),(.n 901,.ds 74 1 (s.cells.map encF)),(.n 902,.ds 3 1 (s.owner.map encInt))] (dT [(900,g)] ⟨τ,H⟩))):=by
 have ht:0≤(zB o.code).1∧(zB o.code).1≤2∧0≤(zB o.code).2∧(zB o.code).2≤1:=by
  unfold zB;split
  ·decide
  ·split
   ·decide
   ·split <;> decide
 have e1:(IntKind.i64.wrap ((t.stack.length:Int) - (zB o.code).1))=(t.stack.length:Int) - (zB o.code).1:=zK (by omega) (by omega)
 have e2:((t.stack.length:Int) - (zB o.code).1).toNat=yD t o:=by unfold yD xZ;omega
 have allLen:∀ a b:Nat,(((stk t).drop a).take b).all (fun c=>c.length==1)=true:=by
  intro a b
  simp only[List.all_eq_true]
  intro x hx
  have hx:=List.mem_of_mem_drop (List.mem_of_mem_take hx)
  obtain⟨y,_,rfl⟩:=List.mem_map.1 hx
  rfl
 conv=>whnf
 refine⟨⟨by omega,by omega⟩,?_⟩
 conv=>whnf
 refine⟨_,sJ o,?_⟩
 rintro r rfl
 conv=>whnf
 refine⟨yO t,⟨?_,by simp[yO]⟩,?_⟩
 ·repeat (first|exact yC hk|refine xL ?_ (yI rfl t))
 conv=>whnf
 refine⟨yO t,⟨?_,by simp[yO]⟩,?_⟩
 ·repeat (first|exact yC hk|refine xL ?_ (yI rfl t))
 conv=>whnf
 rw[e1]
 have e3:((stk t).drop (0+((t.stack.length:Int) - (zB o.code).1).toNat)).take ((t.stack.length:Int).toNat - ((t.stack.length:Int) - (zB o.code).1).toNat)=(t.stack.drop (yD t o)).map encF:=by
  rw[e2,Nat.zero_add,List.take_of_length_le (by simp[stk]),stk,List.map_drop]
 have hlen:(t.stack.drop (yD t o)).length≤1048576:=by simp;omega
 rcases Int.lt_or_eq_of_le ht.1 with h0|h0
 refine .inl ⟨⟨by omega,by omega,by omega,.inr (by omega)⟩,?_⟩
 conv=>whnf
 refine .inl ⟨(·=.uq 74 1 ((t.stack.drop (yD t o)).map encF)),Eq.mp (congrArg (fun x=>CallsTo EE 182 [sl x] _) e3.symm) (bG (t.stack.drop (yD t o)) hlen),?_⟩
 rintro r rfl
 refine⟨fun c hc=>?_,.inl ?_⟩
 ·obtain⟨y,_,rfl⟩:=List.mem_map.1 hc
  rfl
 conv=>whnf
 rotate_left 1
 refine .inr ⟨⟨by omega,by omega,by omega⟩,?_⟩
 conv=>whnf
 refine⟨(·=.uq 74 1 ((t.stack.drop (yD t o)).map encF)),Eq.mp (congrArg (fun x=>CallsTo EE 182 [sl x] _) (by simp[yD,xZ,← h0])) (bG (t.stack.drop (yD t o)) hlen),?_⟩
 rintro r rfl
 refine .inl ?_
 conv=>whnf
 all_goals
  refine⟨yO t,⟨by repeat (first|exact yC hk|refine xL ?_ (yI rfl t)),by simp[yO]⟩,?_⟩
  conv=>whnf
  refine .inl ⟨⟨by omega,by omega,by omega,.inl rfl⟩,?_⟩
  conv=>whnf
  have e5:((t.stack.length:Int) - (zB o.code).1).toNat - (0:Int).toNat=yD t o:=by rw[e2];rfl
  refine⟨[i64 t.rt,i64 t.pc,i64 t.st,i64 t.cond,i64 t.lock,.ref (.n 899) 0 (yD t o)],⟨?_,by simp⟩,?_⟩
  ·refine wD (c:=yO t) (by repeat (first|exact yC hk|refine xL ?_ (yI rfl t))) ?_
   conv=>lhs;whnf
   rw[← e5]
   rfl
  conv=>whnf
  refine hK _ ⟨?_,?_,?_⟩
  ·exact⟨rfl,rfl,rfl,rfl,rfl,rfl,rfl,trivial⟩
  ·refine⟨?_,rfl,rfl,rfl,rfl,?_,rfl,rfl,trivial⟩
   ·conv=>lhs;whnf
    refine congrArg some ?_
    repeat (refine yM ?_ (wA i0 i1 i2 s rfl))
    rfl
   ·conv=>lhs;whnf
    refine congrArg (fun x=>some (Ob.rs 158 6 x)) ?_
    have hkl:(t.stack.take (yD t o)).length=yD t o:=by simp[yD]
    refine mG hk (mG hk (t:=t) (t':={ t with stack:=t.stack.take (yD t o) }) (by repeat (first|rfl|refine Eq.trans (congrArg (List.map (scrPL _)) ?_) (qK rfl (fun _=>rfl) _ _ _))) ?_) ?_
    ·show[_,_,_,_,_,AV.ref (.n 899) 0 (((t.stack.length:Int) - (zB o.code).1).toNat - (0:Int).toNat)]=[_,_,_,_,_,AV.ref (.n 899) 0 (t.stack.take (yD t o)).length]
     rw[e5,hkl]
    ·show[_,AV.d (.int .i64 (IntKind.i64.wrap (t.pc+1))),_,_,_,AV.ref (.n 899) 0 (t.stack.take (yD t o)).length]=[_,i64 (t.pc+1),_,_,_,AV.ref (.n 899) 0 (t.stack.take (yD t o)).length]
     rw[zK (by have:=hpc.1;omega) (by have:=hpc.2;omega)]
     rfl
  ·refine⟨fun j=>?_,trivial⟩
   repeat (first|exact rfl|refine hscrO ?_ (hg _ _)|conv=>lhs;whnf)
end Ai
namespace Ai
set_option maxRecDepth 100000
open Go Go.Proofs Ieee
theorem gtr_max {c:Nat}:fcmp .gtr c 9218868437227405311=(match double.read c with|.infinity false=>true|_=>false):=by
 unfold fcmp Format.order
 rw[show double.read 9218868437227405311=.number false 9007199254740991 971 by decide]
 have bound:∀ s m e,double.read c=.number s m e→m<9007199254740992∧-1074≤e∧e≤971:=by
  intro s m e h
  unfold Format.read at h
  rw[show double.signWeight=9223372036854775808 by decide,show double.binade=4503599627370496 by decide,show double.infRung=9218868437227405312 by decide,show double.leastPlace=-1074 by decide] at h
  simp only at h
  split at h
  ·simp only[Datum.number.injEq] at h
   obtain⟨_,h1,h2⟩:=h
   omega
  ·split at h
   ·simp only[Datum.number.injEq] at h
    obtain⟨_,h1,h2⟩:=h
    omega
   ·split at h <;> cases h
 cases h:double.read c with
 |nan s f=>rfl
 |infinity s=>cases s <;> rfl
 |number s m e =>
  obtain⟨b1,b2,b3⟩:=bound s m e h
  simp only[Datum.order]
  have hm:Min.min e 971=e:=by omega
  rw[hm]
  have h2:9007199254740991≤9007199254740991 <<< (971 - e).toNat:=by
   rw[Nat.shiftLeft_eq];exact Nat.le_mul_of_pos_right _ (Nat.pow_pos (by decide))
  have h3:signed s m (e - e).toNat≤9007199254740991:=by
   rw[Int.sub_self]
   show signed s m 0≤_
   unfold signed
   rw[Nat.shiftLeft_zero]
   split <;> omega
  have h4:signed false 9007199254740991 (971 - e).toNat=((9007199254740991 <<< (971 - e).toNat:Nat):Int):=rfl
  have hle:signed s m (e - e).toNat≤signed false 9007199254740991 (971 - e).toNat:=by
   rw[h4];omega
  generalize signed s m (e - e).toNat=u at hle
  generalize signed false 9007199254740991 (971 - e).toNat=v at hle
  show(some (compare u v)==some .gt)=false
  have:compare u v≠.gt:=by
   rw[Int.compare_eq_ite_lt]
   split
   ·decide
   ·split
    ·omega
    ·decide
  cases hc:compare u v with
  |gt=>exact absurd hc this
  |lt=>rfl
  |eq=>rfl
theorem pP {c:Nat} {s:Bool} {m:Nat} {e:Int} (hc:c<18446744073709551616) (h:double.read c=.number s m e) :
  (c % 9223372036854775808=m∧m<4503599627370496∧e=-1074∧(s=true↔9223372036854775808≤c)) ∨
  (4503599627370496≤m∧m<9007199254740992∧-1074≤e∧c % 9223372036854775808=(e+1075).toNat*4503599627370496+(m - 4503599627370496)∧(s=true↔9223372036854775808≤c)):=by
 unfold Format.read at h
 rw[show double.signWeight=9223372036854775808 by decide,show double.binade=4503599627370496 by decide,show double.infRung=9218868437227405312 by decide,show double.leastPlace=-1074 by decide] at h
 simp only at h
 have hs:(c / 9223372036854775808 % 2==1)=true↔9223372036854775808≤c:=by
  simp only[beq_iff_eq];omega
 split at h
 ·simp only[Datum.number.injEq] at h
  obtain⟨h0,h1,h2⟩:=h
  subst h0
  exact .inl ⟨h1,by omega,by omega,hs⟩
 ·split at h
  ·simp only[Datum.number.injEq] at h
   obtain⟨h0,h1,h2⟩:=h
   subst h0
   exact .inr ⟨by omega,by omega,by omega,by omega,hs⟩
  ·split at h <;> cases h
theorem num_eq {c d:Nat} {s t:Bool} {m n:Nat} {e i:Int} (hc:c<18446744073709551616) (hd:d<18446744073709551616) (h1:double.read c=.number s m e) (h2:double.read d=.number t n i)
  (h:double.order c d=some .eq) (h0:¬ (m=0∧n=0)):c=d:=by
 unfold Format.order at h
 rw[h1,h2] at h
 simp only[Datum.order,Option.some.injEq] at h
 have h:=Std.LawfulEqCmp.eq_of_compare h
 simp only[signed,Nat.shiftLeft_eq] at h
 have p1:0<2 ^ (e - Min.min e i).toNat:=Nat.pow_pos (by decide)
 have p2:0<2 ^ (i - Min.min e i).toNat:=Nat.pow_pos (by decide)
 have key:m*2 ^ (e - Min.min e i).toNat=n*2 ^ (i - Min.min e i).toNat∧s=t:=by
  have q1:m=0∨0<m*2 ^ (e - Min.min e i).toNat:=by
   rcases Nat.eq_zero_or_pos m with a|a
   ·exact .inl a
   ·exact .inr (Nat.mul_pos a p1)
  have q2:n=0∨0<n*2 ^ (i - Min.min e i).toNat:=by
   rcases Nat.eq_zero_or_pos n with a|a
   ·exact .inl a
   ·exact .inr (Nat.mul_pos a p2)
  have z1:m=0→m*2 ^ (e - Min.min e i).toNat=0:=fun a=>by rw[a,Nat.zero_mul]
  have z2:n=0→n*2 ^ (i - Min.min e i).toNat=0:=fun a=>by rw[a,Nat.zero_mul]
  generalize m*2 ^ (e - Min.min e i).toNat=u at *
  generalize n*2 ^ (i - Min.min e i).toNat=v at *
  cases s <;> cases t <;> simp at h ⊢ <;> omega
 obtain⟨k1,rfl⟩:=key
 have hei:∀ (a b:Nat) (j:Nat),4503599627370496≤b→a<9007199254740992→a=b*2 ^ (j+1)→False:=by
  intro a b j hb ha he
  rw[Nat.pow_succ] at he
  have:0<2 ^ j:=Nat.pow_pos (by decide)
  have:b*1≤b*2 ^ j:=Nat.mul_le_mul_left _ this
  have:a=b*2 ^ j*2:=by rw[he,Nat.mul_assoc]
  omega
 have r1:=pP hc h1
 have r2:=pP hd h2
 have ee:e=i:=by
  rcases Int.lt_trichotomy e i with hlt|heq|hgt
  ·exfalso
   rcases r2 with r2|r2
   ·rcases r1 with r1|r1 <;> omega
   obtain⟨j,hj⟩:∃ j:Nat,(i - Min.min e i).toNat=j+1:=⟨(i - Min.min e i).toNat - 1,by omega⟩
   have hz:(e - Min.min e i).toNat=0:=by omega
   rw[hz,hj,Nat.pow_zero,Nat.mul_one] at k1
   exact hei m n j r2.1 (by rcases r1 with r1|r1 <;> omega) k1
  ·exact heq
  ·exfalso
   rcases r1 with r1|r1
   ·rcases r2 with r2|r2 <;> omega
   obtain⟨j,hj⟩:∃ j:Nat,(e - Min.min e i).toNat=j+1:=⟨(e - Min.min e i).toNat - 1,by omega⟩
   have hz:(i - Min.min e i).toNat=0:=by omega
   rw[hz,hj,Nat.pow_zero,Nat.mul_one] at k1
   exact hei n m j r1.1 (by rcases r2 with r2|r2 <;> omega) k1.symm
 subst ee
 have:m=n:=by
  have hz:(e - Min.min e e).toNat=0:=by omega
  rw[hz,Nat.pow_zero,Nat.mul_one,Nat.mul_one] at k1
  exact k1
 subst this
 have hsg:(9223372036854775808≤c↔9223372036854775808≤d):=by
  have a1:s=true↔9223372036854775808≤c:=r1.elim (fun r=>r.2.2.2) fun r=>r.2.2.2.2
  have a2:s=true↔9223372036854775808≤d:=r2.elim (fun r=>r.2.2.2) fun r=>r.2.2.2.2
  rw[← a1,← a2]
 have hmd:c % 9223372036854775808=d % 9223372036854775808:=by
  rcases r1 with r1|r1 <;> rcases r2 with r2|r2 <;> omega
 by_cases hh:9223372036854775808≤c
 ·have:=hsg.1 hh
  omega
 ·have:¬ 9223372036854775808≤d:=fun e=>hh (hsg.2 e)
  omega
theorem read_inf {c:Nat} {s:Bool} (hc:c<18446744073709551616) (h:double.read c=.infinity s):c=if s=true then 18442240474082181120 else 9218868437227405312:=by
 unfold Format.read at h
 rw[show double.signWeight=9223372036854775808 by decide,show double.binade=4503599627370496 by decide,show double.infRung=9218868437227405312 by decide,show double.leastPlace=-1074 by decide] at h
 simp only at h
 split at h
 ·cases h
 ·split at h
  ·cases h
  ·split at h
   ·simp only[Datum.infinity.injEq] at h
    subst h
    by_cases hh:9223372036854775808≤c
    ·have h1:c / 9223372036854775808=1:=by omega
     rw[h1]
     simp
     omega
    ·have h1:c / 9223372036854775808=0:=by omega
     rw[h1]
     simp
     omega
   ·cases h
theorem eql_refl {x:Nat} (h:zY x=false):fcmp .eql x x=true:=by
 have:=nS x
 rw[h] at this
 simpa[fcmp] using this
theorem pH {x y:Nat} (hx:x<18446744073709551616) (hy:y<18446744073709551616) (nx:zY x=false) (ny:zY y=false):(fcmp .eql x y=true∧(gK x↔gK y))↔x=y:=by
 refine⟨fun ⟨h1,h2⟩=>?_,fun e=>by subst e;exact⟨eql_refl nx,Iff.rfl⟩⟩
 have h3:double.order x y=some .eq:=by simpa[fcmp] using h1
 have m1:gK 9223372036854775808:=.inr ⟨by decide,by decide⟩
 have m0:¬ gK 0:=by unfold gK;decide
 cases rx:double.read x with
 |nan s f=>unfold zY at nx;rw[rx] at nx;cases nx
 |infinity s =>
  cases ry:double.read y with
  |nan s f=>unfold zY at ny;rw[ry] at ny;cases ny
  |number t n i=>unfold Format.order at h3;rw[rx,ry] at h3;cases s <;> cases h3
  |infinity t =>
   unfold Format.order at h3
   rw[rx,ry] at h3
   have e1:=read_inf hx rx
   have e2:=read_inf hy ry
   cases s <;> cases t <;> first|exact e1.trans e2.symm|cases h3
 |number s m e =>
  cases ry:double.read y with
  |nan s f=>unfold zY at ny;rw[ry] at ny;cases ny
  |infinity t=>unfold Format.order at h3;rw[rx,ry] at h3;cases t <;> cases h3
  |number t n i =>
   by_cases h0:m=0∧n=0
   ·obtain⟨rfl,rfl⟩:=h0
    have r1:=pP hx rx
    have r2:=pP hy ry
    have c1:x=0∨x=9223372036854775808:=by rcases r1 with r1|r1 <;> omega
    have c2:y=0∨y=9223372036854775808:=by rcases r2 with r2|r2 <;> omega
    rcases c1 with rfl|rfl <;> rcases c2 with rfl|rfl
    ·rfl
    ·exact absurd (h2.2 m1) m0
    ·exact absurd (h2.1 m1) m0
    ·rfl
   ·exact num_eq hx hy rx ry h3 h0
end Ai
namespace Ai
set_option maxRecDepth 100000
open Go Go.Proofs Ieee
theorem tQ (x:Nat):CallsTo EE 159 [.d (.flt x)] (·=bp (zY x=true)):=by
 refine callsTo_of_AW (fn:=Tryz.f159) Tryz.func159 rfl (by kernel_rfl) rfl ?_
 conv=>whnf
 refine kbi (fun h=>?_) (fun h=>?_)
 ·conv=>whnf
  exact bpt (by rw[← nS];exact h)
 ·conv=>whnf
  exact bpf (by rw[← nS];exact h)
theorem bitsI_run (b:Nat) (w:World):(callFunc 160 #[.float .f64 b]).run Tryz.prog w=.ok (.value (.int .u64 b)) w:=by
 kernel_rfl
theorem nW {b:Nat} (h:zY (canon b)=false):canon b=b:=by
 unfold canon at *
 cases hn:zY b with
 |true=>rw[hn] at h;exact absurd (show zY nanC=false from h) (by decide)
 |false=>rfl
theorem vV (x:Nat):CallsTo EE 160 [.d (.flt x)] (fun r=>∃ b:Nat,r=.d (.int .u64 b)∧canon b=x):=by
 intro w A vs hI hA
 obtain⟨hl,hr⟩:=hA
 have h1:vs.size=1:=hl.symm
 obtain⟨v,hv⟩:∃ v,vs=#[v]:=⟨vs[0],by apply Array.ext (by simp[h1]);intro i h2 h3;simp at h3;subst h3;rfl⟩
 subst hv
 have:=hr 0 _ v rfl rfl
 cases this with
 |d _ _ hd=>cases hd with
  |flt b =>
   unfold Invokes
   rw[show Sem.run EE.P (callFunc 160 #[Value.float .f64 b]) w=_ from bitsI_run b w]
   exact⟨_,⟨b,rfl,rfl⟩,RowKit.Below.refl _ _,.d _ _ (.int _ _)⟩
theorem frombits_run (n:Int) (w:World):(callFunc 285 #[.int .u64 n]).run Tryz.prog w=.ok (.value (.float .f64 n.toNat)) w:=by
 kernel_rfl
theorem frombits_ok (n:Int):CallsTo EE 285 [.d (.int .u64 n)] (·=.d (.flt (canon n.toNat))):=by
 intro w A vs hI hA
 obtain⟨hl,hr⟩:=hA
 have h1:vs.size=1:=hl.symm
 obtain⟨v,hv⟩:∃ v,vs=#[v]:=⟨vs[0],by apply Array.ext (by simp[h1]);intro i h2 h3;simp at h3;subst h3;rfl⟩
 subst hv
 have:=hr 0 _ v rfl rfl
 cases this with
 |d _ _ hd=>cases hd with
  |int =>
   unfold Invokes
   rw[show Sem.run EE.P (callFunc 285 #[Value.int .u64 n]) w=_ from frombits_run n w]
   exact⟨_,rfl,RowKit.Below.refl _ _,.d _ _ (.flt _)⟩
theorem trunc_next:Extern.findNext Tryz.f280=none:=by kernel_rfl
theorem trunc_find : Extern.find Tryz.f280 = some (Extern.MathFloor.toIntegral "math.archTrunc" .zero) := by kernel_rfl
theorem trunc_ng : (Tryz.f280.name == "runtime.NumGoroutine") = false := by kernel_rfl
theorem trunc_nb:Tryz.f280.body.isNone=true:=by kernel_rfl
theorem trunc_run (b : Nat) (w : World) : (callFunc 280 #[.float .f64 b]).run Tryz.prog w = (((Extern.MathFloor.toIntegral "math.archTrunc" .zero #[.float .f64 b]).run Tryz.prog w).andThen fun v w => .ok (.value v) w) := by
 unfold callFunc
 simp only[Sem.run_bind,run_program,Result.andThen_ok,Tryz.func280,trunc_ng,trunc_nb,trunc_next,trunc_find,Bool.false_eq_true,if_false,if_true,run_mark,Sem.run_pure]
def nG (x:Nat):Nat:=canon (double.write ((double.read x).integral .zero))
theorem archTrunc_ok (x:Nat) (hx:zY x=false):CallsTo EE 280 [.d (.flt x)] (·=.d (.flt (nG x))):=by
 intro w A vs hI hA
 obtain⟨hl,hr⟩:=hA
 have h1:vs.size=1:=hl.symm
 obtain⟨v,hv⟩:∃ v,vs=#[v]:=⟨vs[0],by apply Array.ext (by simp[h1]);intro i h2 h3;simp at h3;subst h3;rfl⟩
 subst hv
 have:=hr 0 _ v rfl rfl
 cases this with
 |d _ _ hd =>
  cases hd with
  |flt b =>
   have hb:canon b=b:=nW hx
   unfold Invokes
   have hrun:Sem.run EE.P (callFunc 280 #[Value.float .f64 b]) w=.ok (.value (.float .f64 (double.write ((double.read b).integral .zero)))) w:=by
    rw[show Sem.run EE.P (callFunc 280 #[Value.float .f64 b]) w=_ from trunc_run b w]
    have hdec:FloatKind.f64.decode b=double.read b:=rfl
    have hn:zY b=false:=by rw[hb] at hx;exact hx
    unfold zY at hn
    have ht : Extern.MathFloor.toIntegral "math.archTrunc" .zero #[Value.float .f64 b] = pure (.float .f64 (double.write ((double.read b).integral .zero))) := by
     show(match FloatKind.f64.decode b with
      | .nan s t=>_
      |d=>_)=_
     rw[hdec]
     cases hd:double.read b with
     |nan s f=>rw[hd] at hn;cases hn
     |infinity s=>rfl
     |number s m i=>rfl
    rw[ht]
    rfl
   rw[hrun]
   refine⟨_,rfl,RowKit.Below.refl _ _,?_⟩
   rw[hb]
   exact .d _ _ (.flt _)
theorem Trunc_ok (x:Nat) (hx:zY x=false):CallsTo EE 272 [.d (.flt x)] (·=.d (.flt (nG x))):=by
 refine callsTo_of_AW (fn:=Tryz.f272) Tryz.func272 rfl (by kernel_rfl) rfl ?_
 conv=>whnf
 refine⟨_,archTrunc_ok x hx,?_⟩
 rintro r rfl
 conv=>whnf
def aG (b:Nat):Nat:=(IntKind.u64.wrap (BitVec.ofInt 64 b &&& ~~~BitVec.ofInt 64 9223372036854775808).toNat).toNat
theorem Abs_ok (x:Nat):CallsTo EE 279 [.d (.flt x)] (fun r=>∃ b,canon b=x∧r=.d (.flt (canon (aG b)))):=by
 refine callsTo_of_AW (fn:=Tryz.f279) Tryz.func279 rfl (by kernel_rfl) rfl ?_
 conv=>whnf
 refine⟨_,vV x,?_⟩
 rintro r ⟨b,rfl,hb⟩
 conv=>whnf
 refine⟨_,frombits_ok _,?_⟩
 rintro r rfl
 conv=>whnf
 exact⟨b,hb,rfl⟩
theorem IsInf_ok (x:Nat):CallsTo EE 271 [.d (.flt x),i64 0] (fun r=>∃ b,canon b=x∧r=bv (fcmp .gtr (canon (aG b)) 9218868437227405311)):=by
 refine callsTo_of_AW (fn:=Tryz.f271) Tryz.func271 rfl (by kernel_rfl) rfl ?_
 conv=>whnf
 refine kbi (fun _=>?_) (fun h=>absurd rfl h)
 conv=>whnf
 refine⟨_,Abs_ok x,?_⟩
 rintro r ⟨b,hb,rfl⟩
 conv=>whnf
 refine kbi (fun h=>?_) (fun h=>?_)
 ·conv=>whnf
  exact⟨b,hb,congrArg bv (show true=_ from (show fcmp .gtr (canon (aG b)) 9218868437227405311=true from h).symm)⟩
 ·conv=>whnf
  exact⟨b,hb,congrArg bv (show false=_ from (Bool.not_eq_true _▸(show ¬ fcmp .gtr (canon (aG b)) 9218868437227405311=true from h):fcmp .gtr (canon (aG b)) 9218868437227405311=false).symm)⟩
def wX (x:Nat):Int:=if zY x=true then 0 else (match double.read x with|.infinity _=>1|_=>if fcmp .eql x 0=true then 2 else if fcmp .eql x (nG x)=true then 3 else 4)
theorem absB_mod (b:Nat):aG b=b % 9223372036854775808:=by
 unfold aG
 have h1:(BitVec.ofInt 64 (b:Int) &&& ~~~BitVec.ofInt 64 9223372036854775808).toNat=b % 9223372036854775808:=by
  rw[BitVec.toNat_and,show(~~~BitVec.ofInt 64 9223372036854775808).toNat=2 ^ 63 - 1 by decide,Nat.and_two_pow_sub_one_eq_mod,BitVec.toNat_ofInt]
  omega
 rw[h1]
 have:IntKind.u64.wrap (((b % 9223372036854775808:Nat)):Int)=((b % 9223372036854775808:Nat):Int):=by
  unfold IntKind.wrap
  simp[IntKind.bits,IntKind.signed]
  omega
 rw[this]
 rfl
theorem m9 {b:Nat}:double.read (aG b)=(match double.read b with|.number _ m i=>.number false m i|.infinity _=>.infinity false|.nan _ f=>.nan false f):=by
 rw[absB_mod]
 unfold Format.read
 rw[show double.signWeight=9223372036854775808 by decide]
 have h1:b % 9223372036854775808 / 9223372036854775808 % 2=0:=by omega
 simp only[h1,Nat.mod_mod]
 split
 ·rfl
 ·split
  ·rfl
  ·split <;> rfl
theorem n4 (x:Nat):CallsTo EE 254 [.d (.flt x)] (·=i64 (wX x)):=by
 refine callsTo_of_AW (fn:=Tryz.f254) Tryz.func254 rfl (by kernel_rfl) rfl ?_
 conv=>whnf
 refine ocase (tQ x) (fun h=>?_) (fun h=>?_)
 ·conv=>whnf
  unfold wX
  rw[if_pos h]
 have h':zY x=false:=by simpa using h
 conv=>whnf
 refine⟨_,IsInf_ok x,?_⟩
 rintro r ⟨b,hb,rfl⟩
 have hbb:canon b=b:=nW (by rw[hb];exact h')
 have hxb:b=x:=by rw[← hb,hbb]
 subst hxb
 have hinf:fcmp .gtr (canon (aG b)) 9218868437227405311=(match double.read b with|.infinity _=>true|_=>false):=by
  have hnb:zY (aG b)=false:=by
   have:=h'
   unfold zY at this ⊢
   rw[m9]
   cases hd:double.read b <;> rw[hd] at this <;> first|rfl|cases this
  have hcn:canon (aG b)=aG b:=by unfold canon;rw[hnb];rfl
  rw[hcn,gtr_max,m9]
  cases double.read b <;> rfl
 rw[hinf]
 cases hd:double.read b with
 |nan s f=>unfold zY at h';rw[hd] at h';cases h'
 |infinity s =>
  conv=>whnf
  unfold wX
  rw[if_neg h,hd]
 |number s m i =>
  conv=>whnf
  refine kbi (fun h0=>?_) (fun h0=>?_)
  ·have h0:fcmp .eql b 0=true:=h0
   conv=>whnf
   unfold wX
   rw[if_neg h,hd]
   simp only
   rw[if_pos h0]
  have h0:¬ fcmp .eql b 0=true:=h0
  conv=>whnf
  refine⟨_,Trunc_ok b h',?_⟩
  rintro r rfl
  conv=>whnf
  refine kbi (fun h1=>?_) (fun h1=>?_)
  ·have h1:fcmp .eql b (nG b)=true:=h1
   conv=>whnf
   unfold wX
   rw[if_neg h,hd]
   simp only
   rw[if_neg h0,if_pos h1]
  ·have h1:¬ fcmp .eql b (nG b)=true:=h1
   conv=>whnf
   unfold wX
   rw[if_neg h,hd]
   simp only
   rw[if_neg h0,if_neg h1]
end Ai
namespace Ai
set_option maxRecDepth 100000
open Go Go.Proofs Ieee
theorem inf_eql0 {x:Nat} {s:Bool} (h:double.read x=.infinity s):fcmp .eql x 0=false:=by
 unfold fcmp Format.order
 rw[h,fR]
 cases s <;> rfl
theorem isNo_ok (x:Nat):CallsTo EE 223 [.d (.flt x)] (·=bp (zY x=true∨fcmp .eql x 0=true)):=by
 refine callsTo_of_AW (fn:=Tryz.f223) Tryz.func223 rfl (by kernel_rfl) rfl ?_
 conv=>whnf
 refine⟨_,n4 x,?_⟩
 rintro r rfl
 conv=>whnf
 refine kbi (fun h1=>?_) (fun h1=>?_)
 ·have h1:wX x=0:=by simpa using h1
  conv=>whnf
  refine bpt (.inl ?_)
  unfold wX at h1
  split at h1
  ·assumption
  ·split at h1
   ·cases h1
   ·split at h1
    ·cases h1
    ·split at h1 <;> cases h1
 have h1:¬ wX x=0:=by simpa using h1
 have hn:¬ zY x=true:=fun e=>h1 (by unfold wX;rw[if_pos e])
 conv=>whnf
 refine kbi (fun h2=>?_) (fun h2=>?_)
 ·have h2:wX x=2:=by simpa using h2
  conv=>whnf
  refine bpt (.inr ?_)
  unfold wX at h2
  rw[if_neg hn] at h2
  split at h2
  ·cases h2
  ·split at h2
   ·assumption
   ·split at h2 <;> cases h2
 ·have h2:¬ wX x=2:=by simpa using h2
  conv=>whnf
  refine bpf fun e=>e.elim hn fun e=>h2 ?_
  unfold wX
  rw[if_neg hn]
  split
  ·rename_i s hs
   rw[inf_eql0 hs] at e;cases e
  ·rw[if_pos e]
theorem jT (b:Bool):CallsTo EE 179 [bv b] (·=i64 (if b=true then 1 else 0)):=by
 refine callsTo_of_AW (fn:=Tryz.f179) Tryz.func179 rfl (by kernel_rfl) rfl ?_
 cases b
 ·conv=>whnf
  rfl
 ·conv=>whnf
  rfl
theorem cW (x y:Nat) (hx:x<18446744073709551616) (hy:y<18446744073709551616):CallsTo EE 97 [.d (.flt x),.d (.flt y)] (·=bp (bF x y)):=by
 refine callsTo_of_AW (fn:=Tryz.f97) Tryz.func97 rfl (by kernel_rfl) rfl ?_
 have bits:∀ {z b:Nat},zY z=false→canon b=z→b=z:=fun {z b} h e=>by
  have:=nW (b:=b) (by rw[e];exact h)
  rw[← e,this]
 have rest:∀ (hn:¬ (zY x=true∧zY y=true)) (b c:Nat),canon b=x→canon c=y→((b:Int)=(c:Int)↔bF x y):=by
  intro hn b c hb hc
  have key:(b=c)↔bF x y:=by
   by_cases h:zY x=true∨zY y=true
   ·constructor
    ·rintro rfl
     exfalso
     have:x=y:=hb.symm.trans hc
     subst this
     exact hn ⟨h.elim id id,h.elim id id⟩
    ·rintro(e|e)
     ·exact absurd e.2 hn
     ·exact absurd h e.1
   ·have nx:zY x=false:=by simpa using fun e=>h (.inl e)
    have ny:zY y=false:=by simpa using fun e=>h (.inr e)
    rw[bits nx hb,bits ny hc]
    constructor
    ·intro e
     exact .inr ⟨h,(pH hx hy nx ny).2 e⟩
    ·rintro(e|e)
     ·exact absurd e.1 h
     ·exact(pH hx hy nx ny).1 e.2
  rw[← key]
  omega
 conv=>whnf
 refine ocase (tQ x) (fun h=>?_) (fun h=>?_)
 ·conv=>whnf
  refine ocase (tQ y) (fun h2=>?_) (fun h2=>?_)
  ·conv=>whnf
   exact bpt (.inl ⟨.inl h,h,h2⟩)
  ·conv=>whnf
   refine⟨_,vV x,?_⟩
   rintro r ⟨b,rfl,hb⟩
   conv=>whnf
   refine⟨_,vV y,?_⟩
   rintro r ⟨c,rfl,hc⟩
   conv=>whnf
   have:=rest (fun e=>h2 e.2) b c hb hc
   refine kbi (fun h3=>?_) (fun h3=>?_)
   ·conv=>whnf
    exact bpt (this.1 (by simpa using h3))
   ·conv=>whnf
    exact bpf (fun e=>absurd (this.2 e) (by simpa using h3))
 ·conv=>whnf
  refine⟨_,vV x,?_⟩
  rintro r ⟨b,rfl,hb⟩
  conv=>whnf
  refine⟨_,vV y,?_⟩
  rintro r ⟨c,rfl,hc⟩
  conv=>whnf
  have:=rest (fun e=>h e.1) b c hb hc
  refine kbi (fun h3=>?_) (fun h3=>?_)
  ·conv=>whnf
   exact bpt (this.1 (by simpa using h3))
  ·conv=>whnf
   exact bpf (fun e=>absurd (this.2 e) (by simpa using h3))
theorem w9 (c:Int) (x y:Nat) (hc:4≤c∧c≤9) (hx:x<18446744073709551616) (hy:y<18446744073709551616):CallsTo EE 227 [i64 c,.d (.flt x),.d (.flt y)] (·=.d (.flt (yS c x y))):=by
 refine callsTo_of_AW (fn:=Tryz.f227) Tryz.func227 rfl (by kernel_rfl) rfl ?_
 conv=>whnf
 refine kbi (fun h1=>?_) (fun h1=>?_)
 ·have:c=4:=by simpa using h1
  conv=>whnf
  subst this;rfl
 have h1:¬ c=4:=by simpa using h1
 conv=>whnf
 refine kbi (fun h2=>?_) (fun h2=>?_)
 ·have:c=5:=by simpa using h2
  conv=>whnf
  subst this;rfl
 have h2:¬ c=5:=by simpa using h2
 conv=>whnf
 refine kbi (fun h3=>?_) (fun h3=>?_)
 ·have:c=6:=by simpa using h3
  conv=>whnf
  subst this;rfl
 have h3:¬ c=6:=by simpa using h3
 conv=>whnf
 refine kbi (fun h4=>?_) (fun h4=>?_)
 ·have:c=7:=by simpa using h4
  conv=>whnf
  subst this;rfl
 have h4:¬ c=7:=by simpa using h4
 conv=>whnf
 refine kbi (fun h5=>?_) (fun h5=>?_)
 ·have:c=8:=by simpa using h5
  conv=>whnf
  refine kbi (fun hl=>?_) (fun hl=>?_)
  ·conv=>whnf
   refine⟨_,jT true,?_⟩
   rintro r rfl
   conv=>whnf
   simp[yS,this,hl];rfl
  ·conv=>whnf
   refine⟨_,jT false,?_⟩
   rintro r rfl
   conv=>whnf
   simp[yS,this,hl];rfl
 have h5:¬ c=8:=by simpa using h5
 conv=>whnf
 refine ocase (cW x y hx hy) (fun h=>?_) (fun h=>?_)
 ·conv=>whnf
  refine⟨_,jT true,?_⟩
  rintro r rfl
  conv=>whnf
  simp[yS,h1,h2,h3,h4,h5,h];rfl
 ·conv=>whnf
  refine⟨_,jT false,?_⟩
  rintro r rfl
  conv=>whnf
  simp[yS,h1,h2,h3,h4,h5,h];rfl
end Ai
namespace Ai
set_option maxRecDepth 100000
open Go Go.Proofs
theorem pA {t:Th} {o:OpL} {i:Nat} (h:∀ x∈t.stack,x<18446744073709551616):yQ t o i<18446744073709551616:=by
 unfold yQ
 rw[List.getD_eq_getElem?_getD]
 cases hg:(t.stack.drop (yD t o))[i]? with
 |none=>decide
 |some x=>exact h x (List.mem_of_mem_drop (List.mem_of_getElem? hg))
theorem vs_scrL3 {x0 x1 x2:AV} (i0:Inert x0) (i1:Inert x1) (i2:Inert x2) (s:StL) {p:Key→Bool} (h:(p (.n 900) || p (.n 901) || p (.n 902))=false):scrPL p ([x0,x1,x2]++stRef s)=[x0,x1,x2]++stRef s:=by
 have:=wA (E:=0) i0 i1 i2 s h
 simpa[scrPO] using this
theorem hscrL {L X:List AV} {p:Key→Bool} (h:L=X) (hp:scrPL p X=X):scrPL p L=X:=by rw[h];exact hp
theorem spawn_vs3 {x0 x1 x2:AV} (i0:Inert x0) (i1:Inert x1) (i2:Inert x2) {s s':StL} {L:List AV} {v:AV} (hv:v=.dref (.n 900) s'.ths.length) (hL:L=[x0,x1,x2]++stRef s) (hc:s'.cells.length=s.cells.length) (ho:s'.owner.length=s.owner.length) (hf:s'.fault=s.fault) :
  yJ (scrPL (isK (.n 900)) L) (3+0) [v]=[x0,x1,x2]++stRef s':=by
 subst hv hL
 simp only[stRef,List.cons_append,List.nil_append,scrPL,i0.scr,i1.scr,i2.scr,hc,ho,hf]
 rfl
theorem nF {S:St} {l:List Th} {k:Nat} {t:Th} {els:List (List D)} (hk:k<l.length) (h9:S.H (.n 900)=some (.rs 158 6 (rowsA l k t))) (hfam:∀ j,j≠k→(h:j<l.length)→S.H (.s 900 j)=some (.ds 74 1 (stk l[j])))
  (h8:S.H (.n 899)=some (.ds 74 1 els)) (he:els.take t.stack.length=stk t):kP S (.n 900) l.length ((l.set k t).map zD):=by
 unfold kP
 rw[h9]
 refine⟨by simp,fun j row hj hr=>?_⟩
 by_cases hjk:j=k
 ·subst hjk
  have:(rowsA l j t)[j]?=some (yO t):=yC hk
  rw[this] at hr
  simp only[Option.some.injEq] at hr
  subst hr
  refine⟨zD t,by simp[hj],?_⟩
  simp[yO,fz1s,fz1,h8,i64,zD,he]
  rfl
 ·have:(rowsA l k t)[j]?=some (thRow 900 j l[j]):=by
   unfold rowsA
   rw[List.getElem?_set_ne (fun e=>hjk e.symm)]
   exact yR hj
  rw[this] at hr
  simp only[Option.some.injEq] at hr
  subst hr
  exact⟨zD l[j],by rw[List.getElem?_map,List.getElem?_set_ne (fun e=>hjk e.symm)];simp[hj],fz_row (hfam j hjk hj)⟩
theorem tW (t:Th) (o:OpL):CallsTo EE 226 [agg (zD t),.fp (encOp o)] (·=bv (t.st==3&&t.cond==o.a)):=by
 refine callsTo_of_AW (fn:=Tryz.f226) Tryz.func226 rfl (by kernel_rfl) rfl ?_
 conv=>whnf
 refine kbi (fun h1=>?_) (fun h1=>?_)
 ·have h1:t.st=3:=by simpa using h1
  conv=>whnf
  refine kbi (fun h2=>?_) (fun h2=>?_)
  ·have h2:t.cond=o.a:=by simpa using h2
   conv=>whnf
   rw[h1,h2];simp
  ·have h2:¬ t.cond=o.a:=by simpa using h2
   conv=>whnf
   rw[h1];simp[h2]
 ·have h1:¬ t.st=3:=by simpa using h1
  conv=>whnf
  simp[h1]
theorem aY {l:List Th} {k:Nat} (hk:k<l.length) {t':Th} (a:Int) (h1:t'.st≠3) (h2:l[k].st≠3):(l.set k t').findIdx? (fun t=>t.st==3&&t.cond==a)=yY l a:=by
 unfold yY
 have:∀ (m:List Th) (k:Nat) (hk:k<m.length),m[k].st≠3→(m.set k t').findIdx? (fun t=>t.st==3&&t.cond==a)=m.findIdx? (fun t=>t.st==3&&t.cond==a):=by
  intro m
  induction m with
  |nil=>intro k hk;cases hk
  |cons x m ih =>
   intro k hk h2
   cases k with
   |zero=>simp[List.findIdx?_cons,h1,show x.st≠3 from h2]
   |succ k=>simp[List.findIdx?_cons,ih k (by simpa using hk) (by simpa using h2)]
 exact this l k hk h2
theorem jL {X:List (List AV)} {p:Key→Bool} {l:List Th} {k:Nat} {t:Th} (hX:X=rowsA l k t) (h1:p (.n 899)=false) (h2:∀ j,p (.s 900 j)=false):X.map (scrPL p)=rowsA l k t:=by
 rw[hX];exact qK h1 h2 l k t
theorem qJ (l:List Th) (i:Nat):(thRows 900 l)[i]?=(l[i]?).map (thRow 900 i):=by
 by_cases h:i<l.length
 ·rw[yR h,List.getElem?_eq_getElem h];rfl
 ·rw[List.getElem?_eq_none (by rw[zU];omega),List.getElem?_eq_none (by omega)];rfl
theorem eM {l:List Th} {k j:Nat} {t:Th} {X:List (List AV)} (hj:j<l.length) (hjk:j≠k) (hX:X=rowsA l k t) :
  yW X 6 ((j:Nat):Int).toNat (0+2) [i64 4]=rowsA (l.modify j fun u=>{ u with st:=4 }) k t:=by
 subst hX
 have hf:yW (rowsA l k t) 6 ((j:Nat):Int).toNat (0+2) [i64 4]=(rowsA l k t).modify j fun c=>yJ c 2 [i64 4]:=by
  unfold yW
  rfl
 rw[hf]
 apply List.ext_getElem?
 intro i
 rw[List.getElem?_modify]
 by_cases hik:i=k
 ·subst hik
  have h1:(rowsA l i t)[i]?=(if i<l.length then some (yO t) else none):=by
   unfold rowsA;rw[List.getElem?_set,zU];simp
  have h2:(rowsA (l.modify j fun u=>{ u with st:=4 }) i t)[i]?=(if i<l.length then some (yO t) else none):=by
   unfold rowsA;rw[List.getElem?_set,zU];simp
  rw[h1,h2]
  simp[hjk]
 ·have h1:∀ (m:List Th),(rowsA m k t)[i]?=(thRows 900 m)[i]?:=fun m=>by unfold rowsA;rw[List.getElem?_set_ne (fun e=>hik e.symm)]
  rw[h1,h1]
  simp only[qJ,List.getElem?_modify]
  by_cases hij:j=i
  ·subst hij
   simp[hj,thRow,yJ]
  ·simp[hij]
theorem eC {l:List Th} {j:Nat} (i:Nat):zE (l.modify j fun u=>{ u with st:=4 }) i=zE l i:=by
 unfold zE
 simp only[List.getElem?_modify]
 cases l[i]? with
 |none=>rfl
 |some u=>by_cases h:j=i <;> simp[h,stk]
theorem dO {l:List Th} {a:Int} {j:Nat} (h:yY l a=some j):∃ h:j<l.length,l[j].st=3∧l[j].cond=a:=by
 unfold yY at h
 rw[List.findIdx?_eq_some_iff_getElem] at h
 obtain⟨h1,h2,_⟩:=h
 exact⟨h1,by simpa using h2⟩
theorem xX (t:Th) (o:OpL):(stk t).take (zF t o).stack.length=stk (zF t o):=by
 simp[stk,zF,List.map_take]
theorem kC (t:Th):(stk t).take t.stack.length=stk t:=by simp[stk,List.take_of_length_le]
def pL (l:List Th) (k:Nat) (r:List AV):List (List AV):=(thRows 900 l).set k r
theorem wG {l:List Th} {k off:Nat} {X:List (List AV)} {r:List AV} {v:AV} (hk:k<l.length) (hX:X=pL l k r):yW X 6 ((k:Nat):Int).toNat off [v]=pL l k (yJ r off [v]):=by
 subst hX
 have hf:yW (pL l k r) 6 ((k:Nat):Int).toNat off [v]=(pL l k r).modify k fun c=>yJ c off [v]:=by
  unfold yW
  rw[show(Nat.beq off 0&&Nat.beq [v].length 6)=false from Bool.and_false _]
  rfl
 rw[hf]
 unfold pL
 apply List.ext_getElem?
 intro j
 rw[List.getElem?_modify]
 by_cases hj:k=j
 ·subst hj
  rw[List.getElem?_set_self (by rw[zU];exact hk),List.getElem?_set_self (by rw[zU];exact hk)];simp
 ·rw[List.getElem?_set_ne hj,List.getElem?_set_ne hj];simp[hj]
theorem wF {l:List Th} {k:Nat} {X:List (List AV)} {r:List AV} {p:Key→Bool} (hp:∀ j,p (.s 900 j)=false) (hX:X=pL l k r):X.map (scrPL p)=pL l k (scrPL p r):=by
 subst hX
 unfold pL
 rw[List.map_set,zR fun j _=>hp j]
theorem eG {l:List Th} {k n:Nat} {X N:List (List AV)} {t:Th} {row:List AV} (hn:n=l.length) (hX:X=rowsA l k t) (hN:N=[row]) (hq:scrPL (isK (.n 900)) row=row) :
  (X.take n++N).map (scrPL (isK (.n 900)))=rowsA l k t++[row]:=by
 subst hn hX hN
 rw[List.take_of_length_le (by rw[rowsA_len];exact Nat.le_refl _),List.map_append,qK rfl (fun _=>rfl)]
 simp[hq]
theorem uP {l:List Th} {k:Nat} {X:List (List AV)} {r:List AV} {t:Th} (h1:X=pL l k r) (h2:r=yO t):X=rowsA l k t:=by subst h1 h2;rfl
def DoIE (E:TypeId) (pre:List AV) (g:Nat→Option Ob) (k:Nat) (s':StL) (t':Th) (e':Ev) (S:St):Prop :=
 ∃ (l':List Th) (els:List (List D)),k<l'.length∧s'.ths=l'.set k t'∧(∀ j,j≠k→g j=zE l' j)∧els.take t'.stack.length=stk t' ∧
  ((l'.length=s'.ths.length∧At [(7,.ptr (.n 7) 0),(8,.ptr (.n 8) 0)] [(.l 0,.vs E (pre++stRef s')),(.n 7,.vs 105 ((encEv e').map .d)),(.n 8,.vs 105 [i64 0,i64 0,i64 0,i64 0,i64 0]),(.n 899,.ds 74 1 els),(.n 900,.rs 158 6 (rowsA l' k t')),(.n 901,.ds 74 1 (s'.cells.map encF)),(.n 902,.ds 3 1 (s'.owner.map encInt))] [(900,g)] S))
def DoIF (E:TypeId) (pre:List AV) (g:Nat→Option Ob) (k:Nat) (s':StL) (l':List Th) (t':Th) (r:Int) (e':Ev) (S:St):Prop :=
 k<l'.length∧s'.ths=l'.set k t'++[jH r]∧(∀ j,j≠k→g j=zE l' j) ∧
  At [(7,.ptr (.n 7) 0),(8,.ptr (.n 8) 0)] [(.l 0,.vs E (pre++stRef s')),(.n 7,.vs 105 ((encEv e').map .d)),(.n 8,.vs 105 [i64 0,i64 0,i64 0,i64 0,i64 0]),(.n 899,.ds 74 1 (stk t')),(.n 900,.rs 158 6 (rowsA l' k t'++[[i64 r,i64 0,i64 1,i64 (-1),i64 (-1),.ref (.n 905) 0 0]])),(.n 901,.ds 74 1 (s'.cells.map encF)),(.n 902,.ds 3 1 (s'.owner.map encInt)),(.n 905,.ds 74 1 [])] [(900,g)] S
def DoI2 (E:TypeId) (pre:List AV) (g:Nat→Option Ob) (k:Nat) (s':StL) (e':Ev) (S:St):Prop :=
 (∃ t',DoIE E pre g k s' t' e' S)∨∃ l' t' r,DoIF E pre g k s' l' t' r e' S
theorem doI_swB (hI:yV) (E:TypeId) (x0 x1 x2:AV) (i0:Inert x0) (i1:Inert x1) (i2:Inert x2) (g:Nat→Option Ob) (hg:∀ p j,(g j).map (scrPO p)=g j) (s:StL) (k:Nat) (o:OpL) (e:Ev) (hk:k<s.ths.length) (h5:s.ths.length≤5) (hgj:∀ j,j≠k→g j=zE s.ths j)
  (hs:s.small) (ho:o.fits s s.ths[k]) (hpc:InR s.ths[k].pc 0 1048576) (hst3:s.ths[k].st≠3) (he:e.kind=1) (hel:e.lock=-1) (hfl:∀ x∈s.ths[k].stack,x<18446744073709551616) (hjo:o.code=15→∃ j,yX (yQ s.ths[k] o 0) s.ths.length=some j∧yA s s.ths[k]=some j)
  (Q:AX→St→Prop) (K:St→Prop) (S:St) (hS:At (doI1 3 k o s.ths[k]) (doIO E [x0,x1,x2] s k o e s.ths[k] (zF s.ths[k] o)) [(900,g)] S) (hK:∀ S',DoI2 E [x0,x1,x2] g k (doL s k o e).1 (doL s k o e).2 S'→K S') :
  pR EE Tryz.f181.ntmps K Q 1 (dropC 7 (Tryz.f181.body.getD .skip)) S:=by
 have hst:=hs.2.1 _ (List.getElem_mem hk)
 have hgd:s.ths.getD k th0=s.ths[k]:=by simp[List.getD_eq_getElem?_getD,hk]
 generalize ht0:s.ths[k]=t at *
 obtain⟨τ,H,rfl⟩:=hS.form
 clear hS
 obtain⟨o1,o2,o3,o4,o5⟩:=ho
 obtain⟨eth,ekind,eobj,elock,epc⟩:=e
 have he:ekind=1:=he
 subst he
 have hel:elock=-1:=hel
 subst hel
 have hkn:yD t o≤t.stack.length:=Nat.sub_le _ _
 have hkl:(t.stack.take (yD t o)).length=yD t o:=by simp;omega
 have hpl:(zF t o).stack.length=yD t o:=hkl
 conv=>whnf
 refine kbi (fun hc=>?_) (fun hc=>?_)
 ·have hc:o.code=1:=by simpa using hc
  conv=>whnf
  refine .inr (.inr (.inr ⟨[0],by kernel_rfl,8,[],?_⟩))
  conv=>whnf
  refine⟨yO (zF t o),⟨by repeat (first|exact yC hk|refine xL ?_ (yI rfl _)),by simp[yO]⟩,?_⟩
  conv=>whnf
  refine⟨by kernel_rfl,?_⟩
  conv=>whnf
  refine⟨⟨rfl,by rw[hpl];simp;omega,by rw[hpl];simp;omega⟩,?_⟩
  conv=>whnf
  have hd:doL s k o ⟨eth,1,eobj,-1,epc⟩=(s.put k (zS (zF t o) o.v),⟨eth,1,eobj,-1,epc⟩):=by unfold doL;rw[hgd];simp[hc]
  rw[hd] at hK
  dsimp only at hK
  refine hK _ (.inl ⟨zS (zF t o) o.v,s.ths,stk (zS (zF t o) o.v),hk,rfl,hgj,kC _,by simp[StL.put],⟨rfl,rfl,trivial⟩,⟨?_,?_,rfl,?_,?_,?_,?_,trivial⟩,⟨fun j=>?_,trivial⟩⟩)
  ·rw[show stRef _=stRef s by simp[stRef,StL.put]]
   conv=>lhs;whnf
   all_goals (
    refine congrArg some ?_
    repeat (refine yM ?_ (wA i0 i1 i2 s rfl))
    all_goals rfl)
  ·rfl
  ·conv=>lhs;whnf
   show some (Ob.ds 74 1 _)=some (Ob.ds 74 1 _)
   simp[stk,zS,zF,encF]
  ·conv=>lhs;whnf
   all_goals (
    refine congrArg (fun x=>some (Ob.rs 158 6 x)) ?_
    apply uP
    ·repeat (first|exact rfl|apply wG hk|apply wF (fun _=>rfl))
    ·show[_,_,_,_,_,AV.ref (.n 899) 0 ((zF t o).stack.length+1)]=_
     simp[yO,zS]
     exact⟨rfl,rfl,rfl,rfl,rfl⟩)
  ·rfl
  ·rfl
  ·repeat (first|exact rfl|refine hscrO ?_ (hg _ _)|conv=>lhs;whnf)
 have n1:¬ o.code=1:=by simpa using hc
 clear hc
 conv=>whnf
 refine kbi (fun hc=>?_) (fun hc=>?_)
 ·have hc:o.code=2:=by simpa using hc
  have hr:=o2 (.inl hc)
  conv=>whnf
  refine .inr (.inl ⟨4,[],?_⟩)
  conv=>whnf
  refine⟨by kernel_rfl,?_⟩
  conv=>whnf
  refine .inr (.inr (.inr ⟨[0],by kernel_rfl,14,[],?_⟩))
  conv=>whnf
  refine⟨yO (zF t o),⟨by repeat (first|exact yC hk|refine xL ?_ (yI rfl _)),by simp[yO]⟩,?_⟩
  conv=>whnf
  refine⟨⟨by omega,by omega⟩,?_⟩
  conv=>whnf
  refine⟨encF (s.cells.getD o.a.toNat 0),⟨by rw[Nat.zero_add];exact oL hr,by simp[encF]⟩,?_⟩
  conv=>whnf
  refine⟨by kernel_rfl,?_⟩
  conv=>whnf
  refine⟨⟨rfl,by rw[hpl];simp;omega,by rw[hpl];simp;omega⟩,?_⟩
  conv=>whnf
  have hd:doL s k o ⟨eth,1,eobj,-1,epc⟩=(s.put k (zS (zF t o) (s.cells.getD o.a.toNat 0)),⟨eth,2,o.a,(-1),epc⟩):=by unfold doL;rw[hgd];simp[hc]
  rw[hd] at hK
  dsimp only at hK
  refine hK _ (.inl ⟨zS (zF t o) (s.cells.getD o.a.toNat 0),s.ths,stk (zS (zF t o) (s.cells.getD o.a.toNat 0)),hk,rfl,hgj,kC _,by simp[StL.put],⟨rfl,rfl,trivial⟩,⟨?_,?_,rfl,?_,?_,?_,?_,trivial⟩,⟨fun j=>?_,trivial⟩⟩)
  ·rw[show stRef _=stRef s by simp[stRef,StL.put]]
   conv=>lhs;whnf
   all_goals (
    refine congrArg some ?_
    repeat (refine yM ?_ (wA i0 i1 i2 s rfl))
    all_goals rfl)
  ·rfl
  ·conv=>lhs;whnf
   show some (Ob.ds 74 1 _)=some (Ob.ds 74 1 _)
   simp[stk,zS,zF,encF]
  ·conv=>lhs;whnf
   all_goals (
    refine congrArg (fun x=>some (Ob.rs 158 6 x)) ?_
    apply uP
    ·repeat (first|exact rfl|apply wG hk|apply wF (fun _=>rfl))
    ·show[_,_,_,_,_,AV.ref (.n 899) 0 ((zF t o).stack.length+1)]=_
     simp[yO,zS]
     exact⟨rfl,rfl,rfl,rfl,rfl⟩)
  ·rfl
  ·rfl
  ·repeat (first|exact rfl|refine hscrO ?_ (hg _ _)|conv=>lhs;whnf)
 have n2:¬ o.code=2:=by simpa using hc
 clear hc
 conv=>whnf
 refine kbi (fun hc=>?_) (fun hc=>?_)
 ·have hc:o.code=3:=by simpa using hc
  have hr:=o2 (.inr hc)
  have htk:xZ o=1:=by simp[xZ,zB,hc]
  conv=>whnf
  refine .inr (.inl ⟨4,[],?_⟩)
  conv=>whnf
  refine⟨by kernel_rfl,?_⟩
  conv=>whnf
  refine .inr (.inl ⟨9,[],?_⟩)
  conv=>whnf
  refine⟨encF (yQ t o 0),⟨by omega,vK o5 (by omega),by simp[encF]⟩,?_⟩
  conv=>whnf
  refine⟨by kernel_rfl,?_⟩
  conv=>whnf
  refine⟨⟨by omega,by omega⟩,?_⟩
  conv=>whnf
  have hd:doL s k o ⟨eth,1,eobj,-1,epc⟩=({ s with cells:=s.cells.set o.a.toNat (yQ t o 0) }.put k (zF t o),⟨eth,3,o.a,(-1),epc⟩):=by unfold doL;rw[hgd];simp[hc]
  rw[hd] at hK
  dsimp only at hK
  refine hK _ (.inl ⟨zF t o,s.ths,stk t,hk,rfl,hgj,xX t o,by simp[StL.put],⟨rfl,rfl,trivial⟩,⟨?_,?_,rfl,?_,?_,?_,?_,trivial⟩,⟨fun j=>?_,trivial⟩⟩)
  ·rw[show stRef _=stRef s by simp[stRef,StL.put]]
   conv=>lhs;whnf
   all_goals (
    refine congrArg some ?_
    repeat (refine yM ?_ (wA i0 i1 i2 s rfl))
    all_goals rfl)
  ·rfl
  ·rfl
  ·conv=>lhs;whnf
   all_goals (
    refine congrArg (fun x=>some (Ob.rs 158 6 x)) ?_
    apply uP
    ·repeat (first|exact rfl|apply wG hk|apply wF (fun _=>rfl))
    ·rfl)
  ·conv=>lhs;whnf
   show some (Ob.ds 74 1 ((s.cells.map encF).set (0+o.a.toNat) (encF (yQ t o 0))))=some (Ob.ds 74 1 ((s.cells.set o.a.toNat (yQ t o 0)).map encF))
   rw[Nat.zero_add,List.map_set]
  ·rfl
  ·repeat (first|exact rfl|refine hscrO ?_ (hg _ _)|conv=>lhs;whnf)
 have n3:¬ o.code=3:=by simpa using hc
 clear hc
 conv=>whnf
 refine kbi (fun hc=>?_) (fun hc=>?_)
 ·have hc:o.code=10:=by simpa using hc
  conv=>whnf
  have hd:doL s k o ⟨eth,1,eobj,-1,epc⟩=(s.put k ({ zF t o with pc:=o.a }),⟨eth,1,eobj,-1,epc⟩):=by unfold doL;rw[hgd];simp[hc]
  rw[hd] at hK
  dsimp only at hK
  refine hK _ (.inl ⟨({ zF t o with pc:=o.a }),s.ths,stk t,hk,rfl,hgj,xX t o,by simp[StL.put],⟨rfl,rfl,trivial⟩,⟨?_,?_,rfl,?_,?_,?_,?_,trivial⟩,⟨fun j=>?_,trivial⟩⟩)
  ·rw[show stRef _=stRef s by simp[stRef,StL.put]]
   conv=>lhs;whnf
   all_goals (
    refine congrArg some ?_
    repeat (refine yM ?_ (wA i0 i1 i2 s rfl))
    all_goals rfl)
  ·rfl
  ·rfl
  ·conv=>lhs;whnf
   all_goals (
    refine congrArg (fun x=>some (Ob.rs 158 6 x)) ?_
    apply uP
    ·repeat (first|exact rfl|apply wG hk|apply wF (fun _=>rfl))
    ·rfl)
  ·rfl
  ·rfl
  ·repeat (first|exact rfl|refine hscrO ?_ (hg _ _)|conv=>lhs;whnf)
 have n10:¬ o.code=10:=by simpa using hc
 clear hc
 conv=>whnf
 refine kbi (fun hc=>?_) (fun hc=>?_)
 ·have hc:o.code=11:=by simpa using hc
  have htk:xZ o=1:=by simp[xZ,zB,hc]
  conv=>whnf
  refine⟨encF (yQ t o 0),⟨by omega,vK o5 (by omega),by simp[encF]⟩,?_⟩
  conv=>whnf
  refine ocase (isNo_ok _) (fun hn=>?_) (fun hn=>?_)
  ·conv=>whnf
   have hd:doL s k o ⟨eth,1,eobj,-1,epc⟩=(s.put k ({ zF t o with pc:=o.a }),⟨eth,1,eobj,-1,epc⟩):=by unfold doL;rw[hgd];simp[hc];rw[if_pos hn]
   rw[hd] at hK
   dsimp only at hK
   refine hK _ (.inl ⟨({ zF t o with pc:=o.a }),s.ths,stk t,hk,rfl,hgj,xX t o,by simp[StL.put],⟨rfl,rfl,trivial⟩,⟨?_,?_,rfl,?_,?_,?_,?_,trivial⟩,⟨fun j=>?_,trivial⟩⟩)
   ·rw[show stRef _=stRef s by simp[stRef,StL.put]]
    conv=>lhs;whnf
    all_goals (
     refine congrArg some ?_
     repeat (refine yM ?_ (wA i0 i1 i2 s rfl))
     all_goals rfl)
   ·rfl
   ·rfl
   ·conv=>lhs;whnf
    all_goals (
     refine congrArg (fun x=>some (Ob.rs 158 6 x)) ?_
     apply uP
     ·repeat (first|exact rfl|apply wG hk|apply wF (fun _=>rfl))
     ·rfl)
   ·rfl
   ·rfl
   ·repeat (first|exact rfl|refine hscrO ?_ (hg _ _)|conv=>lhs;whnf)
  ·conv=>whnf
   have hd:doL s k o ⟨eth,1,eobj,-1,epc⟩=(s.put k (zF t o),⟨eth,1,eobj,-1,epc⟩):=by unfold doL;rw[hgd];simp[hc];rw[if_neg hn]
   rw[hd] at hK
   dsimp only at hK
   refine hK _ (.inl ⟨zF t o,s.ths,stk t,hk,rfl,hgj,xX t o,by simp[StL.put],⟨rfl,rfl,trivial⟩,⟨?_,?_,rfl,?_,?_,?_,?_,trivial⟩,⟨fun j=>?_,trivial⟩⟩)
   ·rw[show stRef _=stRef s by simp[stRef,StL.put]]
    conv=>lhs;whnf
    all_goals (
     refine congrArg some ?_
     repeat (refine yM ?_ (wA i0 i1 i2 s rfl))
     all_goals rfl)
   ·rfl
   ·rfl
   ·conv=>lhs;whnf
    all_goals (
     refine congrArg (fun x=>some (Ob.rs 158 6 x)) ?_
     apply uP
     ·repeat (first|exact rfl|apply wG hk|apply wF (fun _=>rfl))
     ·rfl)
   ·rfl
   ·rfl
   ·repeat (first|exact rfl|refine hscrO ?_ (hg _ _)|conv=>lhs;whnf)
 have n11:¬ o.code=11:=by simpa using hc
 clear hc
 conv=>whnf
 refine kbi (fun hc=>?_) (fun hc=>?_)
 ·have hc:o.code=12:=by simpa using hc
  have hr:=o3 (.inl hc)
  conv=>whnf
  refine .inr (.inl ⟨4,[],?_⟩)
  conv=>whnf
  refine⟨by kernel_rfl,?_⟩
  conv=>whnf
  refine .inr (.inl ⟨7,[],?_⟩)
  conv=>whnf
  refine⟨by kernel_rfl,?_⟩
  conv=>whnf
  refine⟨⟨by omega,by omega⟩,?_⟩
  conv=>whnf
  have hd:doL s k o ⟨eth,1,eobj,-1,epc⟩=({ s with owner:=s.owner.set o.a.toNat ((k:Nat):Int) }.put k (zF t o),⟨eth,4,o.a,(-1),epc⟩):=by unfold doL;rw[hgd];simp[hc]
  rw[hd] at hK
  dsimp only at hK
  refine hK _ (.inl ⟨zF t o,s.ths,stk t,hk,rfl,hgj,xX t o,by simp[StL.put],⟨rfl,rfl,trivial⟩,⟨?_,?_,rfl,?_,?_,?_,?_,trivial⟩,⟨fun j=>?_,trivial⟩⟩)
  ·rw[show stRef _=stRef s by simp[stRef,StL.put]]
   conv=>lhs;whnf
   all_goals (
    refine congrArg some ?_
    repeat (refine yM ?_ (wA i0 i1 i2 s rfl))
    all_goals rfl)
  ·rfl
  ·rfl
  ·conv=>lhs;whnf
   all_goals (
    refine congrArg (fun x=>some (Ob.rs 158 6 x)) ?_
    apply uP
    ·repeat (first|exact rfl|apply wG hk|apply wF (fun _=>rfl))
    ·rfl)
  ·rfl
  ·conv=>lhs;whnf
   show some (Ob.ds 3 1 ((s.owner.map encInt).set (0+o.a.toNat) (encInt ((k:Nat):Int))))=some (Ob.ds 3 1 ((s.owner.set o.a.toNat ((k:Nat):Int)).map encInt))
   rw[Nat.zero_add,List.map_set]
  ·repeat (first|exact rfl|refine hscrO ?_ (hg _ _)|conv=>lhs;whnf)
 have n12:¬ o.code=12:=by simpa using hc
 clear hc
 conv=>whnf
 refine kbi (fun hc=>?_) (fun hc=>?_)
 ·have hc:o.code=13:=by simpa using hc
  have hr:=o3 (.inr hc)
  conv=>whnf
  refine .inr (.inl ⟨4,[],?_⟩)
  conv=>whnf
  refine⟨by kernel_rfl,?_⟩
  conv=>whnf
  refine .inr (.inl ⟨6,[],?_⟩)
  conv=>whnf
  refine⟨by kernel_rfl,?_⟩
  conv=>whnf
  refine⟨⟨by omega,by omega⟩,?_⟩
  conv=>whnf
  have hd:doL s k o ⟨eth,1,eobj,-1,epc⟩=({ s with owner:=s.owner.set o.a.toNat (-1) }.put k (zF t o),⟨eth,5,o.a,(-1),epc⟩):=by unfold doL;rw[hgd];simp[hc]
  rw[hd] at hK
  dsimp only at hK
  refine hK _ (.inl ⟨zF t o,s.ths,stk t,hk,rfl,hgj,xX t o,by simp[StL.put],⟨rfl,rfl,trivial⟩,⟨?_,?_,rfl,?_,?_,?_,?_,trivial⟩,⟨fun j=>?_,trivial⟩⟩)
  ·rw[show stRef _=stRef s by simp[stRef,StL.put]]
   conv=>lhs;whnf
   all_goals (
    refine congrArg some ?_
    repeat (refine yM ?_ (wA i0 i1 i2 s rfl))
    all_goals rfl)
  ·rfl
  ·rfl
  ·conv=>lhs;whnf
   all_goals (
    refine congrArg (fun x=>some (Ob.rs 158 6 x)) ?_
    apply uP
    ·repeat (first|exact rfl|apply wG hk|apply wF (fun _=>rfl))
    ·rfl)
  ·rfl
  ·conv=>lhs;whnf
   show some (Ob.ds 3 1 ((s.owner.map encInt).set (0+o.a.toNat) (encInt (-1))))=some (Ob.ds 3 1 ((s.owner.set o.a.toNat (-1)).map encInt))
   rw[Nat.zero_add,List.map_set]
  ·repeat (first|exact rfl|refine hscrO ?_ (hg _ _)|conv=>lhs;whnf)
 have n13:¬ o.code=13:=by simpa using hc
 clear hc
 conv=>whnf
 refine kbi (fun hc=>?_) (fun hc=>?_)
 ·have hc:o.code=14:=by simpa using hc
  conv=>whnf
  refine .inr (.inl ⟨7,[],?_⟩)
  conv=>whnf
  refine⟨by kernel_rfl,?_⟩
  conv=>whnf
  refine .inr (.inr (.inr ⟨[0],by kernel_rfl,12,[],?_⟩))
  conv=>whnf
  refine⟨yO (zF t o),⟨by repeat (first|exact yC hk|refine xL ?_ (yI rfl _)),by simp[yO]⟩,?_⟩
  conv=>whnf
  refine⟨by kernel_rfl,?_⟩
  conv=>whnf
  refine⟨⟨rfl,by rw[hpl];simp;omega,by rw[hpl];simp;omega⟩,?_⟩
  conv=>whnf
  refine .inr (.inr (.inr ⟨[0],by kernel_rfl,9,[2715],?_⟩))
  conv=>whnf
  refine⟨_,gZ o.a,?_⟩
  conv=>whnf
  refine⟨by kernel_rfl,?_⟩
  conv=>whnf
  refine⟨⟨fun c hc'=>?_,?_,?_⟩,?_⟩
  ·have hc':c∈[[i64 o.a,i64 0,i64 1,i64 (-1),i64 (-1),AV.ref (.n 905) 0 0]]:=hc'
   simp only[List.mem_singleton] at hc'
   subst hc';rfl
  ·show(s.ths.length+1)*64≤_
   omega
  ·show s.ths.length+1≤_
   omega
  conv=>whnf
  have hd:doL s k o ⟨eth,1,eobj,-1,epc⟩=({ s with ths:=s.ths++[jH o.a] }.put k (zS (zF t o) (FloatKind.f64.nearest (s.ths.length:Int))),⟨eth,6,s.ths.length,(-1),epc⟩):=by unfold doL;rw[hgd];simp[hc]
  rw[hd] at hK
  dsimp only at hK
  refine hK _ (.inr ⟨s.ths,zS (zF t o) (FloatKind.f64.nearest (s.ths.length:Int)),o.a,hk,?_,hgj,⟨rfl,rfl,trivial⟩,⟨?_,rfl,rfl,?_,?_,rfl,rfl,rfl,trivial⟩,⟨fun j=>?_,trivial⟩⟩)
  ·simp[StL.put,List.set_append_left _ _ hk]
  ·conv=>lhs;whnf
   refine congrArg (fun x=>some (Ob.vs E x)) ?_
   refine spawn_vs3 i0 i1 i2 (s:=s) ?_ ?_ rfl rfl rfl
   ·conv=>lhs;whnf
    all_goals simp[StL.put]
   all_goals (
    repeat (refine hscrL ?_ (vs_scrL3 i0 i1 i2 s rfl))
    all_goals rfl)
  ·conv=>lhs;whnf
   show some (Ob.ds 74 1 _)=some (Ob.ds 74 1 _)
   simp[stk,zS,zF,encF]
  ·conv=>lhs;whnf
   refine congrArg (fun x=>some (Ob.rs 158 6 x)) ?_
   refine eG rfl ?_ rfl rfl
   apply uP
   ·repeat (first|exact rfl|apply wG hk|apply wF (fun _=>rfl))
   ·show[_,_,_,_,_,AV.ref (.n 899) 0 ((zF t o).stack.length+1)]=_
    simp[yO,zS]
    exact⟨rfl,rfl,rfl,rfl,rfl⟩
  ·repeat (first|exact rfl|refine hscrO ?_ (hg _ _)|conv=>lhs;whnf)
 have n14:¬ o.code=14:=by simpa using hc
 clear hc
 conv=>whnf
 refine kbi (fun hc=>?_) (fun hc=>?_)
 ·have hc:o.code=15:=by simpa using hc
  have htk:xZ o=1:=by simp[xZ,zB,hc]
  obtain⟨jj,hj1,hj2⟩:=hjo hc
  conv=>whnf
  refine .inr (.inl ⟨14,[],?_⟩)
  conv=>whnf
  refine⟨encF (yQ t o 0),⟨by omega,vK o5 (by omega),by simp[encF]⟩,?_⟩
  conv=>whnf
  refine⟨_,hI _ _,?_⟩
  conv=>whnf
  refine⟨by kernel_rfl,?_⟩
  conv=>whnf
  have hd:doL s k o ⟨eth,1,eobj,-1,epc⟩=(s.put k (zF t o),⟨eth,7,(yA s t).getD (-1),(-1),epc⟩):=by unfold doL;rw[hgd];simp[hc]
  rw[hd] at hK
  dsimp only at hK
  refine hK _ (.inl ⟨zF t o,s.ths,stk t,hk,rfl,hgj,xX t o,by simp[StL.put],⟨rfl,rfl,trivial⟩,⟨?_,?_,rfl,?_,?_,?_,?_,trivial⟩,⟨fun j=>?_,trivial⟩⟩)
  ·rw[show stRef _=stRef s by simp[stRef,StL.put]]
   conv=>lhs;whnf
   all_goals (
    refine congrArg some ?_
    repeat (refine yM ?_ (wA i0 i1 i2 s rfl))
    all_goals rfl)
  ·conv=>lhs;whnf
   show some (Ob.vs 105 [i64 eth,i64 7,i64 ((yX (yQ t o 0) s.ths.length).getD 0),i64 (-1),i64 epc])=some (Ob.vs 105 [i64 eth,i64 7,i64 ((yA s t).getD (-1)),i64 (-1),i64 epc])
   rw[hj1,hj2]
   rfl
  ·rfl
  ·conv=>lhs;whnf
   all_goals (
    refine congrArg (fun x=>some (Ob.rs 158 6 x)) ?_
    apply uP
    ·repeat (first|exact rfl|apply wG hk|apply wF (fun _=>rfl))
    ·rfl)
  ·rfl
  ·rfl
  ·repeat (first|exact rfl|refine hscrO ?_ (hg _ _)|conv=>lhs;whnf)
 have n15:¬ o.code=15:=by simpa using hc
 clear hc
 conv=>whnf
 refine kbi (fun hc=>?_) (fun hc=>?_)
 ·have hc:o.code=16:=by simpa using hc
  have hr:=o4 hc
  conv=>whnf
  refine .inr (.inl ⟨8,[],?_⟩)
  conv=>whnf
  refine⟨by kernel_rfl,?_⟩
  conv=>whnf
  refine .inr (.inl ⟨6,[],?_⟩)
  conv=>whnf
  refine⟨by kernel_rfl,?_⟩
  conv=>whnf
  refine⟨⟨by omega,by omega⟩,?_⟩
  conv=>whnf
  refine⟨yO (zF t o),⟨by repeat (first|exact yC hk|refine xL ?_ (yI rfl _)),by simp[yO]⟩,?_⟩
  conv=>whnf
  refine .inr (.inr (.inr ⟨[0,1,2],by kernel_rfl,by kernel_rfl,by kernel_rfl,13,[],?_⟩))
  conv=>whnf
  refine⟨by kernel_rfl,?_⟩
  conv=>whnf
  have hd:doL s k o ⟨eth,1,eobj,-1,epc⟩=({ s with owner:=s.owner.set o.b.toNat (-1) }.put k ({ zF t o with st:=3,cond:=o.a,lock:=o.b,pc:=(zF t o).pc - 1 }),⟨eth,8,o.a,o.b,epc⟩):=by unfold doL;rw[hgd];simp[hc]
  rw[hd] at hK
  dsimp only at hK
  refine hK _ (.inl ⟨({ zF t o with st:=3,cond:=o.a,lock:=o.b,pc:=(zF t o).pc - 1 }),s.ths,stk t,hk,rfl,hgj,xX t o,by simp[StL.put],⟨rfl,rfl,trivial⟩,⟨?_,?_,rfl,?_,?_,?_,?_,trivial⟩,⟨fun j=>?_,trivial⟩⟩)
  ·rw[show stRef _=stRef s by simp[stRef,StL.put]]
   conv=>lhs;whnf
   all_goals (
    refine congrArg some ?_
    repeat (refine yM ?_ (wA i0 i1 i2 s rfl))
    all_goals rfl)
  ·rfl
  ·rfl
  ·conv=>lhs;whnf
   all_goals (
    refine congrArg (fun x=>some (Ob.rs 158 6 x)) ?_
    apply uP
    ·repeat (first|exact rfl|apply wG hk|apply wF (fun _=>rfl))
    ·have ew:IntKind.i64.wrap (t.pc+1 - 1)=t.pc+1 - 1:=zK (by have:=hpc.1;omega) (by have:=hpc.2;omega)
     show[_,AV.d (.int .i64 (IntKind.i64.wrap (t.pc+1 - 1))),_,_,_,_]=_
     rw[ew]
     rfl)
  ·rfl
  ·conv=>lhs;whnf
   show some (Ob.ds 3 1 ((s.owner.map encInt).set (0+o.b.toNat) (encInt (-1))))=some (Ob.ds 3 1 ((s.owner.set o.b.toNat (-1)).map encInt))
   rw[Nat.zero_add,List.map_set]
  ·repeat (first|exact rfl|refine hscrO ?_ (hg _ _)|conv=>lhs;whnf)
 have n16:¬ o.code=16:=by simpa using hc
 clear hc
 conv=>whnf
 refine kbi (fun hc=>?_) (fun hc=>?_)
 ·have hc:o.code=17:=by simpa using hc
  have hcall:CallsTo EE 225 [sl ((s.ths.set k (zF t o)).map zD),.fn 226 [.fp (encOp o)]] (·=i64 (y8 (yY s.ths o.a))):=by
   rw[← aY hk (t':=zF t o) o.a hst3 (by rw[ht0];exact hst3)]
   exact fE _ (by simp;omega) 226 _ (.inr ⟨_,rfl⟩) (fun t=>t.st==3&&t.cond==o.a) (fun u _=>tW u o)
  conv=>whnf
  refine .inr (.inl ⟨4,[],?_⟩)
  conv=>whnf
  refine⟨by kernel_rfl,?_⟩
  conv=>whnf
  refine .inl ⟨[sl ((s.ths.set k (zF t o)).map zD),.fn 226 [.fp (encOp o)]],[],_,⟨_,_,rfl,⟨_,rfl,nF (l:=s.ths) (k:=k) (t:=zF t o) (els:=stk t) hk ?_ ?_ ?_ (xX t o)⟩,_,_,rfl,rfl,rfl⟩,rfl,hcall,?_⟩
  ·conv=>lhs;whnf
   refine congrArg (fun x=>some (Ob.rs 158 6 x)) ?_
   repeat (first|exact rfl|refine jL ?_ rfl (fun _=>rfl))
  ·intro j hj hjl
   refine Eq.trans (b:=g j) ?_ ((hgj j hj).trans (by simp[zE,hjl]))
   repeat (first|exact rfl|refine hscrO ?_ (hg _ _)|conv=>lhs;whnf)
  ·rfl
  rintro r rfl
  refine⟨rfl,?_⟩
  cases hwk:yY s.ths o.a with
  |none =>
   conv=>whnf
   refine kbi (fun hw=>?_) (fun hw=>?_)
   ·simp[y8] at hw
   conv=>whnf
   have hd:doL s k o ⟨eth,1,eobj,-1,epc⟩=(s.put k (zF t o),⟨eth,10,o.a,(-1),epc⟩):=by unfold doL;rw[hgd];simp[hc,hwk]
   rw[hd] at hK
   dsimp only at hK
   refine hK _ (.inl ⟨zF t o,s.ths,stk t,hk,rfl,hgj,xX t o,by simp[StL.put],⟨rfl,rfl,trivial⟩,⟨?_,?_,rfl,?_,?_,?_,?_,trivial⟩,⟨fun j=>?_,trivial⟩⟩)
   ·rw[show stRef _=stRef s by simp[stRef,StL.put]]
    conv=>lhs;whnf
    all_goals (
     refine congrArg some ?_
     repeat (refine yM ?_ (wA i0 i1 i2 s rfl))
     all_goals rfl)
   ·rfl
   ·rfl
   ·conv=>lhs;whnf
    all_goals (
     refine congrArg (fun x=>some (Ob.rs 158 6 x)) ?_
     apply uP
     ·repeat (first|exact rfl|apply wG hk|apply wF (fun _=>rfl))
     ·rfl)
   ·rfl
   ·rfl
   ·repeat (first|exact rfl|refine hscrO ?_ (hg _ _)|conv=>lhs;whnf)
  |some j =>
   obtain⟨hjl,hj3,hjc⟩:=dO hwk
   have hjk:j≠k:=by
    rintro rfl
    rw[ht0] at hj3;exact hst3 hj3
   conv=>whnf
   refine kbi (fun hw=>?_) (fun hw=>?_)
   rotate_left 1
   ·simp[y8] at hw
   conv=>whnf
   refine .inr (.inl ⟨6,[],?_⟩)
   conv=>whnf
   have hd:doL s k o ⟨eth,1,eobj,-1,epc⟩=({ s with ths:=s.ths.modify j fun u=>{ u with st:=4 } }.put k (zF t o),⟨eth,10,o.a,j,epc⟩):=by unfold doL;rw[hgd];simp[hc,hwk]
   rw[hd] at hK
   dsimp only at hK
   refine⟨by kernel_rfl,?_⟩
   conv=>whnf
   refine⟨⟨by show(0:Int)≤(j:Int);omega,by show(j:Int)<s.ths.length;omega⟩,?_⟩
   conv=>whnf
   refine hK _ (.inl ⟨zF t o,s.ths.modify j fun u=>{ u with st:=4 },stk t,by simpa using hk,rfl,fun i hi=>(hgj i hi).trans (eC i).symm,xX t o,by simp[StL.put],⟨rfl,rfl,trivial⟩,⟨?_,?_,rfl,?_,?_,?_,?_,trivial⟩,⟨fun j=>?_,trivial⟩⟩)
   ·rw[show stRef _=stRef s by simp[stRef,StL.put]]
    conv=>lhs;whnf
    all_goals (
     refine congrArg some ?_
     repeat (refine yM ?_ (wA i0 i1 i2 s rfl))
     all_goals rfl)
   ·rfl
   ·rfl
   ·conv=>lhs;whnf
    all_goals (
     refine congrArg (fun x=>some (Ob.rs 158 6 x)) ?_
     refine eM hjl hjk ?_
     repeat (first|exact rfl|refine jL ?_ rfl (fun _=>rfl)))
   ·rfl
   ·rfl
   ·repeat (first|exact rfl|refine hscrO ?_ (hg _ _)|conv=>lhs;whnf)
 have n17:¬ o.code=17:=by simpa using hc
 clear hc
 conv=>whnf
 have hcode:4≤o.code∧o.code≤9:=by have:=o1.1;have:=o1.2;omega
 have htk:xZ o=2:=by simp only[xZ,zB];rw[if_neg (by omega),if_neg (by omega),if_pos hcode];rfl
 refine .inr (.inr (.inr ⟨[0],by kernel_rfl,15,[],?_⟩))
 conv=>whnf
 refine⟨yO (zF t o),⟨by repeat (first|exact yC hk|refine xL ?_ (yI rfl _)),by simp[yO]⟩,?_⟩
 conv=>whnf
 refine⟨encF (yQ t o 0),⟨by omega,vK o5 (by omega),by simp[encF]⟩,?_⟩
 conv=>whnf
 refine⟨encF (yQ t o 1),⟨by omega,vK o5 (by omega),by simp[encF]⟩,?_⟩
 conv=>whnf
 refine⟨_,w9 _ _ _ hcode (pA hfl) (pA hfl),?_⟩
 conv=>whnf
 refine⟨by kernel_rfl,?_⟩
 conv=>whnf
 refine⟨⟨rfl,by rw[hpl];simp;omega,by rw[hpl];simp;omega⟩,?_⟩
 conv=>whnf
 have hd:doL s k o ⟨eth,1,eobj,-1,epc⟩=(s.put k (zS (zF t o) (yS o.code (yQ t o 0) (yQ t o 1))),⟨eth,1,eobj,-1,epc⟩):=by unfold doL;rw[hgd];simp[n1,n2,n3,n10,n11,n12,n13,n14,n15,n16,n17]
 rw[hd] at hK
 dsimp only at hK
 refine hK _ (.inl ⟨zS (zF t o) (yS o.code (yQ t o 0) (yQ t o 1)),s.ths,stk (zS (zF t o) (yS o.code (yQ t o 0) (yQ t o 1))),hk,rfl,hgj,kC _,by simp[StL.put],⟨rfl,rfl,trivial⟩,⟨?_,?_,rfl,?_,?_,?_,?_,trivial⟩,⟨fun j=>?_,trivial⟩⟩)
 ·rw[show stRef _=stRef s by simp[stRef,StL.put]]
  conv=>lhs;whnf
  all_goals (
   refine congrArg some ?_
   repeat (refine yM ?_ (wA i0 i1 i2 s rfl))
   all_goals rfl)
 ·rfl
 ·conv=>lhs;whnf
  show some (Ob.ds 74 1 _)=some (Ob.ds 74 1 _)
  simp[stk,zS,zF,encF]
 ·conv=>lhs;whnf
  all_goals (
   refine congrArg (fun x=>some (Ob.rs 158 6 x)) ?_
   apply uP
   ·repeat (first|exact rfl|apply wG hk|apply wF (fun _=>rfl))
   ·show[_,_,_,_,_,AV.ref (.n 899) 0 ((zF t o).stack.length+1)]=_
    simp[yO,zS]
    exact⟨rfl,rfl,rfl,rfl,rfl⟩)
 ·rfl
 ·rfl
 ·repeat (first|exact rfl|refine hscrO ?_ (hg _ _)|conv=>lhs;whnf)
end Ai
namespace Ai
set_option maxRecDepth 100000
open Go Go.Proofs
def InertL (pre:List AV):Prop:=∀ x∈pre,Inert x
theorem bO:∀ {pre:List AV},InertL pre→∀ p,scrPL p pre=pre
 | [],_,p=>rfl
 |x::xs,h,p=>by simp only[scrPL];rw[(h x List.mem_cons_self).scr,bO (fun y hy=>h y (List.mem_cons_of_mem _ hy))]
theorem inertL_ren:∀ {pre:List AV},InertL pre→∀ f,renL f pre=pre
 | [],_,f=>rfl
 |x::xs,h,f=>by simp only[renL];rw[(h x List.mem_cons_self).ren,inertL_ren (fun y hy=>h y (List.mem_cons_of_mem _ hy))]
theorem iP:∀ {pre:List AV},InertL pre→∀ κ q,gI κ q pre=pre
 | [],_,κ,q=>rfl
 |x::xs,h,κ,q=>by simp only[gI];rw[(h x List.mem_cons_self).cut,iP (fun y hy=>h y (List.mem_cons_of_mem _ hy))]
theorem mC (p:Key→Bool):∀ a b:List AV,scrPL p (a++b)=scrPL p a++scrPL p b
 | [],b=>rfl
 |x::a,b=>by simp only[List.cons_append,scrPL];rw[mC p a b]
theorem renL_app (f:Key→Key):∀ a b:List AV,renL f (a++b)=renL f a++renL f b
 | [],b=>rfl
 |x::a,b=>by simp only[List.cons_append,renL];rw[renL_app f a b]
theorem cutL_app (κ:Key) (q:Nat):∀ a b:List AV,gI κ q (a++b)=gI κ q a++gI κ q b
 | [],b=>rfl
 |x::a,b=>by simp only[List.cons_append,gI];rw[cutL_app κ q a b]
def wO:Key→Bool
 | .n k=>Nat.beq k 899 || Nat.beq k 900 || Nat.beq k 901 || Nat.beq k 902
 | .s o _=>Nat.beq o 900
 | .l k=>Nat.beq k 0
def stHA (E:TypeId) (pre:List AV) (s:StL) (k:Nat) (t:Th):Key→Option Ob
 | .l j=>bif Nat.beq j 0 then some (.vs E (pre++stRef s)) else none
 | .n j=>bif Nat.beq j 899 then some (.ds 74 1 (stk t)) else bif Nat.beq j 900 then some (.rs 158 6 (rowsA s.ths k t)) else bif Nat.beq j 901 then some (.ds 74 1 (s.cells.map encF)) else bif Nat.beq j 902 then some (.ds 3 1 (s.owner.map encInt)) else none
 | .s o j=>bif Nat.beq o 900 then (bif Nat.beq j k then none else zE s.ths j) else none
def stHC (E:TypeId) (pre:List AV) (s:StL):Key→Option Ob
 | .l j=>bif Nat.beq j 0 then some (.vs E (pre++stRef s)) else none
 | .n j=>bif Nat.beq j 900 then some (.rs 158 6 (thRows 900 s.ths)) else bif Nat.beq j 901 then some (.ds 74 1 (s.cells.map encF)) else bif Nat.beq j 902 then some (.ds 3 1 (s.owner.map encInt)) else none
 | .s o j=>bif Nat.beq o 900 then zE s.ths j else none
theorem thRows_set {l:List Th} {k:Nat} {t:Th} (hk:k<l.length):thRows 900 (l.set k t)=(thRows 900 l).set k (thRow 900 k t):=by
 apply List.ext_getElem?
 intro i
 rw[qJ,List.getElem?_set,List.getElem?_set]
 by_cases h:k=i
 ·subst h
  simp[hk,zU]
 ·simp[h,qJ]
theorem sQ {l:List Th} {k:Nat} {t u:Th} (hk:k<l.length):rowsA (l.set k u) k t=rowsA l k t:=by
 unfold rowsA
 rw[thRows_set hk,List.set_set]
theorem thFam_ge {l:List Th} {j:Nat} (h:l.length≤j):zE l j=none:=by
 unfold zE;rw[List.getElem?_eq_none h];rfl
theorem sI {l:List Th} {k j:Nat} {t:Th} (h:j≠k):zE (l.set k t) j=zE l j:=by
 unfold zE;rw[List.getElem?_set_ne (Ne.symm h)]
theorem thFam_self {l:List Th} {k:Nat} (h:k<l.length):zE l k=some (.ds 74 1 (stk l[k])):=by
 unfold zE;rw[List.getElem?_eq_getElem h];rfl
theorem rows_cut {l:List Th} {k:Nat} {t:Th}:(rowsA l k t).map (gI (.n 899) t.stack.length)=rowsA l k t:=by
 unfold rowsA
 rw[List.map_set]
 congr 1
 ·apply List.ext_getElem?
  intro i
  rw[List.getElem?_map,qJ]
  cases l[i]? with
  |none=>rfl
  |some u=>rfl
 ·have:Nat.ble (0+t.stack.length) t.stack.length=true:=by rw[Nat.zero_add,Nat.ble_eq];exact Nat.le_refl _
  show[_,_,_,_,_,(bif Nat.ble (0+t.stack.length) t.stack.length then AV.ref (.n 899) 0 t.stack.length else .junk)]=_
  rw[this];rfl
theorem stRef_cut (s:StL) (q:Nat):gI (.n 899) q (stRef s)=stRef s:=rfl
theorem v9 (s:StL):scrPL (fun o=>!wO o) (stRef s)=stRef s:=rfl
def doIPost (E:TypeId) (pre:List AV) (k:Nat) (s':StL) (e':Ev) (r:AV) (H1:Key→Option Ob):Prop :=
 r=agg (encEv e')∧∃ (h:k<s'.ths.length),H1=stHA E pre s' k s'.ths[k]
theorem doI_fin (E:TypeId) (pre:List AV) (hp:InertL pre) (g:Nat→Option Ob) (k:Nat) (hg:∀ p j,(g j).map (scrPO p)=g j) (hgc:∀ q j,(g j).map (cutO (.n 899) q)=g j) (hgk:g k=none) (s':StL) (e':Ev) (S:St) (t':Th) (h:DoIE E pre g k s' t' e' S) :
  AW EE Tryz.f181.ntmps (dropC 8 (Tryz.f181.body.getD .skip)) (retIO EE Tryz.f181 (doIPost E pre k s' e')) S:=by
 obtain⟨l',els,hk,hths,hgj,hels,hlen,hat⟩:=h
 obtain⟨τ,H,rfl⟩:=hat.form
 conv=>whnf
 refine⟨_,weak_cut (.n 899) t'.stack.length (e:=74) (sz:=1) (els:=els) ?_,?_⟩
 ·rfl
 conv=>whnf
 refine⟨wO,?_,?_⟩
 ·rfl
 have hk':k<s'.ths.length:=by rw[hths];simpa using hk
 have htk:s'.ths[k]=t':=by simp[hths]
 refine⟨hk',?_⟩
 rw[htk]
 funext κ
 cases κ with
 |l j =>
  by_cases h:j=0
  ·subst h
   show some (Ob.vs E (scrPL _ (gI _ _ (pre++stRef s'))))=some (Ob.vs E (pre++stRef s'))
   rw[cutL_app,iP hp,stRef_cut,mC,bO hp,v9]
  ·simp[xB,wO,stHA,nbeq_ne h]
 |n j =>
  by_cases h1:j=899
  ·subst h1
   show some (Ob.ds 74 1 (els.take t'.stack.length))=some (Ob.ds 74 1 (stk t'))
   rw[hels]
  by_cases h2:j=900
  ·subst h2
   show some (Ob.rs 158 6 (((rowsA l' k t').map (gI (.n 899) t'.stack.length)).map (scrPL fun o=>!wO o)))=some (Ob.rs 158 6 (rowsA s'.ths k t'))
   rw[rows_cut,hths,sQ hk]
   exact congrArg (fun x=>some (Ob.rs 158 6 x)) (qK rfl (fun _=>rfl) _ _ _)
  by_cases h3:j=901
  ·subst h3;rfl
  by_cases h4:j=902
  ·subst h4;rfl
  simp[xB,wO,stHA,nbeq_ne h1,nbeq_ne h2,nbeq_ne h3,nbeq_ne h4]
 |s o j =>
  by_cases h:o=900
  ·subst h
   show((g j).map (cutO (.n 899) t'.stack.length)).map (scrPO fun o=>!wO o)=bif Nat.beq j k then none else zE s'.ths j
   rw[hgc,hg]
   by_cases hj:j=k
   ·subst hj;rw[nbeq_self,hgk];rfl
   ·rw[nbeq_ne hj,hgj j hj,hths,sI hj];rfl
  ·simp[xB,wO,stHA,nbeq_ne h]
theorem rowsA_app {l:List Th} {k:Nat} {t u:Th} (hk:k<l.length):rowsA (l++[u]) k t=rowsA l k t++[thRow 900 l.length u]:=by
 unfold rowsA
 have:thRows 900 (l++[u])=thRows 900 l++[thRow 900 l.length u]:=by
  apply List.ext_getElem?
  intro i
  rw[qJ]
  by_cases h:i<l.length
  ·rw[List.getElem?_append_left h,List.getElem?_append_left (by rw[zU];exact h),qJ]
  ·rw[List.getElem?_append_right (by omega),List.getElem?_append_right (by rw[zU];omega),zU]
   by_cases h2:i - l.length=0
   ·have:i=l.length:=by omega
    subst this
    simp
   ·rw[List.getElem?_eq_none (by simp;omega),List.getElem?_eq_none (by simp;omega)];rfl
 rw[this,List.set_append_left _ _ (by rw[zU];exact hk)]
theorem rowsA_ren {l:List Th} {k:Nat} {t:Th}:(rowsA l k t).map (renL (swp (.n 905) (.s 900 l.length)))=rowsA l k t:=by
 unfold rowsA
 rw[List.map_set,nI (Nat.le_refl _)]
 rfl
theorem thFam_app {l:List Th} {u:Th} {j:Nat}:zE (l++[u]) j=bif Nat.beq j l.length then some (.ds 74 1 (stk u)) else zE l j:=by
 unfold zE
 by_cases h:j=l.length
 ·subst h;rw[nbeq_self];simp
 ·rw[nbeq_ne h]
  by_cases h2:j<l.length
  ·rw[List.getElem?_append_left h2];rfl
  ·rw[List.getElem?_eq_none (by simp;omega),List.getElem?_eq_none (by omega)];rfl
theorem doI_finF (E:TypeId) (pre:List AV) (hp:InertL pre) (g:Nat→Option Ob) (k:Nat) (hg:∀ p j,(g j).map (scrPO p)=g j) (hgr:∀ f j,(g j).map (renO f)=g j) (hgk:g k=none) (s':StL) (e':Ev) (S:St) (l':List Th) (t':Th) (r:Int) (h:DoIF E pre g k s' l' t' r e' S) :
  AW EE Tryz.f181.ntmps (dropC 8 (Tryz.f181.body.getD .skip)) (retIO EE Tryz.f181 (doIPost E pre k s' e')) S:=by
 obtain⟨hk,hths,hgj,hat⟩:=h
 obtain⟨τ,H,rfl⟩:=hat.form
 conv=>whnf
 refine⟨_,uS 905 900 l'.length,?_⟩
 conv=>whnf
 refine⟨wO,?_,?_⟩
 ·rfl
 have hk':k<s'.ths.length:=by rw[hths];simp;omega
 have htk:s'.ths[k]=t':=by
  have:s'.ths[k]?=some t':=by rw[hths,List.getElem?_append_left (by simpa using hk)];simp[hk]
  rw[List.getElem?_eq_getElem hk'] at this
  exact Option.some.inj this
 refine⟨hk',?_⟩
 rw[htk]
 have hnk:l'.length≠k:=by omega
 funext κ
 cases κ with
 |l j =>
  by_cases h:j=0
  ·subst h
   show some (Ob.vs E (scrPL _ (renL _ (pre++stRef s'))))=some (Ob.vs E (pre++stRef s'))
   rw[renL_app,inertL_ren hp,mC,bO hp]
   rfl
  ·simp[xB,wO,stHA,nbeq_ne h]
 |n j =>
  by_cases h1:j=899
  ·subst h1;rfl
  by_cases h2:j=900
  ·subst h2
   show some (Ob.rs 158 6 (((rowsA l' k t'++[_]).map (renL (swp (.n 905) (.s 900 l'.length)))).map (scrPL fun o=>!wO o)))=some (Ob.rs 158 6 (rowsA s'.ths k t'))
   rw[hths,rowsA_app (by simpa using hk),sQ hk,List.map_append,rowsA_ren,List.map_append,qK rfl (fun _=>rfl),List.length_set]
   rfl
  by_cases h3:j=901
  ·subst h3;rfl
  by_cases h4:j=902
  ·subst h4;rfl
  simp[xB,wO,stHA,nbeq_ne h1,nbeq_ne h2,nbeq_ne h3,nbeq_ne h4]
 |s o j =>
  by_cases h:o=900
  ·subst h
   rw[show stHA E pre s' k t' (.s 900 j)=(bif Nat.beq j k then none else zE s'.ths j) from rfl,hths,thFam_app,List.length_set]
   by_cases hjn:j=l'.length
   ·subst hjn
    rw[nbeq_ne hnk,nbeq_self]
    have e:swp (.n 905) (.s 900 l'.length) (.s 900 l'.length)=.n 905:=by simp[swp,Key.beq,nbeq_self]
    simp only[xB,St.swap,e]
    rfl
   ·have e:swp (.n 905) (.s 900 l'.length) (.s 900 j)=.s 900 j:=by simp[swp,Key.beq,nbeq_ne hjn]
    rw[nbeq_ne hjn]
    simp only[xB,St.swap,e]
    show(((g j).map (renO _)).map (scrPO fun o=>!wO o))=bif Nat.beq j k then none else zE (l'.set k t') j
    rw[hgr,hg]
    by_cases hj:j=k
    ·subst hj;rw[nbeq_self,hgk];rfl
    ·rw[nbeq_ne hj,hgj j hj,sI hj];rfl
  ·simp[xB,wO,stHA,nbeq_ne h]
end Ai
namespace Ai
set_option maxRecDepth 100000
open Go Go.Proofs
def fam0 (l:List Th) (k:Nat) (j:Nat):Option Ob:=bif Nat.beq j k then none else zE l j
theorem xJ (l:List Th) (k:Nat) (p:Key→Bool) (j:Nat):(fam0 l k j).map (scrPO p)=fam0 l k j:=by
 unfold fam0;cases Nat.beq j k
 ·exact zH p l j
 ·rfl
theorem bB (l:List Th) (k:Nat) (p:Key→Key) (j:Nat):(fam0 l k j).map (renO p)=fam0 l k j:=by
 unfold fam0;cases Nat.beq j k
 ·exact thFam_ren p l j
 ·rfl
theorem fam0_cut (l:List Th) (k:Nat) (κ:Key) (q j:Nat):(fam0 l k j).map (cutO κ q)=fam0 l k j:=by
 unfold fam0;cases Nat.beq j k
 ·show(zE l j).map _=zE l j
  unfold zE;cases l[j]? <;> rfl
 ·rfl
theorem doI_okA (hI:yV) (E:TypeId) (x0 x1 x2:AV) (i0:Inert x0) (i1:Inert x1) (i2:Inert x2) (s:StL) (k:Nat) (o:OpL) (e:Ev) (hk:k<s.ths.length) (h5:s.ths.length≤5)
  (hs:s.small) (ho:o.fits s s.ths[k]) (hpc:InR s.ths[k].pc 0 1048576) (hst3:s.ths[k].st≠3) (he:e.kind=1) (hel:e.lock=-1) (hfl:∀ x∈s.ths[k].stack,x<18446744073709551616) (hjo:o.code=15→∃ j,yX (yQ s.ths[k] o 0) s.ths.length=some j∧yA s s.ths[k]=some j)
  (H0:Key→Option Ob) (h0:H0 (.l 0)=some (.vs E ([x0,x1,x2]++stRef s))) (h1:H0 (.n 899)=some (.ds 74 1 (stk s.ths[k]))) (h2:H0 (.n 900)=some (.rs 158 6 (rowsA s.ths k s.ths[k]))) (h3:∀ j,H0 (.s 900 j)=fam0 s.ths k j)
  (h4:H0 (.n 901)=some (.ds 74 1 (s.cells.map encF))) (h6:H0 (.n 902)=some (.ds 3 1 (s.owner.map encInt))) :
  IOCall EE 181 [.ptr (.l 0) 3,i64 k,agg (encOp o),agg (encEv e)] H0 (doIPost E [x0,x1,x2] k (doL s k o e).1 (doL s k o e).2):=by
 refine xN (fn:=Tryz.f181) (c:=Tryz.f181.body.getD .skip) Tryz.func181 rfl (by kernel_rfl) rfl ?_
 have hat:At [(0,.ptr (.l 0) 3),(1,i64 k),(2,agg (encOp o)),(3,agg (encEv e))] [(.l 0,.vs E ([x0,x1,x2]++stRef s)),(.n 899,.ds 74 1 (stk s.ths[k])),(.n 900,.rs 158 6 (rowsA s.ths k s.ths[k])),(.n 901,.ds 74 1 (s.cells.map encF)),(.n 902,.ds 3 1 (s.owner.map encInt))] [(900,fam0 s.ths k)]
   ⟨fun i=>[AV.ptr (.l 0) 3,i64 k,agg (encOp o),agg (encEv e)].getD i .junk,H0⟩ :=
  ⟨⟨rfl,rfl,rfl,rfl,trivial⟩,⟨h0,h1,h2,h4,h6,trivial⟩,⟨h3,trivial⟩⟩
 obtain⟨τ,H,hf⟩:=hat.form
 rw[hf]
 have hst:=hs.2.1 _ (List.getElem_mem hk)
 have hgk:fam0 s.ths k k=none:=by unfold fam0;rw[nbeq_self];rfl
 refine fF 7 (At (doI1 3 k o s.ths[k]) (doIO E [x0,x1,x2] s k o e s.ths[k] (zF s.ths[k] o)) [(900,fam0 s.ths k)]) (fun K hK=>doI_preB E x0 x1 x2 i0 i1 i2 (fam0 s.ths k) (xJ _ _) s k o e hk s.ths[k] ho.2.2.2.2 hst hpc τ H _ K hK) (fun S hS=>?_)
 refine fF 1 (DoI2 E [x0,x1,x2] (fam0 s.ths k) k (doL s k o e).1 (doL s k o e).2) (fun K hK=>doI_swB hI E x0 x1 x2 i0 i1 i2 (fam0 s.ths k) (xJ _ _) s k o e hk h5 (fun j hj=>by unfold fam0;rw[nbeq_ne hj];rfl) hs ho hpc hst3 he hel hfl hjo _ K S hS hK) (fun S' hS'=>?_)
 have hp:InertL [x0,x1,x2]:=by
  intro x hx
  simp only[List.mem_cons,List.not_mem_nil,or_false] at hx
  rcases hx with rfl|rfl|rfl <;> assumption
 rcases hS' with ⟨t',h⟩|⟨l',t',r,h⟩
 ·exact doI_fin E _ hp _ k (xJ _ _) (fam0_cut _ _ _) hgk _ _ S' t' h
 ·exact doI_finF E _ hp _ k (xJ _ _) (bB _ _) hgk _ _ S' l' t' r h
theorem rowsA_sw {l:List Th} {k:Nat} (hk:k<l.length):(thRows 900 l).map (renL (swp (.n 899) (.s 900 k)))=rowsA l k l[k]:=by
 apply List.ext_getElem?
 intro i
 rw[List.getElem?_map,qJ]
 by_cases h:i=k
 ·subst h
  have e:swp (.n 899) (.s 900 i) (.s 900 i)=.n 899:=by simp[swp,Key.beq,nbeq_self]
  have:(rowsA l i l[i])[i]?=some (yO l[i]):=yC hk
  rw[this,List.getElem?_eq_getElem hk]
  simp[thRow,yO,renL,ren,e]
 ·rw[rowsA_ne h,qJ]
  cases hl:l[i]? with
  |none=>rfl
  |some u=>simp[sH (a:=899) (o:=900) h]
theorem rowsA_back {l:List Th} {k:Nat} (hk:k<l.length):(rowsA l k l[k]).map (renL (swp (.n 899) (.s 900 k)))=thRows 900 l:=by
 rw[← rowsA_sw hk,List.map_map]
 conv=>rhs;rw[← List.map_id (thRows 900 l)]
 apply List.map_congr_left
 intro c hc
 exact jM _ _ c fun c _=>ren_ren _ _ c
theorem stRef_ren (s:StL) (k:Nat):renL (swp (.n 899) (.s 900 k)) (stRef s)=stRef s:=rfl
theorem swH_stHA {E:TypeId} {pre:List AV} (hp:InertL pre) {s:StL} {k:Nat} (hk:k<s.ths.length):swH (.n 899) (.s 900 k) (stHA E pre s k s.ths[k])=stHC E pre s:=by
 funext κ
 cases κ with
 |l j =>
  have e:swp (.n 899) (.s 900 k) (.l j)=.l j:=rfl
  by_cases h:j=0
  ·subst h
   simp only[swH,e]
   show some (Ob.vs E (renL _ (pre++stRef s)))=some (Ob.vs E (pre++stRef s))
   rw[renL_app,inertL_ren hp,stRef_ren]
  ·simp[swH,e,stHA,stHC,nbeq_ne h]
 |n j =>
  by_cases h1:j=899
  ·subst h1
   have e:swp (.n 899) (.s 900 k) (.n 899)=.s 900 k:=rfl
   simp only[swH,e]
   show(bif Nat.beq k k then none else zE s.ths k).map _=none
   rw[nbeq_self];rfl
  have e:swp (.n 899) (.s 900 k) (.n j)=.n j:=by simp[swp,Key.beq,nbeq_ne h1]
  simp only[swH,e]
  by_cases h2:j=900
  ·subst h2
   show some (Ob.rs 158 6 ((rowsA s.ths k s.ths[k]).map (renL (swp (.n 899) (.s 900 k)))))=some (Ob.rs 158 6 (thRows 900 s.ths))
   rw[rowsA_back hk]
  by_cases h3:j=901
  ·subst h3;rfl
  by_cases h4:j=902
  ·subst h4;rfl
  simp[stHA,stHC,nbeq_ne h1,nbeq_ne h2,nbeq_ne h3,nbeq_ne h4]
 |s o j =>
  by_cases h:o=900
  ·subst h
   by_cases hj:j=k
   ·subst hj
    have e:swp (.n 899) (.s 900 j) (.s 900 j)=.n 899:=by simp[swp,Key.beq,nbeq_self]
    simp only[swH,e]
    show some (Ob.ds 74 1 (stk s.ths[j]))=zE s.ths j
    rw[thFam_self hk]
   ·have e:swp (.n 899) (.s 900 k) (.s 900 j)=.s 900 j:=by simp[swp,Key.beq,nbeq_ne hj]
    simp only[swH,e]
    show(bif Nat.beq j k then none else zE s.ths j).map _=zE s.ths j
    rw[nbeq_ne hj]
    exact thFam_ren _ _ _
  ·have e:swp (.n 899) (.s 900 k) (.s o j)=.s o j:=by simp[swp,Key.beq,nbeq_ne h]
   simp[swH,e,stHA,stHC,nbeq_ne h]
def AtC (E:TypeId) (pre:List AV) (s:StL) (H0:Key→Option Ob):Prop :=
 H0 (.l 0)=some (.vs E (pre++stRef s))∧H0 (.n 899)=none∧H0 (.n 900)=some (.rs 158 6 (thRows 900 s.ths))∧(∀ j,H0 (.s 900 j)=zE s.ths j)∧H0 (.n 901)=some (.ds 74 1 (s.cells.map encF))∧H0 (.n 902)=some (.ds 3 1 (s.owner.map encInt))
theorem IOCall.mono {E:Env} {g:FuncId} {xs:List AV} {H0:Key→Option Ob} {Post Post':AV→(Key→Option Ob)→Prop} (h:IOCall E g xs H0 Post) (hp:∀ r H1,Post r H1→Post' r H1):IOCall E g xs H0 Post':=by
 intro w0 A m w vs hH hl hrel
 refine(h w0 A m w vs hH hl hrel).mono ?_
 rintro v w' ⟨r,H1,m1,h1,h2,h3⟩
 exact⟨r,H1,m1,hp r H1 h1,h2,h3⟩
end Ai
namespace Ai
set_option maxRecDepth 100000
open Go Go.Proofs
theorem qN {S:St} {E:TypeId} {pre:List AV} (hp:InertL pre) {s':StL} {l:List Th} {k:Nat} {t':Th} (hk:k<l.length) (hl:s'.ths=l.set k t') (h0:S.H (.l 0)=some (.vs E (pre++stRef s'))) (h1:S.H (.n 899)=some (.ds 74 1 (stk t')))
  (h2:S.H (.n 900)=some (.rs 158 6 (rowsA l k t'))) (h3:∀ j,S.H (.s 900 j)=fam0 l k j) (h4:S.H (.n 901)=some (.ds 74 1 (s'.cells.map encF))) (h6:S.H (.n 902)=some (.ds 3 1 (s'.owner.map encInt))) :
  ∃ (h:k<s'.ths.length),xB wO S.H=stHA E pre s' k s'.ths[k]:=by
 have hk':k<s'.ths.length:=by rw[hl];simpa using hk
 refine⟨hk',?_⟩
 have htk:s'.ths[k]=t':=by simp[hl]
 rw[htk]
 funext κ
 cases κ with
 |l j =>
  by_cases h:j=0
  ·subst h
   show(S.H (.l 0)).map _=_
   rw[h0]
   show some (Ob.vs E (scrPL _ (pre++stRef s')))=some (Ob.vs E (pre++stRef s'))
   rw[mC,bO hp,v9]
  ·simp[xB,wO,stHA,nbeq_ne h]
 |n j =>
  by_cases e1:j=899
  ·subst e1
   show(S.H (.n 899)).map _=_
   rw[h1];rfl
  by_cases e2:j=900
  ·subst e2
   show(S.H (.n 900)).map _=_
   rw[h2]
   show some (Ob.rs 158 6 ((rowsA l k t').map (scrPL fun o=>!wO o)))=some (Ob.rs 158 6 (rowsA s'.ths k t'))
   rw[hl,sQ hk]
   exact congrArg (fun x=>some (Ob.rs 158 6 x)) (qK rfl (fun _=>rfl) _ _ _)
  by_cases e3:j=901
  ·subst e3
   show(S.H (.n 901)).map _=_
   rw[h4];rfl
  by_cases e4:j=902
  ·subst e4
   show(S.H (.n 902)).map _=_
   rw[h6];rfl
  simp[xB,wO,stHA,nbeq_ne e1,nbeq_ne e2,nbeq_ne e3,nbeq_ne e4]
 |s o j =>
  by_cases h:o=900
  ·subst h
   show(S.H (.s 900 j)).map _=bif Nat.beq j k then none else zE s'.ths j
   rw[h3,xJ]
   by_cases hj:j=k
   ·subst hj;simp[fam0,nbeq_self]
   ·unfold fam0;rw[nbeq_ne hj,hl,sI hj]
  ·simp[xB,wO,stHA,nbeq_ne h]
theorem u4 {E:TypeId} {pre:List AV} {s:StL} {k:Nat} {t:Th}:∀ κ,wO κ=false→stHA E pre s k t κ=none
 | .l j,h=>by have h:Nat.beq j 0=false:=h;simp[stHA,h]
 | .n j,h=>by
  have h:(Nat.beq j 899 || Nat.beq j 900 || Nat.beq j 901 || Nat.beq j 902)=false:=h
  simp only[Bool.or_eq_false_iff] at h
  simp[stHA,h.1.1.1,h.1.1.2,h.1.2,h.2]
 | .s o j,h=>by have h:Nat.beq o 900=false:=h;simp[stHA,h]
theorem n8 {E:TypeId} {pre:List AV} (hp:InertL pre) (s:StL):renO (swp (.n 999) (.l 99)) (.vs E (pre++stRef s))=.vs E (pre++stRef s):=by
 show Ob.vs E (renL _ (pre++stRef s))=_
 rw[renL_app,inertL_ren hp]
 rfl
theorem bL (l:List Th) (k:Nat) (t:Th):renO (swp (.n 999) (.l 99)) (.rs 158 6 (rowsA l k t))=.rs 158 6 (rowsA l k t):=by
 show Ob.rs 158 6 ((rowsA l k t).map (renL _))=_
 unfold rowsA
 rw[List.map_set,qI]
 rfl
theorem bK {p:Key→Bool} (h1:p (.n 899)=false) (h2:∀ j,p (.s 900 j)=false) (l:List Th) (k:Nat) (t:Th):scrPO p (.rs 158 6 (rowsA l k t))=.rs 158 6 (rowsA l k t):=congrArg (Ob.rs 158 6) (qK h1 h2 l k t)
theorem cM {x X:Ob} {f:Key→Key} (h:x=X) (hp:renO f X=X):renO f x=X:=by rw[h];exact hp
theorem FzA_ptr {S:St} {o:Key} {off:Nat} {E:TypeId} {cs:List AV} {ds:List D} (h:S.H o=some (.vs E cs)) (hf:FzC S (cs.drop off) ds):FzA S (.ptr o off) (.fp ds):=by
 simp only[FzA,h]
 exact⟨ds,rfl,hf⟩
theorem fz_stA {S:St} {s:StL} {k:Nat} {t:Th} {els:List (List D)} (hk:k<s.ths.length) (ht:s.ths[k]=t) (h9:S.H (.n 900)=some (.rs 158 6 (rowsA s.ths k t))) (hfam:∀ j,j≠k→(h:j<s.ths.length)→S.H (.s 900 j)=some (.ds 74 1 (stk s.ths[j])))
  (h8:S.H (.n 899)=some (.ds 74 1 els)) (he:els.take t.stack.length=stk t) (h3:S.H (.n 901)=some (.ds 74 1 (s.cells.map encF))) (h4:S.H (.n 902)=some (.ds 3 1 (s.owner.map encInt))):FzC S (stRef s) (zX s):=by
 have hv:=nF hk h9 hfam h8 he
 rw[← ht,List.set_getElem_self] at hv
 refine⟨.sl (s.ths.map zD),_,rfl,⟨_,rfl,hv⟩,.sl (s.cells.map encF),_,rfl,?_,.sl (s.owner.map encInt),_,rfl,?_,di s.fault,[],rfl,rfl,rfl⟩
 ·simp[FzD,fz1,h3,List.take_of_length_le]
 ·simp[FzD,fz1,h4,List.take_of_length_le]
theorem eN {X:List (List AV)} {l:List Th} {k:Nat} {t:Th} (h:k<l.length) (hX:X=rowsA l k t):X[((k:Nat):Int).toNat]?=some (yO t):=by
 rw[hX];exact yC h
theorem fault_vs {pre:List AV} {s:StL} {n:Int} {L:List AV} (hL:L=pre++stRef s):yJ L (pre.length+3) [i64 n]=pre++stRef { s with fault:=n }:=by
 subst hL
 induction pre with
 |nil=>rfl
 |cons x xs ih =>
  show yJ (x::(xs++stRef s)) (xs.length+1+3) [i64 n]=x::(xs++_)
  rw[show xs.length+1+3=(xs.length+3)+1 from by omega]
  exact congrArg (x::·) ih
theorem stepI_A (hI:yV) (E:TypeId) (x0 x1 x2:AV) (i0:Inert x0) (i1:Inert x1) (i2:Inert x2) (p:ProgL) (s:StL) (k:Nat) (hp:p.wf) (hk:k<s.ths.length) (h5:s.ths.length≤5)
  (hs:s.small) (hr:s.ths[k].ready p s k) (hst3:s.ths[k].st≠3) (hfl:∀ x∈s.ths[k].stack,x<18446744073709551616) (hjo:∀ o,yE p s.ths[k]=some o→yB s k o=0→o.code=15→∃ j,yX (yQ s.ths[k] o 0) s.ths.length=some j∧yA s s.ths[k]=some j)
  (H0:Key→Option Ob) (h0:H0 (.l 0)=some (.vs E ([x0,x1,x2]++stRef s))) (h1:H0 (.n 899)=some (.ds 74 1 (stk s.ths[k]))) (h2:H0 (.n 900)=some (.rs 158 6 (rowsA s.ths k s.ths[k]))) (h3:∀ j,H0 (.s 900 j)=fam0 s.ths k j)
  (h4:H0 (.n 901)=some (.ds 74 1 (s.cells.map encF))) (h6:H0 (.n 902)=some (.ds 3 1 (s.owner.map encInt))) :
  IOCall EE 117 [.ptr (.l 0) 3,agg (encProg p),i64 k] H0 (doIPost E [x0,x1,x2] k (zG p s k).1 (zG p s k).2):=by
 refine xN (fn:=Tryz.f117) (c:=Tryz.f117.body.getD .skip) Tryz.func117 rfl (by kernel_rfl) rfl ?_
 have hat:At [(0,.ptr (.l 0) 3),(1,agg (encProg p)),(2,i64 k)] [(.l 0,.vs E ([x0,x1,x2]++stRef s)),(.n 899,.ds 74 1 (stk s.ths[k])),(.n 900,.rs 158 6 (rowsA s.ths k s.ths[k])),(.n 901,.ds 74 1 (s.cells.map encF)),(.n 902,.ds 3 1 (s.owner.map encInt))] [(900,fam0 s.ths k)]
   ⟨fun i=>[AV.ptr (.l 0) 3,agg (encProg p),i64 k].getD i .junk,H0⟩ :=
  ⟨⟨rfl,rfl,rfl,trivial⟩,⟨h0,h1,h2,h4,h6,trivial⟩,⟨h3,trivial⟩⟩
 obtain⟨τ,H,hf⟩:=hat.form
 rw[hf]
 have hst:=hs.2.1 _ (List.getElem_mem hk)
 have hgd:s.ths.getD k th0=s.ths[k]:=by simp[List.getD_eq_getElem?_getD,hk]
 have hp3:InertL [x0,x1,x2]:=by
  intro x hx
  simp only[List.mem_cons,List.not_mem_nil,or_false] at hx
  rcases hx with rfl|rfl|rfl <;> assumption
 have hpc:=hr.pc
 clear hat hf h0 h1 h2 h3 h4 h6
 generalize ht0:s.ths[k]=t at *
 conv=>whnf
 refine⟨⟨by omega,by omega⟩,?_⟩
 conv=>whnf
 refine⟨yO t,⟨by repeat (first|exact yC hk|refine xL ?_ (yI rfl t)),by simp[yO]⟩,?_⟩
 conv=>whnf
 refine .inr (.inl ⟨10,[],?_⟩)
 conv=>whnf
 refine⟨yO t,⟨by repeat (first|exact yC hk|refine xL ?_ (yI rfl t)),by simp[yO]⟩,?_⟩
 conv=>whnf
 refine⟨_,Eq.mp (congrArg (fun x=>CallsTo EE 178 [agg (encProg p),.agg [i64 t.rt,i64 t.pc,i64 t.st,i64 t.cond,i64 t.lock,sl x]] _) (kC t).symm) (eY p t hp hr.inP),?_,?_⟩
 ·intro c hc
  simp only[List.mem_cons,List.not_mem_nil,or_false] at hc
  rcases hc with rfl|rfl
  ·exact .inr ⟨encOp _,rfl,rfl⟩
  ·exact .inl ⟨_,rfl,rfl⟩
 conv=>whnf
 refine⟨by kernel_rfl,?_⟩
 conv=>whnf
 refine⟨yO t,⟨by repeat (first|exact yC hk|refine xL ?_ (yI rfl t)),by simp[yO]⟩,?_⟩
 conv=>whnf
 have hp3:InertL [x0,x1,x2]:=by
  intro x hx
  simp only[List.mem_cons,List.not_mem_nil,or_false] at hx
  rcases hx with rfl|rfl|rfl <;> assumption
 refine kbi (fun h4=>?_) (fun h4=>?_)
 ·have h4:t.st=4:=by simpa using h4
  have hlk:=hr.lock h4
  have hd:zG p s k=({ s with owner:=s.owner.set t.lock.toNat ((k:Nat):Int) }.put k { t with st:=1,cond:=-1,lock:=-1,pc:=if (yE p t).isSome=true then t.pc+1 else t.pc },{ ev0 k t with kind:=9,obj:=t.cond,lock:=t.lock }):=by
   unfold zG;rw[hgd,if_pos h4]
  conv=>whnf
  refine .inr (.inl ⟨12,[],?_⟩)
  conv=>whnf
  refine⟨yO t,⟨by repeat (first|exact yC hk|refine xL ?_ (yI rfl _)),by simp[yO]⟩,?_⟩
  conv=>whnf
  refine⟨yO t,⟨by repeat (first|exact yC hk|refine xL ?_ (yI rfl _)),by simp[yO]⟩,?_⟩
  conv=>whnf
  refine⟨by kernel_rfl,?_⟩
  conv=>whnf
  refine .inr (.inl ⟨9,[],?_⟩)
  conv=>whnf
  refine⟨yO t,⟨by repeat (first|exact yC hk|refine xL ?_ (yI rfl _)),by simp[yO]⟩,?_⟩
  conv=>whnf
  refine⟨by kernel_rfl,?_⟩
  conv=>whnf
  refine⟨⟨by omega,by omega⟩,?_⟩
  conv=>whnf
  refine .inr (.inl ⟨7,[],?_⟩)
  conv=>whnf
  refine⟨yO { t with st:=1,cond:=-1,lock:=-1 },⟨xL (eN hk ?_) (yI rfl _),by simp[yO]⟩,?_⟩
  ·apply uP
   ·repeat (first|exact rfl|apply wG hk|apply wF (fun _=>rfl))
   ·rfl
  conv=>whnf
  refine⟨_,jT _,?_⟩
  conv=>whnf
  refine⟨by kernel_rfl,?_⟩
  conv=>whnf
  refine⟨_,Weak.refl,?_⟩
  conv=>whnf
  rw[hd]
  refine⟨wO,by rfl,?_⟩
  refine qN hp3 (l:=s.ths) (t':={ t with st:=1,cond:=-1,lock:=-1,pc:=if (yE p t).isSome=true then t.pc+1 else t.pc }) hk rfl ?_ ?_ ?_ (fun j=>?_) ?_ ?_
  ·refine Eq.trans ?_ (congrArg (fun x=>some (Ob.vs E ([x0,x1,x2]++x))) (show stRef s=stRef _ by simp[stRef,StL.put]))
   conv=>lhs;whnf
   all_goals (
    refine congrArg some ?_
    repeat (refine yM ?_ (wA i0 i1 i2 s rfl))
    all_goals rfl)
  ·rfl
  ·conv=>lhs;whnf
   all_goals (
    refine congrArg (fun x=>some (Ob.rs 158 6 x)) ?_
    apply uP
    ·repeat (first|exact rfl|apply wG hk|apply wF (fun _=>rfl))
    ·have ew:IntKind.i64.wrap (t.pc+(if (yE p t).isSome=true then 1 else 0))=(if (yE p t).isSome=true then t.pc+1 else t.pc):=by have a:=hpc.1;have b:=hpc.2;split <;> rw[zK (by omega) (by omega)];omega
     show[_,AV.d (.int .i64 (IntKind.i64.wrap (t.pc+(if (yE p t).isSome=true then 1 else 0)))),_,_,_,_]=_
     rw[ew]
     rfl)
  ·repeat (first|exact rfl|refine hscrO ?_ (xJ _ _ _ _)|conv=>lhs;whnf)
  ·rfl
  ·conv=>lhs;whnf
   show some (Ob.ds 3 1 ((s.owner.map encInt).set (0+t.lock.toNat) (encInt ((k:Nat):Int))))=some (Ob.ds 3 1 ((s.owner.set t.lock.toNat ((k:Nat):Int)).map encInt))
   rw[Nat.zero_add,List.map_set]
 have h4:¬ t.st=4:=by simpa using h4
 cases hn:yE p t with
 |none =>
  conv=>whnf
  have hd:zG p s k=(s.put k { t with st:=2 },{ ev0 k t with kind:=11 }):=by
   unfold zG;rw[hgd];simp[h4,hn]
  refine⟨_,Weak.refl,?_⟩
  conv=>whnf
  rw[hd]
  refine⟨wO,by rfl,?_⟩
  refine qN hp3 (l:=s.ths) (t':={ t with st:=2 }) hk rfl ?_ ?_ ?_ (fun j=>?_) ?_ ?_
  ·refine Eq.trans ?_ (congrArg (fun x=>some (Ob.vs E ([x0,x1,x2]++x))) (show stRef s=stRef _ by simp[stRef,StL.put]))
   conv=>lhs;whnf
   all_goals (
    refine congrArg some ?_
    repeat (refine yM ?_ (wA i0 i1 i2 s rfl))
    all_goals rfl)
  ·rfl
  ·conv=>lhs;whnf
   all_goals (
    refine congrArg (fun x=>some (Ob.rs 158 6 x)) ?_
    apply uP
    ·repeat (first|exact rfl|apply wG hk|apply wF (fun _=>rfl))
    ·rfl)
  ·repeat (first|exact rfl|refine hscrO ?_ (xJ _ _ _ _)|conv=>lhs;whnf)
  ·rfl
  ·rfl
 |some o =>
  obtain⟨hoS,hoF⟩:=hr.op o hn
  conv=>whnf
  refine .inl ⟨[.fp (zX s),i64 k,agg (encOp o)],[],_,⟨_,_,rfl,FzA_ptr (E:=E) (cs:=[x0,x1,x2]++stRef s) ?_ (fz_stA (k:=k) (t:=t) (els:=stk t) hk ht0 ?_ (fun j hj hjl=>?_) rfl (by simp[stk,List.take_of_length_le]) ?_ ?_),_,_,rfl,rfl,_,_,rfl,⟨encOp o,rfl,_,_,rfl,rfl,_,_,rfl,rfl,_,_,rfl,rfl,_,_,rfl,rfl,rfl⟩,rfl⟩,rfl,l8 hI s k o hk hs hoS,?_⟩
  ·conv=>lhs;whnf
   all_goals (
    refine congrArg some ?_
    repeat (refine yM ?_ (wA i0 i1 i2 s rfl))
    all_goals rfl)
  ·conv=>lhs;whnf
   all_goals (
    refine congrArg (fun x=>some (Ob.rs 158 6 x)) ?_
    repeat (first|exact rfl|refine jL ?_ rfl (fun _=>rfl)))
  ·refine Eq.trans (b:=fam0 s.ths k j) ?_ (by simp[fam0,nbeq_ne hj,zE,hjl])
   repeat (first|exact rfl|refine hscrO ?_ (xJ _ _ _ _)|conv=>lhs;whnf)
  ·rfl
  ·rfl
  rintro r rfl
  refine⟨rfl,?_⟩
  conv=>whnf
  refine kbi (fun h6=>?_) (fun h6=>?_)
  ·have h6:¬ yB s k o=0:=by simpa using h6
   have hd:zG p s k=({ s with fault:=yB s k o },{ ev0 k t with kind:=12,obj:=yB s k o }):=by
    unfold zG;rw[hgd];simp[h4,hn,h6]
   conv=>whnf
   refine⟨_,Weak.refl,?_⟩
   conv=>whnf
   rw[hd]
   refine⟨wO,by rfl,?_⟩
   refine qN hp3 (l:=s.ths) (t':=t) hk (by show s.ths=s.ths.set k t;rw[← ht0,List.set_getElem_self]) ?_ ?_ ?_ (fun j=>?_) ?_ ?_
   ·conv=>lhs;whnf
    refine congrArg some ?_
    repeat (refine yM ?_ (wA i0 i1 i2 { s with fault:=yB s k o } rfl))
    refine congrArg (Ob.vs E) (fault_vs (pre:=[x0,x1,x2]) ?_)
    repeat (refine hscrL ?_ (vs_scrL3 i0 i1 i2 s rfl))
    all_goals rfl
   ·rfl
   ·conv=>lhs;whnf
    all_goals (
     refine congrArg (fun x=>some (Ob.rs 158 6 x)) ?_
     apply uP
     ·repeat (first|exact rfl|apply wG hk|apply wF (fun _=>rfl))
     ·rfl)
   ·repeat (first|exact rfl|refine hscrO ?_ (xJ _ _ _ _)|conv=>lhs;whnf)
   ·rfl
   ·rfl
  ·have h6:yB s k o=0:=by simpa using h6
   have hd:zG p s k=doL s k o (ev0 k t):=by
    unfold zG;rw[hgd];simp[h4,hn,h6]
   conv=>whnf
   refine .inr (.inl ⟨999,99,wO,_,doI_okA hI E x0 x1 x2 i0 i1 i2 s k o { ev0 k t with kind:=1 } hk h5 hs (by rw[ht0];exact hoF h6) (by rw[ht0];exact hpc) (by rw[ht0];exact hst3) rfl rfl (by rw[ht0];exact hfl) (by rw[ht0];exact hjo o hn h6) _ ?_ ?_ ?_ (fun j=>?_) ?_ ?_,rfl,?_⟩)
   ·conv=>lhs;whnf
    refine congrArg some ?_
    repeat (first|exact rfl|refine yM ?_ (wA i0 i1 i2 s rfl)|refine cM ?_ (n8 hp3 s))
   ·rw[ht0]
    rfl
   ·rw[ht0]
    conv=>lhs;whnf
    refine congrArg some ?_
    repeat (first|exact rfl|refine yM ?_ (bK rfl (fun _=>rfl) _ _ _)|refine cM ?_ (bL _ _ _))
   ·repeat (first|exact rfl|refine hscrO ?_ (xJ _ _ _ _)|refine d9 ?_ (bB _ _ _ _)|conv=>lhs;whnf)
   ·rfl
   ·rfl
   rintro r H1 ⟨rfl,hk2,rfl⟩
   refine⟨u4,?_,?_⟩
   ·intro n hn
    have:n=0:=by simpa[wO] using hn
    subst this
    exact⟨E,_,_,rfl,rfl⟩
   conv=>whnf
   refine⟨_,Weak.refl,?_⟩
   conv=>whnf
   rw[hd]
   refine⟨wO,by rfl,?_⟩
   refine qN hp3 (l:=(doL s k o (ev0 k t)).1.ths) (t':=(doL s k o (ev0 k t)).1.ths[k]) hk2 (List.set_getElem_self _).symm ?_ ?_ ?_ (fun j=>?_) ?_ ?_
   ·conv=>lhs;whnf
    refine congrArg some ?_
    repeat (first|exact rfl|refine yM ?_ (wA i0 i1 i2 _ rfl)|refine cM ?_ (n8 hp3 _))
   ·rfl
   ·conv=>lhs;whnf
    refine congrArg some ?_
    repeat (first|exact rfl|refine yM ?_ (bK rfl (fun _=>rfl) _ _ _)|refine cM ?_ (bL _ _ _))
   ·refine Eq.trans (b:=fam0 (doL s k o (ev0 k t)).1.ths k j) ?_ rfl
    repeat (first|exact rfl|refine hscrO ?_ (xJ _ _ _ _)|refine d9 ?_ (bB _ _ _ _)|conv=>lhs;whnf)
   ·rfl
   ·rfl
end Ai
namespace Ai
set_option maxRecDepth 100000
open Go Go.Proofs
theorem io_canon {E : TypeId} {pre : List AV} (hp : InertL pre) {s s' : StL} {k : Nat} {e' : Ev} {H0 : Key → Option Ob} {g : FuncId} {xs : List AV} (hk : k < s.ths.length) (hx : xs.map (ren (swp (.n 899) (.s 900 k))) = xs) (hH : AtC E pre s H0)
    (h : ∀ H0 : Key → Option Ob, H0 (.l 0) = some (.vs E (pre ++ stRef s)) → H0 (.n 899) = some (.ds 74 1 (stk s.ths[k])) → H0 (.n 900) = some (.rs 158 6 (rowsA s.ths k s.ths[k])) → (∀ j, H0 (.s 900 j) = fam0 s.ths k j) →
      H0 (.n 901) = some (.ds 74 1 (s.cells.map encF)) → H0 (.n 902) = some (.ds 3 1 (s.owner.map encInt)) → IOCall EE g xs H0 (doIPost E pre k s' e')) :
    IOCall EE g xs H0 (fun r H1 => r = agg (encEv e') ∧ H1 = stHC E pre s') := by
  obtain ⟨h0, h1, h2, h3, h4, h6⟩ := hH
  have eH : ∀ {κ κ' : Key} {ob : Ob}, swp (.n 899) (.s 900 k) κ = κ' → H0 κ' = some ob → swH (.n 899) (.s 900 k) H0 κ = some (renO (swp (.n 899) (.s 900 k)) ob) := fun e1 e2 => by simp [swH, e1, e2]
  have := h (swH (.n 899) (.s 900 k) H0)
    (by rw [eH (κ := .l 0) (κ' := .l 0) rfl h0]
        show some (Ob.vs E (renL _ (pre ++ stRef s))) = _
        rw [renL_app, inertL_ren hp, stRef_ren])
    (by rw [eH (κ := .n 899) (κ' := .s 900 k) rfl ((h3 k).trans (thFam_self hk))]; rfl)
    (by rw [eH (κ := .n 900) (κ' := .n 900) rfl h2]
        show some (Ob.rs 158 6 ((thRows 900 s.ths).map (renL (swp (.n 899) (.s 900 k))))) = _
        rw [rowsA_sw hk])
    (fun j => by
      by_cases hj : j = k
      · subst hj
        have e : swp (.n 899) (.s 900 j) (.s 900 j) = .n 899 := by simp [swp, Key.beq, nbeq_self]
        simp only [swH, e, h1, fam0, nbeq_self]; rfl
      · have e : swp (.n 899) (.s 900 k) (.s 900 j) = .s 900 j := by simp [swp, Key.beq, nbeq_ne hj]
        simp only [swH, e, h3, fam0, nbeq_ne hj]
        exact thFam_ren _ _ _)
    (by rw [eH (κ := .n 901) (κ' := .n 901) rfl h4]; rfl) (by rw [eH (κ := .n 902) (κ' := .n 902) rfl h6]; rfl)
  have := IOCall.sw (.n 899) (.s 900 k) (fun n h => by cases h) (fun n h => by cases h) this
  rw [swH_swH, hx] at this
  refine IOCall.mono this fun r H1 ⟨hr, hk', hh⟩ => ⟨?_, ?_⟩
  · have : ren (swp (.n 899) (.s 900 k)) (ren (swp (.n 899) (.s 900 k)) r) = ren (swp (.n 899) (.s 900 k)) (agg (encEv e')) := by rw [hr]
    rw [ren_ren] at this
    rw [this]; rfl
  · have : swH (.n 899) (.s 900 k) (swH (.n 899) (.s 900 k) H1) = swH (.n 899) (.s 900 k) (stHA E pre s' k s'.ths[k]) := by rw [hh]
    rw [swH_swH, swH_stHA hp] at this
    exact this
theorem agg_ren (f:Key→Key) (l:List D):ren f (agg l)=agg l:=by
 show AV.agg (renL f (l.map .d))=_
 have:∀ l:List D,renL f (l.map .d)=l.map .d:=by
  intro l
  induction l with
  |nil=>rfl
  |cons x xs ih=>simp only[List.map_cons,renL,ih];rfl
 rw[this];rfl
theorem stepI_ok (hI:yV) (E:TypeId) (x0 x1 x2:AV) (i0:Inert x0) (i1:Inert x1) (i2:Inert x2) (p:ProgL) (s:StL) (k:Nat) (hp:p.wf) (hk:k<s.ths.length) (h5:s.ths.length≤5)
  (hs:s.small) (hr:s.ths[k].ready p s k) (hst3:s.ths[k].st≠3) (hfl:∀ x∈s.ths[k].stack,x<18446744073709551616) (hjo:∀ o,yE p s.ths[k]=some o→yB s k o=0→o.code=15→∃ j,yX (yQ s.ths[k] o 0) s.ths.length=some j∧yA s s.ths[k]=some j)
  (H0:Key→Option Ob) (hH:AtC E [x0,x1,x2] s H0) :
  IOCall EE 117 [.ptr (.l 0) 3,agg (encProg p),i64 k] H0 (fun r H1=>r=agg (encEv (zG p s k).2)∧H1=stHC E [x0,x1,x2] (zG p s k).1):=by
 have hp3:InertL [x0,x1,x2]:=by
  intro x hx
  simp only[List.mem_cons,List.not_mem_nil,or_false] at hx
  rcases hx with rfl|rfl|rfl <;> assumption
 refine io_canon hp3 hk ?_ hH fun H0 a b c d e f=>stepI_A hI E x0 x1 x2 i0 i1 i2 p s k hp hk h5 hs hr hst3 hfl hjo H0 a b c d e f
 simp only[List.map_cons,List.map_nil,agg_ren]
 rfl
end Ai
namespace Ai
set_option maxRecDepth 100000
open Go Go.Proofs
noncomputable def dX (p:ProgL) (pk:List Nat→Nat→Int) (budget:Int):Nat→StL→List Ev→List Int→Int × List Ev × List Int × StL
 | 0,s,tr,tk=>(0,tr,tk,s)
 |n+1,s,tr,tk =>
  if xF p s tr.length budget≠0 then (xF p s tr.length budget,tr,tk,s)
  else dX p pk budget n (zG p s ((zA p s).getD (pk (zA p s) tr.length).toNat 0)).1 (tr++[(zG p s ((zA p s).getD (pk (zA p s) tr.length).toNat 0)).2]) (tk++[pk (zA p s) tr.length])
def nQ (x:Int × List Ev × List Int × StL):List AV:=[i64 x.1,.uq 105 5 (x.2.1.map encEv),.uq 3 1 (x.2.2.1.map encInt)]++xH x.2.2.2
structure RunI (p:ProgL) (Inv:StL→Prop):Prop where
 small:∀ s,Inv s→s.small∧s.ths.length≤5
 seen:∀ s,Inv s→∀ t∈s.ths,t.seen p s
 ready:∀ s,Inv s→∀ k,k∈zA p s→(h:k<s.ths.length)→s.ths[k].ready p s k
 awake:∀ s,Inv s→∀ k,k∈zA p s→(h:k<s.ths.length)→s.ths[k].st≠3
 flt:∀ s,Inv s→∀ t∈s.ths,∀ x∈t.stack,x<18446744073709551616
 joins:∀ s,Inv s→∀ k,k∈zA p s→(h:k<s.ths.length)→∀ o,yE p s.ths[k]=some o→yB s k o=0→o.code=15→∃ j,yX (yQ s.ths[k] o 0) s.ths.length=some j∧yA s s.ths[k]=some j
 step:∀ s,Inv s→∀ k∈zA p s,Inv (zG p s k).1
def oRI (p:ProgL) (s:StL) (tr:List Ev) (tk:List Int):List (Key × Ob):=[(.n 3,.vs 42 ((encProg p).map .d)),(.n 6,.vs 46 [i64 0,.d .nil,.d .nil,.d .nil,.d .nil,.d .nil,i64 0]),
 (.n 8,.vs 46 ([i64 0,.ref (.n 12) 0 tr.length,.ref (.n 13) 0 tk.length]++stRef s)),(.n 12,.ds 105 5 (tr.map encEv)),(.n 13,.ds 3 1 (tk.map encInt)),(.n 900,.rs 158 6 (thRows 900 s.ths)),(.n 901,.ds 74 1 (s.cells.map encF)),(.n 902,.ds 3 1 (s.owner.map encInt))]
def numA (k:Nat):Nat:=bif Nat.beq k 900 then 903 else bif Nat.beq k 903 then 900 else bif Nat.beq k 901 then 904 else bif Nat.beq k 904 then 901 else bif Nat.beq k 902 then 905 else bif Nat.beq k 905 then 902 else k
def numB (k:Nat):Nat:=bif Nat.beq k 12 then 901 else bif Nat.beq k 901 then 12 else bif Nat.beq k 13 then 902 else bif Nat.beq k 902 then 13 else k
theorem sY (k:Nat):numA (numA k)=k:=by
 by_cases h1:k=900
 ·subst h1;rfl
 by_cases h2:k=903
 ·subst h2;rfl
 by_cases h3:k=901
 ·subst h3;rfl
 by_cases h4:k=904
 ·subst h4;rfl
 by_cases h5:k=902
 ·subst h5;rfl
 by_cases h6:k=905
 ·subst h6;rfl
 simp[numA,nbeq_ne h1,nbeq_ne h2,nbeq_ne h3,nbeq_ne h4,nbeq_ne h5,nbeq_ne h6]
theorem j7 (k:Nat):numB (numB k)=k:=by
 by_cases h1:k=12
 ·subst h1;rfl
 by_cases h2:k=901
 ·subst h2;rfl
 by_cases h3:k=13
 ·subst h3;rfl
 by_cases h4:k=902
 ·subst h4;rfl
 simp[numB,nbeq_ne h1,nbeq_ne h2,nbeq_ne h3,nbeq_ne h4]
def shN (g:Nat→Nat):Key→Key
 | .n k=>.n (g k)
 | .s o j=>.s (g o) j
 | .l k=>.l k
def mkSh (g:Nat→Nat) (hg:∀ k,g (g k)=k):Sh:=⟨⟨shN g,fun κ=>by cases κ <;> simp[shN,hg]⟩,fun _=>rfl⟩
def shA:Sh:=mkSh numA sY
def shB:Sh:=mkSh numB j7
theorem sF (o:Nat) (l:List Th) (i:Nat):(thRows o l)[i]?=(l[i]?).map (thRow o i):=by
 by_cases h:i<l.length
 ·rw[yR h,List.getElem?_eq_getElem h];rfl
 ·rw[List.getElem?_eq_none (by rw[zU];omega),List.getElem?_eq_none (by omega)];rfl
theorem fJ {g:Nat→Nat} {hg:∀ k,g (g k)=k} (o:Nat) (l:List Th):(thRows o l).map (renL (mkSh g hg).f)=thRows (g o) l:=by
 apply List.ext_getElem?
 intro i
 rw[List.getElem?_map,sF,sF]
 cases l[i]? <;> rfl
theorem fz_run {S:St} {s:StL} {x0 x1 x2:AV} (h8:S.H (.n 8)=some (.vs 46 ([x0,x1,x2]++stRef s))) (h:StAt 900 s S):FzA S (.ptr (.n 8) (0+3)) (.fp (zX s)) :=
 FzA_ptr h8 (iY h rfl rfl rfl)
theorem aQ {S:St} (p:ProgL):FzA S (agg (encProg p)) (agg (encProg p)):=⟨encProg p,rfl,_,_,rfl,rfl,_,_,rfl,rfl,_,_,rfl,rfl,_,_,rfl,rfl,rfl⟩
theorem nP (s:StL):nY (.own (xH s)):=by
 intro c hc
 simp only[xH,List.mem_cons,List.not_mem_nil,or_false] at hc
 rcases hc with rfl|rfl|rfl|rfl
 ·refine⟨fun c hc=>?_,fun q hq c hc=>?_⟩
  ·obtain⟨t,_,rfl⟩:=List.mem_map.1 hc;rfl
  ·obtain⟨t,_,rfl⟩:=List.mem_map.1 hq
   obtain⟨y,_,rfl⟩:=List.mem_map.1 hc;rfl
 ·intro c hc
  obtain⟨y,_,rfl⟩:=List.mem_map.1 hc;rfl
 ·intro c hc
  obtain⟨y,_,rfl⟩:=List.mem_map.1 hc;rfl
 ·rfl
end Ai
namespace Ai
set_option maxRecDepth 100000
open Go Go.Proofs
def nO (n:Nat):Code→Option (Array Oper)
 | .region i ops _=>bif Nat.beq i n then some ops else none
 | .seq a b=>match nO n a with|some x=>some x|none=>nO n b
 | .cond _ a b=>match nO n a with|some x=>some x|none=>nO n b
 | .block _ a=>nO n a
 | .loop a=>nO n a
 | _=>none
noncomputable def ops13:Array Oper:=(nO 13 (Tryz.f132.body.getD .skip)).getD #[]
structure R13 (p:ProgL) (s s1:StL) (ev:Ev) (tr:List Ev) (tk:List Int) (kk:Int) (w:Nat) (budget:Int) (g:FuncId) (c:List D) (L:Nat→Bool) (S:St):Prop where
 u1:S.τ 1=i64 budget
 u2:S.τ 2=.fn g [.fp c]
 u3:S.τ 3=.ptr (.n 3) 0
 u6:S.τ 6=.ptr (.n 6) 0
 u7:S.τ 7=bv false
 u8:S.τ 8=.ptr (.n 8) 0
 u9:S.τ 9=i64 tr.length
 u10:S.τ 10=sl ((zA p s).map vH)
 u11:S.τ 11=i64 kk
 h3:S.H (.n 3)=some (.vs 42 ((encProg p).map .d))
 h6:S.H (.n 6)=some (.vs 46 [i64 0,.d .nil,.d .nil,.d .nil,.d .nil,.d .nil,i64 0])
 h13:S.H (.n 13)=some (.ds 3 1 ((tk++[kk]).map encInt))
 c0:L 0=true→S.τ 50=.ptr (.n 8) (0+1)
 c1:L 1=true→L 10=false→S.τ 51=.ref (.n 12) 0 tr.length
 c2:L 2=true→S.τ 52=.ptr (.n 8) (0+3)
 c3:L 3=true→S.τ 53=agg (encProg p)
 c4:L 4=true→S.τ 54=sl ((zA p s).map vH)
 c5:L 5=true→S.τ 55=i64 kk
 c6:L 6=true→S.τ 56=.fp (vH w)
 c7:L 7=true→S.τ 57=i64 w
 c8:L 8=true→S.τ 58=agg (encEv ev)
 c9:L 9=true→L 10=false→S.τ 59=.ref (.n 59) 0 1
 c10:L 10=true→S.τ 60=.ref (.n 12) 0 (tr.length+1)
 c11:L 11=true→S.τ 61=.ptr (.n 8) (0+1)
 e9:L 9=true→L 10=false→S.H (.n 59)=some (.ds 105 5 [encEv ev])
 d12a:L 10=false→S.H (.n 12)=some (.ds 105 5 (tr.map encEv))
 d12b:L 10=true→S.H (.n 12)=some (.ds 105 5 ((tr++[ev]).map encEv))
 d8a:L 8=false→S.H (.n 8)=some (.vs 46 ([i64 0,.ref (.n 12) 0 tr.length,.ref (.n 13) 0 (tk.length+1)]++stRef s))
 d8b:L 8=true→L 10=false→S.H (.n 8)=some (.vs 46 ([i64 0,.ref (.n 12) 0 tr.length,.ref (.n 13) 0 (tk.length+1)]++stRef s1))
 d8c:L 10=true→L 12=false→S.H (.n 8)=some (.vs 46 ([i64 0,.junk,.ref (.n 13) 0 (tk.length+1)]++stRef s1))
 d8d:L 12=true→S.H (.n 8)=some (.vs 46 ([i64 0,.ref (.n 12) 0 (tr.length+1),.ref (.n 13) 0 (tk.length+1)]++stRef s1))
 sa0:L 8=false→S.H (.n 900)=some (.rs 158 6 (thRows 900 s.ths))
 saF:L 8=false→∀ j,S.H (.s 900 j)=zE s.ths j
 sa1:L 8=false→S.H (.n 901)=some (.ds 74 1 (s.cells.map encF))
 sa2:L 8=false→S.H (.n 902)=some (.ds 3 1 (s.owner.map encInt))
 sb0:L 8=true→S.H (.n 900)=some (.rs 158 6 (thRows 900 s1.ths))
 sbF:L 8=true→∀ j,S.H (.s 900 j)=zE s1.ths j
 sb1:L 8=true→S.H (.n 901)=some (.ds 74 1 (s1.cells.map encF))
 sb2:L 8=true→S.H (.n 902)=some (.ds 3 1 (s1.owner.map encInt))
 o1:L 10=true→L 8=true
 o2:L 12=true→L 10=true
 o3:L 10=true→L 1=true
 o4:L 10=true→L 9=true
theorem d7 (v:Value):Inert (.lit v):=⟨fun _=>rfl,fun _=>rfl,fun _ _=>rfl⟩
theorem inert_d (x:D):Inert (.d x):=⟨fun _=>rfl,fun _=>rfl,fun _ _=>rfl⟩
theorem litB13 (a b:AV) (s1:StL) (lam:Nat→Value):LitB [a,b] lam ([i64 0,a,b]++stRef s1) ([i64 0,.lit (lam 0),.lit (lam 1)]++stRef s1) :=
 ⟨_,_,rfl,.inl rfl,_,_,rfl,.inr ⟨0,rfl,rfl⟩,_,_,rfl,.inr ⟨1,rfl,rfl⟩,_,_,rfl,.inl rfl,_,_,rfl,.inl rfl,_,_,rfl,.inl rfl,_,_,rfl,.inl rfl,rfl⟩
theorem litC13 (K:Key→Bool) (a b:AV) (s:StL) (hs:scrPL (fun o=>!K o) (stRef s)=stRef s) (lam:Nat→Value):LitC K [a,b] lam ([i64 0,a,b]++stRef s) ([i64 0,.lit (lam 0),.lit (lam 1)]++stRef s):=by
 simp only[stRef,scrPL,List.cons.injEq] at hs
 exact⟨_,_,rfl,.inl rfl,_,_,rfl,.inr ⟨0,rfl,rfl⟩,_,_,rfl,.inr ⟨1,rfl,rfl⟩,_,_,rfl,.inl hs.1.symm,_,_,rfl,.inl hs.2.1.symm,_,_,rfl,.inl hs.2.2.1.symm,_,_,rfl,.inl rfl,rfl⟩
theorem op13_0 {p:ProgL} {s s1:StL} {ev:Ev} {tr:List Ev} {tk:List Int} {kk:Int} {w:Nat} {budget:Int} {g:FuncId} {c:List D} (L:Nat→Bool) (S:St) (r:R13 p s s1 ev tr tk kk w budget g c L S) (hL:L 0=false):aDo EE Tryz.f132.ntmps ops13 (ops13[0]'(by decide)) S (R13 p s s1 ev tr tk kk w budget g c (fun j=>L j || j==0)):=by
 have hat:At [(8,.ptr (.n 8) 0)] [] [] S:=⟨⟨r.u8,trivial⟩,trivial,trivial⟩
 obtain⟨τ,H,rfl⟩:=hat.form
 conv=>whnf
 exact {
  u1:=r.u1
  u2:=r.u2
  u3:=r.u3
  u6:=r.u6
  u7:=r.u7
  u8:=r.u8
  u9:=r.u9
  u10:=r.u10
  u11:=r.u11
  h3:=r.h3
  h6:=r.h6
  h13:=r.h13
  c0:=fun _=>rfl
  c1:=fun g0 g1=>r.c1 (by simpa using g0) (by simpa using g1)
  c2:=fun g0=>r.c2 (by simpa using g0)
  c3:=fun g0=>r.c3 (by simpa using g0)
  c4:=fun g0=>r.c4 (by simpa using g0)
  c5:=fun g0=>r.c5 (by simpa using g0)
  c6:=fun g0=>r.c6 (by simpa using g0)
  c7:=fun g0=>r.c7 (by simpa using g0)
  c8:=fun g0=>r.c8 (by simpa using g0)
  c9:=fun g0 g1=>r.c9 (by simpa using g0) (by simpa using g1)
  c10:=fun g0=>r.c10 (by simpa using g0)
  c11:=fun g0=>r.c11 (by simpa using g0)
  e9:=fun g0 g1=>r.e9 (by simpa using g0) (by simpa using g1)
  d12a:=fun g0=>r.d12a (by simpa using g0)
  d12b:=fun g0=>r.d12b (by simpa using g0)
  d8a:=fun g0=>r.d8a (by simpa using g0)
  d8b:=fun g0 g1=>r.d8b (by simpa using g0) (by simpa using g1)
  d8c:=fun g0 g1=>r.d8c (by simpa using g0) (by simpa using g1)
  d8d:=fun g0=>r.d8d (by simpa using g0)
  sa0:=fun g0=>r.sa0 (by simpa using g0)
  saF:=fun g0=>r.saF (by simpa using g0)
  sa1:=fun g0=>r.sa1 (by simpa using g0)
  sa2:=fun g0=>r.sa2 (by simpa using g0)
  sb0:=fun g0=>r.sb0 (by simpa using g0)
  sbF:=fun g0=>r.sbF (by simpa using g0)
  sb1:=fun g0=>r.sb1 (by simpa using g0)
  sb2:=fun g0=>r.sb2 (by simpa using g0)
  o1:=fun g0=>by have:=r.o1 (by simpa using g0);simp[this]
  o2:=fun g0=>by have:=r.o2 (by simpa using g0);simp[this]
  o3:=fun g0=>by have:=r.o3 (by simpa using g0);simp[this]
  o4:=fun g0=>by have:=r.o4 (by simpa using g0);simp[this] }
theorem op13_2 {p:ProgL} {s s1:StL} {ev:Ev} {tr:List Ev} {tk:List Int} {kk:Int} {w:Nat} {budget:Int} {g:FuncId} {c:List D} (L:Nat→Bool) (S:St) (r:R13 p s s1 ev tr tk kk w budget g c L S) (hL:L 2=false):aDo EE Tryz.f132.ntmps ops13 (ops13[2]'(by decide)) S (R13 p s s1 ev tr tk kk w budget g c (fun j=>L j || j==2)):=by
 have hat:At [(8,.ptr (.n 8) 0)] [] [] S:=⟨⟨r.u8,trivial⟩,trivial,trivial⟩
 obtain⟨τ,H,rfl⟩:=hat.form
 conv=>whnf
 exact {
  u1:=r.u1
  u2:=r.u2
  u3:=r.u3
  u6:=r.u6
  u7:=r.u7
  u8:=r.u8
  u9:=r.u9
  u10:=r.u10
  u11:=r.u11
  h3:=r.h3
  h6:=r.h6
  h13:=r.h13
  c0:=fun g0=>r.c0 (by simpa using g0)
  c1:=fun g0 g1=>r.c1 (by simpa using g0) (by simpa using g1)
  c2:=fun _=>rfl
  c3:=fun g0=>r.c3 (by simpa using g0)
  c4:=fun g0=>r.c4 (by simpa using g0)
  c5:=fun g0=>r.c5 (by simpa using g0)
  c6:=fun g0=>r.c6 (by simpa using g0)
  c7:=fun g0=>r.c7 (by simpa using g0)
  c8:=fun g0=>r.c8 (by simpa using g0)
  c9:=fun g0 g1=>r.c9 (by simpa using g0) (by simpa using g1)
  c10:=fun g0=>r.c10 (by simpa using g0)
  c11:=fun g0=>r.c11 (by simpa using g0)
  e9:=fun g0 g1=>r.e9 (by simpa using g0) (by simpa using g1)
  d12a:=fun g0=>r.d12a (by simpa using g0)
  d12b:=fun g0=>r.d12b (by simpa using g0)
  d8a:=fun g0=>r.d8a (by simpa using g0)
  d8b:=fun g0 g1=>r.d8b (by simpa using g0) (by simpa using g1)
  d8c:=fun g0 g1=>r.d8c (by simpa using g0) (by simpa using g1)
  d8d:=fun g0=>r.d8d (by simpa using g0)
  sa0:=fun g0=>r.sa0 (by simpa using g0)
  saF:=fun g0=>r.saF (by simpa using g0)
  sa1:=fun g0=>r.sa1 (by simpa using g0)
  sa2:=fun g0=>r.sa2 (by simpa using g0)
  sb0:=fun g0=>r.sb0 (by simpa using g0)
  sbF:=fun g0=>r.sbF (by simpa using g0)
  sb1:=fun g0=>r.sb1 (by simpa using g0)
  sb2:=fun g0=>r.sb2 (by simpa using g0)
  o1:=fun g0=>by have:=r.o1 (by simpa using g0);simp[this]
  o2:=fun g0=>by have:=r.o2 (by simpa using g0);simp[this]
  o3:=fun g0=>by have:=r.o3 (by simpa using g0);simp[this]
  o4:=fun g0=>by have:=r.o4 (by simpa using g0);simp[this] }
theorem op13_3 {p:ProgL} {s s1:StL} {ev:Ev} {tr:List Ev} {tk:List Int} {kk:Int} {w:Nat} {budget:Int} {g:FuncId} {c:List D} (L:Nat→Bool) (S:St) (r:R13 p s s1 ev tr tk kk w budget g c L S) (hL:L 3=false):aDo EE Tryz.f132.ntmps ops13 (ops13[3]'(by decide)) S (R13 p s s1 ev tr tk kk w budget g c (fun j=>L j || j==3)):=by
 have hat:At [(3,.ptr (.n 3) 0)] [(.n 3,.vs 42 ((encProg p).map .d))] [] S:=⟨⟨r.u3,trivial⟩,⟨r.h3,trivial⟩,trivial⟩
 obtain⟨τ,H,rfl⟩:=hat.form
 conv=>whnf
 exact {
  u1:=r.u1
  u2:=r.u2
  u3:=r.u3
  u6:=r.u6
  u7:=r.u7
  u8:=r.u8
  u9:=r.u9
  u10:=r.u10
  u11:=r.u11
  h3:=r.h3
  h6:=r.h6
  h13:=r.h13
  c0:=fun g0=>r.c0 (by simpa using g0)
  c1:=fun g0 g1=>r.c1 (by simpa using g0) (by simpa using g1)
  c2:=fun g0=>r.c2 (by simpa using g0)
  c3:=fun _=>rfl
  c4:=fun g0=>r.c4 (by simpa using g0)
  c5:=fun g0=>r.c5 (by simpa using g0)
  c6:=fun g0=>r.c6 (by simpa using g0)
  c7:=fun g0=>r.c7 (by simpa using g0)
  c8:=fun g0=>r.c8 (by simpa using g0)
  c9:=fun g0 g1=>r.c9 (by simpa using g0) (by simpa using g1)
  c10:=fun g0=>r.c10 (by simpa using g0)
  c11:=fun g0=>r.c11 (by simpa using g0)
  e9:=fun g0 g1=>r.e9 (by simpa using g0) (by simpa using g1)
  d12a:=fun g0=>r.d12a (by simpa using g0)
  d12b:=fun g0=>r.d12b (by simpa using g0)
  d8a:=fun g0=>r.d8a (by simpa using g0)
  d8b:=fun g0 g1=>r.d8b (by simpa using g0) (by simpa using g1)
  d8c:=fun g0 g1=>r.d8c (by simpa using g0) (by simpa using g1)
  d8d:=fun g0=>r.d8d (by simpa using g0)
  sa0:=fun g0=>r.sa0 (by simpa using g0)
  saF:=fun g0=>r.saF (by simpa using g0)
  sa1:=fun g0=>r.sa1 (by simpa using g0)
  sa2:=fun g0=>r.sa2 (by simpa using g0)
  sb0:=fun g0=>r.sb0 (by simpa using g0)
  sbF:=fun g0=>r.sbF (by simpa using g0)
  sb1:=fun g0=>r.sb1 (by simpa using g0)
  sb2:=fun g0=>r.sb2 (by simpa using g0)
  o1:=fun g0=>by have:=r.o1 (by simpa using g0);simp[this]
  o2:=fun g0=>by have:=r.o2 (by simpa using g0);simp[this]
  o3:=fun g0=>by have:=r.o3 (by simpa using g0);simp[this]
  o4:=fun g0=>by have:=r.o4 (by simpa using g0);simp[this] }
theorem op13_4 {p:ProgL} {s s1:StL} {ev:Ev} {tr:List Ev} {tk:List Int} {kk:Int} {w:Nat} {budget:Int} {g:FuncId} {c:List D} (L:Nat→Bool) (S:St) (r:R13 p s s1 ev tr tk kk w budget g c L S) (hL:L 4=false):aDo EE Tryz.f132.ntmps ops13 (ops13[4]'(by decide)) S (R13 p s s1 ev tr tk kk w budget g c (fun j=>L j || j==4)):=by
 have hat:At [(10,sl ((zA p s).map vH))] [] [] S:=⟨⟨r.u10,trivial⟩,trivial,trivial⟩
 obtain⟨τ,H,rfl⟩:=hat.form
 conv=>whnf
 exact {
  u1:=r.u1
  u2:=r.u2
  u3:=r.u3
  u6:=r.u6
  u7:=r.u7
  u8:=r.u8
  u9:=r.u9
  u10:=r.u10
  u11:=r.u11
  h3:=r.h3
  h6:=r.h6
  h13:=r.h13
  c0:=fun g0=>r.c0 (by simpa using g0)
  c1:=fun g0 g1=>r.c1 (by simpa using g0) (by simpa using g1)
  c2:=fun g0=>r.c2 (by simpa using g0)
  c3:=fun g0=>r.c3 (by simpa using g0)
  c4:=fun _=>rfl
  c5:=fun g0=>r.c5 (by simpa using g0)
  c6:=fun g0=>r.c6 (by simpa using g0)
  c7:=fun g0=>r.c7 (by simpa using g0)
  c8:=fun g0=>r.c8 (by simpa using g0)
  c9:=fun g0 g1=>r.c9 (by simpa using g0) (by simpa using g1)
  c10:=fun g0=>r.c10 (by simpa using g0)
  c11:=fun g0=>r.c11 (by simpa using g0)
  e9:=fun g0 g1=>r.e9 (by simpa using g0) (by simpa using g1)
  d12a:=fun g0=>r.d12a (by simpa using g0)
  d12b:=fun g0=>r.d12b (by simpa using g0)
  d8a:=fun g0=>r.d8a (by simpa using g0)
  d8b:=fun g0 g1=>r.d8b (by simpa using g0) (by simpa using g1)
  d8c:=fun g0 g1=>r.d8c (by simpa using g0) (by simpa using g1)
  d8d:=fun g0=>r.d8d (by simpa using g0)
  sa0:=fun g0=>r.sa0 (by simpa using g0)
  saF:=fun g0=>r.saF (by simpa using g0)
  sa1:=fun g0=>r.sa1 (by simpa using g0)
  sa2:=fun g0=>r.sa2 (by simpa using g0)
  sb0:=fun g0=>r.sb0 (by simpa using g0)
  sbF:=fun g0=>r.sbF (by simpa using g0)
  sb1:=fun g0=>r.sb1 (by simpa using g0)
  sb2:=fun g0=>r.sb2 (by simpa using g0)
  o1:=fun g0=>by have:=r.o1 (by simpa using g0);simp[this]
  o2:=fun g0=>by have:=r.o2 (by simpa using g0);simp[this]
  o3:=fun g0=>by have:=r.o3 (by simpa using g0);simp[this]
  o4:=fun g0=>by have:=r.o4 (by simpa using g0);simp[this] }
theorem op13_5 {p:ProgL} {s s1:StL} {ev:Ev} {tr:List Ev} {tk:List Int} {kk:Int} {w:Nat} {budget:Int} {g:FuncId} {c:List D} (L:Nat→Bool) (S:St) (r:R13 p s s1 ev tr tk kk w budget g c L S) (hL:L 5=false):aDo EE Tryz.f132.ntmps ops13 (ops13[5]'(by decide)) S (R13 p s s1 ev tr tk kk w budget g c (fun j=>L j || j==5)):=by
 have hat:At [(11,i64 kk)] [] [] S:=⟨⟨r.u11,trivial⟩,trivial,trivial⟩
 obtain⟨τ,H,rfl⟩:=hat.form
 conv=>whnf
 exact {
  u1:=r.u1
  u2:=r.u2
  u3:=r.u3
  u6:=r.u6
  u7:=r.u7
  u8:=r.u8
  u9:=r.u9
  u10:=r.u10
  u11:=r.u11
  h3:=r.h3
  h6:=r.h6
  h13:=r.h13
  c0:=fun g0=>r.c0 (by simpa using g0)
  c1:=fun g0 g1=>r.c1 (by simpa using g0) (by simpa using g1)
  c2:=fun g0=>r.c2 (by simpa using g0)
  c3:=fun g0=>r.c3 (by simpa using g0)
  c4:=fun g0=>r.c4 (by simpa using g0)
  c5:=fun _=>rfl
  c6:=fun g0=>r.c6 (by simpa using g0)
  c7:=fun g0=>r.c7 (by simpa using g0)
  c8:=fun g0=>r.c8 (by simpa using g0)
  c9:=fun g0 g1=>r.c9 (by simpa using g0) (by simpa using g1)
  c10:=fun g0=>r.c10 (by simpa using g0)
  c11:=fun g0=>r.c11 (by simpa using g0)
  e9:=fun g0 g1=>r.e9 (by simpa using g0) (by simpa using g1)
  d12a:=fun g0=>r.d12a (by simpa using g0)
  d12b:=fun g0=>r.d12b (by simpa using g0)
  d8a:=fun g0=>r.d8a (by simpa using g0)
  d8b:=fun g0 g1=>r.d8b (by simpa using g0) (by simpa using g1)
  d8c:=fun g0 g1=>r.d8c (by simpa using g0) (by simpa using g1)
  d8d:=fun g0=>r.d8d (by simpa using g0)
  sa0:=fun g0=>r.sa0 (by simpa using g0)
  saF:=fun g0=>r.saF (by simpa using g0)
  sa1:=fun g0=>r.sa1 (by simpa using g0)
  sa2:=fun g0=>r.sa2 (by simpa using g0)
  sb0:=fun g0=>r.sb0 (by simpa using g0)
  sbF:=fun g0=>r.sbF (by simpa using g0)
  sb1:=fun g0=>r.sb1 (by simpa using g0)
  sb2:=fun g0=>r.sb2 (by simpa using g0)
  o1:=fun g0=>by have:=r.o1 (by simpa using g0);simp[this]
  o2:=fun g0=>by have:=r.o2 (by simpa using g0);simp[this]
  o3:=fun g0=>by have:=r.o3 (by simpa using g0);simp[this]
  o4:=fun g0=>by have:=r.o4 (by simpa using g0);simp[this] }
theorem op13_6 {p:ProgL} {s s1:StL} {ev:Ev} {tr:List Ev} {tk:List Int} {kk:Int} {w:Nat} {budget:Int} {g:FuncId} {c:List D} (hk0:0≤kk) (hen:((zA p s).map vH)[kk.toNat]?=some (vH w)) (L:Nat→Bool) (S:St) (r:R13 p s s1 ev tr tk kk w budget g c L S) (hL:L 6=false) (k4:L 4=true) (k5:L 5=true):aDo EE Tryz.f132.ntmps ops13 (ops13[6]'(by decide)) S (R13 p s s1 ev tr tk kk w budget g c (fun j=>L j || j==6)):=by
 have hat:At [(54,sl ((zA p s).map vH)),(55,i64 kk)] [] [] S:=⟨⟨r.c4 k4,r.c5 k5,trivial⟩,trivial,trivial⟩
 obtain⟨τ,H,rfl⟩:=hat.form
 conv=>whnf
 refine⟨vH w,⟨hk0,hen,rfl⟩,?_⟩
 conv=>whnf
 exact {
  u1:=r.u1
  u2:=r.u2
  u3:=r.u3
  u6:=r.u6
  u7:=r.u7
  u8:=r.u8
  u9:=r.u9
  u10:=r.u10
  u11:=r.u11
  h3:=r.h3
  h6:=r.h6
  h13:=r.h13
  c0:=fun g0=>r.c0 (by simpa using g0)
  c1:=fun g0 g1=>r.c1 (by simpa using g0) (by simpa using g1)
  c2:=fun g0=>r.c2 (by simpa using g0)
  c3:=fun g0=>r.c3 (by simpa using g0)
  c4:=fun g0=>r.c4 (by simpa using g0)
  c5:=fun g0=>r.c5 (by simpa using g0)
  c6:=fun _=>rfl
  c7:=fun g0=>r.c7 (by simpa using g0)
  c8:=fun g0=>r.c8 (by simpa using g0)
  c9:=fun g0 g1=>r.c9 (by simpa using g0) (by simpa using g1)
  c10:=fun g0=>r.c10 (by simpa using g0)
  c11:=fun g0=>r.c11 (by simpa using g0)
  e9:=fun g0 g1=>r.e9 (by simpa using g0) (by simpa using g1)
  d12a:=fun g0=>r.d12a (by simpa using g0)
  d12b:=fun g0=>r.d12b (by simpa using g0)
  d8a:=fun g0=>r.d8a (by simpa using g0)
  d8b:=fun g0 g1=>r.d8b (by simpa using g0) (by simpa using g1)
  d8c:=fun g0 g1=>r.d8c (by simpa using g0) (by simpa using g1)
  d8d:=fun g0=>r.d8d (by simpa using g0)
  sa0:=fun g0=>r.sa0 (by simpa using g0)
  saF:=fun g0=>r.saF (by simpa using g0)
  sa1:=fun g0=>r.sa1 (by simpa using g0)
  sa2:=fun g0=>r.sa2 (by simpa using g0)
  sb0:=fun g0=>r.sb0 (by simpa using g0)
  sbF:=fun g0=>r.sbF (by simpa using g0)
  sb1:=fun g0=>r.sb1 (by simpa using g0)
  sb2:=fun g0=>r.sb2 (by simpa using g0)
  o1:=fun g0=>by have:=r.o1 (by simpa using g0);simp[this]
  o2:=fun g0=>by have:=r.o2 (by simpa using g0);simp[this]
  o3:=fun g0=>by have:=r.o3 (by simpa using g0);simp[this]
  o4:=fun g0=>by have:=r.o4 (by simpa using g0);simp[this] }
theorem op13_7 {p:ProgL} {s s1:StL} {ev:Ev} {tr:List Ev} {tk:List Int} {kk:Int} {w:Nat} {budget:Int} {g:FuncId} {c:List D} (L:Nat→Bool) (S:St) (r:R13 p s s1 ev tr tk kk w budget g c L S) (hL:L 7=false) (k6:L 6=true):aDo EE Tryz.f132.ntmps ops13 (ops13[7]'(by decide)) S (R13 p s s1 ev tr tk kk w budget g c (fun j=>L j || j==7)):=by
 have hat:At [(56,.fp (vH w))] [] [] S:=⟨⟨r.c6 k6,trivial⟩,trivial,trivial⟩
 obtain⟨τ,H,rfl⟩:=hat.form
 conv=>whnf
 exact {
  u1:=r.u1
  u2:=r.u2
  u3:=r.u3
  u6:=r.u6
  u7:=r.u7
  u8:=r.u8
  u9:=r.u9
  u10:=r.u10
  u11:=r.u11
  h3:=r.h3
  h6:=r.h6
  h13:=r.h13
  c0:=fun g0=>r.c0 (by simpa using g0)
  c1:=fun g0 g1=>r.c1 (by simpa using g0) (by simpa using g1)
  c2:=fun g0=>r.c2 (by simpa using g0)
  c3:=fun g0=>r.c3 (by simpa using g0)
  c4:=fun g0=>r.c4 (by simpa using g0)
  c5:=fun g0=>r.c5 (by simpa using g0)
  c6:=fun g0=>r.c6 (by simpa using g0)
  c7:=fun _=>rfl
  c8:=fun g0=>r.c8 (by simpa using g0)
  c9:=fun g0 g1=>r.c9 (by simpa using g0) (by simpa using g1)
  c10:=fun g0=>r.c10 (by simpa using g0)
  c11:=fun g0=>r.c11 (by simpa using g0)
  e9:=fun g0 g1=>r.e9 (by simpa using g0) (by simpa using g1)
  d12a:=fun g0=>r.d12a (by simpa using g0)
  d12b:=fun g0=>r.d12b (by simpa using g0)
  d8a:=fun g0=>r.d8a (by simpa using g0)
  d8b:=fun g0 g1=>r.d8b (by simpa using g0) (by simpa using g1)
  d8c:=fun g0 g1=>r.d8c (by simpa using g0) (by simpa using g1)
  d8d:=fun g0=>r.d8d (by simpa using g0)
  sa0:=fun g0=>r.sa0 (by simpa using g0)
  saF:=fun g0=>r.saF (by simpa using g0)
  sa1:=fun g0=>r.sa1 (by simpa using g0)
  sa2:=fun g0=>r.sa2 (by simpa using g0)
  sb0:=fun g0=>r.sb0 (by simpa using g0)
  sbF:=fun g0=>r.sbF (by simpa using g0)
  sb1:=fun g0=>r.sb1 (by simpa using g0)
  sb2:=fun g0=>r.sb2 (by simpa using g0)
  o1:=fun g0=>by have:=r.o1 (by simpa using g0);simp[this]
  o2:=fun g0=>by have:=r.o2 (by simpa using g0);simp[this]
  o3:=fun g0=>by have:=r.o3 (by simpa using g0);simp[this]
  o4:=fun g0=>by have:=r.o4 (by simpa using g0);simp[this] }
theorem op13_11 {p:ProgL} {s s1:StL} {ev:Ev} {tr:List Ev} {tk:List Int} {kk:Int} {w:Nat} {budget:Int} {g:FuncId} {c:List D} (L:Nat→Bool) (S:St) (r:R13 p s s1 ev tr tk kk w budget g c L S) (hL:L 11=false):aDo EE Tryz.f132.ntmps ops13 (ops13[11]'(by decide)) S (R13 p s s1 ev tr tk kk w budget g c (fun j=>L j || j==11)):=by
 have hat:At [(8,.ptr (.n 8) 0)] [] [] S:=⟨⟨r.u8,trivial⟩,trivial,trivial⟩
 obtain⟨τ,H,rfl⟩:=hat.form
 conv=>whnf
 exact {
  u1:=r.u1
  u2:=r.u2
  u3:=r.u3
  u6:=r.u6
  u7:=r.u7
  u8:=r.u8
  u9:=r.u9
  u10:=r.u10
  u11:=r.u11
  h3:=r.h3
  h6:=r.h6
  h13:=r.h13
  c0:=fun g0=>r.c0 (by simpa using g0)
  c1:=fun g0 g1=>r.c1 (by simpa using g0) (by simpa using g1)
  c2:=fun g0=>r.c2 (by simpa using g0)
  c3:=fun g0=>r.c3 (by simpa using g0)
  c4:=fun g0=>r.c4 (by simpa using g0)
  c5:=fun g0=>r.c5 (by simpa using g0)
  c6:=fun g0=>r.c6 (by simpa using g0)
  c7:=fun g0=>r.c7 (by simpa using g0)
  c8:=fun g0=>r.c8 (by simpa using g0)
  c9:=fun g0 g1=>r.c9 (by simpa using g0) (by simpa using g1)
  c10:=fun g0=>r.c10 (by simpa using g0)
  c11:=fun _=>rfl
  e9:=fun g0 g1=>r.e9 (by simpa using g0) (by simpa using g1)
  d12a:=fun g0=>r.d12a (by simpa using g0)
  d12b:=fun g0=>r.d12b (by simpa using g0)
  d8a:=fun g0=>r.d8a (by simpa using g0)
  d8b:=fun g0 g1=>r.d8b (by simpa using g0) (by simpa using g1)
  d8c:=fun g0 g1=>r.d8c (by simpa using g0) (by simpa using g1)
  d8d:=fun g0=>r.d8d (by simpa using g0)
  sa0:=fun g0=>r.sa0 (by simpa using g0)
  saF:=fun g0=>r.saF (by simpa using g0)
  sa1:=fun g0=>r.sa1 (by simpa using g0)
  sa2:=fun g0=>r.sa2 (by simpa using g0)
  sb0:=fun g0=>r.sb0 (by simpa using g0)
  sbF:=fun g0=>r.sbF (by simpa using g0)
  sb1:=fun g0=>r.sb1 (by simpa using g0)
  sb2:=fun g0=>r.sb2 (by simpa using g0)
  o1:=fun g0=>by have:=r.o1 (by simpa using g0);simp[this]
  o2:=fun g0=>by have:=r.o2 (by simpa using g0);simp[this]
  o3:=fun g0=>by have:=r.o3 (by simpa using g0);simp[this]
  o4:=fun g0=>by have:=r.o4 (by simpa using g0);simp[this] }
theorem op13_1 {p:ProgL} {s s1:StL} {ev:Ev} {tr:List Ev} {tk:List Int} {kk:Int} {w:Nat} {budget:Int} {g:FuncId} {c:List D} (L:Nat→Bool) (S:St) (r:R13 p s s1 ev tr tk kk w budget g c L S) (hL:L 1=false) (k0:L 0=true):aDo EE Tryz.f132.ntmps ops13 (ops13[1]'(by decide)) S (R13 p s s1 ev tr tk kk w budget g c (fun j=>L j || j==1)):=by
 have n10:L 10=false:=by
  cases h:L 10 with
  |false=>rfl
  |true=>exact absurd (r.o3 h) (by rw[hL];decide)
 obtain⟨st,hst⟩:∃ st,S.H (.n 8)=some (.vs 46 ([i64 0,.ref (.n 12) 0 tr.length,.ref (.n 13) 0 (tk.length+1)]++stRef st)):=by
  cases h8:L 8 with
  |false=>exact⟨_,r.d8a h8⟩
  |true=>exact⟨_,r.d8b h8 n10⟩
 have hat:At [(50,.ptr (.n 8) (0+1))] [(.n 8,.vs 46 ([i64 0,.ref (.n 12) 0 tr.length,.ref (.n 13) 0 (tk.length+1)]++stRef st))] [] S:=⟨⟨r.c0 k0,trivial⟩,⟨hst,trivial⟩,trivial⟩
 obtain⟨τ,H,rfl⟩:=hat.form
 conv=>whnf
 exact {
  u1:=r.u1
  u2:=r.u2
  u3:=r.u3
  u6:=r.u6
  u7:=r.u7
  u8:=r.u8
  u9:=r.u9
  u10:=r.u10
  u11:=r.u11
  h3:=r.h3
  h6:=r.h6
  h13:=r.h13
  c0:=fun g0=>r.c0 (by simpa using g0)
  c1:=fun _ _=>rfl
  c2:=fun g0=>r.c2 (by simpa using g0)
  c3:=fun g0=>r.c3 (by simpa using g0)
  c4:=fun g0=>r.c4 (by simpa using g0)
  c5:=fun g0=>r.c5 (by simpa using g0)
  c6:=fun g0=>r.c6 (by simpa using g0)
  c7:=fun g0=>r.c7 (by simpa using g0)
  c8:=fun g0=>r.c8 (by simpa using g0)
  c9:=fun g0 g1=>r.c9 (by simpa using g0) (by simpa using g1)
  c10:=fun g0=>r.c10 (by simpa using g0)
  c11:=fun g0=>r.c11 (by simpa using g0)
  e9:=fun g0 g1=>r.e9 (by simpa using g0) (by simpa using g1)
  d12a:=fun g0=>r.d12a (by simpa using g0)
  d12b:=fun g0=>r.d12b (by simpa using g0)
  d8a:=fun g0=>r.d8a (by simpa using g0)
  d8b:=fun g0 g1=>r.d8b (by simpa using g0) (by simpa using g1)
  d8c:=fun g0 g1=>r.d8c (by simpa using g0) (by simpa using g1)
  d8d:=fun g0=>r.d8d (by simpa using g0)
  sa0:=fun g0=>r.sa0 (by simpa using g0)
  saF:=fun g0=>r.saF (by simpa using g0)
  sa1:=fun g0=>r.sa1 (by simpa using g0)
  sa2:=fun g0=>r.sa2 (by simpa using g0)
  sb0:=fun g0=>r.sb0 (by simpa using g0)
  sbF:=fun g0=>r.sbF (by simpa using g0)
  sb1:=fun g0=>r.sb1 (by simpa using g0)
  sb2:=fun g0=>r.sb2 (by simpa using g0)
  o1:=fun g0=>by have:=r.o1 (by simpa using g0);simp[this]
  o2:=fun g0=>by have:=r.o2 (by simpa using g0);simp[this]
  o3:=fun g0=>by have:=r.o3 (by simpa using g0);simp[this]
  o4:=fun g0=>by have:=r.o4 (by simpa using g0);simp[this] }
theorem op13_9 {p:ProgL} {s s1:StL} {ev:Ev} {tr:List Ev} {tk:List Int} {kk:Int} {w:Nat} {budget:Int} {g:FuncId} {c:List D} (L:Nat→Bool) (S:St) (r:R13 p s s1 ev tr tk kk w budget g c L S) (hL:L 9=false) (k8:L 8=true):aDo EE Tryz.f132.ntmps ops13 (ops13[9]'(by decide)) S (R13 p s s1 ev tr tk kk w budget g c (fun j=>L j || j==9)):=by
 have hat:At [(58,agg (encEv ev))] [] [] S:=⟨⟨r.c8 k8,trivial⟩,trivial,trivial⟩
 obtain⟨τ,H,rfl⟩:=hat.form
 conv=>whnf
 exact {
  u1:=(congrArg (scrP (isK (.n 59))) (r.u1)).trans rfl
  u2:=(congrArg (scrP (isK (.n 59))) (r.u2)).trans rfl
  u3:=(congrArg (scrP (isK (.n 59))) (r.u3)).trans rfl
  u6:=(congrArg (scrP (isK (.n 59))) (r.u6)).trans rfl
  u7:=(congrArg (scrP (isK (.n 59))) (r.u7)).trans rfl
  u8:=(congrArg (scrP (isK (.n 59))) (r.u8)).trans rfl
  u9:=(congrArg (scrP (isK (.n 59))) (r.u9)).trans rfl
  u10:=(congrArg (scrP (isK (.n 59))) (r.u10)).trans rfl
  u11:=(congrArg (scrP (isK (.n 59))) (r.u11)).trans rfl
  h3:=(congrArg (Option.map (scrPO (isK (.n 59)))) (r.h3)).trans rfl
  h6:=(congrArg (Option.map (scrPO (isK (.n 59)))) (r.h6)).trans rfl
  h13:=(congrArg (Option.map (scrPO (isK (.n 59)))) (r.h13)).trans rfl
  c0:=fun g0=>(congrArg (scrP (isK (.n 59))) (r.c0 (by simpa using g0))).trans rfl
  c1:=fun g0 g1=>(congrArg (scrP (isK (.n 59))) (r.c1 (by simpa using g0) (by simpa using g1))).trans rfl
  c2:=fun g0=>(congrArg (scrP (isK (.n 59))) (r.c2 (by simpa using g0))).trans rfl
  c3:=fun g0=>(congrArg (scrP (isK (.n 59))) (r.c3 (by simpa using g0))).trans rfl
  c4:=fun g0=>(congrArg (scrP (isK (.n 59))) (r.c4 (by simpa using g0))).trans rfl
  c5:=fun g0=>(congrArg (scrP (isK (.n 59))) (r.c5 (by simpa using g0))).trans rfl
  c6:=fun g0=>(congrArg (scrP (isK (.n 59))) (r.c6 (by simpa using g0))).trans rfl
  c7:=fun g0=>(congrArg (scrP (isK (.n 59))) (r.c7 (by simpa using g0))).trans rfl
  c8:=fun g0=>(congrArg (scrP (isK (.n 59))) (r.c8 (by simpa using g0))).trans rfl
  c9:=fun _ _=>rfl
  c10:=fun g0=>(congrArg (scrP (isK (.n 59))) (r.c10 (by simpa using g0))).trans rfl
  c11:=fun g0=>(congrArg (scrP (isK (.n 59))) (r.c11 (by simpa using g0))).trans rfl
  e9:=fun _ _=>rfl
  d12a:=fun g0=>(congrArg (Option.map (scrPO (isK (.n 59)))) (r.d12a (by simpa using g0))).trans rfl
  d12b:=fun g0=>(congrArg (Option.map (scrPO (isK (.n 59)))) (r.d12b (by simpa using g0))).trans rfl
  d8a:=fun g0=>(congrArg (Option.map (scrPO (isK (.n 59)))) (r.d8a (by simpa using g0))).trans rfl
  d8b:=fun g0 g1=>(congrArg (Option.map (scrPO (isK (.n 59)))) (r.d8b (by simpa using g0) (by simpa using g1))).trans rfl
  d8c:=fun g0 g1=>(congrArg (Option.map (scrPO (isK (.n 59)))) (r.d8c (by simpa using g0) (by simpa using g1))).trans rfl
  d8d:=fun g0=>(congrArg (Option.map (scrPO (isK (.n 59)))) (r.d8d (by simpa using g0))).trans rfl
  sa0:=fun g0=>(congrArg (Option.map (scrPO (isK (.n 59)))) (r.sa0 (by simpa using g0))).trans (congrArg (fun x=>some (Ob.rs 158 6 x)) (zR fun _ _=>rfl))
  saF:=fun g0=>fun j=>(congrArg (Option.map (scrPO (isK (.n 59)))) (r.saF (by simpa using g0) j)).trans (zH _ _ _)
  sa1:=fun g0=>(congrArg (Option.map (scrPO (isK (.n 59)))) (r.sa1 (by simpa using g0))).trans rfl
  sa2:=fun g0=>(congrArg (Option.map (scrPO (isK (.n 59)))) (r.sa2 (by simpa using g0))).trans rfl
  sb0:=fun g0=>(congrArg (Option.map (scrPO (isK (.n 59)))) (r.sb0 (by simpa using g0))).trans (congrArg (fun x=>some (Ob.rs 158 6 x)) (zR fun _ _=>rfl))
  sbF:=fun g0=>fun j=>(congrArg (Option.map (scrPO (isK (.n 59)))) (r.sbF (by simpa using g0) j)).trans (zH _ _ _)
  sb1:=fun g0=>(congrArg (Option.map (scrPO (isK (.n 59)))) (r.sb1 (by simpa using g0))).trans rfl
  sb2:=fun g0=>(congrArg (Option.map (scrPO (isK (.n 59)))) (r.sb2 (by simpa using g0))).trans rfl
  o1:=fun g0=>by have:=r.o1 (by simpa using g0);simp[this]
  o2:=fun g0=>by have:=r.o2 (by simpa using g0);simp[this]
  o3:=fun g0=>by have:=r.o3 (by simpa using g0);simp[this]
  o4:=fun g0=>by have:=r.o4 (by simpa using g0);simp[this] }
theorem op13_10 {p:ProgL} {s s1:StL} {ev:Ev} {tr:List Ev} {tk:List Int} {kk:Int} {w:Nat} {budget:Int} {g:FuncId} {c:List D} (htr:tr.length≤1048576) (L:Nat→Bool) (S:St) (r:R13 p s s1 ev tr tk kk w budget g c L S) (hL:L 10=false) (k1:L 1=true) (k8:L 8=true) (k9:L 9=true):aDo EE Tryz.f132.ntmps ops13 (ops13[10]'(by decide)) S (R13 p s s1 ev tr tk kk w budget g c (fun j=>L j || j==10)):=by
 have hat:At [(51,.ref (.n 12) 0 tr.length),(59,.ref (.n 59) 0 1)] [(.n 12,.ds 105 5 (tr.map encEv)),(.n 59,.ds 105 5 [encEv ev])] [] S:=⟨⟨r.c1 k1 hL,r.c9 k9 hL,trivial⟩,⟨r.d12a hL,r.e9 k9 hL,trivial⟩,trivial⟩
 obtain⟨τ,H,rfl⟩:=hat.form
 conv=>whnf
 refine⟨⟨rfl,by show(tr.length+1)*40≤_;omega,by show tr.length+1≤_;omega⟩,?_⟩
 conv=>whnf
 exact {
  u1:=(congrArg (scrP (isK (.n 12))) (r.u1)).trans rfl
  u2:=(congrArg (scrP (isK (.n 12))) (r.u2)).trans rfl
  u3:=(congrArg (scrP (isK (.n 12))) (r.u3)).trans rfl
  u6:=(congrArg (scrP (isK (.n 12))) (r.u6)).trans rfl
  u7:=(congrArg (scrP (isK (.n 12))) (r.u7)).trans rfl
  u8:=(congrArg (scrP (isK (.n 12))) (r.u8)).trans rfl
  u9:=(congrArg (scrP (isK (.n 12))) (r.u9)).trans rfl
  u10:=(congrArg (scrP (isK (.n 12))) (r.u10)).trans rfl
  u11:=(congrArg (scrP (isK (.n 12))) (r.u11)).trans rfl
  h3:=(congrArg (Option.map (scrPO (isK (.n 12)))) (r.h3)).trans rfl
  h6:=(congrArg (Option.map (scrPO (isK (.n 12)))) (r.h6)).trans rfl
  h13:=(congrArg (Option.map (scrPO (isK (.n 12)))) (r.h13)).trans rfl
  c0:=fun g0=>(congrArg (scrP (isK (.n 12))) (r.c0 (by simpa using g0))).trans rfl
  c1:=fun g0 g1=>absurd g1 (by simp)
  c2:=fun g0=>(congrArg (scrP (isK (.n 12))) (r.c2 (by simpa using g0))).trans rfl
  c3:=fun g0=>(congrArg (scrP (isK (.n 12))) (r.c3 (by simpa using g0))).trans rfl
  c4:=fun g0=>(congrArg (scrP (isK (.n 12))) (r.c4 (by simpa using g0))).trans rfl
  c5:=fun g0=>(congrArg (scrP (isK (.n 12))) (r.c5 (by simpa using g0))).trans rfl
  c6:=fun g0=>(congrArg (scrP (isK (.n 12))) (r.c6 (by simpa using g0))).trans rfl
  c7:=fun g0=>(congrArg (scrP (isK (.n 12))) (r.c7 (by simpa using g0))).trans rfl
  c8:=fun g0=>(congrArg (scrP (isK (.n 12))) (r.c8 (by simpa using g0))).trans rfl
  c9:=fun g0 g1=>absurd g1 (by simp)
  c10:=fun _=>rfl
  c11:=fun g0=>(congrArg (scrP (isK (.n 12))) (r.c11 (by simpa using g0))).trans rfl
  e9:=fun g0 g1=>absurd g1 (by simp)
  d12a:=fun g0=>absurd g0 (by simp)
  d12b:=fun _=>by
   show some (Ob.ds 105 5 ((tr.map encEv).take tr.length++[encEv ev]))=_
   rw[List.take_of_length_le (by simp)]
   simp
  d8a:=fun g0=>absurd g0 (by simp[k8])
  d8b:=fun g0 g1=>absurd g1 (by simp)
  d8c:=fun _ _=>(congrArg (Option.map (scrPO (isK (.n 12)))) (r.d8b k8 hL)).trans rfl
  d8d:=fun g0=>absurd (r.o2 (by simpa using g0)) (by rw[hL];decide)
  sa0:=fun g0=>(congrArg (Option.map (scrPO (isK (.n 12)))) (r.sa0 (by simpa using g0))).trans (congrArg (fun x=>some (Ob.rs 158 6 x)) (zR fun _ _=>rfl))
  saF:=fun g0=>fun j=>(congrArg (Option.map (scrPO (isK (.n 12)))) (r.saF (by simpa using g0) j)).trans (zH _ _ _)
  sa1:=fun g0=>(congrArg (Option.map (scrPO (isK (.n 12)))) (r.sa1 (by simpa using g0))).trans rfl
  sa2:=fun g0=>(congrArg (Option.map (scrPO (isK (.n 12)))) (r.sa2 (by simpa using g0))).trans rfl
  sb0:=fun g0=>(congrArg (Option.map (scrPO (isK (.n 12)))) (r.sb0 (by simpa using g0))).trans (congrArg (fun x=>some (Ob.rs 158 6 x)) (zR fun _ _=>rfl))
  sbF:=fun g0=>fun j=>(congrArg (Option.map (scrPO (isK (.n 12)))) (r.sbF (by simpa using g0) j)).trans (zH _ _ _)
  sb1:=fun g0=>(congrArg (Option.map (scrPO (isK (.n 12)))) (r.sb1 (by simpa using g0))).trans rfl
  sb2:=fun g0=>(congrArg (Option.map (scrPO (isK (.n 12)))) (r.sb2 (by simpa using g0))).trans rfl
  o1:=fun _=>by simp[k8]
  o2:=fun g0=>by have:=r.o2 (by simpa using g0);simp[this]
  o3:=fun _=>by simp[k1]
  o4:=fun _=>by simp[k9] }
theorem op13_12 {p:ProgL} {s s1:StL} {ev:Ev} {tr:List Ev} {tk:List Int} {kk:Int} {w:Nat} {budget:Int} {g:FuncId} {c:List D} (L:Nat→Bool) (S:St) (r:R13 p s s1 ev tr tk kk w budget g c L S) (hL:L 12=false) (k10:L 10=true) (k11:L 11=true):aDo EE Tryz.f132.ntmps ops13 (ops13[12]'(by decide)) S (R13 p s s1 ev tr tk kk w budget g c (fun j=>L j || j==12)):=by
 have hat:At [(61,.ptr (.n 8) (0+1)),(60,.ref (.n 12) 0 (tr.length+1))] [(.n 8,.vs 46 ([i64 0,.junk,.ref (.n 13) 0 (tk.length+1)]++stRef s1))] [] S:=⟨⟨r.c11 k11,r.c10 k10,trivial⟩,⟨r.d8c k10 hL,trivial⟩,trivial⟩
 obtain⟨τ,H,rfl⟩:=hat.form
 conv=>whnf
 exact {
  u1:=r.u1
  u2:=r.u2
  u3:=r.u3
  u6:=r.u6
  u7:=r.u7
  u8:=r.u8
  u9:=r.u9
  u10:=r.u10
  u11:=r.u11
  h3:=r.h3
  h6:=r.h6
  h13:=r.h13
  c0:=fun g0=>r.c0 (by simpa using g0)
  c1:=fun g0 g1=>r.c1 (by simpa using g0) (by simpa using g1)
  c2:=fun g0=>r.c2 (by simpa using g0)
  c3:=fun g0=>r.c3 (by simpa using g0)
  c4:=fun g0=>r.c4 (by simpa using g0)
  c5:=fun g0=>r.c5 (by simpa using g0)
  c6:=fun g0=>r.c6 (by simpa using g0)
  c7:=fun g0=>r.c7 (by simpa using g0)
  c8:=fun g0=>r.c8 (by simpa using g0)
  c9:=fun g0 g1=>r.c9 (by simpa using g0) (by simpa using g1)
  c10:=fun g0=>r.c10 (by simpa using g0)
  c11:=fun g0=>r.c11 (by simpa using g0)
  e9:=fun g0 g1=>r.e9 (by simpa using g0) (by simpa using g1)
  d12a:=fun g0=>r.d12a (by simpa using g0)
  d12b:=fun g0=>r.d12b (by simpa using g0)
  d8a:=fun g0=>absurd g0 (by simp[r.o1 k10])
  d8b:=fun _ g1=>absurd g1 (by simp[k10])
  d8c:=fun g0 g1=>absurd g1 (by simp)
  d8d:=fun _=>rfl
  sa0:=fun g0=>r.sa0 (by simpa using g0)
  saF:=fun g0=>r.saF (by simpa using g0)
  sa1:=fun g0=>r.sa1 (by simpa using g0)
  sa2:=fun g0=>r.sa2 (by simpa using g0)
  sb0:=fun g0=>r.sb0 (by simpa using g0)
  sbF:=fun g0=>r.sbF (by simpa using g0)
  sb1:=fun g0=>r.sb1 (by simpa using g0)
  sb2:=fun g0=>r.sb2 (by simpa using g0)
  o1:=fun g0=>by have:=r.o1 (by simpa using g0);simp[this]
  o2:=fun _=>by simp[k10]
  o3:=fun g0=>by have:=r.o3 (by simpa using g0);simp[this]
  o4:=fun g0=>by have:=r.o4 (by simpa using g0);simp[this] }
def wE:Key→Bool
 | .n k=>Nat.beq k 900 || Nat.beq k 901 || Nat.beq k 902
 | .s o _=>Nat.beq o 900
 | .l k=>Nat.beq k 0
theorem u0 {E:TypeId} {pre:List AV} {s:StL}:∀ κ,wE κ=false→stHC E pre s κ=none
 | .l j,h=>by have h:Nat.beq j 0=false:=h;simp[stHC,h]
 | .n j,h=>by
  have h:(Nat.beq j 900 || Nat.beq j 901 || Nat.beq j 902)=false:=h
  simp only[Bool.or_eq_false_iff] at h
  simp[stHC,h.1.1,h.1.2,h.2]
 | .s o j,h=>by have h:Nat.beq o 900=false:=h;simp[stHC,h]
theorem op13_8 {p:ProgL} {s s1:StL} {ev:Ev} {tr:List Ev} {tk:List Int} {kk:Int} {w:Nat} {budget:Int} {g:FuncId} {c:List D} (hst:∀ (v0 v1:Value) (H0:Key→Option Ob),AtC 46 [i64 0,.lit v0,.lit v1] s H0→IOCall EE 117 [.ptr (.l 0) 3,agg (encProg p),i64 w] H0 (fun r H1=>r=agg (encEv ev)∧H1=stHC 46 [i64 0,.lit v0,.lit v1] s1)) (L:Nat→Bool) (S:St) (r:R13 p s s1 ev tr tk kk w budget g c L S) (hL:L 8=false) (k2:L 2=true) (k3:L 3=true) (k7:L 7=true):aDo EE Tryz.f132.ntmps ops13 (ops13[8]'(by decide)) S (R13 p s s1 ev tr tk kk w budget g c (fun j=>L j || j==8)):=by
 have n10:L 10=false:=by
  cases h:L 10 with
  |false=>rfl
  |true=>exact absurd (r.o1 h) (by rw[hL];decide)
 have hat:At [(52,.ptr (.n 8) (0+3)),(53,agg (encProg p)),(57,i64 w)] [(.n 8,.vs 46 ([i64 0,.ref (.n 12) 0 tr.length,.ref (.n 13) 0 (tk.length+1)]++stRef s)),(.n 900,.rs 158 6 (thRows 900 s.ths)),(.n 901,.ds 74 1 (s.cells.map encF)),(.n 902,.ds 3 1 (s.owner.map encInt))] [(900,zE s.ths)] S:=⟨⟨r.c2 k2,r.c3 k3,r.c7 k7,trivial⟩,⟨r.d8a hL,r.sa0 hL,r.sa1 hL,r.sa2 hL,trivial⟩,⟨r.saF hL,trivial⟩⟩
 obtain⟨τ,H,rfl⟩:=hat.form
 conv=>whnf
 refine .inr (.inr (.inr (.inl ⟨_,117,[],8,0,wE,46,[i64 0,.ref (.n 12) 0 tr.length,.ref (.n 13) 0 (tk.length+1)]++stRef s,[.ref (.n 12) 0 tr.length,.ref (.n 13) 0 (tk.length+1)],fun lam=>[i64 0,.lit (lam 0),.lit (lam 1)]++stRef s,fun lam r H1=>r=agg (encEv ev)∧H1=stHC 46 [i64 0,.lit (lam 0),.lit (lam 1)] s1,Weak.refl,rfl,⟨rfl,rfl,rfl⟩,?_,fun lam=>litC13 _ _ _ _ rfl lam,fun lam=>hst (lam 0) (lam 1) _ ⟨rfl,rfl,?_,fun j=>?_,rfl,rfl⟩,?_⟩)))
 ·intro c hc
  simp only[List.mem_cons,List.not_mem_nil,or_false] at hc
  rcases hc with rfl|rfl
  ·exact⟨rfl,by simp⟩
  ·exact⟨rfl,by simp⟩
 ·show some (Ob.rs 158 6 (((thRows 900 s.ths).map (renL (swp (.n 8) (.l 0)))).map (scrPL fun o=>!wE o)))=_
  rw[qI]
  exact congrArg (fun x=>some (Ob.rs 158 6 x)) (zR fun _ _=>rfl)
 ·show((zE s.ths j).map (renO _)).map (scrPO _)=_
  rw[thFam_ren,zH]
 rintro lam rr H1 ⟨rfl,rfl⟩
 refine⟨u0,?_,[i64 0,.lit (lam 0),.lit (lam 1)]++stRef s1,[i64 0,.ref (.n 12) 0 tr.length,.ref (.n 13) 0 (tk.length+1)]++stRef s1,rfl,litB13 _ _ _ _,?_⟩
 ·intro n hn
  have:n=0:=by simpa[wE] using hn
  subst this
  exact⟨46,_,_,rfl,rfl⟩
 exact {
  u1:=(congrArg (fun x=>ren (swp (.n 8) (.l 0)) (scrP (xQ wE) (ren (swp (.n 8) (.l 0)) x))) (r.u1)).trans rfl
  u2:=(congrArg (fun x=>ren (swp (.n 8) (.l 0)) (scrP (xQ wE) (ren (swp (.n 8) (.l 0)) x))) (r.u2)).trans rfl
  u3:=(congrArg (fun x=>ren (swp (.n 8) (.l 0)) (scrP (xQ wE) (ren (swp (.n 8) (.l 0)) x))) (r.u3)).trans rfl
  u6:=(congrArg (fun x=>ren (swp (.n 8) (.l 0)) (scrP (xQ wE) (ren (swp (.n 8) (.l 0)) x))) (r.u6)).trans rfl
  u7:=(congrArg (fun x=>ren (swp (.n 8) (.l 0)) (scrP (xQ wE) (ren (swp (.n 8) (.l 0)) x))) (r.u7)).trans rfl
  u8:=(congrArg (fun x=>ren (swp (.n 8) (.l 0)) (scrP (xQ wE) (ren (swp (.n 8) (.l 0)) x))) (r.u8)).trans rfl
  u9:=(congrArg (fun x=>ren (swp (.n 8) (.l 0)) (scrP (xQ wE) (ren (swp (.n 8) (.l 0)) x))) (r.u9)).trans rfl
  u10:=(congrArg (fun x=>ren (swp (.n 8) (.l 0)) (scrP (xQ wE) (ren (swp (.n 8) (.l 0)) x))) (r.u10)).trans rfl
  u11:=(congrArg (fun x=>ren (swp (.n 8) (.l 0)) (scrP (xQ wE) (ren (swp (.n 8) (.l 0)) x))) (r.u11)).trans rfl
  h3:=(congrArg (fun x=>(((x.map (renO (swp (.n 8) (.l 0)))).map (scrPO (xQ wE))).map (renO (swp (.n 8) (.l 0))))) (r.h3)).trans rfl
  h6:=(congrArg (fun x=>(((x.map (renO (swp (.n 8) (.l 0)))).map (scrPO (xQ wE))).map (renO (swp (.n 8) (.l 0))))) (r.h6)).trans rfl
  h13:=(congrArg (fun x=>(((x.map (renO (swp (.n 8) (.l 0)))).map (scrPO (xQ wE))).map (renO (swp (.n 8) (.l 0))))) (r.h13)).trans rfl
  c0:=fun g0=>(congrArg (fun x=>ren (swp (.n 8) (.l 0)) (scrP (xQ wE) (ren (swp (.n 8) (.l 0)) x))) (r.c0 (by simpa using g0))).trans rfl
  c1:=fun g0 g1=>(congrArg (fun x=>ren (swp (.n 8) (.l 0)) (scrP (xQ wE) (ren (swp (.n 8) (.l 0)) x))) (r.c1 (by simpa using g0) (by simpa using g1))).trans rfl
  c2:=fun g0=>(congrArg (fun x=>ren (swp (.n 8) (.l 0)) (scrP (xQ wE) (ren (swp (.n 8) (.l 0)) x))) (r.c2 (by simpa using g0))).trans rfl
  c3:=fun g0=>(congrArg (fun x=>ren (swp (.n 8) (.l 0)) (scrP (xQ wE) (ren (swp (.n 8) (.l 0)) x))) (r.c3 (by simpa using g0))).trans rfl
  c4:=fun g0=>(congrArg (fun x=>ren (swp (.n 8) (.l 0)) (scrP (xQ wE) (ren (swp (.n 8) (.l 0)) x))) (r.c4 (by simpa using g0))).trans rfl
  c5:=fun g0=>(congrArg (fun x=>ren (swp (.n 8) (.l 0)) (scrP (xQ wE) (ren (swp (.n 8) (.l 0)) x))) (r.c5 (by simpa using g0))).trans rfl
  c6:=fun g0=>(congrArg (fun x=>ren (swp (.n 8) (.l 0)) (scrP (xQ wE) (ren (swp (.n 8) (.l 0)) x))) (r.c6 (by simpa using g0))).trans rfl
  c7:=fun g0=>(congrArg (fun x=>ren (swp (.n 8) (.l 0)) (scrP (xQ wE) (ren (swp (.n 8) (.l 0)) x))) (r.c7 (by simpa using g0))).trans rfl
  c8:=fun _=>agg_ren _ _
  c9:=fun g0 g1=>(congrArg (fun x=>ren (swp (.n 8) (.l 0)) (scrP (xQ wE) (ren (swp (.n 8) (.l 0)) x))) (r.c9 (by simpa using g0) (by simpa using g1))).trans rfl
  c10:=fun g0=>(congrArg (fun x=>ren (swp (.n 8) (.l 0)) (scrP (xQ wE) (ren (swp (.n 8) (.l 0)) x))) (r.c10 (by simpa using g0))).trans rfl
  c11:=fun g0=>(congrArg (fun x=>ren (swp (.n 8) (.l 0)) (scrP (xQ wE) (ren (swp (.n 8) (.l 0)) x))) (r.c11 (by simpa using g0))).trans rfl
  e9:=fun g0 g1=>(congrArg (fun x=>(((x.map (renO (swp (.n 8) (.l 0)))).map (scrPO (xQ wE))).map (renO (swp (.n 8) (.l 0))))) (r.e9 (by simpa using g0) (by simpa using g1))).trans rfl
  d12a:=fun g0=>(congrArg (fun x=>(((x.map (renO (swp (.n 8) (.l 0)))).map (scrPO (xQ wE))).map (renO (swp (.n 8) (.l 0))))) (r.d12a (by simpa using g0))).trans rfl
  d12b:=fun g0=>(congrArg (fun x=>(((x.map (renO (swp (.n 8) (.l 0)))).map (scrPO (xQ wE))).map (renO (swp (.n 8) (.l 0))))) (r.d12b (by simpa using g0))).trans rfl
  d8a:=fun g0=>absurd g0 (by simp)
  d8b:=fun _ _=>rfl
  d8c:=fun g0=>absurd g0 (by simp[n10])
  d8d:=fun g0=>absurd (r.o2 (by simpa using g0)) (by rw[n10];decide)
  sa0:=fun g0=>absurd g0 (by simp)
  saF:=fun g0=>absurd g0 (by simp)
  sa1:=fun g0=>absurd g0 (by simp)
  sa2:=fun g0=>absurd g0 (by simp)
  sb0:=fun _=>congrArg (fun x=>some (Ob.rs 158 6 x)) (qI 8 0 900 s1.ths)
  sbF:=fun _ j=>thFam_ren _ _ _
  sb1:=fun _=>rfl
  sb2:=fun _=>rfl
  o1:=fun _=>by simp
  o2:=fun g0=>by have:=r.o2 (by simpa using g0);simp[this]
  o3:=fun g0=>by have:=r.o3 (by simpa using g0);simp[this]
  o4:=fun g0=>by have:=r.o4 (by simpa using g0);simp[this] }
end Ai
namespace Ai
set_option maxRecDepth 100000
open Go Go.Proofs
theorem draw13 {p:ProgL} {s s1:StL} {ev:Ev} {tr:List Ev} {tk:List Int} {kk:Int} {w:Nat} {budget:Int} {g:FuncId} {c:List D} (hk0:0≤kk) (hen:((zA p s).map vH)[kk.toNat]?=some (vH w)) (htr:tr.length≤1048576)
  (hst:∀ (v0 v1:Value) (H0:Key→Option Ob),AtC 46 [i64 0,.lit v0,.lit v1] s H0→IOCall EE 117 [.ptr (.l 0) 3,agg (encProg p),i64 w] H0 (fun r H1=>r=agg (encEv ev)∧H1=stHC 46 [i64 0,.lit v0,.lit v1] s1))
  (Q:AX→St→Prop) (S:St) (h:R13 p s s1 ev tr tk kk w budget g c (fun _=>false) S) (hQ:∀ L S',(∀ i,i<13→L i=true)→R13 p s s1 ev tr tk kk w budget g c L S'→Q .normal S'):ADrawI EE Tryz.f132.ntmps ops13 Q S:=by
 refine⟨R13 p s s1 ev tr tk kk w budget g c,h,?_,fun L S' hL hS=>hQ L S' hL hS,by kernel_rfl,trivial⟩
 intro i o ho L S hL hd hI
 match i,ho,hL with
 | 0,ho,hL =>
  obtain rfl:ops13[0]'(by decide)=o:=Option.some.inj (show some (ops13[0]'(by decide))=some o from ho)
  exact op13_0 L S hI hL
 | 1,ho,hL =>
  obtain rfl:ops13[1]'(by decide)=o:=Option.some.inj (show some (ops13[1]'(by decide))=some o from ho)
  have k0:L 0=true:=hd _ (Array.getElem_mem (i:=0) (by decide)) rfl
  exact op13_1 L S hI hL k0
 | 2,ho,hL =>
  obtain rfl:ops13[2]'(by decide)=o:=Option.some.inj (show some (ops13[2]'(by decide))=some o from ho)
  exact op13_2 L S hI hL
 | 3,ho,hL =>
  obtain rfl:ops13[3]'(by decide)=o:=Option.some.inj (show some (ops13[3]'(by decide))=some o from ho)
  exact op13_3 L S hI hL
 | 4,ho,hL =>
  obtain rfl:ops13[4]'(by decide)=o:=Option.some.inj (show some (ops13[4]'(by decide))=some o from ho)
  exact op13_4 L S hI hL
 | 5,ho,hL =>
  obtain rfl:ops13[5]'(by decide)=o:=Option.some.inj (show some (ops13[5]'(by decide))=some o from ho)
  exact op13_5 L S hI hL
 | 6,ho,hL =>
  obtain rfl:ops13[6]'(by decide)=o:=Option.some.inj (show some (ops13[6]'(by decide))=some o from ho)
  have k4:L 4=true:=hd _ (Array.getElem_mem (i:=0) (by decide)) rfl
  have k5:L 5=true:=hd _ (Array.getElem_mem (i:=1) (by decide)) rfl
  exact op13_6 hk0 hen L S hI hL k4 k5
 | 7,ho,hL =>
  obtain rfl:ops13[7]'(by decide)=o:=Option.some.inj (show some (ops13[7]'(by decide))=some o from ho)
  have k6:L 6=true:=hd _ (Array.getElem_mem (i:=0) (by decide)) rfl
  exact op13_7 L S hI hL k6
 | 8,ho,hL =>
  obtain rfl:ops13[8]'(by decide)=o:=Option.some.inj (show some (ops13[8]'(by decide))=some o from ho)
  have k2:L 2=true:=hd _ (Array.getElem_mem (i:=0) (by decide)) rfl
  have k3:L 3=true:=hd _ (Array.getElem_mem (i:=1) (by decide)) rfl
  have k7:L 7=true:=hd _ (Array.getElem_mem (i:=2) (by decide)) rfl
  exact op13_8 hst L S hI hL k2 k3 k7
 | 9,ho,hL =>
  obtain rfl:ops13[9]'(by decide)=o:=Option.some.inj (show some (ops13[9]'(by decide))=some o from ho)
  have k8:L 8=true:=hd _ (Array.getElem_mem (i:=0) (by decide)) rfl
  exact op13_9 L S hI hL k8
 | 10,ho,hL =>
  obtain rfl:ops13[10]'(by decide)=o:=Option.some.inj (show some (ops13[10]'(by decide))=some o from ho)
  have k1:L 1=true:=hd _ (Array.getElem_mem (i:=0) (by decide)) rfl
  have k8:L 8=true:=hd _ (Array.getElem_mem (i:=2) (by decide)) rfl
  have k9:L 9=true:=hd _ (Array.getElem_mem (i:=1) (by decide)) rfl
  exact op13_10 htr L S hI hL k1 k8 k9
 | 11,ho,hL =>
  obtain rfl:ops13[11]'(by decide)=o:=Option.some.inj (show some (ops13[11]'(by decide))=some o from ho)
  exact op13_11 L S hI hL
 | 12,ho,hL =>
  obtain rfl:ops13[12]'(by decide)=o:=Option.some.inj (show some (ops13[12]'(by decide))=some o from ho)
  have k10:L 10=true:=hd _ (Array.getElem_mem (i:=1) (by decide)) rfl
  have k11:L 11=true:=hd _ (Array.getElem_mem (i:=0) (by decide)) rfl
  exact op13_12 L S hI hL k10 k11
 |n+13,ho,hL =>
  have h1:n+13<ops13.size:=(Array.getElem?_eq_some_iff.1 ho).1
  have h2:ops13.size=13:=by decide
  omega
theorem runI_ok (hI:yV) (p:ProgL) (hp:p.wf) (h1:InR p.cells 0 1048576) (h2:InR p.locks 0 1048576) (Inv:StL→Prop) (hI0:Inv (xC p)) (hok:RunI p Inv) (budget:Int) (hb:InR budget 0 1048576) (g:FuncId) (c:List D)
  (pk:List Nat→Nat→Int) (hg:∀ (en:List Nat) (n:Nat),en≠[]→CallsTo EE g [sl (en.map vH),i64 n,.fp c] (·=i64 (pk en n))) (hpk:∀ en:List Nat,∀ n,en≠[]→0≤pk en n∧pk en n<en.length) :
  CallsTo EE 132 [agg (encProg p),i64 budget,.fn g [.fp c]] (·=.ownF 8 (nQ (dX p pk budget (budget.toNat+1) (xC p) [] [])++[bv true])):=by
 refine callsTo_of_AW (fn:=Tryz.f132) Tryz.func132 rfl (by kernel_rfl) rfl ?_
 conv=>whnf
 refine⟨_,start_ok p h1 h2,?_⟩
 rintro r rfl
 conv=>whnf
 refine fD (fun x:StL × List Ev × List Int=>[(1,i64 budget),(2,.fn g [.fp c]),(3,.ptr (.n 3) 0),(6,.ptr (.n 6) 0),(7,bv false),(8,.ptr (.n 8) 0),(9,i64 x.2.1.length)]) (fun x=>oRI p x.1 x.2.1 x.2.2) (fun x=>[(900,zE x.1.ths)]) (fun x=>budget.toNat - x.2.1.length)
  (fun x=>Inv x.1∧x.2.1.length=x.2.2.length∧(x.2.1.length:Int)≤budget∧dX p pk budget (budget.toNat+1 - x.2.1.length) x.1 x.2.1 x.2.2=dX p pk budget (budget.toNat+1) (xC p) [] []) (xC p,[],[])
  Weak.refl ?_ ?_ ?_ ⟨hI0,rfl,hb.1,rfl⟩ ?_
 ·exact⟨rfl,rfl,rfl,rfl,rfl,rfl,rfl,trivial⟩
 ·refine⟨rfl,rfl,?_,rfl,rfl,?_,?_,?_,trivial⟩
  ·show some (Ob.vs 46 [i64 0,.ref (.n 12) 0 0,.ref (.n 13) 0 0,.dref (.n 900) ((xC p).ths.map wI).length,.ref (.n 901) 0 ((xC p).cells.map encF).length,.ref (.n 902) 0 ((xC p).owner.map encInt).length,i64 0])=some (Ob.vs 46 [i64 0,.ref (.n 12) 0 0,.ref (.n 13) 0 0,.dref (.n 900) (xC p).ths.length,.ref (.n 901) 0 (xC p).cells.length,.ref (.n 902) 0 (xC p).owner.length,i64 0])
   rw[List.length_map,List.length_map,List.length_map]
  ·conv=>lhs;whnf
   refine congrArg some ?_
   repeat (first|exact rfl|refine yM ?_ (congrArg (Ob.rs 158 6) (zR fun _ _=>rfl)))
  ·rfl
  ·rfl
 ·refine⟨fun j=>?_,trivial⟩
  conv=>lhs;whnf
  repeat (first|exact s5 (xC p) j|(refine hscrO ?_ (zH _ _ _);conv=>lhs;whnf))
 rintro⟨s,tr,tk⟩ τ H ⟨hinv,hlen,hle,hrun⟩
 have hs:=hok.small s hinv
 conv=>whnf
 refine .inl ⟨[.fp (zX s),agg (encProg p)],[],_,⟨_,_,rfl,fz_run (x0:=i64 0) (x1:=.ref (.n 12) 0 tr.length) (x2:=.ref (.n 13) 0 tk.length) rfl ⟨rfl,fun j hj=>thFam_self hj,rfl,rfl⟩,_,_,rfl,aQ p,rfl⟩,rfl,enabledI_ok hI p s hp hs.1 (hok.seen s hinv),?_⟩
 rintro r rfl
 refine⟨?_,.inl ?_⟩
 ·intro c hc
  obtain⟨y,_,rfl⟩:=List.mem_map.1 hc
  rfl
 conv=>whnf
 refine .inl ⟨[agg (encProg p),.fp (zX s),sl ((zA p s).map vH),i64 tr.length,i64 budget],[],_,⟨_,_,rfl,aQ p,_,_,rfl,fz_run (x0:=i64 0) (x1:=.ref (.n 12) 0 tr.length) (x2:=.ref (.n 13) 0 tk.length) rfl ⟨rfl,fun j hj=>thFam_self hj,rfl,rfl⟩,_,_,rfl,rfl,_,_,rfl,rfl,_,_,rfl,rfl,rfl⟩,rfl,codeOf_ok p s tr.length budget hs.1,?_⟩
 rintro r rfl
 refine⟨rfl,?_⟩
 conv=>whnf
 have hfuel:budget.toNat+1 - tr.length=(budget.toNat - tr.length)+1:=by
  have:(tr.length:Int)≤budget:=hle
  omega
 have hrun:dX p pk budget (budget.toNat+1 - tr.length) s tr tk=_:=hrun
 rw[hfuel] at hrun
 refine kbi (fun hc=>?_) (fun hc=>?_)
 ·have hc:xF p s tr.length budget≠0:=by simpa using hc
  conv=>whnf
  refine .inl ⟨[agg (zX s)],[],_,⟨_,_,rfl,⟨zX s,rfl,iY ⟨rfl,fun j hj=>thFam_self hj,rfl,rfl⟩ rfl rfl rfl⟩,rfl⟩,rfl,m5 s hs.1,?_⟩
  rintro r rfl
  refine⟨nP s,?_⟩
  conv=>whnf
  refine .inr ⟨8,nQ (xF p s tr.length budget,tr,tk,s)++[bv true],_,[.agg [i64 (xF p s tr.length budget),.ref (.n 901) 0 tr.length,.ref (.n 902) 0 tk.length,.dref (.n 903) s.ths.length,.ref (.n 904) 0 s.cells.length,.ref (.n 905) 0 s.owner.length,i64 s.fault],bv true],(uK shA).trans (uK shB),?_,(by simp),?_,?_,gA ⟨trivial,?_,?_,⟨?_,fun j q hq=>?_⟩,?_,?_,trivial,trivial,trivial⟩,?_⟩
  ·show some [.agg [i64 (xF p s tr.length budget),.ref (.n 901) 0 tr.length,.ref (.n 902) 0 tk.length,.dref (.n 903) (s.ths.map wI).length,.ref (.n 904) 0 (s.cells.map encF).length,.ref (.n 905) 0 (s.owner.map encInt).length,i64 s.fault],bv true]=_
   rw[List.length_map,List.length_map,List.length_map]
  ·simp[nQ,xH,ownR,ownR1,kW]
  ·intro v hv
   simp only[nQ,xH,List.mem_append,List.mem_cons,List.not_mem_nil,or_false] at hv
   rcases hv with ((rfl|rfl|rfl)|(rfl|rfl|rfl|rfl))|rfl
   all_goals first|trivial|(show(s.ths.map wI).length=(s.ths.map stk).length;simp)
  ·rfl
  ·rfl
  ·conv=>lhs;whnf
   show some (Ob.rs 158 6 (((thRows 900 s.ths).map (renL (mkSh numA sY).f)).map (renL (mkSh numB j7).f)))=some (Ob.rs 158 6 (thRows 903 s.ths))
   rw[fJ,fJ]
   rfl
  ·have hq:(s.ths.map stk)[j]?=some q:=hq
   rw[List.getElem?_map] at hq
   obtain⟨t,ht,rfl⟩:=Option.map_eq_some_iff.1 hq
   have e:∀ X:Option Ob,X=zE s.ths j→(X.map (renO shA.f)).map (renO shB.f)=some (.ds 74 1 (stk t)):=by
    rintro _ rfl
    rw[thFam_ren,thFam_ren,zE,ht];rfl
   refine e _ ?_
   show(match ownH (xH s) (.s 900 j) with|some ob=>some ob|none=>_)=zE s.ths j
   show(match ((s.ths.map stk)[j]?).map (Ob.ds 74 1) with|some ob=>some ob|none=>_)=_
   rw[List.getElem?_map,zE,ht]
   rfl
  ·rfl
  ·rfl
  ·rw[← hrun]
   simp only[dX,if_pos hc]
 have hc:¬ xF p s tr.length budget≠0:=by simpa using hc
 have hc:xF p s tr.length budget=0:=by simpa using hc
 conv=>whnf
 have hen:zA p s≠[]:=by
  intro he
  have:=hc
  unfold xF at this
  by_cases hf:s.fault≠0
  ·rw[if_pos hf] at this;exact absurd this (by decide)
  ·rw[if_neg hf,if_pos he] at this;split at this <;> exact absurd this (by decide)
 refine⟨_,hg (zA p s) tr.length hen,?_⟩
 rintro r rfl
 have hlb:(tr.length:Int)≠budget:=by
  intro he
  have:=hc
  unfold xF at this
  by_cases hf:s.fault≠0
  ·rw[if_pos hf] at this;exact absurd this (by decide)
  ·rw[if_neg hf,if_neg hen,if_pos he] at this;exact absurd this (by decide)
 obtain⟨hk1,hk2⟩:=hpk (zA p s) tr.length hen
 have hrun2:dX p pk budget (budget.toNat - tr.length) (zG p s ((zA p s).getD (pk (zA p s) tr.length).toNat 0)).1 (tr++[(zG p s ((zA p s).getD (pk (zA p s) tr.length).toNat 0)).2]) (tk++[pk (zA p s) tr.length])=dX p pk budget (budget.toNat+1) (xC p) [] []:=by
  rw[← hrun];simp only[dX,hc];rfl
 generalize hkv:pk (zA p s) tr.length=kk at *
 have hkl:kk.toNat<(zA p s).length:=by omega
 have hmem:(zA p s).getD kk.toNat 0∈zA p s:=by rw[List.getD_eq_getElem?_getD,List.getElem?_eq_getElem hkl];exact List.getElem_mem hkl
 have hwl:(zA p s).getD kk.toNat 0<s.ths.length:=by have:=(List.mem_filter.1 hmem).1;simpa using this
 conv=>whnf
 refine kbi (fun hk=>?_) (fun hk=>?_)
 ·have hk:kk<0:=by simpa using hk
  omega
 conv=>whnf
 have hlen':tr.length=tk.length:=hlen
 have hle':(tr.length:Int)≤budget:=hle
 have hb2:=hb.2
 refine⟨⟨rfl,by show(tk.length+1)*8≤_;omega,by show tk.length+1≤_;omega⟩,?_⟩
 conv=>whnf
 generalize hwd:(zA p s).getD kk.toNat 0=w at *
 have hen13:((zA p s).map vH)[kk.toNat]?=some (vH w):=by rw[← hwd];exact en_get hkl
 have htr:tr.length≤1048576:=by omega
 refine .inr (.inr (.inl (draw13 (p:=p) (s:=s) (s1:=(zG p s w).1) (ev:=(zG p s w).2) (tr:=tr) (tk:=tk) (kk:=kk) (w:=w) (budget:=budget) (g:=g) (c:=c) hk1 hen13 htr
  (fun v0 v1 H0 hH=>stepI_ok hI 46 (i64 0) (.lit v0) (.lit v1) (inert_d _) (d7 _) (d7 _) p s w hp hwl hs.2 hs.1 (hok.ready s hinv w hmem hwl) (hok.awake s hinv w hmem hwl) (hok.flt s hinv _ (List.getElem_mem hwl)) (hok.joins s hinv w hmem hwl) H0 hH) _ _ ?_ ?_)))
 ·exact {
   u1:=rfl
   u2:=rfl
   u3:=rfl
   u6:=rfl
   u7:=rfl
   u8:=rfl
   u9:=rfl
   u10:=rfl
   u11:=rfl
   h3:=rfl
   h6:=rfl
   h13:=by
    show some (Ob.ds 3 1 ((tk.map encInt).take tk.length++[encInt kk]))=_
    rw[List.take_of_length_le (by simp)]
    simp
   c0:=fun h=>by cases h
   c1:=fun h=>by cases h
   c2:=fun h=>by cases h
   c3:=fun h=>by cases h
   c4:=fun h=>by cases h
   c5:=fun h=>by cases h
   c6:=fun h=>by cases h
   c7:=fun h=>by cases h
   c8:=fun h=>by cases h
   c9:=fun h=>by cases h
   c10:=fun h=>by cases h
   c11:=fun h=>by cases h
   e9:=fun h=>by cases h
   d12a:=fun _=>rfl
   d12b:=fun h=>by cases h
   d8a:=fun _=>by
    show some (Ob.vs 46 ([i64 (xF p s tr.length budget),.ref (.n 12) 0 tr.length,.ref (.n 13) 0 (tk.length+1)]++stRef s))=_
    rw[hc]
   d8b:=fun h=>by cases h
   d8c:=fun h=>by cases h
   d8d:=fun h=>by cases h
   sa0:=fun _=>by
    conv=>lhs;whnf
    refine congrArg some ?_
    repeat (first|exact rfl|refine yM ?_ (congrArg (Ob.rs 158 6) (zR fun _ _=>rfl)))
   saF:=fun _ j=>by
    repeat (first|exact rfl|refine hscrO ?_ (zH _ _ _)|conv=>lhs;whnf)
   sa1:=fun _=>rfl
   sa2:=fun _=>rfl
   sb0:=fun h=>by cases h
   sbF:=fun h=>by cases h
   sb1:=fun h=>by cases h
   sb2:=fun h=>by cases h
   o1:=fun h=>by cases h
   o2:=fun h=>by cases h
   o3:=fun h=>by cases h
   o4:=fun h=>by cases h }
 intro L S' hL r
 have hat:At [(1,i64 budget),(2,.fn g [.fp c]),(3,.ptr (.n 3) 0),(6,.ptr (.n 6) 0),(7,bv false),(8,.ptr (.n 8) 0),(9,i64 tr.length)]
  [(.n 3,.vs 42 ((encProg p).map .d)),(.n 6,.vs 46 [i64 0,.d .nil,.d .nil,.d .nil,.d .nil,.d .nil,i64 0]),(.n 8,.vs 46 ([i64 0,.ref (.n 12) 0 (tr.length+1),.ref (.n 13) 0 (tk.length+1)]++stRef (zG p s w).1)),(.n 12,.ds 105 5 ((tr++[(zG p s w).2]).map encEv)),(.n 13,.ds 3 1 ((tk++[kk]).map encInt)),
   (.n 900,.rs 158 6 (thRows 900 (zG p s w).1.ths)),(.n 901,.ds 74 1 ((zG p s w).1.cells.map encF)),(.n 902,.ds 3 1 ((zG p s w).1.owner.map encInt))] [(900,zE (zG p s w).1.ths)] S' :=
  ⟨⟨r.u1,r.u2,r.u3,r.u6,r.u7,r.u8,r.u9,trivial⟩,⟨r.h3,r.h6,r.d8d (hL 12 (by decide)),r.d12b (hL 10 (by decide)),r.h13,r.sb0 (hL 8 (by decide)),r.sb1 (hL 8 (by decide)),r.sb2 (hL 8 (by decide)),trivial⟩,⟨r.sbF (hL 8 (by decide)),trivial⟩⟩
 obtain⟨τ',H',rfl⟩:=hat.form
 clear r hat
 have hrun2:=hrun2
 generalize hst:zG p s w=st at *
 have ew:IntKind.i64.wrap ((tr.length:Int)+1)=(((tr++[st.2]).length:Nat):Int):=by rw[zK (by omega) (by omega)];simp
 conv=>whnf
 refine⟨(st.1,tr++[st.2],tk++[kk]),_,Weak.refl,⟨hst▸hok.step s hinv w hmem,by simp;exact hlen',by simp;omega,?_⟩,?_,⟨rfl,rfl,rfl,rfl,rfl,rfl,?_,trivial⟩,⟨rfl,rfl,?_,rfl,rfl,rfl,rfl,rfl,trivial⟩,⟨fun j=>rfl,trivial⟩⟩
 ·show dX p pk budget (budget.toNat+1 - (tr++[st.2]).length) st.1 (tr++[st.2]) (tk++[kk])=_
  rw[show budget.toNat+1 - (tr++[st.2]).length=budget.toNat - tr.length by simp]
  exact hrun2
 ·show budget.toNat - (tr++[st.2]).length<budget.toNat - tr.length
  simp;omega
 ·show AV.d (.int .i64 (IntKind.i64.wrap ((tr.length:Int)+1)))=i64 ((tr++[st.2]).length:Nat)
  rw[ew]
 ·show some (Ob.vs 46 ([i64 0,.ref (.n 12) 0 (tr.length+1),.ref (.n 13) 0 (tk.length+1)]++stRef st.1))=some (Ob.vs 46 ([i64 0,.ref (.n 12) 0 (tr++[st.2]).length,.ref (.n 13) 0 (tk++[kk]).length]++stRef st.1))
  rw[List.length_append,List.length_append]
  rfl
end Ai
namespace Ai
set_option maxRecDepth 100000
open Go Go.Proofs
def pkP (picks:List Int) (en:List Nat) (n:Nat):Int:=if n<picks.length then (picks.getD n 0).tmod en.length else 0
theorem pickP_ok (picks:List Int) (hl:picks.length≤1048576) (en:List Nat) (n:Nat) (he:en≠[]):CallsTo EE 220 [sl (en.map vH),i64 n,.fp [.sl (picks.map encInt)]] (·=i64 (pkP picks en n)):=by
 refine callsTo_of_AW (fn:=Tryz.f220) Tryz.func220 rfl (by kernel_rfl) rfl ?_
 have hep:0<en.length:=List.length_pos_iff.2 he
 conv=>whnf
 refine kbi (fun h=>?_) (fun h=>?_)
 ·have h:picks.length≤n:=by simpa using h
  conv=>whnf
  unfold pkP
  rw[if_neg (by omega)]
 ·have h:n<picks.length:=by simpa using h
  conv=>whnf
  refine⟨encInt picks[n],⟨by omega,by simp[h],rfl⟩,?_⟩
  conv=>whnf
  refine⟨by simp;omega,?_⟩
  conv=>whnf
  unfold pkP
  rw[if_pos h]
  simp[List.getD_eq_getElem?_getD,h]
  try rfl
theorem pkP_in {picks:List Int} (h0:∀ i∈picks,0≤i) (en:List Nat) (n:Nat) (he:en≠[]):0≤pkP picks en n∧pkP picks en n<en.length:=by
 have hep:0<en.length:=List.length_pos_iff.2 he
 unfold pkP
 split
 ·rename_i h
  have hp:0≤picks.getD n 0:=by
   rw[List.getD_eq_getElem?_getD,List.getElem?_eq_getElem h]
   exact h0 _ (List.getElem_mem h)
  exact⟨Int.tmod_nonneg _ hp,Int.tmod_lt_of_pos _ (by omega)⟩
 ·omega
theorem ownRun_flat (x:Int × List Ev × List Int × StL) (b:Bool):nY (.ownF 8 (nQ x++[bv b])):=by
 intro c hc
 rcases List.mem_append.1 hc with h|h
 ·rcases List.mem_append.1 h with h|h
  ·simp only[List.mem_cons,List.not_mem_nil,or_false] at h
   rcases h with rfl|rfl|rfl
   ·rfl
   ·intro c hc
    obtain⟨y,_,rfl⟩:=List.mem_map.1 hc;rfl
   ·intro c hc
    obtain⟨y,_,rfl⟩:=List.mem_map.1 hc;rfl
  ·exact nP x.2.2.2 c h
 ·simp only[List.mem_cons,List.not_mem_nil,or_false] at h
  subst h;rfl
theorem fz_runS {S:St} {c:Int} {tr:List Ev} {tk:List Int} {s:StL} (h1:S.H (.n 901)=some (.ds 105 5 (tr.map encEv))) (h2:S.H (.n 902)=some (.ds 3 1 (tk.map encInt))) (h3:S.H (.n 903)=some (.rs 158 6 (thRows 903 s.ths)))
  (hf:∀ j,(h:j<s.ths.length)→S.H (.s 903 j)=some (.ds 74 1 (stk s.ths[j]))) (h4:S.H (.n 904)=some (.ds 74 1 (s.cells.map encF))) (h5:S.H (.n 905)=some (.ds 3 1 (s.owner.map encInt))) {a b d f g:Nat} (ha:a=tr.length) (hb:b=tk.length) (hd:d=s.ths.length) (hff:f=s.cells.length) (hg:g=s.owner.length) :
  FzC S [i64 c,.ref (.n 901) 0 a,.ref (.n 902) 0 b,.dref (.n 903) d,.ref (.n 904) 0 f,.ref (.n 905) 0 g,i64 s.fault] (lM c tr tk s):=by
 subst ha hb
 refine⟨di c,_,rfl,rfl,.sl (tr.map encEv),_,rfl,?_,.sl (tk.map encInt),_,rfl,?_,iY (o:=903) (s:=s) ⟨h3,hf,h4,h5⟩ hd hff hg⟩
 ·simp[FzD,fz1,h1,List.take_of_length_le]
 ·simp[FzD,fz1,h2,List.take_of_length_le]
theorem runK_L (p:ProgL) (picks:List Int) (budget:Int):∀ (n:Nat) (s:StL) (tr:List Ev) (tk:List Int),tr.length=tk.length →
  lM (dX p (pkP picks) budget n s tr tk).1 (dX p (pkP picks) budget n s tr tk).2.1 (dX p (pkP picks) budget n s tr tk).2.2.1 (dX p (pkP picks) budget n s tr tk).2.2.2=bI p picks budget n s tr tk
 | 0,s,tr,tk,h=>rfl
 |n+1,s,tr,tk,h=>by
  have hpk:pkP picks (zA p s) tr.length=vB picks tk (zA p s).length:=by
   unfold pkP vB
   rw[h]
  by_cases hc:xF p s tr.length budget=0
  ·simp only[dX,bI,hc]
   rw[if_neg (by simp),if_neg (by decide)]
   rw[hpk]
   exact runK_L p picks budget n _ _ _ (by simp[h])
  ·have:=codeL_nn p s tr.length budget
   simp only[dX,bI]
   rw[if_pos hc,if_pos (by omega)]
theorem r3 (hI:yV) (p:ProgL) (hp:p.wf) (h1:InR p.cells 0 1048576) (h2:InR p.locks 0 1048576) (Inv:StL→Prop) (hI0:Inv (xC p)) (hok:RunI p Inv) (picks:List Int) (budget:Int) (hpk:∀ i∈picks,0≤i) (hl:picks.length≤1048576) (hb:InR budget 0 1048576) :
  CallsTo EE 175 [agg (encProg p),sl (picks.map encInt),i64 budget] (·=agg (bI p picks budget (budget.toNat+1) (xC p) [] [])):=by
 refine callsTo_of_AW (fn:=Tryz.f175) Tryz.func175 rfl (by kernel_rfl) rfl ?_
 conv=>whnf
 refine .inl ⟨_,runI_ok hI p hp h1 h2 Inv hI0 hok budget hb 220 [.sl (picks.map encInt)] (pkP picks) (fun en n he=>pickP_ok picks hl en n he) (fun en n he=>pkP_in hpk en n he),?_⟩
 rintro r rfl
 refine⟨ownRun_flat _ _,?_⟩
 rw[← runK_L p picks budget _ _ _ _ rfl]
 generalize dX p (pkP picks) budget (budget.toNat+1) (xC p) [] []=x
 obtain⟨c,tr,tk,s⟩:=x
 conv=>whnf
 refine .inr ?_
 conv=>whnf
 refine .inl ⟨agg (lM c tr tk s),⟨lM c tr tk s,rfl,fz_runS (c:=c) (tr:=tr) (tk:=tk) (s:=s) rfl rfl ?_ (fun j hj=>?_) rfl rfl ?_ ?_ ?_ ?_ ?_⟩,rfl⟩
 ·conv=>lhs;whnf
  refine congrArg some ?_
  repeat (first|exact rfl|refine yM ?_ (congrArg (Ob.rs 158 6) (zR fun _ _=>rfl)))
 ·have e:ownH (nQ (c,tr,tk,s)++[bv true]) (.s 903 j)=some (.ds 74 1 (stk s.ths[j])):=by
   show((s.ths.map stk)[j]?).map (Ob.ds 74 1)=_
   simp[hj]
  show Option.map (sN (.n 7)) (match ownH (nQ (c,tr,tk,s)++[bv true]) (.s 903 j) with|some ob=>some ob|none=>_)=_
  rw[e]
  rfl
 ·simp
 ·simp
 ·simp
 ·simp
 ·simp
end Ai
namespace Ai
set_option maxRecDepth 100000
open Go Go.Proofs Ieee
theorem order_symm {x y:Nat}:double.order x y=some .eq↔double.order y x=some .eq:=by
 have key:∀ {x y:Nat},double.order x y=some .eq→double.order y x=some .eq:=by
  intro x y h
  unfold Format.order at *
  cases hx:double.read x with
  |nan s f=>rw[hx] at h;cases h
  |infinity s =>
   cases hy:double.read y with
   |nan t f=>rw[hx,hy] at h;cases h
   |infinity t=>rw[hx,hy] at h;cases s <;> cases t <;> first|rfl|cases h
   |number t n i=>rw[hx,hy] at h;cases s <;> cases h
  |number s m e =>
   cases hy:double.read y with
   |nan t f=>rw[hx,hy] at h;cases h
   |infinity t=>rw[hx,hy] at h;cases t <;> cases h
   |number t n i =>
    rw[hx,hy] at h
    simp only[Datum.order,Option.some.injEq] at h ⊢
    have h:=Std.LawfulEqCmp.eq_of_compare h
    rw[Int.min_comm i e,h]
    exact Std.ReflCmp.compare_self
 exact⟨key,key⟩
theorem eql_symm {x y:Nat}:fcmp .eql x y=fcmp .eql y x:=by
 have:∀ a b:Nat,fcmp .eql a b=true↔double.order a b=some .eq:=fun a b=>by simp[fcmp]
 rw[Bool.eq_iff_iff,this,this]
 exact order_symm
theorem near_cut:(List.range 1001).all (fun q=>canon (double.nearest false q 0)==FloatKind.f64.nearest (q:Int))=true:=by decide +kernel
theorem near_cut' {q:Nat} (h:q≤1000):canon (double.nearest false q 0)=FloatKind.f64.nearest (q:Int):=by
 have:=near_cut
 simp only[List.all_eq_true,List.mem_range,beq_iff_eq] at this
 exact this q (by omega)
theorem inI56_ok (n lo hi:Int):CallsTo EE 76 [i64 n,i64 lo,i64 hi] (·=bp (InR n lo hi)):=by
 refine callsTo_of_AW (fn:=Tryz.f76) Tryz.func76 rfl (by kernel_rfl) rfl ?_
 conv=>whnf
 repeat' (refine kbi (fun h=>?_) (fun h=>?_) <;> first|contradiction|conv=>whnf)
 all_goals simp only[decide_eq_true_eq] at *
 all_goals first|exact bpt (by unfold InR;omega)|exact bpf (by unfold InR;omega)
theorem iN {x:Nat} {many n:Int} (h1:1≤many∧many≤1000) (hx0:fcmp .lss x 0=false) (hxm:fcmp .lss x (FloatKind.f64.nearest many)=true) (hn:floatToIntVal .f64 x .i64=some n) (hr:0≤n∧n<many) :
  (wX x=2∨wX x=3)↔fcmp .eql (FloatKind.f64.nearest n) x=true:=by
 have hdec:FloatKind.f64.decode x=double.read x:=rfl
 unfold floatToIntVal at hn
 rw[hdec] at hn
 have z0:FloatKind.f64.nearest 0=0:=by decide
 unfold wX
 cases hd:double.read x with
 |nan s f =>
  rw[hd] at hn;cases hn
 |infinity s=>rw[hd] at hn;cases hn
 |number s m i =>
  have hnan:¬ zY x=true:=by unfold zY;rw[hd];simp[Datum.isNaN]
  rw[if_neg hnan]
  rw[hd] at hn
  simp only[Datum.toInt,Datum.integral] at hn
  simp only
  have hcut0:m=0→Toward.cut .zero s (m <<< i.toNat) (-i).toNat=0:=by
   rintro rfl
   rw[oI];simp
  by_cases e0:fcmp .eql x 0=true
  ·rw[if_pos e0]
   have hm:m=0:=by
    have o:double.order x 0=some .eq:=by simpa[fcmp] using e0
    unfold Format.order at o
    rw[hd,fR] at o
    simp only[Datum.order,Option.some.injEq] at o
    have o:=Std.LawfulEqCmp.eq_of_compare o
    simp only[signed,Nat.shiftLeft_eq] at o
    have:0<2 ^ (i - min i double.leastPlace).toNat:=Nat.pow_pos (by decide)
    have o2:m*2 ^ (i - min i double.leastPlace).toNat=0:=by
     simp only[Nat.zero_mul] at o
     generalize m*2 ^ (i - min i double.leastPlace).toNat=u at o ⊢
     cases s <;> simp at o <;> omega
    rcases Nat.mul_eq_zero.1 o2 with e|e
    ·exact e
    ·omega
   have hn0:n=0:=by
    rw[hcut0 hm] at hn
    split at hn
    ·simp only[Option.some.injEq] at hn
     rw[← hn]
     cases s <;> rfl
    ·cases hn
   subst hn0
   rw[z0,eql_symm,e0]
   simp
  ·rw[if_neg e0]
   have hs:s=false:=by
    cases s with
    |false=>rfl
    |true =>
     exfalso
     have o:double.order x 0≠some .lt:=by simpa[fcmp] using hx0
     have o2:double.order x 0≠some .eq:=by simpa[fcmp] using e0
     unfold Format.order at o o2
     rw[hd,fR] at o o2
     simp only[Datum.order,Option.some.injEq,ne_eq] at o o2
     rw[cmp_lt] at o
     simp only[signed,if_true,Nat.shiftLeft_eq,Nat.zero_mul] at o o2
     by_cases hm:m=0
     ·subst hm;simp at o2;try exact o2 rfl
     ·have:0<m*2 ^ (i - min i double.leastPlace).toNat:=Nat.mul_pos (by omega) (Nat.pow_pos (by decide))
      generalize m*2 ^ (i - min i double.leastPlace).toNat=u at o o2 this
      simp at o
      omega
   subst hs
   generalize hq:Toward.cut .zero false (m <<< i.toNat) (-i).toNat=q at *
   have hnq:n=(q:Int):=by
    split at hn
    ·simp only[Option.some.injEq] at hn
     rw[← hn]
     show((q <<< 0:Nat):Int)=q
     rw[Nat.shiftLeft_zero]
    ·cases hn
   have ht:nG x=FloatKind.f64.nearest n:=by
    unfold nG
    rw[hd]
    simp only[Datum.integral,hq,Format.write]
    rw[hnq,near_cut' (by omega)]
   rw[ht,eql_symm]
   by_cases h:fcmp .eql (FloatKind.f64.nearest n) x=true
   ·rw[if_pos h];simp[h]
   ·rw[if_neg h];simp[h]
theorem kind_nan {x:Nat} (h:wX x=2∨wX x=3):zY x=false:=by
 cases hn:zY x with
 |false=>rfl
 |true =>
  exfalso
  have:wX x=0:=by unfold wX;rw[if_pos hn]
  omega
theorem geq_lss {x y:Nat} (h:fcmp .geq x y=true) (e:fcmp .lss x y=true):False:=by
 have h:(double.order x y==some .gt || double.order x y==some .eq)=true:=h
 have e:(double.order x y==some .lt)=true:=e
 simp only[Bool.or_eq_true,beq_iff_eq] at h e
 rw[e] at h
 rcases h with h|h <;> cases h
theorem cD {x:Nat} {many:Int} (h1:InR many 1 1000) (hn:zY x=false) (h:fcmp .geq x (FloatKind.f64.nearest many)=false):fcmp .lss x (FloatKind.f64.nearest many)=true:=by
 obtain⟨b,rfl⟩:∃ b:Nat,many=(b:Int):=⟨many.toNat,by have:=h1.1;omega⟩
 obtain⟨k,hk⟩:=mI (m:=b) (by have:=h1.1;omega) (by have:=h1.2;omega)
 have h:(double.order x (FloatKind.f64.nearest (b:Int))==some .gt || double.order x (FloatKind.f64.nearest (b:Int))==some .eq)=false:=h
 show(double.order x (FloatKind.f64.nearest (b:Int))==some .lt)=true
 obtain⟨c,hc⟩:∃ c,double.order x (FloatKind.f64.nearest (b:Int))=some c:=by
  unfold Format.order
  rw[hk]
  unfold zY at hn
  cases hd:double.read x with
  |nan s f=>rw[hd] at hn;cases hn
  |infinity s=>exact⟨_,rfl⟩
  |number s m e=>exact⟨_,rfl⟩
 rw[hc] at h ⊢
 cases c with
 |lt=>rfl
 |eq=>cases h
 |gt=>cases h
theorem idx_none {x:Nat} {many:Int} (hk:¬ (wX x=2∨wX x=3)):yX x many=none:=by
 unfold yX
 split
 ·rename_i hc
  obtain⟨n,g1,g2,g3⟩:=rK x many hc.1.1 hc.1.2 hc.2.1 hc.2.2
  rw[g1]
  simp only
  rw[if_neg]
  intro e
  exact hk ((iN hc.1 hc.2.1 hc.2.2 g1 ⟨g2,g3⟩).2 e)
 ·rfl
theorem toIndexI:yV:=by
 intro x many
 refine callsTo_of_AW (fn:=Tryz.f224) Tryz.func224 rfl (by kernel_rfl) rfl ?_
 conv=>whnf
 refine⟨_,n4 x,?_⟩
 rintro r rfl
 conv=>whnf
 refine ocase (inI56_ok _ _ _) (fun h1=>?_) (fun h1=>?_)
 ·conv=>whnf
  refine kbi (fun k2=>?_) (fun k2=>?_)
  ·have k2:¬ wX x=2:=by simpa using k2
   conv=>whnf
   refine kbi (fun k3=>?_) (fun k3=>?_)
   ·have k3:¬ wX x=3:=by simpa using k3
    conv=>whnf
    rw[idx_none (by omega)]
    rfl
   have hk:wX x=2∨wX x=3:=.inr (by simpa using k3)
   conv=>whnf
   refine kbi (fun hx0=>?_) (fun hx0=>?_)
   ·have hx0:fcmp .lss x 0=true:=hx0
    conv=>whnf
    rw[show yX x many=none by unfold yX;rw[if_neg];rintro⟨_,e,_⟩;rw[hx0] at e;cases e]
    rfl
   have hx0:fcmp .lss x 0=false:=by
    have hx0:¬ fcmp .lss x 0=true:=hx0
    simpa using hx0
   conv=>whnf
   refine kbi (fun hg=>?_) (fun hg=>?_)
   ·have hg:fcmp .geq x (FloatKind.f64.nearest many)=true:=hg
    conv=>whnf
    rw[show yX x many=none by unfold yX;rw[if_neg];rintro⟨_,_,e⟩;exact geq_lss hg e]
    rfl
   have hg:fcmp .geq x (FloatKind.f64.nearest many)=false:=by
    have hg:¬ fcmp .geq x (FloatKind.f64.nearest many)=true:=hg
    simpa using hg
   have hxm:=cD h1 (kind_nan hk) hg
   obtain⟨n,g1,g2,g3⟩:=rK x many h1.1 h1.2 hx0 hxm
   have he:=(iN h1 hx0 hxm g1 ⟨g2,g3⟩).1 hk
   conv=>whnf
   refine⟨n,g1,?_⟩
   conv=>whnf
   rw[show yX x many=some n by unfold yX;rw[if_pos ⟨h1,hx0,hxm⟩,g1];simp only;rw[if_pos he]]
   rfl
  ·have hk:wX x=2∨wX x=3:=.inl (by simpa using k2)
   conv=>whnf
   refine kbi (fun hx0=>?_) (fun hx0=>?_)
   ·have hx0:fcmp .lss x 0=true:=hx0
    conv=>whnf
    rw[show yX x many=none by unfold yX;rw[if_neg];rintro⟨_,e,_⟩;rw[hx0] at e;cases e]
    rfl
   have hx0:fcmp .lss x 0=false:=by
    have hx0:¬ fcmp .lss x 0=true:=hx0
    simpa using hx0
   conv=>whnf
   refine kbi (fun hg=>?_) (fun hg=>?_)
   ·have hg:fcmp .geq x (FloatKind.f64.nearest many)=true:=hg
    conv=>whnf
    rw[show yX x many=none by unfold yX;rw[if_neg];rintro⟨_,_,e⟩;exact geq_lss hg e]
    rfl
   have hg:fcmp .geq x (FloatKind.f64.nearest many)=false:=by
    have hg:¬ fcmp .geq x (FloatKind.f64.nearest many)=true:=hg
    simpa using hg
   have hxm:=cD h1 (kind_nan hk) hg
   obtain⟨n,g1,g2,g3⟩:=rK x many h1.1 h1.2 hx0 hxm
   have he:=(iN h1 hx0 hxm g1 ⟨g2,g3⟩).1 hk
   conv=>whnf
   refine⟨n,g1,?_⟩
   conv=>whnf
   rw[show yX x many=some n by unfold yX;rw[if_pos ⟨h1,hx0,hxm⟩,g1];simp only;rw[if_pos he]]
   rfl
 ·conv=>whnf
  rw[show yX x many=none by unfold yX;rw[if_neg];rintro⟨e,_⟩;exact h1 e]
  rfl
end Ai
