import Derived.Test.YtdnffjbcmimnnaaGreatZE
set_option maxHeartbeats 8000000
set_option linter.unusedVariables false
set_option linter.unusedSimpArgs false
section
set_option maxRecDepth 100000
namespace Ai
open Go Go.Proofs
theorem u9 (s : StL) {p : Key → Bool} (h : (p (.n 900) || p (.n 901) || p (.n 902)) = false) : scrPL p ([] ++ stRef s) = [] ++ stRef s := by
 have := xM (E := 0) s h
 simpa [scrPO] using this
theorem spawn_vs0 {s s' : StL} {L : List AV} {v : AV} (hv : v = .dref (.n 900) s'.ths.length) (hL : L = [] ++ stRef s) (hc : s'.cells.length = s.cells.length) (ho : s'.owner.length = s.owner.length) (hf : s'.fault = s.fault) :
  yA (scrPL (isK (.n 900)) L) (0 + 0) [v] = [] ++ stRef s' := by
 subst hv hL
 simp only [stRef,List.cons_append,List.nil_append,scrPL,hc,ho,hf]
 rfl
theorem doI_preB0 (E : TypeId) (g : Nat → Option Ob) (hg : ∀ p j,(g j).map (scrPO p) = g j) (s : StL) (k : Nat) (o : OpL) (e : Ev) (hk : k < s.ths.length) (t : Th) (htk : (zA o.code).1 ≤ t.stack.length) (ht8 : t.stack.length ≤ 1048576) (hpc : InR t.pc 0 1048576)
  (τ : Nat → AV) (H : Key → Option Ob) (Q : AX → St → Prop) (K : St → Prop) (hK : ∀ s',At (doI1 0 k o t) (doIO E [] s k o e t (zC t o)) [(900,g)] s' → K s') :
  sU EE Tryz.f172.ntmps K Q 7 (Tryz.f172.body.getD .skip) (rJ [(0,.ptr (.l 0) 0),(1,i64 k),(2,agg (encOp o)),(3,agg (encEv e))] (rH [(.l 0,.vs E ([] ++ stRef s)),(.n 899,.ds 132 1 (stk t)),(.n 900,.rs 175 6 (rowsA s.ths k t)),(.n 901,.ds 132 1 (s.cells.map encF)),(.n 902,.ds 3 1 (s.owner.map encInt))] (fZ [(900,g)] ⟨τ,H⟩))) := by
 have ht : 0 ≤ (zA o.code).1 ∧ (zA o.code).1 ≤ 2 ∧ 0 ≤ (zA o.code).2 ∧ (zA o.code).2 ≤ 1 := by
  unfold zA; split
  ·decide
  ·split
   ·decide
   ·split <;> decide
 have e1 : (IntKind.i64.wrap ((t.stack.length : Int) - (zA o.code).1)) = (t.stack.length : Int) - (zA o.code).1 := zH (by omega) (by omega)
 have e2 : ((t.stack.length : Int) - (zA o.code).1).toNat = zT t o := by unfold zT xK; omega
 have allLen : ∀ a b : Nat,(((stk t).drop a).take b).all (fun c => c.length == 1) = true := by
  intro a b
  simp only [List.all_eq_true]
  intro x hx
  have hx := List.mem_of_mem_drop (List.mem_of_mem_take hx)
  obtain ⟨y,_,rfl⟩ := List.mem_map.1 hx
  rfl
 conv => whnf
 refine ⟨⟨by omega,by omega⟩,?_⟩
 conv => whnf
 refine ⟨_,mR o,?_⟩
 rintro r rfl
 conv => whnf
 refine ⟨yE t,⟨?_,by simp [yE]⟩,?_⟩
 ·repeat (first | exact zR hk | refine yY ?_ (zY rfl t))
 conv => whnf
 refine ⟨yE t,⟨?_,by simp [yE]⟩,?_⟩
 ·repeat (first | exact zR hk | refine yY ?_ (zY rfl t))
 conv => whnf
 rw [e1]
 have e3 : ((stk t).drop (0 + ((t.stack.length : Int) - (zA o.code).1).toNat)).take ((t.stack.length : Int).toNat - ((t.stack.length : Int) - (zA o.code).1).toNat) = (t.stack.drop (zT t o)).map encF := by
  rw [e2,Nat.zero_add,List.take_of_length_le (by simp [stk]),stk,List.map_drop]
 have hlen : (t.stack.drop (zT t o)).length ≤ 1048576 := by simp; omega
 rcases Int.lt_or_eq_of_le ht.1 with h0 | h0
 refine .inl ⟨⟨by omega,by omega,by omega,.inr (by omega)⟩,?_⟩
 conv => whnf
 refine .inl ⟨(· = .uq 132 1 ((t.stack.drop (zT t o)).map encF)),Eq.mp (congrArg (fun x => CallsTo EE 193 [sl x] _) e3.symm) (gQ (t.stack.drop (zT t o)) hlen),?_⟩
 rintro r rfl
 refine ⟨fun c hc => ?_,.inl ?_⟩
 ·obtain ⟨y,_,rfl⟩ := List.mem_map.1 hc
  rfl
 conv => whnf
 rotate_left 1
 refine .inr ⟨⟨by omega,by omega,by omega⟩,?_⟩
 conv => whnf
 refine ⟨(· = .uq 132 1 ((t.stack.drop (zT t o)).map encF)),Eq.mp (congrArg (fun x => CallsTo EE 193 [sl x] _) (by simp [zT,xK,← h0])) (gQ (t.stack.drop (zT t o)) hlen),?_⟩
 rintro r rfl
 refine .inl ?_
 conv => whnf
 all_goals
  refine ⟨yE t,⟨by repeat (first | exact zR hk | refine yY ?_ (zY rfl t)),by simp [yE]⟩,?_⟩
  conv => whnf
  refine .inl ⟨⟨by omega,by omega,by omega,.inl rfl⟩,?_⟩
  conv => whnf
  have e5 : ((t.stack.length : Int) - (zA o.code).1).toNat - (0 : Int).toNat = zT t o := by rw [e2]; rfl
  refine ⟨[i64 t.rt,i64 t.pc,i64 t.st,i64 t.cond,i64 t.lock,.ref (.n 899) 0 (zT t o)],⟨?_,by simp⟩,?_⟩
  ·refine wY (c := yE t) (by repeat (first | exact zR hk | refine yY ?_ (zY rfl t))) ?_
   conv => lhs; whnf
   rw [← e5]
   rfl
  conv => whnf
  refine hK _ ⟨?_,?_,?_⟩
  ·exact ⟨rfl,rfl,rfl,rfl,rfl,rfl,rfl,trivial⟩
  ·refine ⟨?_,rfl,rfl,rfl,rfl,?_,rfl,rfl,trivial⟩
   ·conv => lhs; whnf
    refine congrArg some ?_
    repeat (refine yK ?_ (xM s rfl))
    rfl
   ·conv => lhs; whnf
    refine congrArg (fun x => some (Ob.rs 175 6 x)) ?_
    have hkl : (t.stack.take (zT t o)).length = zT t o := by simp [zT]
    refine dB hk (dB hk (t := t) (t' := { t with stack := t.stack.take (zT t o) }) (by repeat (first | rfl | refine Eq.trans (congrArg (List.map (scrPL _)) ?_) (uA rfl (fun _ => rfl) _ _ _))) ?_) ?_
    ·show [_,_,_,_,_,AV.ref (.n 899) 0 (((t.stack.length : Int) - (zA o.code).1).toNat - (0 : Int).toNat)] = [_,_,_,_,_,AV.ref (.n 899) 0 (t.stack.take (zT t o)).length]
     rw [e5,hkl]
    ·show [_,AV.d (.int .i64 (IntKind.i64.wrap (t.pc + 1))),_,_,_,AV.ref (.n 899) 0 (t.stack.take (zT t o)).length] = [_,i64 (t.pc + 1),_,_,_,AV.ref (.n 899) 0 (t.stack.take (zT t o)).length]
     rw [zH (by have := hpc.1; omega) (by have := hpc.2; omega)]
     rfl
  ·refine ⟨fun j => ?_,trivial⟩
   repeat (first | exact rfl | refine hscrO ?_ (hg _ _) | conv => lhs; whnf)
theorem doI_swB0 (hI : yS) (E : TypeId) (g : Nat → Option Ob) (hg : ∀ p j,(g j).map (scrPO p) = g j) (s : StL) (k : Nat) (o : OpL) (e : Ev) (hk : k < s.ths.length) (h5 : s.ths.length ≤ 5) (hgj : ∀ j,j ≠ k → g j = zV s.ths j)
  (hs : s.small) (ho : o.fits s s.ths[k]) (hpc : InR s.ths[k].pc 0 1048576) (hst3 : s.ths[k].st ≠ 3) (he : e.kind = 1) (hel : e.lock = -1) (hfl : ∀ x ∈ s.ths[k].stack,x < 18446744073709551616) (hjo : o.code = 15 → ∃ j,yQ (yM s.ths[k] o 0) s.ths.length = some j ∧ zW s s.ths[k] = some j)
  (Q : AX → St → Prop) (K : St → Prop) (S : St) (hS : At (doI1 0 k o s.ths[k]) (doIO E [] s k o e s.ths[k] (zC s.ths[k] o)) [(900,g)] S) (hK : ∀ S',DoI2 E [] g k (doL s k o e).1 (doL s k o e).2 S' → K S') :
  sU EE Tryz.f172.ntmps K Q 1 (dropC 7 (Tryz.f172.body.getD .skip)) S := by
 have hst := hs.2.1 _ (List.getElem_mem hk)
 have hgd : s.ths.getD k th0 = s.ths[k] := by simp [List.getD_eq_getElem?_getD,hk]
 generalize ht0 : s.ths[k] = t at *
 obtain ⟨τ,H,rfl⟩ := hS.form
 clear hS
 obtain ⟨o1,o2,o3,o4,o5⟩ := ho
 obtain ⟨eth,ekind,eobj,elock,epc⟩ := e
 have he : ekind = 1 := he
 subst he
 have hel : elock = -1 := hel
 subst hel
 have hkn : zT t o ≤ t.stack.length := Nat.sub_le _ _
 have hkl : (t.stack.take (zT t o)).length = zT t o := by simp; omega
 have hpl : (zC t o).stack.length = zT t o := hkl
 conv => whnf
 refine kbi (fun hc => ?_) (fun hc => ?_)
 ·have hc : o.code = 1 := by simpa using hc
  conv => whnf
  refine .inr (.inr (.inr ⟨[0],by kernel_rfl,8,[],?_⟩))
  conv => whnf
  refine ⟨yE (zC t o),⟨by repeat (first | exact zR hk | refine yY ?_ (zY rfl _)),by simp [yE]⟩,?_⟩
  conv => whnf
  refine ⟨by kernel_rfl,?_⟩
  conv => whnf
  refine ⟨⟨rfl,by rw [hpl]; simp; omega,by rw [hpl]; simp; omega⟩,?_⟩
  conv => whnf
  have hd : doL s k o ⟨eth,1,eobj,-1,epc⟩ = (s.put k (zN (zC t o) o.v),⟨eth,1,eobj,-1,epc⟩) := by unfold doL; rw [hgd]; simp [hc]
  rw [hd] at hK
  dsimp only at hK
  refine hK _ (.inl ⟨zN (zC t o) o.v,s.ths,stk (zN (zC t o) o.v),hk,rfl,hgj,qV _,by simp [StL.put],⟨rfl,rfl,trivial⟩,⟨?_,?_,rfl,?_,?_,?_,?_,trivial⟩,⟨fun j => ?_,trivial⟩⟩)
  ·rw [show stRef _ = stRef s by simp [stRef,StL.put]]
   conv => lhs; whnf
   all_goals (
    refine congrArg some ?_
    repeat (refine yK ?_ (xM s rfl))
    all_goals rfl)
  ·rfl
  ·conv => lhs; whnf
   show some (Ob.ds 132 1 _) = some (Ob.ds 132 1 _)
   simp [stk,zN,zC,encF]
  ·conv => lhs; whnf
   all_goals (
    refine congrArg (fun x => some (Ob.rs 175 6 x)) ?_
    apply vI
    ·repeat (first | exact rfl | apply xR hk | apply xQ (fun _ => rfl))
    ·show [_,_,_,_,_,AV.ref (.n 899) 0 ((zC t o).stack.length + 1)] = _
     simp [yE,zN]
     exact ⟨rfl,rfl,rfl,rfl,rfl⟩)
  ·rfl
  ·rfl
  ·repeat (first | exact rfl | refine hscrO ?_ (hg _ _) | conv => lhs; whnf)
 have n1 : ¬ o.code = 1 := by simpa using hc
 clear hc
 conv => whnf
 refine kbi (fun hc => ?_) (fun hc => ?_)
 ·have hc : o.code = 2 := by simpa using hc
  have hr := o2 (.inl hc)
  conv => whnf
  refine .inr (.inl ⟨4,[],?_⟩)
  conv => whnf
  refine ⟨by kernel_rfl,?_⟩
  conv => whnf
  refine .inr (.inr (.inr ⟨[0],by kernel_rfl,14,[],?_⟩))
  conv => whnf
  refine ⟨yE (zC t o),⟨by repeat (first | exact zR hk | refine yY ?_ (zY rfl _)),by simp [yE]⟩,?_⟩
  conv => whnf
  refine ⟨⟨by omega,by omega⟩,?_⟩
  conv => whnf
  refine ⟨encF (s.cells.getD o.a.toNat 0),⟨by rw [Nat.zero_add]; exact cE hr,by simp [encF]⟩,?_⟩
  conv => whnf
  refine ⟨by kernel_rfl,?_⟩
  conv => whnf
  refine ⟨⟨rfl,by rw [hpl]; simp; omega,by rw [hpl]; simp; omega⟩,?_⟩
  conv => whnf
  have hd : doL s k o ⟨eth,1,eobj,-1,epc⟩ = (s.put k (zN (zC t o) (s.cells.getD o.a.toNat 0)),⟨eth,2,o.a,(-1),epc⟩) := by unfold doL; rw [hgd]; simp [hc]
  rw [hd] at hK
  dsimp only at hK
  refine hK _ (.inl ⟨zN (zC t o) (s.cells.getD o.a.toNat 0),s.ths,stk (zN (zC t o) (s.cells.getD o.a.toNat 0)),hk,rfl,hgj,qV _,by simp [StL.put],⟨rfl,rfl,trivial⟩,⟨?_,?_,rfl,?_,?_,?_,?_,trivial⟩,⟨fun j => ?_,trivial⟩⟩)
  ·rw [show stRef _ = stRef s by simp [stRef,StL.put]]
   conv => lhs; whnf
   all_goals (
    refine congrArg some ?_
    repeat (refine yK ?_ (xM s rfl))
    all_goals rfl)
  ·rfl
  ·conv => lhs; whnf
   show some (Ob.ds 132 1 _) = some (Ob.ds 132 1 _)
   simp [stk,zN,zC,encF]
  ·conv => lhs; whnf
   all_goals (
    refine congrArg (fun x => some (Ob.rs 175 6 x)) ?_
    apply vI
    ·repeat (first | exact rfl | apply xR hk | apply xQ (fun _ => rfl))
    ·show [_,_,_,_,_,AV.ref (.n 899) 0 ((zC t o).stack.length + 1)] = _
     simp [yE,zN]
     exact ⟨rfl,rfl,rfl,rfl,rfl⟩)
  ·rfl
  ·rfl
  ·repeat (first | exact rfl | refine hscrO ?_ (hg _ _) | conv => lhs; whnf)
 have n2 : ¬ o.code = 2 := by simpa using hc
 clear hc
 conv => whnf
 refine kbi (fun hc => ?_) (fun hc => ?_)
 ·have hc : o.code = 3 := by simpa using hc
  have hr := o2 (.inr hc)
  have htk : xK o = 1 := by simp [xK,zA,hc]
  conv => whnf
  refine .inr (.inl ⟨4,[],?_⟩)
  conv => whnf
  refine ⟨by kernel_rfl,?_⟩
  conv => whnf
  refine .inr (.inl ⟨9,[],?_⟩)
  conv => whnf
  refine ⟨encF (yM t o 0),⟨by omega,wO o5 (by omega),by simp [encF]⟩,?_⟩
  conv => whnf
  refine ⟨by kernel_rfl,?_⟩
  conv => whnf
  refine ⟨⟨by omega,by omega⟩,?_⟩
  conv => whnf
  have hd : doL s k o ⟨eth,1,eobj,-1,epc⟩ = ({ s with cells := s.cells.set o.a.toNat (yM t o 0) }.put k (zC t o),⟨eth,3,o.a,(-1),epc⟩) := by unfold doL; rw [hgd]; simp [hc]
  rw [hd] at hK
  dsimp only at hK
  refine hK _ (.inl ⟨zC t o,s.ths,stk t,hk,rfl,hgj,xI t o,by simp [StL.put],⟨rfl,rfl,trivial⟩,⟨?_,?_,rfl,?_,?_,?_,?_,trivial⟩,⟨fun j => ?_,trivial⟩⟩)
  ·rw [show stRef _ = stRef s by simp [stRef,StL.put]]
   conv => lhs; whnf
   all_goals (
    refine congrArg some ?_
    repeat (refine yK ?_ (xM s rfl))
    all_goals rfl)
  ·rfl
  ·rfl
  ·conv => lhs; whnf
   all_goals (
    refine congrArg (fun x => some (Ob.rs 175 6 x)) ?_
    apply vI
    ·repeat (first | exact rfl | apply xR hk | apply xQ (fun _ => rfl))
    ·rfl)
  ·conv => lhs; whnf
   show some (Ob.ds 132 1 ((s.cells.map encF).set (0 + o.a.toNat) (encF (yM t o 0)))) = some (Ob.ds 132 1 ((s.cells.set o.a.toNat (yM t o 0)).map encF))
   rw [Nat.zero_add,List.map_set]
  ·rfl
  ·repeat (first | exact rfl | refine hscrO ?_ (hg _ _) | conv => lhs; whnf)
 have n3 : ¬ o.code = 3 := by simpa using hc
 clear hc
 conv => whnf
 refine kbi (fun hc => ?_) (fun hc => ?_)
 ·have hc : o.code = 10 := by simpa using hc
  conv => whnf
  have hd : doL s k o ⟨eth,1,eobj,-1,epc⟩ = (s.put k ({ zC t o with pc := o.a }),⟨eth,1,eobj,-1,epc⟩) := by unfold doL; rw [hgd]; simp [hc]
  rw [hd] at hK
  dsimp only at hK
  refine hK _ (.inl ⟨({ zC t o with pc := o.a }),s.ths,stk t,hk,rfl,hgj,xI t o,by simp [StL.put],⟨rfl,rfl,trivial⟩,⟨?_,?_,rfl,?_,?_,?_,?_,trivial⟩,⟨fun j => ?_,trivial⟩⟩)
  ·rw [show stRef _ = stRef s by simp [stRef,StL.put]]
   conv => lhs; whnf
   all_goals (
    refine congrArg some ?_
    repeat (refine yK ?_ (xM s rfl))
    all_goals rfl)
  ·rfl
  ·rfl
  ·conv => lhs; whnf
   all_goals (
    refine congrArg (fun x => some (Ob.rs 175 6 x)) ?_
    apply vI
    ·repeat (first | exact rfl | apply xR hk | apply xQ (fun _ => rfl))
    ·rfl)
  ·rfl
  ·rfl
  ·repeat (first | exact rfl | refine hscrO ?_ (hg _ _) | conv => lhs; whnf)
 have n10 : ¬ o.code = 10 := by simpa using hc
 clear hc
 conv => whnf
 refine kbi (fun hc => ?_) (fun hc => ?_)
 ·have hc : o.code = 11 := by simpa using hc
  have htk : xK o = 1 := by simp [xK,zA,hc]
  conv => whnf
  refine ⟨encF (yM t o 0),⟨by omega,wO o5 (by omega),by simp [encF]⟩,?_⟩
  conv => whnf
  refine ocase (isNo_ok _) (fun hn => ?_) (fun hn => ?_)
  ·conv => whnf
   have hd : doL s k o ⟨eth,1,eobj,-1,epc⟩ = (s.put k ({ zC t o with pc := o.a }),⟨eth,1,eobj,-1,epc⟩) := by unfold doL; rw [hgd]; simp [hc]; rw [if_pos hn]
   rw [hd] at hK
   dsimp only at hK
   refine hK _ (.inl ⟨({ zC t o with pc := o.a }),s.ths,stk t,hk,rfl,hgj,xI t o,by simp [StL.put],⟨rfl,rfl,trivial⟩,⟨?_,?_,rfl,?_,?_,?_,?_,trivial⟩,⟨fun j => ?_,trivial⟩⟩)
   ·rw [show stRef _ = stRef s by simp [stRef,StL.put]]
    conv => lhs; whnf
    all_goals (
     refine congrArg some ?_
     repeat (refine yK ?_ (xM s rfl))
     all_goals rfl)
   ·rfl
   ·rfl
   ·conv => lhs; whnf
    all_goals (
     refine congrArg (fun x => some (Ob.rs 175 6 x)) ?_
     apply vI
     ·repeat (first | exact rfl | apply xR hk | apply xQ (fun _ => rfl))
     ·rfl)
   ·rfl
   ·rfl
   ·repeat (first | exact rfl | refine hscrO ?_ (hg _ _) | conv => lhs; whnf)
  ·conv => whnf
   have hd : doL s k o ⟨eth,1,eobj,-1,epc⟩ = (s.put k (zC t o),⟨eth,1,eobj,-1,epc⟩) := by unfold doL; rw [hgd]; simp [hc]; rw [if_neg hn]
   rw [hd] at hK
   dsimp only at hK
   refine hK _ (.inl ⟨zC t o,s.ths,stk t,hk,rfl,hgj,xI t o,by simp [StL.put],⟨rfl,rfl,trivial⟩,⟨?_,?_,rfl,?_,?_,?_,?_,trivial⟩,⟨fun j => ?_,trivial⟩⟩)
   ·rw [show stRef _ = stRef s by simp [stRef,StL.put]]
    conv => lhs; whnf
    all_goals (
     refine congrArg some ?_
     repeat (refine yK ?_ (xM s rfl))
     all_goals rfl)
   ·rfl
   ·rfl
   ·conv => lhs; whnf
    all_goals (
     refine congrArg (fun x => some (Ob.rs 175 6 x)) ?_
     apply vI
     ·repeat (first | exact rfl | apply xR hk | apply xQ (fun _ => rfl))
     ·rfl)
   ·rfl
   ·rfl
   ·repeat (first | exact rfl | refine hscrO ?_ (hg _ _) | conv => lhs; whnf)
 have n11 : ¬ o.code = 11 := by simpa using hc
 clear hc
 conv => whnf
 refine kbi (fun hc => ?_) (fun hc => ?_)
 ·have hc : o.code = 12 := by simpa using hc
  have hr := o3 (.inl hc)
  conv => whnf
  refine .inr (.inl ⟨4,[],?_⟩)
  conv => whnf
  refine ⟨by kernel_rfl,?_⟩
  conv => whnf
  refine .inr (.inl ⟨7,[],?_⟩)
  conv => whnf
  refine ⟨by kernel_rfl,?_⟩
  conv => whnf
  refine ⟨⟨by omega,by omega⟩,?_⟩
  conv => whnf
  have hd : doL s k o ⟨eth,1,eobj,-1,epc⟩ = ({ s with owner := s.owner.set o.a.toNat ((k : Nat) : Int) }.put k (zC t o),⟨eth,4,o.a,(-1),epc⟩) := by unfold doL; rw [hgd]; simp [hc]
  rw [hd] at hK
  dsimp only at hK
  refine hK _ (.inl ⟨zC t o,s.ths,stk t,hk,rfl,hgj,xI t o,by simp [StL.put],⟨rfl,rfl,trivial⟩,⟨?_,?_,rfl,?_,?_,?_,?_,trivial⟩,⟨fun j => ?_,trivial⟩⟩)
  ·rw [show stRef _ = stRef s by simp [stRef,StL.put]]
   conv => lhs; whnf
   all_goals (
    refine congrArg some ?_
    repeat (refine yK ?_ (xM s rfl))
    all_goals rfl)
  ·rfl
  ·rfl
  ·conv => lhs; whnf
   all_goals (
    refine congrArg (fun x => some (Ob.rs 175 6 x)) ?_
    apply vI
    ·repeat (first | exact rfl | apply xR hk | apply xQ (fun _ => rfl))
    ·rfl)
  ·rfl
  ·conv => lhs; whnf
   show some (Ob.ds 3 1 ((s.owner.map encInt).set (0 + o.a.toNat) (encInt ((k : Nat) : Int)))) = some (Ob.ds 3 1 ((s.owner.set o.a.toNat ((k : Nat) : Int)).map encInt))
   rw [Nat.zero_add,List.map_set]
  ·repeat (first | exact rfl | refine hscrO ?_ (hg _ _) | conv => lhs; whnf)
 have n12 : ¬ o.code = 12 := by simpa using hc
 clear hc
 conv => whnf
 refine kbi (fun hc => ?_) (fun hc => ?_)
 ·have hc : o.code = 13 := by simpa using hc
  have hr := o3 (.inr hc)
  conv => whnf
  refine .inr (.inl ⟨4,[],?_⟩)
  conv => whnf
  refine ⟨by kernel_rfl,?_⟩
  conv => whnf
  refine .inr (.inl ⟨6,[],?_⟩)
  conv => whnf
  refine ⟨by kernel_rfl,?_⟩
  conv => whnf
  refine ⟨⟨by omega,by omega⟩,?_⟩
  conv => whnf
  have hd : doL s k o ⟨eth,1,eobj,-1,epc⟩ = ({ s with owner := s.owner.set o.a.toNat (-1) }.put k (zC t o),⟨eth,5,o.a,(-1),epc⟩) := by unfold doL; rw [hgd]; simp [hc]
  rw [hd] at hK
  dsimp only at hK
  refine hK _ (.inl ⟨zC t o,s.ths,stk t,hk,rfl,hgj,xI t o,by simp [StL.put],⟨rfl,rfl,trivial⟩,⟨?_,?_,rfl,?_,?_,?_,?_,trivial⟩,⟨fun j => ?_,trivial⟩⟩)
  ·rw [show stRef _ = stRef s by simp [stRef,StL.put]]
   conv => lhs; whnf
   all_goals (
    refine congrArg some ?_
    repeat (refine yK ?_ (xM s rfl))
    all_goals rfl)
  ·rfl
  ·rfl
  ·conv => lhs; whnf
   all_goals (
    refine congrArg (fun x => some (Ob.rs 175 6 x)) ?_
    apply vI
    ·repeat (first | exact rfl | apply xR hk | apply xQ (fun _ => rfl))
    ·rfl)
  ·rfl
  ·conv => lhs; whnf
   show some (Ob.ds 3 1 ((s.owner.map encInt).set (0 + o.a.toNat) (encInt (-1)))) = some (Ob.ds 3 1 ((s.owner.set o.a.toNat (-1)).map encInt))
   rw [Nat.zero_add,List.map_set]
  ·repeat (first | exact rfl | refine hscrO ?_ (hg _ _) | conv => lhs; whnf)
 have n13 : ¬ o.code = 13 := by simpa using hc
 clear hc
 conv => whnf
 refine kbi (fun hc => ?_) (fun hc => ?_)
 ·have hc : o.code = 14 := by simpa using hc
  conv => whnf
  refine .inr (.inl ⟨7,[],?_⟩)
  conv => whnf
  refine ⟨by kernel_rfl,?_⟩
  conv => whnf
  refine .inr (.inr (.inr ⟨[0],by kernel_rfl,12,[],?_⟩))
  conv => whnf
  refine ⟨yE (zC t o),⟨by repeat (first | exact zR hk | refine yY ?_ (zY rfl _)),by simp [yE]⟩,?_⟩
  conv => whnf
  refine ⟨by kernel_rfl,?_⟩
  conv => whnf
  refine ⟨⟨rfl,by rw [hpl]; simp; omega,by rw [hpl]; simp; omega⟩,?_⟩
  conv => whnf
  refine .inr (.inr (.inr ⟨[0],by kernel_rfl,9,[2715],?_⟩))
  conv => whnf
  refine ⟨_,kQ o.a,?_⟩
  conv => whnf
  refine ⟨by kernel_rfl,?_⟩
  conv => whnf
  refine ⟨⟨fun c hc' => ?_,?_,?_⟩,?_⟩
  ·have hc' : c ∈ [[i64 o.a,i64 0,i64 1,i64 (-1),i64 (-1),AV.ref (.n 905) 0 0]] := hc'
   simp only [List.mem_singleton] at hc'
   subst hc'; rfl
  ·show (s.ths.length + 1) * 64 ≤ _
   omega
  ·show s.ths.length + 1 ≤ _
   omega
  conv => whnf
  have hd : doL s k o ⟨eth,1,eobj,-1,epc⟩ = ({ s with ths := s.ths ++ [jF o.a] }.put k (zN (zC t o) (FloatKind.f64.nearest (s.ths.length : Int))),⟨eth,6,s.ths.length,(-1),epc⟩) := by unfold doL; rw [hgd]; simp [hc]
  rw [hd] at hK
  dsimp only at hK
  refine hK _ (.inr ⟨s.ths,zN (zC t o) (FloatKind.f64.nearest (s.ths.length : Int)),o.a,hk,?_,hgj,⟨rfl,rfl,trivial⟩,⟨?_,rfl,rfl,?_,?_,rfl,rfl,rfl,trivial⟩,⟨fun j => ?_,trivial⟩⟩)
  ·simp [StL.put,List.set_append_left _ _ hk]
  ·conv => lhs; whnf
   refine congrArg (fun x => some (Ob.vs E x)) ?_
   refine spawn_vs0 (s := s) ?_ ?_ rfl rfl rfl
   ·conv => lhs; whnf
    all_goals simp [StL.put]
   all_goals (
    repeat (refine hscrL ?_ (u9 s rfl))
    all_goals rfl)
  ·conv => lhs; whnf
   show some (Ob.ds 132 1 _) = some (Ob.ds 132 1 _)
   simp [stk,zN,zC,encF]
  ·conv => lhs; whnf
   refine congrArg (fun x => some (Ob.rs 175 6 x)) ?_
   refine sM rfl ?_ rfl rfl
   apply vI
   ·repeat (first | exact rfl | apply xR hk | apply xQ (fun _ => rfl))
   ·show [_,_,_,_,_,AV.ref (.n 899) 0 ((zC t o).stack.length + 1)] = _
    simp [yE,zN]
    exact ⟨rfl,rfl,rfl,rfl,rfl⟩
  ·repeat (first | exact rfl | refine hscrO ?_ (hg _ _) | conv => lhs; whnf)
 have n14 : ¬ o.code = 14 := by simpa using hc
 clear hc
 conv => whnf
 refine kbi (fun hc => ?_) (fun hc => ?_)
 ·have hc : o.code = 15 := by simpa using hc
  have htk : xK o = 1 := by simp [xK,zA,hc]
  obtain ⟨jj,hj1,hj2⟩ := hjo hc
  conv => whnf
  refine .inr (.inl ⟨14,[],?_⟩)
  conv => whnf
  refine ⟨encF (yM t o 0),⟨by omega,wO o5 (by omega),by simp [encF]⟩,?_⟩
  conv => whnf
  refine ⟨_,hI _ _,?_⟩
  conv => whnf
  refine ⟨by kernel_rfl,?_⟩
  conv => whnf
  have hd : doL s k o ⟨eth,1,eobj,-1,epc⟩ = (s.put k (zC t o),⟨eth,7,(zW s t).getD (-1),(-1),epc⟩) := by unfold doL; rw [hgd]; simp [hc]
  rw [hd] at hK
  dsimp only at hK
  refine hK _ (.inl ⟨zC t o,s.ths,stk t,hk,rfl,hgj,xI t o,by simp [StL.put],⟨rfl,rfl,trivial⟩,⟨?_,?_,rfl,?_,?_,?_,?_,trivial⟩,⟨fun j => ?_,trivial⟩⟩)
  ·rw [show stRef _ = stRef s by simp [stRef,StL.put]]
   conv => lhs; whnf
   all_goals (
    refine congrArg some ?_
    repeat (refine yK ?_ (xM s rfl))
    all_goals rfl)
  ·conv => lhs; whnf
   show some (Ob.vs 128 [i64 eth,i64 7,i64 ((yQ (yM t o 0) s.ths.length).getD 0),i64 (-1),i64 epc]) = some (Ob.vs 128 [i64 eth,i64 7,i64 ((zW s t).getD (-1)),i64 (-1),i64 epc])
   rw [hj1,hj2]
   rfl
  ·rfl
  ·conv => lhs; whnf
   all_goals (
    refine congrArg (fun x => some (Ob.rs 175 6 x)) ?_
    apply vI
    ·repeat (first | exact rfl | apply xR hk | apply xQ (fun _ => rfl))
    ·rfl)
  ·rfl
  ·rfl
  ·repeat (first | exact rfl | refine hscrO ?_ (hg _ _) | conv => lhs; whnf)
 have n15 : ¬ o.code = 15 := by simpa using hc
 clear hc
 conv => whnf
 refine kbi (fun hc => ?_) (fun hc => ?_)
 ·have hc : o.code = 16 := by simpa using hc
  have hr := o4 hc
  conv => whnf
  refine .inr (.inl ⟨8,[],?_⟩)
  conv => whnf
  refine ⟨by kernel_rfl,?_⟩
  conv => whnf
  refine .inr (.inl ⟨6,[],?_⟩)
  conv => whnf
  refine ⟨by kernel_rfl,?_⟩
  conv => whnf
  refine ⟨⟨by omega,by omega⟩,?_⟩
  conv => whnf
  refine ⟨yE (zC t o),⟨by repeat (first | exact zR hk | refine yY ?_ (zY rfl _)),by simp [yE]⟩,?_⟩
  conv => whnf
  refine .inr (.inr (.inr ⟨[0,1,2],by kernel_rfl,by kernel_rfl,by kernel_rfl,13,[],?_⟩))
  conv => whnf
  refine ⟨by kernel_rfl,?_⟩
  conv => whnf
  have hd : doL s k o ⟨eth,1,eobj,-1,epc⟩ = ({ s with owner := s.owner.set o.b.toNat (-1) }.put k ({ zC t o with st := 3,cond := o.a,lock := o.b,pc := (zC t o).pc - 1 }),⟨eth,8,o.a,o.b,epc⟩) := by unfold doL; rw [hgd]; simp [hc]
  rw [hd] at hK
  dsimp only at hK
  refine hK _ (.inl ⟨({ zC t o with st := 3,cond := o.a,lock := o.b,pc := (zC t o).pc - 1 }),s.ths,stk t,hk,rfl,hgj,xI t o,by simp [StL.put],⟨rfl,rfl,trivial⟩,⟨?_,?_,rfl,?_,?_,?_,?_,trivial⟩,⟨fun j => ?_,trivial⟩⟩)
  ·rw [show stRef _ = stRef s by simp [stRef,StL.put]]
   conv => lhs; whnf
   all_goals (
    refine congrArg some ?_
    repeat (refine yK ?_ (xM s rfl))
    all_goals rfl)
  ·rfl
  ·rfl
  ·conv => lhs; whnf
   all_goals (
    refine congrArg (fun x => some (Ob.rs 175 6 x)) ?_
    apply vI
    ·repeat (first | exact rfl | apply xR hk | apply xQ (fun _ => rfl))
    ·have ew : IntKind.i64.wrap (t.pc + 1 - 1) = t.pc + 1 - 1 := zH (by have := hpc.1; omega) (by have := hpc.2; omega)
     show [_,AV.d (.int .i64 (IntKind.i64.wrap (t.pc + 1 - 1))),_,_,_,_] = _
     rw [ew]
     rfl)
  ·rfl
  ·conv => lhs; whnf
   show some (Ob.ds 3 1 ((s.owner.map encInt).set (0 + o.b.toNat) (encInt (-1)))) = some (Ob.ds 3 1 ((s.owner.set o.b.toNat (-1)).map encInt))
   rw [Nat.zero_add,List.map_set]
  ·repeat (first | exact rfl | refine hscrO ?_ (hg _ _) | conv => lhs; whnf)
 have n16 : ¬ o.code = 16 := by simpa using hc
 clear hc
 conv => whnf
 refine kbi (fun hc => ?_) (fun hc => ?_)
 ·have hc : o.code = 17 := by simpa using hc
  have hcall : CallsTo EE 222 [sl ((s.ths.set k (zC t o)).map zE),.fn 223 [.fp (encOp o)]] (· = i64 (lA (wK s.ths o.a))) := by
   rw [← sA hk (t' := zC t o) o.a hst3 (by rw [ht0]; exact hst3)]
   exact kS _ (by simp; omega) 223 _ (.inr ⟨_,rfl⟩) (fun t => t.st == 3 && t.cond == o.a) (fun u _ => pF u o)
  conv => whnf
  refine .inr (.inl ⟨4,[],?_⟩)
  conv => whnf
  refine ⟨by kernel_rfl,?_⟩
  conv => whnf
  refine .inl ⟨[sl ((s.ths.set k (zC t o)).map zE),.fn 223 [.fp (encOp o)]],[],_,⟨_,_,rfl,⟨_,rfl,dR (l := s.ths) (k := k) (t := zC t o) (els := stk t) hk ?_ ?_ ?_ (xI t o)⟩,_,_,rfl,rfl,rfl⟩,rfl,hcall,?_⟩
  ·conv => lhs; whnf
   refine congrArg (fun x => some (Ob.rs 175 6 x)) ?_
   repeat (first | exact rfl | refine qA ?_ rfl (fun _ => rfl))
  ·intro j hj hjl
   refine Eq.trans (b := g j) ?_ ((hgj j hj).trans (by simp [zV,hjl]))
   repeat (first | exact rfl | refine hscrO ?_ (hg _ _) | conv => lhs; whnf)
  ·rfl
  rintro r rfl
  refine ⟨rfl,?_⟩
  cases hwk : wK s.ths o.a with
  |none =>
   conv => whnf
   refine kbi (fun hw => ?_) (fun hw => ?_)
   ·simp [lA] at hw
   conv => whnf
   have hd : doL s k o ⟨eth,1,eobj,-1,epc⟩ = (s.put k (zC t o),⟨eth,10,o.a,(-1),epc⟩) := by unfold doL; rw [hgd]; simp [hc,hwk]
   rw [hd] at hK
   dsimp only at hK
   refine hK _ (.inl ⟨zC t o,s.ths,stk t,hk,rfl,hgj,xI t o,by simp [StL.put],⟨rfl,rfl,trivial⟩,⟨?_,?_,rfl,?_,?_,?_,?_,trivial⟩,⟨fun j => ?_,trivial⟩⟩)
   ·rw [show stRef _ = stRef s by simp [stRef,StL.put]]
    conv => lhs; whnf
    all_goals (
     refine congrArg some ?_
     repeat (refine yK ?_ (xM s rfl))
     all_goals rfl)
   ·rfl
   ·rfl
   ·conv => lhs; whnf
    all_goals (
     refine congrArg (fun x => some (Ob.rs 175 6 x)) ?_
     apply vI
     ·repeat (first | exact rfl | apply xR hk | apply xQ (fun _ => rfl))
     ·rfl)
   ·rfl
   ·rfl
   ·repeat (first | exact rfl | refine hscrO ?_ (hg _ _) | conv => lhs; whnf)
  |some j =>
   obtain ⟨hjl,hj3,hjc⟩ := pC hwk
   have hjk : j ≠ k := by
    rintro rfl
    rw [ht0] at hj3; exact hst3 hj3
   conv => whnf
   refine kbi (fun hw => ?_) (fun hw => ?_)
   rotate_left 1
   ·simp [lA] at hw
   conv => whnf
   refine .inr (.inl ⟨6,[],?_⟩)
   conv => whnf
   have hd : doL s k o ⟨eth,1,eobj,-1,epc⟩ = ({ s with ths := s.ths.modify j fun u => { u with st := 4 } }.put k (zC t o),⟨eth,10,o.a,j,epc⟩) := by unfold doL; rw [hgd]; simp [hc,hwk]
   rw [hd] at hK
   dsimp only at hK
   refine ⟨by kernel_rfl,?_⟩
   conv => whnf
   refine ⟨⟨by show (0 : Int) ≤ (j : Int); omega,by show (j : Int) < s.ths.length; omega⟩,?_⟩
   conv => whnf
   refine hK _ (.inl ⟨zC t o,s.ths.modify j fun u => { u with st := 4 },stk t,by simpa using hk,rfl,fun i hi => (hgj i hi).trans (sI i).symm,xI t o,by simp [StL.put],⟨rfl,rfl,trivial⟩,⟨?_,?_,rfl,?_,?_,?_,?_,trivial⟩,⟨fun j => ?_,trivial⟩⟩)
   ·rw [show stRef _ = stRef s by simp [stRef,StL.put]]
    conv => lhs; whnf
    all_goals (
     refine congrArg some ?_
     repeat (refine yK ?_ (xM s rfl))
     all_goals rfl)
   ·rfl
   ·rfl
   ·conv => lhs; whnf
    all_goals (
     refine congrArg (fun x => some (Ob.rs 175 6 x)) ?_
     refine sQ hjl hjk ?_
     repeat (first | exact rfl | refine qA ?_ rfl (fun _ => rfl)))
   ·rfl
   ·rfl
   ·repeat (first | exact rfl | refine hscrO ?_ (hg _ _) | conv => lhs; whnf)
 have n17 : ¬ o.code = 17 := by simpa using hc
 clear hc
 conv => whnf
 have hcode : 4 ≤ o.code ∧ o.code ≤ 9 := by have := o1.1; have := o1.2; omega
 have htk : xK o = 2 := by simp only [xK,zA]; rw [if_neg (by omega),if_neg (by omega),if_pos hcode]; rfl
 refine .inr (.inr (.inr ⟨[0],by kernel_rfl,15,[],?_⟩))
 conv => whnf
 refine ⟨yE (zC t o),⟨by repeat (first | exact zR hk | refine yY ?_ (zY rfl _)),by simp [yE]⟩,?_⟩
 conv => whnf
 refine ⟨encF (yM t o 0),⟨by omega,wO o5 (by omega),by simp [encF]⟩,?_⟩
 conv => whnf
 refine ⟨encF (yM t o 1),⟨by omega,wO o5 (by omega),by simp [encF]⟩,?_⟩
 conv => whnf
 refine ⟨_,aQ _ _ _ hcode (lF hfl) (lF hfl),?_⟩
 conv => whnf
 refine ⟨by kernel_rfl,?_⟩
 conv => whnf
 refine ⟨⟨rfl,by rw [hpl]; simp; omega,by rw [hpl]; simp; omega⟩,?_⟩
 conv => whnf
 have hd : doL s k o ⟨eth,1,eobj,-1,epc⟩ = (s.put k (zN (zC t o) (yN o.code (yM t o 0) (yM t o 1))),⟨eth,1,eobj,-1,epc⟩) := by unfold doL; rw [hgd]; simp [n1,n2,n3,n10,n11,n12,n13,n14,n15,n16,n17]
 rw [hd] at hK
 dsimp only at hK
 refine hK _ (.inl ⟨zN (zC t o) (yN o.code (yM t o 0) (yM t o 1)),s.ths,stk (zN (zC t o) (yN o.code (yM t o 0) (yM t o 1))),hk,rfl,hgj,qV _,by simp [StL.put],⟨rfl,rfl,trivial⟩,⟨?_,?_,rfl,?_,?_,?_,?_,trivial⟩,⟨fun j => ?_,trivial⟩⟩)
 ·rw [show stRef _ = stRef s by simp [stRef,StL.put]]
  conv => lhs; whnf
  all_goals (
   refine congrArg some ?_
   repeat (refine yK ?_ (xM s rfl))
   all_goals rfl)
 ·rfl
 ·conv => lhs; whnf
  show some (Ob.ds 132 1 _) = some (Ob.ds 132 1 _)
  simp [stk,zN,zC,encF]
 ·conv => lhs; whnf
  all_goals (
   refine congrArg (fun x => some (Ob.rs 175 6 x)) ?_
   apply vI
   ·repeat (first | exact rfl | apply xR hk | apply xQ (fun _ => rfl))
   ·show [_,_,_,_,_,AV.ref (.n 899) 0 ((zC t o).stack.length + 1)] = _
    simp [yE,zN]
    exact ⟨rfl,rfl,rfl,rfl,rfl⟩)
 ·rfl
 ·rfl
 ·repeat (first | exact rfl | refine hscrO ?_ (hg _ _) | conv => lhs; whnf)
theorem doI_okA0 (hI : yS) (E : TypeId) (s : StL) (k : Nat) (o : OpL) (e : Ev) (hk : k < s.ths.length) (h5 : s.ths.length ≤ 5)
  (hs : s.small) (ho : o.fits s s.ths[k]) (hpc : InR s.ths[k].pc 0 1048576) (hst3 : s.ths[k].st ≠ 3) (he : e.kind = 1) (hel : e.lock = -1) (hfl : ∀ x ∈ s.ths[k].stack,x < 18446744073709551616) (hjo : o.code = 15 → ∃ j,yQ (yM s.ths[k] o 0) s.ths.length = some j ∧ zW s s.ths[k] = some j)
  (H0 : Key → Option Ob) (h0 : H0 (.l 0) = some (.vs E ([] ++ stRef s))) (h1 : H0 (.n 899) = some (.ds 132 1 (stk s.ths[k]))) (h2 : H0 (.n 900) = some (.rs 175 6 (rowsA s.ths k s.ths[k]))) (h3 : ∀ j,H0 (.s 900 j) = fam0 s.ths k j)
  (h4 : H0 (.n 901) = some (.ds 132 1 (s.cells.map encF))) (h6 : H0 (.n 902) = some (.ds 3 1 (s.owner.map encInt))) :
  IOCall EE 172 [.ptr (.l 0) 0,i64 k,agg (encOp o),agg (encEv e)] H0 (doIPost E [] k (doL s k o e).1 (doL s k o e).2) := by
 refine io_of_AW (fn := Tryz.f172) (c := Tryz.f172.body.getD .skip) Tryz.func172 rfl (by kernel_rfl) rfl ?_
 have hat : At [(0,.ptr (.l 0) 0),(1,i64 k),(2,agg (encOp o)),(3,agg (encEv e))] [(.l 0,.vs E ([] ++ stRef s)),(.n 899,.ds 132 1 (stk s.ths[k])),(.n 900,.rs 175 6 (rowsA s.ths k s.ths[k])),(.n 901,.ds 132 1 (s.cells.map encF)),(.n 902,.ds 3 1 (s.owner.map encInt))] [(900,fam0 s.ths k)]
   ⟨fun i => [AV.ptr (.l 0) 0,i64 k,agg (encOp o),agg (encEv e)].getD i .junk,H0⟩ :=
  ⟨⟨rfl,rfl,rfl,rfl,trivial⟩,⟨h0,h1,h2,h4,h6,trivial⟩,⟨h3,trivial⟩⟩
 obtain ⟨τ,H,hf⟩ := hat.form
 rw [hf]
 have hst := hs.2.1 _ (List.getElem_mem hk)
 have hgk : fam0 s.ths k k = none := by unfold fam0; rw [nbeq_self]; rfl
 refine uU 7 (At (doI1 0 k o s.ths[k]) (doIO E [] s k o e s.ths[k] (zC s.ths[k] o)) [(900,fam0 s.ths k)]) (fun K hK => doI_preB0 E (fam0 s.ths k) (yW _ _) s k o e hk s.ths[k] ho.2.2.2.2 hst hpc τ H _ K hK) (fun S hS => ?_)
 refine uU 1 (DoI2 E [] (fam0 s.ths k) k (doL s k o e).1 (doL s k o e).2) (fun K hK => doI_swB0 hI E (fam0 s.ths k) (yW _ _) s k o e hk h5 (fun j hj => by unfold fam0; rw [nbeq_ne hj]; rfl) hs ho hpc hst3 he hel hfl hjo _ K S hS hK) (fun S' hS' => ?_)
 have hp : InertL [] := fun x hx => by cases hx
 rcases hS' with ⟨t',h⟩ | ⟨l',t',r,h⟩
 ·exact doI_fin E _ hp _ k (yW _ _) (r5 _ _ _) hgk _ _ S' t' h
 ·exact s8 E _ hp _ k (yW _ _) (gI _ _) hgk _ _ S' l' t' r h
theorem stepI_A0 (hI : yS) (E : TypeId) (p : ProgL) (s : StL) (k : Nat) (hp : p.wf) (hk : k < s.ths.length) (h5 : s.ths.length ≤ 5)
  (hs : s.small) (hr : s.ths[k].ready p s k) (hst3 : s.ths[k].st ≠ 3) (hfl : ∀ x ∈ s.ths[k].stack,x < 18446744073709551616) (hjo : ∀ o,yC p s.ths[k] = some o → zX s k o = 0 → o.code = 15 → ∃ j,yQ (yM s.ths[k] o 0) s.ths.length = some j ∧ zW s s.ths[k] = some j)
  (H0 : Key → Option Ob) (h0 : H0 (.l 0) = some (.vs E ([] ++ stRef s))) (h1 : H0 (.n 899) = some (.ds 132 1 (stk s.ths[k]))) (h2 : H0 (.n 900) = some (.rs 175 6 (rowsA s.ths k s.ths[k]))) (h3 : ∀ j,H0 (.s 900 j) = fam0 s.ths k j)
  (h4 : H0 (.n 901) = some (.ds 132 1 (s.cells.map encF))) (h6 : H0 (.n 902) = some (.ds 3 1 (s.owner.map encInt))) :
  IOCall EE 92 [.ptr (.l 0) 0,agg (encProg p),i64 k] H0 (doIPost E [] k (stepL p s k).1 (stepL p s k).2) := by
 refine io_of_AW (fn := Tryz.f92) (c := Tryz.f92.body.getD .skip) Tryz.func92 rfl (by kernel_rfl) rfl ?_
 have hat : At [(0,.ptr (.l 0) 0),(1,agg (encProg p)),(2,i64 k)] [(.l 0,.vs E ([] ++ stRef s)),(.n 899,.ds 132 1 (stk s.ths[k])),(.n 900,.rs 175 6 (rowsA s.ths k s.ths[k])),(.n 901,.ds 132 1 (s.cells.map encF)),(.n 902,.ds 3 1 (s.owner.map encInt))] [(900,fam0 s.ths k)]
   ⟨fun i => [AV.ptr (.l 0) 0,agg (encProg p),i64 k].getD i .junk,H0⟩ :=
  ⟨⟨rfl,rfl,rfl,trivial⟩,⟨h0,h1,h2,h4,h6,trivial⟩,⟨h3,trivial⟩⟩
 obtain ⟨τ,H,hf⟩ := hat.form
 rw [hf]
 have hst := hs.2.1 _ (List.getElem_mem hk)
 have hgd : s.ths.getD k th0 = s.ths[k] := by simp [List.getD_eq_getElem?_getD,hk]
 have hp3 : InertL [] := fun x hx => by cases hx
 have hpc := hr.pc
 clear hat hf h0 h1 h2 h3 h4 h6
 generalize ht0 : s.ths[k] = t at *
 conv => whnf
 refine ⟨⟨by omega,by omega⟩,?_⟩
 conv => whnf
 refine ⟨yE t,⟨by repeat (first | exact zR hk | refine yY ?_ (zY rfl t)),by simp [yE]⟩,?_⟩
 conv => whnf
 refine .inr (.inl ⟨10,[],?_⟩)
 conv => whnf
 refine ⟨yE t,⟨by repeat (first | exact zR hk | refine yY ?_ (zY rfl t)),by simp [yE]⟩,?_⟩
 conv => whnf
 refine ⟨_,Eq.mp (congrArg (fun x => CallsTo EE 169 [agg (encProg p),.agg [i64 t.rt,i64 t.pc,i64 t.st,i64 t.cond,i64 t.lock,sl x]] _) (qV t).symm) (sZ p t hp hr.inP),?_,?_⟩
 ·intro c hc
  simp only [List.mem_cons,List.not_mem_nil,or_false] at hc
  rcases hc with rfl | rfl
  ·exact .inr ⟨encOp _,rfl,rfl⟩
  ·exact .inl ⟨_,rfl,rfl⟩
 conv => whnf
 refine ⟨by kernel_rfl,?_⟩
 conv => whnf
 refine ⟨yE t,⟨by repeat (first | exact zR hk | refine yY ?_ (zY rfl t)),by simp [yE]⟩,?_⟩
 conv => whnf
 have hp3 : InertL [] := fun x hx => by cases hx
 refine kbi (fun h4 => ?_) (fun h4 => ?_)
 ·have h4 : t.st = 4 := by simpa using h4
  have hlk := hr.lock h4
  have hd : stepL p s k = ({ s with owner := s.owner.set t.lock.toNat ((k : Nat) : Int) }.put k { t with st := 1,cond := -1,lock := -1,pc := if (yC p t).isSome = true then t.pc + 1 else t.pc },{ ev0 k t with kind := 9,obj := t.cond,lock := t.lock }) := by
   unfold stepL; rw [hgd,if_pos h4]
  conv => whnf
  refine .inr (.inl ⟨12,[],?_⟩)
  conv => whnf
  refine ⟨yE t,⟨by repeat (first | exact zR hk | refine yY ?_ (zY rfl _)),by simp [yE]⟩,?_⟩
  conv => whnf
  refine ⟨yE t,⟨by repeat (first | exact zR hk | refine yY ?_ (zY rfl _)),by simp [yE]⟩,?_⟩
  conv => whnf
  refine ⟨by kernel_rfl,?_⟩
  conv => whnf
  refine .inr (.inl ⟨9,[],?_⟩)
  conv => whnf
  refine ⟨yE t,⟨by repeat (first | exact zR hk | refine yY ?_ (zY rfl _)),by simp [yE]⟩,?_⟩
  conv => whnf
  refine ⟨by kernel_rfl,?_⟩
  conv => whnf
  refine ⟨⟨by omega,by omega⟩,?_⟩
  conv => whnf
  refine .inr (.inl ⟨7,[],?_⟩)
  conv => whnf
  refine ⟨yE { t with st := 1,cond := -1,lock := -1 },⟨yY (sR hk ?_) (zY rfl _),by simp [yE]⟩,?_⟩
  ·apply vI
   ·repeat (first | exact rfl | apply xR hk | apply xQ (fun _ => rfl))
   ·rfl
  conv => whnf
  refine ⟨_,qH _,?_⟩
  conv => whnf
  refine ⟨by kernel_rfl,?_⟩
  conv => whnf
  refine ⟨_,Weak.refl,?_⟩
  conv => whnf
  rw [hd]
  refine ⟨xZ,by rfl,?_⟩
  refine uC hp3 (l := s.ths) (t' := { t with st := 1,cond := -1,lock := -1,pc := if (yC p t).isSome = true then t.pc + 1 else t.pc }) hk rfl ?_ ?_ ?_ (fun j => ?_) ?_ ?_
  ·refine Eq.trans ?_ (congrArg (fun x => some (Ob.vs E ([] ++ x))) (show stRef s = stRef _ by simp [stRef,StL.put]))
   conv => lhs; whnf
   all_goals (
    refine congrArg some ?_
    repeat (refine yK ?_ (xM s rfl))
    all_goals rfl)
  ·rfl
  ·conv => lhs; whnf
   all_goals (
    refine congrArg (fun x => some (Ob.rs 175 6 x)) ?_
    apply vI
    ·repeat (first | exact rfl | apply xR hk | apply xQ (fun _ => rfl))
    ·have ew : IntKind.i64.wrap (t.pc + (if (yC p t).isSome = true then 1 else 0)) = (if (yC p t).isSome = true then t.pc + 1 else t.pc) := by have a := hpc.1; have b := hpc.2; split <;> rw [zH (by omega) (by omega)]; omega
     show [_,AV.d (.int .i64 (IntKind.i64.wrap (t.pc + (if (yC p t).isSome = true then 1 else 0)))),_,_,_,_] = _
     rw [ew]
     rfl)
  ·repeat (first | exact rfl | refine hscrO ?_ (yW _ _ _ _) | conv => lhs; whnf)
  ·rfl
  ·conv => lhs; whnf
   show some (Ob.ds 3 1 ((s.owner.map encInt).set (0 + t.lock.toNat) (encInt ((k : Nat) : Int)))) = some (Ob.ds 3 1 ((s.owner.set t.lock.toNat ((k : Nat) : Int)).map encInt))
   rw [Nat.zero_add,List.map_set]
 have h4 : ¬ t.st = 4 := by simpa using h4
 cases hn : yC p t with
 |none =>
  conv => whnf
  have hd : stepL p s k = (s.put k { t with st := 2 },{ ev0 k t with kind := 11 }) := by
   unfold stepL; rw [hgd]; simp [h4,hn]
  refine ⟨_,Weak.refl,?_⟩
  conv => whnf
  rw [hd]
  refine ⟨xZ,by rfl,?_⟩
  refine uC hp3 (l := s.ths) (t' := { t with st := 2 }) hk rfl ?_ ?_ ?_ (fun j => ?_) ?_ ?_
  ·refine Eq.trans ?_ (congrArg (fun x => some (Ob.vs E ([] ++ x))) (show stRef s = stRef _ by simp [stRef,StL.put]))
   conv => lhs; whnf
   all_goals (
    refine congrArg some ?_
    repeat (refine yK ?_ (xM s rfl))
    all_goals rfl)
  ·rfl
  ·conv => lhs; whnf
   all_goals (
    refine congrArg (fun x => some (Ob.rs 175 6 x)) ?_
    apply vI
    ·repeat (first | exact rfl | apply xR hk | apply xQ (fun _ => rfl))
    ·rfl)
  ·repeat (first | exact rfl | refine hscrO ?_ (yW _ _ _ _) | conv => lhs; whnf)
  ·rfl
  ·rfl
 |some o =>
  obtain ⟨hoS,hoF⟩ := hr.op o hn
  conv => whnf
  refine .inl ⟨[.fp (encSt s),i64 k,agg (encOp o)],[],_,⟨_,_,rfl,FzA_ptr (E := E) (cs := [] ++ stRef s) ?_ (fz_stA (k := k) (t := t) (els := stk t) hk ht0 ?_ (fun j hj hjl => ?_) rfl (by simp [stk,List.take_of_length_le]) ?_ ?_),_,_,rfl,rfl,_,_,rfl,⟨encOp o,rfl,_,_,rfl,rfl,_,_,rfl,rfl,_,_,rfl,rfl,_,_,rfl,rfl,rfl⟩,rfl⟩,rfl,iH hI s k o hk hs hoS,?_⟩
  ·conv => lhs; whnf
   all_goals (
    refine congrArg some ?_
    repeat (refine yK ?_ (xM s rfl))
    all_goals rfl)
  ·conv => lhs; whnf
   all_goals (
    refine congrArg (fun x => some (Ob.rs 175 6 x)) ?_
    repeat (first | exact rfl | refine qA ?_ rfl (fun _ => rfl)))
  ·refine Eq.trans (b := fam0 s.ths k j) ?_ (by simp [fam0,nbeq_ne hj,zV,hjl])
   repeat (first | exact rfl | refine hscrO ?_ (yW _ _ _ _) | conv => lhs; whnf)
  ·rfl
  ·rfl
  rintro r rfl
  refine ⟨rfl,?_⟩
  conv => whnf
  refine kbi (fun h6 => ?_) (fun h6 => ?_)
  ·have h6 : ¬ zX s k o = 0 := by simpa using h6
   have hd : stepL p s k = ({ s with fault := zX s k o },{ ev0 k t with kind := 12,obj := zX s k o }) := by
    unfold stepL; rw [hgd]; simp [h4,hn,h6]
   conv => whnf
   refine ⟨_,Weak.refl,?_⟩
   conv => whnf
   rw [hd]
   refine ⟨xZ,by rfl,?_⟩
   refine uC hp3 (l := s.ths) (t' := t) hk (by show s.ths = s.ths.set k t; rw [← ht0,List.set_getElem_self]) ?_ ?_ ?_ (fun j => ?_) ?_ ?_
   ·conv => lhs; whnf
    refine congrArg some ?_
    repeat (refine yK ?_ (xM { s with fault := zX s k o } rfl))
    refine congrArg (Ob.vs E) (r3 (pre := []) ?_)
    repeat (refine hscrL ?_ (u9 s rfl))
    all_goals rfl
   ·rfl
   ·conv => lhs; whnf
    all_goals (
     refine congrArg (fun x => some (Ob.rs 175 6 x)) ?_
     apply vI
     ·repeat (first | exact rfl | apply xR hk | apply xQ (fun _ => rfl))
     ·rfl)
   ·repeat (first | exact rfl | refine hscrO ?_ (yW _ _ _ _) | conv => lhs; whnf)
   ·rfl
   ·rfl
  ·have h6 : zX s k o = 0 := by simpa using h6
   have hd : stepL p s k = doL s k o (ev0 k t) := by
    unfold stepL; rw [hgd]; simp [h4,hn,h6]
   conv => whnf
   refine .inr (.inl ⟨999,99,xZ,_,doI_okA0 hI E s k o { ev0 k t with kind := 1 } hk h5 hs (by rw [ht0]; exact hoF h6) (by rw [ht0]; exact hpc) (by rw [ht0]; exact hst3) rfl rfl (by rw [ht0]; exact hfl) (by rw [ht0]; exact hjo o hn h6) _ ?_ ?_ ?_ (fun j => ?_) ?_ ?_,rfl,?_⟩)
   ·conv => lhs; whnf
    refine congrArg some ?_
    repeat (first | exact rfl | refine yK ?_ (xM s rfl) | refine pV ?_ (iY hp3 s))
   ·rw [ht0]
    rfl
   ·rw [ht0]
    conv => lhs; whnf
    refine congrArg some ?_
    repeat (first | exact rfl | refine yK ?_ (gS rfl (fun _ => rfl) _ _ _) | refine pV ?_ (gT _ _ _))
   ·repeat (first | exact rfl | refine hscrO ?_ (yW _ _ _ _) | refine eZ ?_ (gI _ _ _ _) | conv => lhs; whnf)
   ·rfl
   ·rfl
   rintro r H1 ⟨rfl,hk2,rfl⟩
   refine ⟨aX,?_,?_⟩
   ·intro n hn
    have : n = 0 := by simpa [xZ] using hn
    subst this
    exact ⟨E,_,_,rfl,rfl⟩
   conv => whnf
   refine ⟨_,Weak.refl,?_⟩
   conv => whnf
   rw [hd]
   refine ⟨xZ,by rfl,?_⟩
   refine uC hp3 (l := (doL s k o (ev0 k t)).1.ths) (t' := (doL s k o (ev0 k t)).1.ths[k]) hk2 (List.set_getElem_self _).symm ?_ ?_ ?_ (fun j => ?_) ?_ ?_
   ·conv => lhs; whnf
    refine congrArg some ?_
    repeat (first | exact rfl | refine yK ?_ (xM _ rfl) | refine pV ?_ (iY hp3 _))
   ·rfl
   ·conv => lhs; whnf
    refine congrArg some ?_
    repeat (first | exact rfl | refine yK ?_ (gS rfl (fun _ => rfl) _ _ _) | refine pV ?_ (gT _ _ _))
   ·refine Eq.trans (b := fam0 (doL s k o (ev0 k t)).1.ths k j) ?_ rfl
    repeat (first | exact rfl | refine hscrO ?_ (yW _ _ _ _) | refine eZ ?_ (gI _ _ _ _) | conv => lhs; whnf)
   ·rfl
   ·rfl
theorem stepI_ok0 (hI : yS) (E : TypeId) (p : ProgL) (s : StL) (k : Nat) (hp : p.wf) (hk : k < s.ths.length) (h5 : s.ths.length ≤ 5)
  (hs : s.small) (hr : s.ths[k].ready p s k) (hst3 : s.ths[k].st ≠ 3) (hfl : ∀ x ∈ s.ths[k].stack,x < 18446744073709551616) (hjo : ∀ o,yC p s.ths[k] = some o → zX s k o = 0 → o.code = 15 → ∃ j,yQ (yM s.ths[k] o 0) s.ths.length = some j ∧ zW s s.ths[k] = some j)
  (H0 : Key → Option Ob) (hH : AtC E [] s H0) :
  IOCall EE 92 [.ptr (.l 0) 0,agg (encProg p),i64 k] H0 (fun r H1 => r = agg (encEv (stepL p s k).2) ∧ H1 = stHC E [] (stepL p s k).1) := by
 have hp3 : InertL [] := fun x hx => by cases hx
 refine io_canon hp3 hk ?_ hH fun H0 a b c d e f => stepI_A0 hI E p s k hp hk h5 hs hr hst3 hfl hjo H0 a b c d e f
 simp only [List.map_cons,List.map_nil,agg_ren]
 rfl
end Ai
end
section
set_option maxRecDepth 100000
namespace Ai
open Go Go.Proofs Cyc
theorem oO (p : ProgL) (hp : p.wf) (hg : p.goodS) (hv : p.flt) (s : StL) (hi : AInv p s) (k : Nat) (hk : k ∈ enabledL p s) (b : Int) (sl : Bool) (d1 : List (List D)) :
  CallsTo EE 128 [.fp (encProg p ++ [di b,.sl d1,.bool sl]),agg (encSt s),i64 k] (· = agg (encEv (stepL p s k).2)) := by
 have hok := runOK hg
 refine callsTo_of_AW (fn := Tryz.f128) Tryz.func128 rfl (by kernel_rfl) rfl ?_
 conv => whnf
 refine ⟨_,iM s (hok.small s hi.si).1,?_⟩
 rintro r rfl
 conv => whnf
 have hri := runI hg hv
 have hin : SInv p s ∧ s.flt := ⟨hi.si,hi.fl⟩
 have hs := hri.small s hin
 have hkl := en_lt hk
 refine .inr (.inl ⟨7,0,lX,_,stepI_ok0 sF 54 p s k hp hkl hs.2 hs.1 (hri.ready s hin k hk hkl) (hri.awake s hin k hk hkl) (hri.flt s hin _ (List.getElem_mem hkl)) (hri.joins s hin k hk hkl) _ ⟨?_,rfl,?_,fun j => ?_,?_,?_⟩,rfl,?_⟩)
 ·show some (Ob.vs 54 [.dref (.n 900) (s.ths.map bM).length,.ref (.n 901) 0 (s.cells.map encF).length,.ref (.n 902) 0 (s.owner.map encInt).length,i64 s.fault]) = some (Ob.vs 54 [.dref (.n 900) s.ths.length,.ref (.n 901) 0 s.cells.length,.ref (.n 902) 0 s.owner.length,i64 s.fault])
  rw [List.length_map,List.length_map,List.length_map]
 ·show some (Ob.rs 175 6 ((((thRows 900 s.ths).map (scrPL (isK (.n 7)))).map (renL (swp (.n 7) (.l 0)))).map (scrPL fun o => !lX o))) = _
  rw [yG (fun _ _ => rfl),qU]
  exact congrArg (fun x => some (Ob.rs 175 6 x)) (yG fun _ _ => rfl)
 ·refine (congrArg (fun x => Option.map (scrPO (fun o => !lX o)) (Option.map (renO (swp (.n 7) (.l 0))) (Option.map (scrPO (isK (.n 7))) x))) (rR s j)).trans ?_
  show Option.map _ (Option.map _ (Option.map _ (zV s.ths j))) = _
  rw [yI,thFam_ren,yI]
 ·rfl
 ·rfl
 rintro q H1 ⟨rfl,rfl⟩
 refine ⟨aW,fun n hn => ?_,?_⟩
 ·have : n = 0 := by simpa [lX] using hn
  subst this
  exact ⟨54,_,_,rfl,rfl⟩
 conv => whnf
 rfl
end Ai
end
section
set_option maxRecDepth 100000
namespace Ai
open Go Go.Proofs Cyc
def wiC (p : ProgL) (b : Int) (sl : Bool) (n : Nat) : List AV := [i64 p.cells,i64 p.locks,i64 p.conds,.d (.sl (p.rs.map zS)),i64 b,.ref (.n 950) 0 n,bv sl]
noncomputable def wiH (p : ProgL) (b : Int) (sl : Bool) (xs : List RunT) : Key → Option Ob
 | .l j => bif Nat.beq j 0 then some (.vs 107 (wiC p b sl xs.length)) else none
 | .n j => bif Nat.beq j 950 then some (.ds 56 7 (xs.map jX)) else none
 | .s _ _ => none
def lW : Key → Bool
 | .l j => Nat.beq j 0
 | .n j => Nat.beq j 950
 | .s _ _ => false
def AtI (p : ProgL) (b : Int) (sl : Bool) (xs : List RunT) (H : Key → Option Ob) : Prop :=
 H (.l 0) = some (.vs 107 (wiC p b sl xs.length)) ∧ H (.n 950) = some (.ds 56 7 (xs.map jX))
theorem rY {p : ProgL} {b : Int} {sl : Bool} {xs : List RunT} : ∀ κ,lW κ = false → wiH p b sl xs κ = none
 | .l j,h => by have h : Nat.beq j 0 = false := h; simp [wiH,h]
 | .n j,h => by have h : Nat.beq j 950 = false := h; simp [wiH,h]
 | .s o j,h => rfl
theorem rT {p : ProgL} {b : Int} {sl : Bool} {xs : List RunT} {H : Key → Option Ob} (h : AtI p b sl xs H) : yJ lW H = wiH p b sl xs := by
 obtain ⟨h0,h1⟩ := h
 funext κ
 cases hk : lW κ with
 |false => rw [rY κ hk,dF hk]
 |true =>
  rw [wZ hk]
  cases κ with
  |l j =>
   have := Nat.eq_of_beq_eq_true (show Nat.beq j 0 = true from hk)
   subst this
   rw [h0]; rfl
  |n j =>
   have := Nat.eq_of_beq_eq_true (show Nat.beq j 950 = true from hk)
   subst this; rw [h1]
   rfl
  |s o j => cases hk
theorem args5 {T T' K K' A A' B B' C C' O O' : List (List D)} {x y : AV} {c : AV} (h1 : T = T') (h2 : K = K') (h3 : A = A') (h4 : B = B') (h5 : C = C') (h6 : O = O') : [x,AV.agg [c,sl T,sl K,sl A,sl B,sl C,y],sl O] = [x,AV.agg [c,sl T',sl K',sl A',sl B',sl C',y],sl O'] := by rw [h1,h2,h3,h4,h5,h6]
def isSt (κ : Key) : Bool := match κ with | .s o _ => Nat.beq o 900 | .n k => Nat.beq k 901 || Nat.beq k 902 | .l _ => false
def yV (p : ProgL) (s : StL) (u : Nat) (e : Ev) : Prop := ¬ (u ∈ enabledL p s ∧ hangI (stepL p s u).2 e)
theorem sH {q : Key → Bool} {H : Key → Option Ob} {l : List Th} (hq : ∀ j,q (.s 900 j) = true) (hH : ∀ j,H (.s 900 j) = zV l j) : (thRows 900 l).map (hZ q H) = (l.map zE).map (List.map .d) := by
 apply List.ext_getElem?
 intro j
 rw [List.getElem?_map,List.getElem?_map,List.getElem?_map]
 by_cases h : j < l.length
 ·rw [xJ h,List.getElem?_eq_getElem h]
  simp [thRow,hZ,frz,hq,hH,thFam_self h,i64,zE,stk,List.take_of_length_le]
 ·rw [List.getElem?_eq_none (by simp [thRows,ownRows]; omega),List.getElem?_eq_none (by omega)]
  rfl
def isF9 (κ : Key) : Bool := match κ with | .s o _ => Nat.beq o 900 | _ => false
noncomputable def wiO2 (p : ProgL) (b : Int) (sl : Bool) (r : RunT) (acc : List RunT) (L kept : List Nat) (x : RunT) (e : Ev) : List (Key × Ob) := [(.l 0,.vs 107 (wiC p b sl acc.length)),(.n 950,.ds 56 7 (acc.map jX)),(.n 4,.vs 56 ((encRun 0 r.tr r.tk r.s).map .d)),(.n 57,.ds 3 1 (L.map encN)),
 (.n 11,.vs 56 ([i64 0,.ref (.n 87) 0 x.tr.length,.ref (.n 93) 0 x.tk.length] ++ stRef x.s)),(.n 87,.ds 128 5 (x.tr.map encEv)),(.n 93,.ds 3 1 (x.tk.map encInt)),(.n 900,.rs 175 6 (thRows 900 x.s.ths)),(.n 901,.ds 132 1 (x.s.cells.map encF)),(.n 902,.ds 3 1 (x.s.owner.map encInt)),
 (.n 12,.vs 128 ((encEv e).map .d)),(.n 99,.ds 3 1 (kept.map encN))]
theorem walk_ok (p : ProgL) (hp : p.wf) (hg : p.goodS) (hv : p.flt) (b : Int) (hb : InR b 0 1000) (slp : Bool) : ∀ (n : Nat) (r : RunT) (c0 : Int) (sleep : List Nat) (xs : List RunT),XR p b r → b.toNat + 1 - r.tr.length = n → xs.length ≤ 400 → sleep.length ≤ 5 * r.tr.length →
  ∀ H0,AtI p b slp xs H0 → IOCall EE 63 [.ptr (.l 0) 0,agg (encRun c0 r.tr r.tk r.s),sl (sleep.map encN)] H0 (fun q H1 => q = bv (xgo p b slp (yV p) n r sleep xs).2 ∧ H1 = wiH p b slp (xgo p b slp (yV p) n r sleep xs).1)
 | 0,r,c0,sleep,xs,hr,hn,hx,hs,H0,hH => by
  have := hr.le
  omega
 |n + 1,r,c0,sleep,xs,hr,hn,hx,hs,H0,hH => by
  have hok := runOK hg
  have hri := runI hg hv
  have hin : SInv p r.s ∧ r.s.flt := ⟨hr.inv.si,hr.inv.fl⟩
  have hsm := hok.small r.s hr.inv.si
  have hen := r7 sF p r.s hp hsm.1 (hok.seen r.s hr.inv.si)
  have hcode : CallsTo EE 121 [agg (encProg p),.fp (encSt r.s),sl ((enabledL p r.s).map encN),i64 ((r.tr.map encEv).length : Nat),i64 b] (· = i64 (codeL p r.s r.tr.length b)) := by
   rw [List.length_map]; exact codeOf_ok p r.s r.tr.length b hsm.1
  have h5 : (enabledL p r.s).length ≤ 5 := Nat.le_trans (enabledTo_le) hr.inv.si.len
  have hle := hr.le
  have hlen := hr.len
  have hb2 := hb.2
  rw [xgo]
  refine io_of_AW (fn := Tryz.f63) (c := Tryz.f63.body.getD .skip) Tryz.func63 rfl (by kernel_rfl) rfl ?_
  have hat : At [(0,.ptr (.l 0) 0),(1,agg (encRun c0 r.tr r.tk r.s)),(2,sl (sleep.map encN))] [(.l 0,.vs 107 (wiC p b slp xs.length)),(.n 950,.ds 56 7 (xs.map jX))] [] ⟨fun i => [AV.ptr (.l 0) 0,agg (encRun c0 r.tr r.tk r.s),sl (sleep.map encN)].getD i .junk,H0⟩ :=
   ⟨⟨rfl,rfl,rfl,trivial⟩,⟨hH.1,hH.2,trivial⟩,trivial⟩
  obtain ⟨τ,H,hf⟩ := hat.form
  rw [hf]
  clear hat hf hH
  conv => whnf
  refine .inl ⟨_,hen,?_⟩
  rintro q rfl
  refine ⟨fun c hc => ?_,.inl ?_⟩
  ·obtain ⟨y,_,rfl⟩ := List.mem_map.1 hc
   rfl
  conv => whnf
  refine .inl ⟨14,by kernel_rfl,?_⟩
  conv => whnf
  refine ⟨_,hcode,rfl,?_⟩
  conv => whnf
  refine kbi (fun hc => ?_) (fun hc => ?_)
  ·have hc : codeL p r.s r.tr.length b ≠ 0 := by simpa using hc
   have hc : 0 < codeL p r.s r.tr.length b := by have := codeL_nn p r.s r.tr.length b; omega
   rw [if_pos hc]
   conv => whnf
   refine .inr (.inr (.inr ⟨[0],by kernel_rfl,7,[],?_⟩))
   conv => whnf
   refine ⟨by kernel_rfl,?_⟩
   conv => whnf
   refine ⟨⟨rfl,by show (xs.length + 1) * _ ≤ _; simp only [ti56]; omega,by show xs.length + 1 ≤ _; omega⟩,?_⟩
   conv => whnf
   have fin : ∀ (S : Key → Option Ob),S (.l 0) = some (.vs 107 (wiC p b slp (xs.length + 1))) → S (.n 950) = some (.ds 56 7 ((xs.map jX).take xs.length ++ [jX (leaf p b (codeL p r.s r.tr.length b) r)])) → AtI p b slp (xs ++ [leaf p b (codeL p r.s r.tr.length b) r]) S := by
    intro S h0 h1
    rw [List.take_of_length_le (by simp)] at h1
    exact ⟨by rw [h0,List.length_append]; rfl,by rw [h1,List.map_append]; rfl⟩
   refine kbi (fun h4 => ?_) (fun h4 => ?_)
   ·have h4 : ((xs.length + 1 : Nat) : Int) ≤ 400 := of_decide_eq_true h4
    conv => whnf
    refine ⟨_,Weak.refl,?_⟩
    conv => whnf
    refine ⟨lW,?_,rT (fin _ rfl rfl)⟩
    show bv true = bv (decide (xs.length + 1 ≤ 400))
    rw [decide_eq_true (by omega)]
   ·have h4 : ¬ ((xs.length + 1 : Nat) : Int) ≤ 400 := fun e => h4 (decide_eq_true e)
    conv => whnf
    refine ⟨_,Weak.refl,?_⟩
    conv => whnf
    refine ⟨lW,?_,rT (fin _ rfl rfl)⟩
    show bv false = bv (decide (xs.length + 1 ≤ 400))
    rw [decide_eq_false (by omega)]
  ·have hc : ¬ 0 < codeL p r.s r.tr.length b := by simp at hc; omega
   rw [if_neg hc]
   have hcc : codeL p r.s r.tr.length b = 0 := by have := codeL_nn p r.s r.tr.length b; omega
   have hlb := (en_ne hc).2
   have hcl : CallsTo EE 122 [sl (sleep.map encN)] (· = .uq 3 1 (sleep.map encN)) := by
    rw [natI_enc]; exact CloneS_ok (natI sleep) (by simp [natI]; omega)
   conv => whnf
   refine ⟨_,hcl,?_⟩
   rintro q rfl
   refine .inr ⟨_,rfl,?_⟩
   conv => whnf
   refine aloopF (fun x : Nat × XS => [(0,.ptr (.l 0) 0),(2,sl (sleep.map encN)),(4,.ptr (.n 4) 0),(6,bv false),(7,sl ((enabledL p r.s).map encN)),(8,.ref (.n 57) 0 (sleep ++ x.2.tried).length),(58,sl ((enabledL p r.s).map encN)),(59,i64 ((enabledL p r.s).map encN).length),(60,i64 x.1)])
    (fun x => [(.l 0,.vs 107 (wiC p b slp x.2.acc.length)),(.n 950,.ds 56 7 (x.2.acc.map jX)),(.n 4,.vs 56 ((encRun 0 r.tr r.tk r.s).map .d)),(.n 57,.ds 3 1 ((sleep ++ x.2.tried).map encN))])
    (fun _ => [(900,fun _ => none)]) (fun x => (enabledL p r.s).length - x.1) (fun x => x.2.ok = true ∧ x.1 ≤ (enabledL p r.s).length ∧ xloop p slp (yV p) (xgo p b slp (yV p) n) r sleep xs x.1 = x.2) (0,⟨xs,[],true⟩) (weak_frz isF9) ⟨rfl,rfl,rfl,rfl,rfl,?_,rfl,rfl,rfl,trivial⟩ ⟨rfl,rfl,?_,?_,trivial⟩ ⟨fun j => rfl,trivial⟩ ⟨rfl,Nat.zero_le _,rfl⟩ ?_
   ·show AV.ref (.n 57) 0 (sleep.map encN).length = .ref (.n 57) 0 (sleep ++ []).length
    simp
   ·show some (Ob.vs 56 [i64 (codeL p r.s r.tr.length b),_,_,_,_,_,_]) = some (Ob.vs 56 [i64 0,_,_,_,_,_,_])
    rw [hcc]; rfl
   ·show some (Ob.ds 3 1 (sleep.map encN)) = some (Ob.ds 3 1 ((sleep ++ []).map encN))
    simp
   rintro ⟨k,⟨acc,tried,okk⟩⟩ τ H ⟨hk0,hk,hXe⟩
   have hk0 : okk = true := hk0
   subst hk0
   have hk : k ≤ (enabledL p r.s).length := hk
   have hXe : xloop p slp (yV p) (xgo p b slp (yV p) n) r sleep xs k = ⟨acc,tried,true⟩ := hXe
   have hXl := xloop_len (p := p) (b := b) (sl := slp) (K := yV p) (n := n) (r := r) (sleep := sleep) hx k
   have hXt := xloop_tried (p := p) (sl := slp) (K := yV p) (f := xgo p b slp (yV p) n) (r := r) (sleep := sleep) (acc := xs) k hk
   rw [hXe] at hXl hXt
   have ha4 : acc.length ≤ 400 := hXl rfl
   clear hXl
   conv => whnf
   refine kbi (fun h => ?_) (fun h => ?_)
   ·have hlt : k < (enabledL p r.s).length := by simpa using h
    have hnx := xloop.eq_2 p slp (yV p) (xgo p b slp (yV p) n) r sleep xs k
    rw [hXe] at hnx
    have hm := XR.mem (b := b) hlt
    have hwl := en_lt hm
    have hnext := hr.step hg hv hc hlt
    have hst := stepI_ok sF 56 (i64 0) (.d .nil) (.d .nil) (oU _) (oU _) (oU _) p r.s (enAt p r k) hp hwl hsm.2 hsm.1 (hri.ready r.s hin _ hm hwl) (hri.awake r.s hin _ hm hwl) (hri.flt r.s hin _ (List.getElem_mem hwl)) (hri.joins r.s hin _ hm hwl)
    have hhas : CallsTo EE 123 [sl (sleep.map encN),i64 (enAt p r k : Nat)] (· = bp (((enAt p r k : Nat) : Int) ∈ natI sleep)) := by
     rw [natI_enc]; exact ContS_ok (natI sleep) _ (by simp [natI]; omega)
    have hmem : ((enAt p r k : Nat) : Int) ∈ natI sleep ↔ enAt p r k ∈ sleep := (l5 (by omega)).trans (by simp)
    have hcE := CloneE_ok r.tr (by omega)
    have hcT := Clone_ok r.tk (by omega)
    have hLu : ∀ u ∈ tried,u ∈ enabledL p r.s := hXt.2
    have htl : tried.length ≤ k := hXt.1
    have hLb : (sleep ++ tried).length ≤ 5 * r.tr.length + 5 := by simp; omega
    conv => whnf
    refine ⟨encN (enAt p r k),⟨by omega,en_get hlt,rfl⟩,?_⟩
    obtain ⟨sq,hsq⟩ : ∃ sq : Bool,sq = slp := ⟨slp,rfl⟩
    cases slp
    case' true =>
     conv => whnf
     refine ocase hhas (fun hin' => ?_) (fun hin' => ?_)
    case true.refine_1 =>
     rw [if_pos (.inr ⟨rfl,hmem.1 hin'⟩)] at hnx
     conv => whnf
     refine ⟨(k + 1,⟨acc,tried,true⟩),_,Weak.refl,⟨rfl,hlt,hnx⟩,by show (enabledL p r.s).length - (k + 1) < (enabledL p r.s).length - k; omega,⟨rfl,rfl,rfl,rfl,rfl,rfl,rfl,rfl,next_i64 hlt (by omega),trivial⟩,⟨rfl,rfl,rfl,rfl,trivial⟩,⟨fun j => rfl,trivial⟩⟩
    case' true.refine_2 => rw [if_neg (by rintro (e | ⟨_,e⟩); exact absurd e (by simp); exact hin' (hmem.2 e))] at hnx
    case' false => rw [if_neg (by rintro (e | ⟨e,_⟩); exact absurd e (by simp); exact absurd e (by simp))] at hnx
    all_goals
     conv => whnf
     refine ⟨_,iM r.s hsm.1,?_⟩
     rintro q rfl
     conv => whnf
     refine .inr (.inl ⟨11,0,lX,_,hst _ ⟨?_,rfl,?_,fun j => ?_,?_,?_⟩,rfl,?_⟩)
     ·show some (Ob.vs 56 [i64 0,.d .nil,.d .nil,.dref (.n 900) (r.s.ths.map bM).length,.ref (.n 901) 0 (r.s.cells.map encF).length,.ref (.n 902) 0 (r.s.owner.map encInt).length,i64 r.s.fault]) = some (Ob.vs 56 [i64 0,.d .nil,.d .nil,.dref (.n 900) r.s.ths.length,.ref (.n 901) 0 r.s.cells.length,.ref (.n 902) 0 r.s.owner.length,i64 r.s.fault])
      rw [List.length_map,List.length_map,List.length_map]
     ·show some (Ob.rs 175 6 ((((thRows 900 r.s.ths).map (scrPL (isK (.n 11)))).map (renL (swp (.n 11) (.l 0)))).map (scrPL fun o => !lX o))) = _
      rw [yG (fun _ _ => rfl),qU]
      exact congrArg (fun x => some (Ob.rs 175 6 x)) (yG fun _ _ => rfl)
     ·refine (congrArg (fun x => Option.map (scrPO (fun o => !lX o)) (Option.map (renO (swp (.n 11) (.l 0))) (Option.map (scrPO (isK (.n 11))) x))) (rR r.s j)).trans ?_
      show Option.map _ (Option.map _ (Option.map _ (zV r.s.ths j))) = _
      rw [yI,thFam_ren,yI]
     ·rfl
     ·rfl
     rintro q H1 ⟨rfl,rfl⟩
     refine ⟨aW,fun n hn => ?_,?_⟩
     ·have : n = 0 := by simpa [lX] using hn
      subst this
      exact ⟨56,_,_,rfl,rfl⟩
     conv => whnf
     refine .inr (.inl ⟨16,[],?_⟩)
     conv => whnf
     refine ⟨_,hcE,?_⟩
     refine .inr ⟨_,rfl,?_⟩
     conv => whnf
     refine ⟨⟨by simp [encEv],by simp; omega,by simp; omega⟩,?_⟩
     conv => whnf
     refine ⟨_,hcT,?_⟩
     refine .inr ⟨_,rfl,?_⟩
     conv => whnf
     refine ⟨⟨rfl,by simp; omega,by simp; omega⟩,?_⟩
     conv => whnf
     refine ⟨by kernel_rfl,?_⟩
     conv => whnf
     generalize hLe : sleep ++ tried = L at *
     refine aloopF (fun j : Nat => [(0,.ptr (.l 0) 0),(2,sl (sleep.map encN)),(4,.ptr (.n 4) 0),(6,bv false),(7,sl ((enabledL p r.s).map encN)),(8,.ref (.n 57) 0 L.length),(9,i64 k),(10,i64 (enAt p r k : Nat)),(11,.ptr (.n 11) 0),(12,.ptr (.n 12) 0),(13,.ref (.n 99) 0 (keptBy (yV p) r.s (L.take j) (stepL p r.s (enAt p r k)).2).length),(58,sl ((enabledL p r.s).map encN)),(59,i64 ((enabledL p r.s).map encN).length),(60,i64 k),(100,.ref (.n 57) 0 L.length),(101,i64 L.length),(102,i64 j)])
      (fun j => wiO2 p b sq r acc L (keptBy (yV p) r.s (L.take j) (stepL p r.s (enAt p r k)).2) (runBy p r k) (stepL p r.s (enAt p r k)).2)
      (fun _ => [(900,zV (runBy p r k).s.ths)]) (fun j => L.length - j) (fun j => j ≤ L.length) 0 Weak.refl ⟨rfl,rfl,rfl,rfl,rfl,rfl,rfl,rfl,rfl,rfl,rfl,rfl,rfl,rfl,rfl,rfl,rfl,trivial⟩ ⟨by rw [hsq]; rfl,rfl,rfl,rfl,?_,?_,?_,?_,?_,?_,?_,rfl,trivial⟩ ⟨fun j => ?_,trivial⟩ (Nat.zero_le _) ?_
     ·show some (Ob.vs 56 ([i64 0,.ref (.n 87) 0 ((r.tr.map encEv).length + 1),.ref (.n 93) 0 ((r.tk.map encInt).length + 1)] ++ stRef (stepL p r.s (enAt p r k)).1)) = some (Ob.vs 56 ([i64 0,.ref (.n 87) 0 (r.tr ++ [(stepL p r.s (enAt p r k)).2]).length,.ref (.n 93) 0 (r.tk ++ [(k : Int)]).length] ++ stRef (stepL p r.s (enAt p r k)).1))
      simp
     ·show some (Ob.ds 128 5 ((r.tr.map encEv).take (r.tr.map encEv).length ++ [encEv (stepL p r.s (enAt p r k)).2])) = some (Ob.ds 128 5 ((r.tr ++ [(stepL p r.s (enAt p r k)).2]).map encEv))
      rw [List.take_length,List.map_append]; rfl
     ·show some (Ob.ds 3 1 ((r.tk.map encInt).take (r.tk.map encInt).length ++ [[di (k : Int)]])) = some (Ob.ds 3 1 ((r.tk ++ [(k : Int)]).map encInt))
      rw [List.take_length,List.map_append]; rfl
     ·conv => lhs; whnf
      refine congrArg some ?_
      repeat (first | exact rfl | exact congrArg (Ob.rs 175 6) (qU 11 0 900 _) | refine yK ?_ (congrArg (Ob.rs 175 6) (yG fun _ _ => rfl)))
     ·rfl
     ·rfl
     ·rfl
     ·conv => lhs; whnf
      repeat (first | exact rfl | exact thFam_ren _ _ _ | (refine hscrO ?_ (yI _ _ _); conv => lhs; whnf))
     intro j τ H hj
     have hj : j ≤ L.length := hj
     have hkl : (keptBy (yV p) r.s (L.take j) (stepL p r.s (enAt p r k)).2).length ≤ j := Nat.le_trans (List.length_filter_le _ _) (by simp; omega)
     conv => whnf
     refine kbi (fun h => ?_) (fun h => ?_)
     ·have hjl : j < L.length := by have := of_decide_eq_true h; omega
      have hhg := hangI_ok (stepL p r.s L[j]).2 (stepL p r.s (enAt p r k)).2
      have hjt : L.take (j + 1) = L.take j ++ [L[j]] := List.take_succ_eq_append_getElem hjl
      have hkj : keptBy (yV p) r.s (L.take (j + 1)) (stepL p r.s (enAt p r k)).2 = keptBy (yV p) r.s (L.take j) (stepL p r.s (enAt p r k)).2 ++ keptBy (yV p) r.s [L[j]] (stepL p r.s (enAt p r k)).2 := by
       rw [hjt]; unfold keptBy; rw [List.filter_append]
      have hin3 : CallsTo EE 126 [sl ((enabledL p r.s).map encN),i64 (L[j] : Nat)] (· = bp (((L[j] : Nat) : Int) ∈ natI (enabledL p r.s))) := by
       rw [natI_enc]; exact ContA_ok (natI _) _ (by simp [natI]; omega)
      have hme : ((L[j] : Nat) : Int) ∈ natI (enabledL p r.s) ↔ L[j] ∈ enabledL p r.s := (l5 (by omega)).trans (by simp)
      conv => whnf
      refine ⟨⟨by omega,by omega⟩,?_⟩
      conv => whnf
      refine ⟨encN L[j],⟨by simp [hjl],Nat.le_refl _⟩,?_⟩
      conv => whnf
      refine ⟨by kernel_rfl,?_⟩
      conv => whnf
      refine qcase hin3 (fun h3 => ?_) (fun h3 => ?_)
      ·have hev := oO p hp hg hv r.s hr.inv L[j] (hme.1 h3) b sq
       conv => whnf
       refine ⟨_,hev _,fun c hc' => ?_,?_⟩
       ·obtain ⟨y,hy,rfl⟩ := List.mem_map.1 hc'
        simp only [encEv,List.mem_cons,List.not_mem_nil,or_false] at hy
        rcases hy with rfl | rfl | rfl | rfl | rfl <;> exact ⟨_,rfl,rfl⟩
       conv => whnf
       refine qcase hhg (fun hh => ?_) (fun hh => ?_)
       ·have hkn : keptBy (yV p) r.s [L[j]] (stepL p r.s (enAt p r k)).2 = [] := by simp [keptBy,yV,hh,hme.1 h3]
        rw [hkn,List.append_nil] at hkj
        conv => whnf
        refine ⟨j + 1,_,Weak.refl,hjl,by show L.length - (j + 1) < L.length - j; omega,⟨rfl,rfl,rfl,rfl,rfl,rfl,rfl,rfl,rfl,rfl,?_,rfl,rfl,rfl,rfl,rfl,next_i64 hjl (by omega),trivial⟩,⟨rfl,rfl,rfl,rfl,rfl,rfl,rfl,rfl,rfl,rfl,rfl,?_,trivial⟩,⟨fun j' => rfl,trivial⟩⟩
        ·show AV.ref (.n 99) 0 (keptBy (yV p) r.s (L.take j) _).length = .ref (.n 99) 0 (keptBy (yV p) r.s (L.take (j + 1)) _).length
         rw [hkj]
        ·show some (Ob.ds 3 1 ((keptBy (yV p) r.s (L.take j) _).map encN)) = some (Ob.ds 3 1 ((keptBy (yV p) r.s (L.take (j + 1)) _).map encN))
         rw [hkj]
       ·have hkp : yV p r.s L[j] (stepL p r.s (enAt p r k)).2 := fun e => hh e.2
        have hkn : keptBy (yV p) r.s [L[j]] (stepL p r.s (enAt p r k)).2 = [L[j]] := by simp [keptBy,hkp]
        rw [hkn] at hkj
        conv => whnf
        refine ⟨⟨rfl,by show (_ + 1) * 8 ≤ _; omega,by show _ + 1 ≤ _; omega⟩,?_⟩
        conv => whnf
        refine ⟨j + 1,_,Weak.refl,hjl,by show L.length - (j + 1) < L.length - j; omega,⟨rfl,rfl,rfl,rfl,rfl,rfl,rfl,rfl,rfl,rfl,?_,rfl,rfl,rfl,rfl,rfl,next_i64 hjl (by omega),trivial⟩,⟨rfl,rfl,rfl,rfl,rfl,rfl,rfl,?_,rfl,rfl,rfl,?_,trivial⟩,⟨fun j' => ?_,trivial⟩⟩
        ·show AV.ref (.n 99) 0 ((keptBy (yV p) r.s (L.take j) (stepL p r.s (enAt p r k)).2).length + 1) = .ref (.n 99) 0 (keptBy (yV p) r.s (L.take (j + 1)) _).length
         rw [hkj,List.length_append]; rfl
        ·show some (Ob.rs 175 6 (((thRows 900 (runBy p r k).s.ths).map (scrPL (isK (.n 122)))).map (scrPL (isK (.n 99))))) = _
         rw [yG (fun _ _ => rfl)]
         exact congrArg (fun x => some (Ob.rs 175 6 x)) (yG fun _ _ => rfl)
        ·show some (Ob.ds 3 1 (((keptBy (yV p) r.s (L.take j) (stepL p r.s (enAt p r k)).2).map encN).take _ ++ [encN L[j]])) = some (Ob.ds 3 1 ((keptBy (yV p) r.s (L.take (j + 1)) (stepL p r.s (enAt p r k)).2).map encN))
         rw [hkj,List.take_of_length_le (by simp),List.map_append]; rfl
        ·show Option.map (scrPO (isK (.n 99))) (Option.map (scrPO (isK (.n 122))) (zV (runBy p r k).s.ths j')) = zV (runBy p r k).s.ths j'
         rw [yI,yI]
      ·have hkp : yV p r.s L[j] (stepL p r.s (enAt p r k)).2 := fun e => h3 (hme.2 e.1)
       have hkn : keptBy (yV p) r.s [L[j]] (stepL p r.s (enAt p r k)).2 = [L[j]] := by simp [keptBy,hkp]
       rw [hkn] at hkj
       conv => whnf
       refine ⟨⟨rfl,by show (_ + 1) * 8 ≤ _; omega,by show _ + 1 ≤ _; omega⟩,?_⟩
       conv => whnf
       refine ⟨j + 1,_,Weak.refl,hjl,by show L.length - (j + 1) < L.length - j; omega,⟨rfl,rfl,rfl,rfl,rfl,rfl,rfl,rfl,rfl,rfl,?_,rfl,rfl,rfl,rfl,rfl,next_i64 hjl (by omega),trivial⟩,⟨rfl,rfl,rfl,rfl,rfl,rfl,rfl,?_,rfl,rfl,rfl,?_,trivial⟩,⟨fun j' => ?_,trivial⟩⟩
       ·show AV.ref (.n 99) 0 ((keptBy (yV p) r.s (L.take j) (stepL p r.s (enAt p r k)).2).length + 1) = .ref (.n 99) 0 (keptBy (yV p) r.s (L.take (j + 1)) _).length
        rw [hkj,List.length_append]; rfl
       ·show some (Ob.rs 175 6 (((thRows 900 (runBy p r k).s.ths).map (scrPL (isK (.n 122)))).map (scrPL (isK (.n 99))))) = _
        rw [yG (fun _ _ => rfl)]
        exact congrArg (fun x => some (Ob.rs 175 6 x)) (yG fun _ _ => rfl)
       ·show some (Ob.ds 3 1 (((keptBy (yV p) r.s (L.take j) (stepL p r.s (enAt p r k)).2).map encN).take _ ++ [encN L[j]])) = some (Ob.ds 3 1 ((keptBy (yV p) r.s (L.take (j + 1)) (stepL p r.s (enAt p r k)).2).map encN))
        rw [hkj,List.take_of_length_le (by simp),List.map_append]; rfl
       ·show Option.map (scrPO (isK (.n 99))) (Option.map (scrPO (isK (.n 122))) (zV (runBy p r k).s.ths j')) = zV (runBy p r k).s.ths j'
        rw [yI,yI]
     ·have hge : j = L.length := by
       have : ¬ (j : Int) < L.length := fun e => h (decide_eq_true e)
       omega
      subst hge
      have hon : keptBy (yV p) r.s (L.take L.length) (stepL p r.s (enAt p r k)).2 = keptBy (yV p) r.s L (stepL p r.s (enAt p r k)).2 := by rw [List.take_length]
      subst hsq
      have hkk : (keptBy (yV p) r.s L (stepL p r.s (enAt p r k)).2).length ≤ 5 * (runBy p r k).tr.length := by
       have : (keptBy (yV p) r.s L (stepL p r.s (enAt p r k)).2).length ≤ L.length := List.length_filter_le _ _
       have e : (runBy p r k).tr.length = r.tr.length + 1 := by simp [runBy]
       omega
      have hfu : b.toNat + 1 - (runBy p r k).tr.length = n := by
       have e : (runBy p r k).tr.length = r.tr.length + 1 := by simp [runBy]
       omega
      conv => whnf
      refine .inr (.inr (.inl ⟨_,63,[],(weak_frz (fun κ => isSt κ || isK (.n 87) κ || isK (.n 93) κ || isK (.n 99) κ)).trans ((weak_cvt (.n 900) (e := 175) (sz := 6) (els := (runBy p r k).s.ths.map zE) ?_).trans (weak_frz (isK (.n 900)))),rfl,999,99,lW,_,
       io_congr (walk_ok p hp hg hv b hb _ n (runBy p r k) 0 (keptBy (yV p) r.s L (stepL p r.s (enAt p r k)).2) acc hnext hfu ha4 hkk _ ⟨rfl,rfl⟩) ?_,rfl,?_⟩))
      ·exact congrArg (fun x => some (Ob.rs 175 6 x)) (sH (fun _ => rfl) fun j => rfl)
      ·show [AV.ptr (.l 0) 0,AV.agg [i64 0,sl _,sl _,sl _,sl _,sl _,i64 (runBy p r k).s.fault],sl _] = [AV.ptr (.l 0) 0,AV.agg [i64 0,sl _,sl _,sl _,sl _,sl _,i64 (runBy p r k).s.fault],sl _]
       refine args5 ?_ ?_ ?_ ?_ ?_ ?_
       all_goals simp [List.take_of_length_le]
      rintro q H1 ⟨rfl,rfl⟩
      refine ⟨rY,fun n hn => ?_,?_⟩
      ·have : n = 0 := Nat.eq_of_beq_eq_true hn
       subst this
       exact ⟨107,_,_,rfl,rfl⟩
      generalize hX : xgo p b _ (yV p) n (runBy p r k) (keptBy (yV p) r.s L (stepL p r.s (enAt p r k)).2) acc = X at *
      obtain ⟨ys,okk⟩ := X
      cases okk with
      |false =>
       have hfin := (xloop_stay (k := k + 1) (by rw [hnx]) (enabledL p r.s).length (by omega)).trans hnx
       rw [hfin]
       conv => whnf
       refine ⟨_,Weak.refl,?_⟩
       conv => whnf
       exact ⟨lW,rfl,rT ⟨rfl,rfl⟩⟩
      |true =>
       conv => whnf
       refine ⟨⟨rfl,by show (L.length + 1) * 8 ≤ _; omega,by show L.length + 1 ≤ _; omega⟩,?_⟩
       conv => whnf
       refine ⟨(k + 1,⟨ys,tried ++ [enAt p r k],true⟩),_,Weak.refl,⟨rfl,hlt,hnx⟩,by show (enabledL p r.s).length - (k + 1) < (enabledL p r.s).length - k; omega,⟨rfl,rfl,rfl,rfl,rfl,?_,rfl,rfl,next_i64 hlt (by omega),trivial⟩,⟨rfl,rfl,rfl,?_,trivial⟩,⟨fun j => rfl,trivial⟩⟩
       ·show AV.ref (.n 57) 0 (L.length + 1) = .ref (.n 57) 0 (sleep ++ (tried ++ [enAt p r k])).length
        rw [← List.append_assoc,hLe,List.length_append]; rfl
       ·show some (Ob.ds 3 1 ((L.map encN).take L.length ++ [encN (enAt p r k)])) = some (Ob.ds 3 1 ((sleep ++ (tried ++ [enAt p r k])).map encN))
        rw [List.take_of_length_le (by simp),← List.append_assoc,hLe,List.map_append]; rfl
   ·have hge : k = (enabledL p r.s).length := by
     have : ¬ (k : Int) < ((enabledL p r.s).map encN).length := fun e => h (decide_eq_true e)
     simp at this; omega
    rw [← hge,hXe]
    conv => whnf
    refine ⟨_,Weak.refl,?_⟩
    conv => whnf
    exact ⟨lW,rfl,rT ⟨rfl,rfl⟩⟩
end Ai
end
section
set_option maxRecDepth 100000
namespace Ai
open Go Go.Proofs Cyc
theorem allI_eq (p : ProgL) (b : Int) : xgo p b false (yV p) (b.toNat + 1) ⟨0,[],[],vA p⟩ [] [] = gO p b := allR_of p b _ _
theorem allI_ok (p : ProgL) (hp : p.wf) (hs : p.rs.length ≤ 1048576 ∧ ∀ x ∈ p.rs,x.length ≤ 1048576) (hv : p.flt) (b : Int) :
  CallsTo EE 59 [agg (encProg p),i64 b] (fun r => (OkX p b ∧ r = .tup [sl ((gO p b).1.map jX),bv (gO p b).2]) ∨ (¬ OkX p b ∧ r = .tup [sl [],bv false])) := by
 refine callsTo_of_AW (fn := Tryz.f59) Tryz.func59 rfl (by kernel_rfl) rfl ?_
 conv => whnf
 refine ocase (v7 p hs) (fun hg => ?_) (fun hg => ?_)
 rotate_left 1
 ·conv => whnf
  refine .inl ?_
  conv => whnf
  exact .inr ⟨fun e => hg ((eF p).1 e.1),rfl⟩
 have hg : p.goodS := (eF p).2 hg
 conv => whnf
 refine ocase (in_ok b 0 14) (fun hk => ?_) (fun hk => ?_)
 rotate_left 1
 ·conv => whnf
  refine .inl ?_
  conv => whnf
  exact .inr ⟨fun e => hk e.2,rfl⟩
 obtain ⟨b1,b2,b3,b4⟩ := hg.1
 have hr0 : XR p b ⟨0,[],[],vA p⟩ := XR.new hg hk.1
 conv => whnf
 refine ⟨_,start_ok p ⟨b1.1,by have := b1.2; omega⟩ ⟨b2.1,by have := b2.2; omega⟩,?_⟩
 rintro r rfl
 conv => whnf
 refine .inr (.inr (.inl ⟨_,63,[],(weak_frz (fun κ => isSt κ || isK (.n 21) κ || isK (.n 22) κ)).trans ((weak_cvt (.n 900) (e := 175) (sz := 6) (els := (vA p).ths.map zE) ?_).trans ((weak_frz (isK (.n 900))).trans
  ((uZ (.n 19) (.n 950) 107 56 7 5 [i64 p.cells,i64 p.locks,i64 p.conds,.d (.sl (p.rs.map zS)),i64 b,.d .nil,bv false] (by intro n h; cases h) (by intro h; cases h) ?_ rfl).trans (weak_cvt (.n 950) (e := 56) (sz := 7) (els := []) ?_)))),rfl,19,0,lW,_,
   io_nil (io_congr (walk_ok p hp hg hv b ⟨hk.1,by have := hk.2; omega⟩ false (b.toNat + 1) ⟨0,[],[],vA p⟩ 0 [] [] hr0 (by simp) (by simp) (by simp) _ ?_) ?_),rfl,?_⟩))
 ·exact congrArg (fun x => some (Ob.rs 175 6 x)) (sH (fun _ => rfl) fun j => rR (vA p) j)
 ·rfl
 ·rfl
 ·exact ⟨rfl,rfl⟩
 ·show [AV.ptr (.l 0) 0,AV.agg [i64 0,sl _,sl _,sl _,sl _,sl _,i64 (vA p).fault],sl []] = [AV.ptr (.l 0) 0,AV.agg [i64 0,sl _,sl _,sl _,sl _,sl _,i64 (vA p).fault],sl []]
  refine args5 ?_ ?_ ?_ ?_ ?_ rfl
  all_goals simp [List.take_of_length_le]
 rintro q H1 ⟨rfl,rfl⟩
 refine ⟨rY,fun n hn => ?_,?_⟩
 ·have : n = 0 := Nat.eq_of_beq_eq_true hn
  subst this
  exact ⟨107,_,_,rfl,rfl⟩
 rw [allI_eq]
 conv => whnf
 refine .inl ?_
 conv => whnf
 refine .inl ⟨⟨hg,hk⟩,?_⟩
 show AV.tup [sl ((((gO p b).1.map jX).drop 0).take (gO p b).1.length),bv (gO p b).2] = _
 rw [List.drop_zero,List.take_of_length_le (by simp)]
end Ai
end
section
namespace Ai
open Go Go.Proofs Cyc
theorem lex_of {r x y : List Int} {i j : Int} (h1 : r ++ [i] <+: x) (h2 : r ++ [j] <+: y) (h : i < j) : LexLt x y := by
 obtain ⟨s,rfl⟩ := h1
 obtain ⟨t,rfl⟩ := h2
 exact ⟨r,i,j,s,t,by simp,by simp,h⟩
structure NewL (acc out : List RunT) (P : RunT → Prop) : Prop where
 ex : ∃ new,out = acc ++ new ∧ (∀ x ∈ new,P x) ∧ new.Pairwise (fun x y => LexLt x.tk y.tk)
theorem xgo_new {p : ProgL} {b : Int} {sl : Bool} {K : StL → Nat → Ev → Prop} : ∀ (n : Nat) (r : RunT) (sleep : List Nat) (acc : List RunT),NewL acc (xgo p b sl K n r sleep acc).1 (fun x => r.tk <+: x.tk)
 | 0,r,sleep,acc => ⟨[],by simp [xgo],fun x hx => (by cases hx),.nil⟩
 |n + 1,r,sleep,acc => by
  rw [xgo]
  split
  ·exact ⟨[leaf p b (codeL p r.s r.tr.length b) r],rfl,fun x hx => by simp only [List.mem_cons,List.not_mem_nil,or_false] at hx; subst hx; exact List.prefix_rfl,List.pairwise_singleton _ _⟩
  ·have : ∀ k,NewL acc (xloop p sl K (xgo p b sl K n) r sleep acc k).acc (fun x => ∃ j : Nat,j < k ∧ r.tk ++ [(j : Int)] <+: x.tk) := by
    intro k
    induction k with
    |zero => exact ⟨[],by simp [xloop],fun x hx => (by cases hx),.nil⟩
    |succ k ih =>
     obtain ⟨new,h1,h2,h3⟩ := ih
     rw [xloop]
     split
     ·exact ⟨new,h1,fun x hx => by obtain ⟨j,hj,hp⟩ := h2 x hx; exact ⟨j,by omega,hp⟩,h3⟩
     ·obtain ⟨new2,g1,g2,g3⟩ := xgo_new n (runBy p r k) (keptBy K r.s (sleep ++ (xloop p sl K (xgo p b sl K n) r sleep acc k).tried) (stepL p r.s (enAt p r k)).2) (xloop p sl K (xgo p b sl K n) r sleep acc k).acc
      refine ⟨new ++ new2,by rw [g1,h1,List.append_assoc],fun x hx => ?_,?_⟩
      ·rcases List.mem_append.1 hx with e | e
       ·obtain ⟨j,hj,hp⟩ := h2 x e; exact ⟨j,by omega,hp⟩
       ·exact ⟨k,by omega,g2 x e⟩
      ·rw [List.pairwise_append]
       refine ⟨h3,g3,fun x hx y hy => ?_⟩
       obtain ⟨j,hj,hp⟩ := h2 x hx
       exact lex_of hp (g2 y hy) (by omega)
   obtain ⟨new,h1,h2,h3⟩ := this (enabledL p r.s).length
   refine ⟨new,h1,fun x hx => ?_,h3⟩
   obtain ⟨j,_,hp⟩ := h2 x hx
   exact (List.prefix_append _ _).trans hp
end Ai
end
section
namespace Ai
open Go Go.Proofs Cyc
theorem xgo_rise {p : ProgL} {b : Int} {sl : Bool} {K : StL → Nat → Ev → Prop} (n : Nat) (r : RunT) (sleep : List Nat) : nX ((xgo p b sl K n r sleep []).1.map RunT.tk) := by
 obtain ⟨new,h1,_,h3⟩ := (xgo_new (p := p) (b := b) (sl := sl) (K := K) n r sleep []).ex
 rw [h1,List.nil_append]
 exact List.pairwise_map.2 h3
theorem allR_rise (p : ProgL) (b : Int) : nX ((gO p b).1.map RunT.tk) := xgo_rise _ _ _
end Ai
end
section
set_option maxRecDepth 100000
namespace Ai
open Go Go.Proofs Cyc
theorem rows_of {p : ProgL} {b : Int} {xs : List RunT} (hb : b ≤ 14) (hn : xs.length ≤ 401) (hall : ∀ x ∈ xs,XEnd p b x) (hr : nX (xs.map RunT.tk)) : RowsUp (xs.map RunT.tk) :=
 ⟨hr,by simp; omega,fun y hy => by
  obtain ⟨x,hx,rfl⟩ := List.mem_map.1 hy
  have h1 := (hall x hx).fin.le
  have h2 := (hall x hx).fin.len
  omega⟩
theorem rD (p : ProgL) (hp : p.wf) (hs : p.rs.length ≤ 1048576 ∧ ∀ x ∈ p.rs,x.length ≤ 1048576) (hv : p.flt) (b : Int) :
  CallsTo EE 14 [agg (encProg p),i64 b] (fun r => (OkA p b ∧ r = .ownF 1 [b9 ((gO p b).1.map RunT.tk),bv true]) ∨ (¬ OkA p b ∧ r = .tup [sl [],bv false])) := by
 refine callsTo_of_AW (fn := Tryz.f14) Tryz.func14 rfl (by kernel_rfl) rfl ?_
 conv => whnf
 refine ⟨_,allI_ok p hp hs hv b,?_⟩
 rintro r (⟨hok,rfl⟩ | ⟨hn,rfl⟩)
 ·have hall := e8 hok.1 hv hok.2.1
  have hA : OkA p b ↔ (gO p b).2 = true := ⟨fun e => e.2,fun e => ⟨hok,e⟩⟩
  have hup := rows_of hok.2.2 (e7 p b) hall (allR_rise p b)
  generalize gO p b = X at *
  obtain ⟨xs,okk⟩ := X
  cases okk with
  |false =>
   conv => whnf
   refine .inl ?_
   conv => whnf
   exact .inr ⟨fun e => absurd (hA.1 e) (by simp),rfl⟩
  |true =>
   conv => whnf
   refine ⟨_,picksOf_ok xs hup,?_⟩
   rintro r rfl
   conv => whnf
   refine .inr ⟨1,[b9 (xs.map RunT.tk),bv true],_,[.dref (.n 900) ((xs.map RunT.tk).map fun _ => [D.nil]).length,bv true],Weak.refl,rfl,by simp,rfl,?_,mY ⟨⟨rfl,fun j q hq => ?_⟩,trivial,trivial⟩,.inl ⟨hA.2 rfl,rfl⟩⟩
   ·intro v hv
    simp only [List.mem_cons,List.not_mem_nil,or_false] at hv
    rcases hv with rfl | rfl
    ·show ((xs.map RunT.tk).map _).length = ((xs.map RunT.tk).map _).length
     simp
    ·trivial
   ·have e : ownH [b9 (xs.map RunT.tk)] (.s 900 j) = some (.ds 3 1 q) := by
     show (((xs.map RunT.tk).map fun x => x.map encInt)[j]?).map (Ob.ds 3 1) = _
     rw [hq]
     rfl
    show (match ownH [b9 (xs.map RunT.tk)] (.s 900 j) with | some ob => some ob | none => _) = _
    rw [e]
 ·conv => whnf
  refine .inl ?_
  conv => whnf
  exact .inr ⟨fun e => hn e.1,rfl⟩
end Ai
end
section
set_option maxRecDepth 100000
namespace Ai
open Go Go.Proofs
def eK (p : ProgL) : List AV := [i64 p.cells,i64 p.locks,i64 p.conds,.uqd 157 1 0 183 4 (p.rs.map fun _ => [.nil]) (zP p)]
theorem mZ (o : Nat) (p : ProgL) : ownRows o 0 (p.rs.map fun _ => [.nil]) (zP p) = (List.range p.rs.length).map fun j => [.ref (.s o j) 0 ((zP p).getD j []).length] := by
 unfold ownRows
 apply List.ext_getElem?
 intro j
 by_cases h : j < p.rs.length
 ·simp [h]
 ·rw [List.getElem?_eq_none (by simp; omega),List.getElem?_eq_none (by simp; omega)]
theorem b8 {o o' : Nat} {p : ProgL} (f : List AV → List AV) (h : ∀ j n,f [.ref (.s o j) 0 n] = [.ref (.s o' j) 0 n]) : (ownRows o 0 (p.rs.map fun _ => [.nil]) (zP p)).map f = ownRows o' 0 (p.rs.map fun _ => [.nil]) (zP p) := by
 rw [mZ,mZ,List.map_map]
 exact List.map_congr_left fun j _ => h j _
theorem eG (p : ProgL) : ownRows 903 0 (p.rs.map fun _ => [.nil]) (zP p) = wM (zP p) 0 := by
 rw [mZ]
 unfold wM
 rw [show (zP p).length = p.rs.length by simp [zP]]
 refine List.map_congr_left fun j _ => ?_
 unfold rI
 rw [if_neg (by omega)]
theorem sC (p : ProgL) (h : p.rs.length ≤ 1048576 ∧ ∀ x ∈ p.rs,x.length ≤ 1048576) : CallsTo EE 13 [agg (encProg p)] (· = .own (eK p)) := by
 refine callsTo_of_AW (fn := Tryz.f13) Tryz.func13 rfl (by kernel_rfl) rfl ?_
 conv => whnf
 refine ⟨_,toOpSS_own _ h.1 h.2,?_⟩
 rintro r rfl
 conv => whnf
 refine .inr (.inr ⟨eK p,_,weak_re shA,rfl,?_,mY ⟨trivial,trivial,trivial,⟨?_,fun j q hq => ?_⟩,trivial⟩,rfl⟩)
 ·intro v hv
  simp only [eK,List.mem_cons,List.not_mem_nil,or_false] at hv
  rcases hv with rfl | rfl | rfl | rfl
  ·trivial
  ·trivial
  ·trivial
  ·show (p.rs.map _).length = (zP p).length
   simp [zP]
 ·show some (Ob.rs 157 1 ((ownRows 900 0 (p.rs.map fun _ => [.nil]) (zP p)).map (renL shA.f))) = some (Ob.rs 157 1 (ownRows 903 0 (p.rs.map fun _ => [.nil]) (zP p)))
  exact congrArg (fun x => some (Ob.rs 157 1 x)) (b8 _ fun j n => rfl)
 ·have hq : (zP p)[j]? = some q := hq
  have e : ownH [.uqd 157 1 0 183 4 (p.rs.map fun _ => [.nil]) (zP p)] (.s 900 j) = some (.ds 183 4 q) := by
   show ((zP p)[j]?).map (Ob.ds 183 4) = _
   rw [hq]
   rfl
  show Option.map (renO shA.f) (match ownH [.uqd 157 1 0 183 4 (p.rs.map fun _ => [.nil]) (zP p)] (.s 900 j) with | some ob => some ob | none => _) = _
  rw [e]
  rfl
end Ai
end
section
set_option maxRecDepth 100000
namespace Ai
open Go Go.Proofs Cyc
theorem eJ {p : ProgL} {j : Nat} : ownH (eK p) (.s 903 j) = vT (zP p) 0 j := by
 show ((zP p)[j]?).map (Ob.ds 183 4) = _
 unfold vT
 rw [if_neg (by omega)]
theorem y1 {p : ProgL} {S : St} {n : Nat} (h1 : S.H (.n 903) = some (.rs 157 1 (wM (zP p) 0))) (h2 : ∀ j,S.H (.s 903 j) = vT (zP p) 0 j) (hn : n = p.rs.length) :
  FzC S [i64 p.cells,i64 p.locks,i64 p.conds,.dref (.n 903) n] (encProg p) := by
 subst hn
 refine ⟨di p.cells,_,rfl,rfl,di p.locks,_,rfl,rfl,di p.conds,_,rfl,rfl,.sl (p.rs.map zS),_,rfl,⟨_,rfl,viewR h1 (by simp) (by simp [wM,zP]) ?_⟩,rfl⟩
 intro j row d hr hd
 have hj : j < p.rs.length := by
  have := (List.getElem?_eq_some_iff.1 hd).1
  simpa using this
 have hjs : j < (zP p).length := by simpa [zP] using hj
 rw [eB hjs] at hr
 rw [List.getElem?_map,List.getElem?_eq_getElem hj] at hd
 simp only [Option.map_some,Option.some.injEq] at hr hd
 subst hr hd
 have hg : (zP p)[j] = p.rs[j].map encOp := by simp [zP,gA]
 have h3 := h2 j
 unfold vT at h3
 rw [if_neg (by omega),List.getElem?_eq_getElem hjs,hg] at h3
 unfold rI
 rw [if_neg (by omega)]
 simp [fz1s,fz1,h3,List.getD_eq_getElem?_getD,hjs,hg,zS,List.take_of_length_le]
theorem q9 {p : ProgL} (h : p.size ≤ 1048576) : tot (zP p) (zP p).length ≤ 1048576 := by
 unfold ProgL.size fY at h
 unfold tot zP
 rw [List.take_length,List.map_map]
 have e : (List.length ∘ gA : List OpL → Nat) = List.length := by funext r; simp [gA]
 rw [e]; omega
theorem ops4 (p : ProgL) : ∀ q ∈ zP p,∀ c ∈ q,c.length = 4 := by
 intro q hq c hc
 obtain ⟨r,_,rfl⟩ := List.mem_map.1 hq
 obtain ⟨y,_,rfl⟩ := List.mem_map.1 hc
 rfl
structure SmC (p : ProgL) : Prop where
 hs : p.rs.length ≤ 1048576 ∧ ∀ x ∈ p.rs,x.length ≤ 1048576
 hz : p.size ≤ 1048576
structure PkOK (l : List (List Int)) : Prop where
 len : l.length ≤ 1048576
 row : ∀ x ∈ l,x.length ≤ 1048576
 tot : wT l l.length ≤ 1048576
theorem totQ_of {l : List (List Int)} {m : Nat} (h : ∀ x ∈ l,x.length ≤ m) : ∀ i,wT l i ≤ i * m
 | 0 => by simp [wT]
 |i + 1 => by
  have ih := totQ_of h i
  by_cases hi : i < l.length
  ·rw [mP hi,Nat.add_mul,Nat.one_mul]
   have := h _ (List.getElem_mem hi)
   omega
  ·have e : wT l (i + 1) = wT l i := by
    unfold wT
    rw [List.take_of_length_le (by omega),List.take_of_length_le (by omega)]
   rw [e,Nat.add_mul]; omega
theorem pkQ_of {p : ProgL} {b : Int} {xs : List RunT} (hb : b ≤ 14) (hn : xs.length ≤ 401) (hall : ∀ x ∈ xs,XEnd p b x) : PkOK (xs.map RunT.tk) := by
 have h14 : ∀ y ∈ xs.map RunT.tk,y.length ≤ 14 := fun y hy => by
  obtain ⟨x,hx,rfl⟩ := List.mem_map.1 hy
  have h1 := (hall x hx).fin.le
  have h2 := (hall x hx).fin.len
  omega
 have := totQ_of h14 (xs.map RunT.tk).length
 have hl : (xs.map RunT.tk).length = xs.length := by simp
 refine ⟨by omega,fun x hx => by have := h14 x hx; omega,?_⟩
 have : (xs.map RunT.tk).length * 14 ≤ 401 * 14 := Nat.mul_le_mul_right _ (by omega)
 omega
end Ai
end
section
set_option maxRecDepth 100000
namespace Ai
open Go Go.Proofs Cyc
def numQ (k : Nat) : Nat := bif Nat.beq k 900 then 943 else bif Nat.beq k 943 then 900 else k
theorem numQ_numQ (k : Nat) : numQ (numQ k) = k := by
 by_cases h1 : k = 900
 ·subst h1; rfl
 by_cases h2 : k = 943
 ·subst h2; rfl
 simp [numQ,nbeq_ne h1,nbeq_ne h2]
def shQ : Sh := mkSh numQ numQ_numQ
def qL (m : Int) (w : List (List Int)) : List (Nat × AV) := [(1,i64 m),(2,.ptr (.n 2) 0),(6,sl (w.map wB)),(7,bv true),(8,.ptr (.n 8) 0)]
def qO (p : ProgL) : List (Key × Ob) := [(.n 2,.vs 24 ((encProg p).map .d)),(.n 8,.vs 31 [i64 p.cells,i64 p.locks,i64 p.conds,.dref (.n 903) p.rs.length]),(.n 903,.rs 157 1 (wM (zP p) 0))]
def qL2 (m : Int) (w : List (List Int)) : List (Nat × AV) := [(1,i64 m),(2,.ptr (.n 2) 0),(6,sl (w.map wB)),(7,bv true),(8,.ptr (.n 8) 0),(9,.dref (.n 900) w.length),(10,bv true)]
def qO2 (p : ProgL) (w : List (List Int)) : List (Key × Ob) := [(.n 2,.vs 24 ((encProg p).map .d)),(.n 8,.vs 31 [i64 p.cells,i64 p.locks,i64 p.conds,.dref (.n 903) p.rs.length]),(.n 903,.rs 157 1 (wM (zP p) 0)),(.n 900,.rs 41 1 (wI 900 w w.length))]
def qF2 (p : ProgL) (w : List (List Int)) : List (Nat × (Nat → Option Ob)) := [(903,vT (zP p) 0),(900,fmQ w w.length),(943,fun _ => none)]
def qL3 (m : Int) (w : List (List Int)) (k : Int) : List (Nat × AV) := [(1,i64 m),(2,.ptr (.n 2) 0),(6,sl (w.map wB)),(7,bv true),(9,.dref (.n 900) w.length),(10,bv true),(11,i64 k)]
def qO3 (p : ProgL) (w : List (List Int)) : List (Key × Ob) := [(.n 2,.vs 24 ((encProg p).map .d)),(.n 900,.rs 41 1 (wI 900 w w.length))]
def qF3 (w : List (List Int)) : List (Nat × (Nat → Option Ob)) := [(900,fmQ w w.length),(943,fun _ => none)]
def qL4 (m : Int) (w : List (List Int)) : List (Nat × AV) := [(1,i64 m),(2,.ptr (.n 2) 0),(6,sl (w.map wB)),(7,bv true),(9,.dref (.n 943) w.length),(12,i64 (1 + (wT w w.length : Int)))]
def qO4 (p : ProgL) (w : List (List Int)) : List (Key × Ob) := [(.n 2,.vs 24 ((encProg p).map .d)),(.n 943,.rs 41 1 (wI 943 w w.length))]
def qF4 (w : List (List Int)) : List (Nat × (Nat → Option Ob)) := [(943,fmQ (uN w 1 w.length) w.length),(900,fun _ => none)]
def qF (p : ProgL) : List (Nat × (Nat → Option Ob)) := [(903,vT (zP p) 0),(900,fun _ => none),(943,fun _ => none)]
theorem sX {w : List (List Int)} {x : AV} {H : Option Ob} (h : H = none) (j : Nat) : (match ownH [b9 w,x] (.s 900 j) with | some ob => some ob | none => H) = fmQ w w.length j := by
 have e : ownH [b9 w,x] (.s 900 j) = fmQ w w.length j := by
  rw [fmQ_own]
  rfl
 rw [e,h]
 cases fmQ w w.length j <;> rfl
theorem viewMix {S : St} {w : List (List Int)} {k : Int} (h : S.H (.n 943) = some (.rs 41 1 (wI 943 w w.length))) (hf : ∀ j,S.H (.s 943 j) = fmQ (uN w k w.length) w.length j) : jI S (.n 943) w.length ((uN w k w.length).map wB) := by
 have := q6 (S := S) (l := uN w k w.length) (o := .n 943) (q := 943) (by rw [h,rwsQ_mix,qX]) (fun j => by rw [hf j,qX])
 rwa [qX] at this
theorem lawAllA (p : ProgL) (hp : p.wf) (hv : p.flt) (m : Int) (w : List (List Int)) (hw : PkOK w)
  (cS : (p.rs.length ≤ 1048576 ∧ ∀ x ∈ p.rs,x.length ≤ 1048576) → CallsTo EE 12 [agg (encProg p),i64 m] (· = .tup [sl (w.map wB),bv true]))
  (cI : (p.rs.length ≤ 1048576 ∧ ∀ x ∈ p.rs,x.length ≤ 1048576) → CallsTo EE 14 [agg (encProg p),i64 m] (· = .ownF 1 [b9 w,bv true])) : CallsTo EE 3 [agg (encProg p),i64 m] (· = bv true) := by
 refine callsTo_of_AW (fn := Tryz.f3) Tryz.func3 rfl (by kernel_rfl) rfl ?_
 refine uU 6 (fun S => SmC p ∧ At (qL m w) (qO p) (qF p) S) (fun K hK => ?_) (fun S hS => ?_)
 ·conv => whnf
  refine ⟨_,aU p 1048576 (by omega) (by omega) hp,?_⟩
  rintro r ⟨n,rfl,hn1,hn2,hn3⟩
  conv => whnf
  refine kbi (fun _ => ?_) (fun h => ?_)
  ·conv => whnf
   try rfl
  have hsz : p.size ≤ 1048576 := by
   have := hn3 (by simp at h; omega)
   simp at h
   omega
  have hs := size_le List.length p.rs 1048576 hsz
  have cS := cS hs
  conv => whnf
  refine ⟨_,jL p hs,?_⟩
  rintro r rfl
  conv => whnf
  refine ⟨_,cS,?_⟩
  rintro r rfl
  conv => whnf
  refine ⟨_,sC p hs,?_⟩
  rintro r rfl
  conv => whnf
  refine hK _ ⟨⟨hs,hsz⟩,⟨rfl,rfl,rfl,rfl,rfl,trivial⟩,⟨rfl,?_,?_,trivial⟩,⟨fun j => ?_,fun j => rfl,fun j => rfl,trivial⟩⟩
  ·show some (Ob.vs 31 [i64 p.cells,i64 p.locks,i64 p.conds,.dref (.n 903) (p.rs.map fun _ => [D.nil]).length]) = _
   rw [List.length_map]
  ·show some (Ob.rs 157 1 ((ownRows 903 0 (p.rs.map fun _ => [.nil]) (zP p)).map (scrPL (isK (.n 8))))) = _
   rw [eG,vB _ (fun j => rfl)]
  ·show Option.map _ (match ownH (eK p) (.s 903 j) with | some ob => some ob | none => _) = _
   rw [eJ]
   cases hq : vT (zP p) 0 j with
   |none => rfl
   |some ob =>
    show Option.map _ (some ob) = some ob
    rw [← hq,uR]
 obtain ⟨⟨hs,hsz⟩,hat⟩ := hS
 have cI := cI hs
 refine uU 3 (At (qL2 m w) (qO2 p w) (qF2 p w)) (fun K hK => ?_) (fun S2 hS2 => ?_)
 rotate_left 1
 ·clear hat
  have hsl : (zP p).length = p.rs.length := by simp [zP]
  have ht := q9 hsz
  refine uU 2 (fun S => ∃ k : Int,0 ≤ k ∧ At (qL3 m w k) (qO3 p w) (qF3 w) S) (fun K hK => ?_) (fun S3 hS3 => ?_)
  ·obtain ⟨τ,H,rfl⟩ := hS2.form
   clear hS2
   conv => whnf
   refine .inr (.inl ⟨999,0,tJ,(fun r H1 => r = i64 (1 + 4 * tot (zP p) (zP p).length) ∧ ∀ κ,H1 κ = none),?_,rfl,?_⟩)
   ·refine io_congr (pL p.cells p.locks p.conds (zP p) 1 (by omega) (ops4 p) ht (by omega) (by omega) _ ?_ fun j => ?_) ?_
    ·show some (Ob.rs 157 1 (((wM (zP p) 0).map (renL (swp (.n 999) (.l 0)))).map (scrPL (fun o => !tJ o)))) = _
     rw [dW _ (fun j => rfl),vB _ (fun j => rfl)]
    ·show Option.map _ (Option.map _ (vT (zP p) 0 j)) = _
     rw [jW,uR]
    ·rw [hsl]; rfl
   rintro r H1 ⟨rfl,q⟩
   refine ⟨fun κ _ => q κ,fun n hn => (by cases hn),?_⟩
   generalize tot (zP p) (zP p).length = T at ht ⊢
   conv => whnf
   refine hK _ ⟨1 + 4 * (T : Int),by omega,⟨rfl,rfl,rfl,rfl,rfl,rfl,rfl,trivial⟩,⟨rfl,?_,trivial⟩,⟨fun j => ?_,fun j => rfl,trivial⟩⟩
   ·show some (Ob.rs 41 1 ((((wI 900 w w.length).map (renL (swp (.n 999) (.l 0)))).map (scrPL (uV tJ))).map (renL (swp (.n 999) (.l 0))))) = _
    rw [qW (o2 := 900) _ _ (fun j _ => rfl),uL _ _ (fun j => rfl),qW (o2 := 900) _ _ (fun j _ => rfl)]
   ·show Option.map _ (Option.map _ (Option.map _ (fmQ w w.length j))) = _
    rw [qR,qQ,qR]
  ·clear hS2
   obtain ⟨k,hk,hS3⟩ := hS3
   refine uU 3 (At (qL4 m w) (qO4 p w) (qF4 w)) (fun K hK => ?_) (fun S4 hS4 => ?_)
   ·obtain ⟨τ,H,rfl⟩ := hS3.form
    clear hS3
    conv => whnf
    refine kbi (fun h => absurd h (by simp; omega)) (fun _ => ?_)
    conv => whnf
    refine .inl ⟨[sl (w.map wB),sl (w.map wB)],[],_,⟨_,_,rfl,⟨_,rfl,q6 (q := 900) rfl (fun j => rfl)⟩,_,_,rfl,rfl,rfl⟩,rfl,fC w hw.len hw.row,?_⟩
    rintro r rfl
    refine ⟨rfl,?_⟩
    conv => whnf
    refine kbi (fun h => absurd h (by simp)) (fun _ => ?_)
    conv => whnf
    refine .inr (.inr (.inr (.inr ⟨_,18,[],weak_re shQ,rfl,943,76,m4,_,io_congr (oQ w 1 hw.len hw.tot (by omega) (by omega) _ ?_ (fun j => ?_)) rfl,rfl,?_⟩)))
    ·show some (Ob.rs 41 1 ((((wI 900 w w.length).map (renL shQ.f)).map (renL (swp (.n 943) (.l 76)))).map (scrPL (fun o => !m4 o)))) = _
     rw [qW (o2 := 943) _ _ (fun j _ => rfl),qW (o2 := 943) _ _ (fun j _ => rfl),uL _ _ (fun j => rfl)]
    ·show Option.map _ (Option.map _ (Option.map _ (fmQ w w.length j))) = _
     rw [qR,qR,qQ]
    rintro r H1 ⟨rfl,e1,e2,q⟩
    refine ⟨q,fun n hn => ⟨.rs 41 1 (wI 943 w w.length),?_,wI 943 w w.length,?_,rfl⟩,?_⟩
    ·have : n = 76 := Nat.eq_of_beq_eq_true hn
     subst this
     show some (Ob.rs 41 1 (((wI 900 w w.length).map (renL shQ.f)).map (renL (swp (.n 943) (.l 76))))) = _
     rw [qW (o2 := 943) _ _ (fun j _ => rfl),qW (o2 := 943) _ _ (fun j _ => rfl)]
    ·have : n = 76 := Nat.eq_of_beq_eq_true hn
     subst this; exact e1
    conv => whnf
    refine hK _ ⟨⟨rfl,rfl,rfl,rfl,rfl,rfl,trivial⟩,⟨rfl,?_,trivial⟩,⟨fun j => ?_,fun j => rfl,trivial⟩⟩
    ·show Option.map _ (H1 (.l 76)) = _
     rw [e1]
     show some (Ob.rs 41 1 ((wI 943 w w.length).map (renL (swp (.n 943) (.l 76))))) = _
     rw [qW (o2 := 943) _ _ (fun j _ => rfl)]
    ·show Option.map _ (H1 (.s 943 j)) = _
     rw [e2,qR]
   ·clear hS3
    obtain ⟨τ,H,rfl⟩ := hS4.form
    clear hS4
    have hh := oX w 1 hw.len hw.tot (by omega) (by omega)
    conv => whnf
    refine .inl ⟨[sl ((uN w 1 w.length).map wB),i64 1],[],_,⟨_,_,rfl,⟨_,rfl,viewMix rfl (fun j => rfl)⟩,_,_,rfl,rfl,rfl⟩,rfl,hh,?_⟩
    rintro r rfl
    refine ⟨rfl,?_⟩
    conv => whnf
    refine kbi (fun h => absurd h (by simp; omega)) (fun _ => ?_)
    conv => whnf
    refine kbi (fun h => absurd h (by simp)) (fun _ => ?_)
    conv => whnf
    refine ⟨_,jL p hs,?_⟩
    rintro r rfl
    conv => whnf
    refine ⟨_,cI,?_⟩
    rintro r rfl
    conv => whnf
    have e0 : (w.map fun _ => [D.nil]).length = w.length := by simp
    refine .inl ⟨[sl (w.map wB),sl (w.map wB)],[],_,⟨_,_,rfl,⟨_,rfl,?_⟩,_,_,rfl,rfl,rfl⟩,rfl,fC w hw.len hw.row,?_⟩
    ·rw [e0]
     refine q6 (q := 900) ?_ (fun j => ?_)
     ·show some (Ob.rs 41 1 (ownRows 900 0 (w.map fun _ => [.nil]) (w.map fun x => x.map encInt))) = _
      rw [lJ]
     ·exact sX rfl j
    rintro r rfl
    refine ⟨rfl,?_⟩
    conv => whnf
    refine kbi (fun h => absurd h (by simp)) (fun _ => ?_)
    conv => whnf
    refine .inl ⟨[sl ((uN w 1 w.length).map wB),i64 1],[],_,⟨_,_,rfl,⟨_,rfl,viewMix ?_ (fun j => ?_)⟩,_,_,rfl,rfl,rfl⟩,rfl,hh,?_⟩
    ·show some (Ob.rs 41 1 ((wI 943 w w.length).map (scrPL _))) = _
     rw [uL _ _ (fun j => rfl)]
    ·show Option.map _ (fmQ (uN w 1 w.length) w.length j) = _
     rw [qQ]
    rintro r rfl
    refine ⟨rfl,?_⟩
    conv => whnf
    refine kbi (fun h => absurd h (by simp; omega)) (fun _ => ?_)
    conv => whnf
    refine kbi (fun h => absurd h (by simp)) (fun _ => ?_)
    conv => whnf
    try rfl
 obtain ⟨τ,H,rfl⟩ := hat.form
 clear hat
 conv => whnf
 refine .inl ⟨[agg (encProg p),i64 m],[],_,⟨_,_,rfl,⟨_,rfl,y1 rfl (fun j => rfl) rfl⟩,_,_,rfl,rfl,rfl⟩,rfl,cI,?_⟩
 rintro r rfl
 refine ⟨fun c hc => ?_,?_⟩
 ·simp only [List.mem_cons,List.not_mem_nil,or_false] at hc
  rcases hc with rfl | rfl
  ·refine ⟨fun c hc => ?_,fun q hq c hc => ?_⟩
   ·obtain ⟨y,_,rfl⟩ := List.mem_map.1 hc; rfl
   ·obtain ⟨r,_,rfl⟩ := List.mem_map.1 hq
    obtain ⟨y,_,rfl⟩ := List.mem_map.1 hc; rfl
  ·rfl
 conv => whnf
 have e0 : (w.map fun _ => [D.nil]).length = w.length := by simp
 refine .inl ⟨[sl (w.map wB),sl (w.map wB)],[],_,⟨_,_,rfl,⟨_,rfl,?_⟩,_,_,rfl,rfl,rfl⟩,rfl,fC w hw.len hw.row,?_⟩
 ·rw [e0]
  refine q6 (q := 900) ?_ (fun j => ?_)
  ·show some (Ob.rs 41 1 (ownRows 900 0 (w.map fun _ => [.nil]) (w.map fun x => x.map encInt))) = _
   rw [lJ]
  ·exact sX rfl j
 rintro r rfl
 refine ⟨rfl,?_⟩
 conv => whnf
 refine kbi (fun h => absurd h (by simp)) (fun _ => ?_)
 conv => whnf
 refine ⟨by kernel_rfl,?_⟩
 conv => whnf
 refine ⟨_,jL p hs,?_⟩
 conv => whnf
 refine ⟨[agg (encProg p),agg (encProg p)],[],bv true,⟨_,_,rfl,⟨_,rfl,y1 ?_ (fun j => ?_) rfl⟩,_,_,rfl,fz_prog p,rfl⟩,rfl,iJ p hs,rfl,?_⟩
 ·show some (Ob.rs 157 1 ((wM (zP p) 0).map (scrPL _))) = _
  rw [vB _ fun j => rfl]
 ·show Option.map _ (vT (zP p) 0 j) = _
  exact uR _ _ _ _
 conv => whnf
 refine hK _ ⟨⟨rfl,rfl,rfl,rfl,rfl,?_,rfl,trivial⟩,⟨rfl,rfl,?_,?_,trivial⟩,⟨fun j => ?_,fun j => ?_,fun j => rfl,trivial⟩⟩
 ·show AV.dref (.n 900) (w.map fun _ => [D.nil]).length = _
  rw [e0]
 ·show some (Ob.rs 157 1 ((wM (zP p) 0).map (scrPL _))) = _
  rw [vB _ fun j => rfl]
 ·show some (Ob.rs 41 1 (ownRows 900 0 (w.map fun _ => [.nil]) (w.map fun x => x.map encInt))) = _
  rw [lJ]
 ·show Option.map _ (vT (zP p) 0 j) = _
  exact uR _ _ _ _
 ·exact sX rfl j
end Ai
end
section
set_option maxRecDepth 100000
namespace Ai
open Go Go.Proofs Cyc
def zL (m : Int) : List (Nat × AV) := [(1,i64 m),(2,.ptr (.n 2) 0),(6,sl []),(7,bv false),(8,.ptr (.n 8) 0)]
def zF (p : ProgL) : List (Nat × (Nat → Option Ob)) := [(903,vT (zP p) 0)]
def zL2 (m : Int) : List (Nat × AV) := [(1,i64 m),(2,.ptr (.n 2) 0),(6,sl []),(7,bv false),(8,.ptr (.n 8) 0),(9,sl []),(10,bv false)]
def zL3 (m : Int) (k : Int) : List (Nat × AV) := [(1,i64 m),(2,.ptr (.n 2) 0),(6,sl []),(7,bv false),(9,sl []),(10,bv false),(11,i64 k)]
def zO (p : ProgL) : List (Key × Ob) := [(.n 2,.vs 24 ((encProg p).map .d))]
def zL4 (m : Int) : List (Nat × AV) := [(1,i64 m),(2,.ptr (.n 2) 0),(6,sl []),(7,bv false),(9,sl []),(12,i64 1)]
theorem markSS0_ok (k : Int) : CallsTo EE 18 [sl [],i64 k] (· = i64 k) := by
 refine callsTo_of_AW (fn := Tryz.f18) Tryz.func18 rfl (by kernel_rfl) rfl ?_
 conv => whnf
 refine cK ?_
 conv => whnf
 refine kbi (fun h => absurd h (by simp)) (fun _ => ?_)
 conv => whnf
 try rfl
theorem tP (k : Int) : CallsTo EE 19 [sl [],i64 k] (· = i64 k) := by
 refine callsTo_of_AW (fn := Tryz.f19) Tryz.func19 rfl (by kernel_rfl) rfl ?_
 conv => whnf
 refine cK ?_
 conv => whnf
 refine kbi (fun h => absurd h (by simp)) (fun _ => ?_)
 conv => whnf
 try rfl
theorem tZ : CallsTo EE 15 [sl [],sl []] (· = bv true) := fC [] (by simp) (fun x hx => by cases hx)
theorem lawAllB (p : ProgL) (hp : p.wf) (hv : p.flt) (m : Int)
  (cS : (p.rs.length ≤ 1048576 ∧ ∀ x ∈ p.rs,x.length ≤ 1048576) → CallsTo EE 12 [agg (encProg p),i64 m] (· = .tup [sl [],bv false]))
  (cI : (p.rs.length ≤ 1048576 ∧ ∀ x ∈ p.rs,x.length ≤ 1048576) → CallsTo EE 14 [agg (encProg p),i64 m] (· = .tup [sl [],bv false])) : CallsTo EE 3 [agg (encProg p),i64 m] (· = bv true) := by
 refine callsTo_of_AW (fn := Tryz.f3) Tryz.func3 rfl (by kernel_rfl) rfl ?_
 refine uU 6 (fun S => SmC p ∧ At (zL m) (qO p) (zF p) S) (fun K hK => ?_) (fun S hS => ?_)
 ·conv => whnf
  refine ⟨_,aU p 1048576 (by omega) (by omega) hp,?_⟩
  rintro r ⟨n,rfl,hn1,hn2,hn3⟩
  conv => whnf
  refine kbi (fun _ => ?_) (fun h => ?_)
  ·conv => whnf
   try rfl
  have hsz : p.size ≤ 1048576 := by
   have := hn3 (by simp at h; omega)
   simp at h
   omega
  have hs := size_le List.length p.rs 1048576 hsz
  have cS := cS hs
  conv => whnf
  refine ⟨_,jL p hs,?_⟩
  rintro r rfl
  conv => whnf
  refine ⟨_,cS,?_⟩
  rintro r rfl
  conv => whnf
  refine ⟨_,sC p hs,?_⟩
  rintro r rfl
  conv => whnf
  refine hK _ ⟨⟨hs,hsz⟩,⟨rfl,rfl,rfl,rfl,rfl,trivial⟩,⟨rfl,?_,?_,trivial⟩,⟨fun j => ?_,trivial⟩⟩
  ·show some (Ob.vs 31 [i64 p.cells,i64 p.locks,i64 p.conds,.dref (.n 903) (p.rs.map fun _ => [D.nil]).length]) = _
   rw [List.length_map]
  ·show some (Ob.rs 157 1 ((ownRows 903 0 (p.rs.map fun _ => [.nil]) (zP p)).map (scrPL (isK (.n 8))))) = _
   rw [eG,vB _ (fun j => rfl)]
  ·show Option.map _ (match ownH (eK p) (.s 903 j) with | some ob => some ob | none => _) = _
   rw [eJ]
   cases hq : vT (zP p) 0 j with
   |none => rfl
   |some ob =>
    show Option.map _ (some ob) = some ob
    rw [← hq,uR]
 obtain ⟨⟨hs,hsz⟩,hat⟩ := hS
 have cI := cI hs
 refine uU 3 (At (zL2 m) (qO p) (zF p)) (fun K hK => ?_) (fun S2 hS2 => ?_)
 rotate_left 1
 ·clear hat
  have hsl : (zP p).length = p.rs.length := by simp [zP]
  have ht := q9 hsz
  refine uU 2 (fun S => ∃ k : Int,0 ≤ k ∧ At (zL3 m k) (zO p) [] S) (fun K hK => ?_) (fun S3 hS3 => ?_)
  ·obtain ⟨τ,H,rfl⟩ := hS2.form
   clear hS2
   conv => whnf
   refine .inr (.inl ⟨999,0,tJ,(fun r H1 => r = i64 (1 + 4 * tot (zP p) (zP p).length) ∧ ∀ κ,H1 κ = none),?_,rfl,?_⟩)
   ·refine io_congr (pL p.cells p.locks p.conds (zP p) 1 (by omega) (ops4 p) ht (by omega) (by omega) _ ?_ fun j => ?_) ?_
    ·show some (Ob.rs 157 1 (((wM (zP p) 0).map (renL (swp (.n 999) (.l 0)))).map (scrPL (fun o => !tJ o)))) = _
     rw [dW _ (fun j => rfl),vB _ (fun j => rfl)]
    ·show Option.map _ (Option.map _ (vT (zP p) 0 j)) = _
     rw [jW,uR]
    ·rw [hsl]; rfl
   rintro r H1 ⟨rfl,q⟩
   refine ⟨fun κ _ => q κ,fun n hn => (by cases hn),?_⟩
   generalize tot (zP p) (zP p).length = T at ht ⊢
   conv => whnf
   refine hK _ ⟨1 + 4 * (T : Int),by omega,⟨rfl,rfl,rfl,rfl,rfl,rfl,rfl,trivial⟩,⟨rfl,trivial⟩,trivial⟩
  ·clear hS2
   obtain ⟨k,hk,hS3⟩ := hS3
   refine uU 3 (At (zL4 m) (zO p) []) (fun K hK => ?_) (fun S4 hS4 => ?_)
   ·obtain ⟨τ,H,rfl⟩ := hS3.form
    clear hS3
    conv => whnf
    refine kbi (fun h => absurd h (by simp; omega)) (fun _ => ?_)
    conv => whnf
    refine ⟨_,tZ,?_⟩
    rintro r rfl
    conv => whnf
    refine kbi (fun h => absurd h (by simp)) (fun _ => ?_)
    conv => whnf
    refine ⟨_,markSS0_ok 1,?_⟩
    rintro r rfl
    conv => whnf
    exact hK _ ⟨⟨rfl,rfl,rfl,rfl,rfl,rfl,trivial⟩,⟨rfl,trivial⟩,trivial⟩
   ·clear hS3
    obtain ⟨τ,H,rfl⟩ := hS4.form
    clear hS4
    conv => whnf
    refine ⟨_,tP 1,?_⟩
    rintro r rfl
    conv => whnf
    refine kbi (fun h => absurd h (by simp)) (fun _ => ?_)
    conv => whnf
    refine kbi (fun h => absurd h (by simp)) (fun _ => ?_)
    conv => whnf
    refine ⟨_,jL p hs,?_⟩
    rintro r rfl
    conv => whnf
    refine ⟨_,cI,?_⟩
    rintro r rfl
    conv => whnf
    refine ⟨_,tZ,?_⟩
    rintro r rfl
    conv => whnf
    refine kbi (fun h => absurd h (by simp)) (fun _ => ?_)
    conv => whnf
    refine ⟨_,tP 1,?_⟩
    rintro r rfl
    conv => whnf
    refine kbi (fun h => absurd h (by simp)) (fun _ => ?_)
    conv => whnf
    refine kbi (fun h => absurd h (by simp)) (fun _ => ?_)
    conv => whnf
    try rfl
 obtain ⟨τ,H,rfl⟩ := hat.form
 clear hat
 conv => whnf
 refine .inl ⟨[agg (encProg p),i64 m],[],_,⟨_,_,rfl,⟨_,rfl,y1 rfl (fun j => rfl) rfl⟩,_,_,rfl,rfl,rfl⟩,rfl,cI,?_⟩
 rintro r rfl
 refine ⟨fun c hc => ?_,?_⟩
 ·simp only [List.mem_cons,List.not_mem_nil,or_false] at hc
  rcases hc with rfl | rfl
  ·exact .inl ⟨_,rfl,rfl⟩
  ·exact .inl ⟨_,rfl,rfl⟩
 conv => whnf
 refine ⟨_,tZ,?_⟩
 rintro r rfl
 conv => whnf
 refine kbi (fun h => absurd h (by simp)) (fun _ => ?_)
 conv => whnf
 refine ⟨by kernel_rfl,?_⟩
 conv => whnf
 refine ⟨_,jL p hs,?_⟩
 conv => whnf
 refine ⟨[agg (encProg p),agg (encProg p)],[],bv true,⟨_,_,rfl,⟨_,rfl,y1 rfl (fun j => rfl) rfl⟩,_,_,rfl,fz_prog p,rfl⟩,rfl,iJ p hs,rfl,?_⟩
 conv => whnf
 exact hK _ ⟨⟨rfl,rfl,rfl,rfl,rfl,rfl,rfl,trivial⟩,⟨rfl,rfl,rfl,trivial⟩,⟨fun j => rfl,trivial⟩⟩
theorem fF {E : Env} {g : FuncId} {xs : List AV} {R R' : AV → Prop} (h : CallsTo E g xs R) (hr : ∀ r,R r → R' r) : CallsTo E g xs R' :=
 fun w A vs hI hA => (h w A vs hI hA).mono fun v w' ⟨r,hR,hb⟩ => ⟨r,hr r hR,hb⟩
theorem lawAll (p : ProgL) (hp : p.wf) (hv : p.flt) (m : Int) : CallsTo EE 3 [agg (encProg p),i64 m] (· = bv true) := by
 by_cases h : OkA p m
 ·have hall := e8 h.1.1 hv h.1.2.1
  refine lawAllA p hp hv m ((gO p m).1.map RunT.tk) (pkQ_of h.1.2.2 (e7 p m) hall) (fun hs => ?_) (fun hs => ?_)
  ·refine fF (rC p hp hs hv m) fun r hr => ?_
   rcases hr with ⟨_,rfl⟩ | ⟨hn,rfl⟩
   ·show _ = AV.tup [sl (((gO p m).1.map RunT.tk).map wB),bv true]
    rw [List.map_map]; rfl
   ·exact absurd h hn
  ·refine fF (rD p hp hs hv m) fun r hr => ?_
   rcases hr with ⟨_,rfl⟩ | ⟨hn,rfl⟩
   ·rfl
   ·exact absurd h hn
 ·refine lawAllB p hp hv m (fun hs => ?_) (fun hs => ?_)
  ·refine fF (rC p hp hs hv m) fun r hr => ?_
   rcases hr with ⟨h',_⟩ | ⟨_,rfl⟩
   ·exact absurd h' h
   ·rfl
  ·refine fF (rD p hp hs hv m) fun r hr => ?_
   rcases hr with ⟨h',_⟩ | ⟨_,rfl⟩
   ·exact absurd h' h
   ·rfl
end Ai
end
