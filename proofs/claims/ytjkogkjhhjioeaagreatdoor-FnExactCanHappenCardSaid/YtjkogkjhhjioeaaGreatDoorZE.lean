import Derived.Test.YtjkogkjhhjioeaaGreatDoorZD
import Derived.WalkKit
set_option maxHeartbeats 8000000
set_option linter.unusedVariables false
set_option linter.unusedSimpArgs false
section
set_option maxRecDepth 100000
namespace Ai
open Go Go.Proofs
theorem vX {S : St} {E : TypeId} {pre : List AV} (hp : InertL pre) {s' : StL} {l : List Th} {k : Nat} {t' : Th} (hk : k < l.length) (hl : s'.ths = l.set k t') (h0 : S.H (.l 0) = some (.vs E (pre ++ stRef s'))) (h1 : S.H (.n 899) = some (.ds 105 1 (stk t')))
  (h2 : S.H (.n 900) = some (.rs 123 6 (rowsA l k t'))) (h3 : ∀ j,S.H (.s 900 j) = fam0 l k j) (h4 : S.H (.n 901) = some (.ds 105 1 (s'.cells.map encF))) (h6 : S.H (.n 902) = some (.ds 3 1 (s'.owner.map encInt))) :
  ∃ (h : k < s'.ths.length),yI xY S.H = stHA E pre s' k s'.ths[k] := by
 have hk' : k < s'.ths.length := by rw [hl]; simpa using hk
 refine ⟨hk',?_⟩
 have htk : s'.ths[k] = t' := by simp [hl]
 rw [htk]
 funext κ
 cases κ with
 |l j =>
  by_cases h : j = 0
  ·subst h
   show (S.H (.l 0)).map _ = _
   rw [h0]
   show some (Ob.vs E (scrPL _ (pre ++ stRef s'))) = some (Ob.vs E (pre ++ stRef s'))
   rw [bN,gL hp,aH]
  ·simp [yI,xY,stHA,nbeq_ne h]
 |n j =>
  by_cases e1 : j = 899
  ·subst e1
   show (S.H (.n 899)).map _ = _
   rw [h1]; rfl
  by_cases e2 : j = 900
  ·subst e2
   show (S.H (.n 900)).map _ = _
   rw [h2]
   show some (Ob.rs 123 6 ((rowsA l k t').map (scrPL fun o => !xY o))) = some (Ob.rs 123 6 (rowsA s'.ths k t'))
   rw [hl,mT hk]
   exact congrArg (fun x => some (Ob.rs 123 6 x)) (vV rfl (fun _ => rfl) _ _ _)
  by_cases e3 : j = 901
  ·subst e3
   show (S.H (.n 901)).map _ = _
   rw [h4]; rfl
  by_cases e4 : j = 902
  ·subst e4
   show (S.H (.n 902)).map _ = _
   rw [h6]; rfl
  simp [yI,xY,stHA,nbeq_ne e1,nbeq_ne e2,nbeq_ne e3,nbeq_ne e4]
 |s o j =>
  by_cases h : o = 900
  ·subst h
   show (S.H (.s 900 j)).map _ = bif Nat.beq j k then none else zR s'.ths j
   rw [h3,yV]
   by_cases hj : j = k
   ·subst hj; simp [fam0,nbeq_self]
   ·unfold fam0; rw [nbeq_ne hj,hl,mO hj]
  ·simp [yI,xY,stHA,nbeq_ne h]
theorem aJ {E : TypeId} {pre : List AV} {s : StL} {k : Nat} {t : Th} : ∀ κ,xY κ = false → stHA E pre s k t κ = none
 | .l j,h => by have h : Nat.beq j 0 = false := h; simp [stHA,h]
 | .n j,h => by
  have h : (Nat.beq j 899 || Nat.beq j 900 || Nat.beq j 901 || Nat.beq j 902) = false := h
  simp only [Bool.or_eq_false_iff] at h
  simp [stHA,h.1.1.1,h.1.1.2,h.1.2,h.2]
 | .s o j,h => by have h : Nat.beq o 900 = false := h; simp [stHA,h]
theorem iL {E : TypeId} {pre : List AV} (hp : InertL pre) (s : StL) : renO (swp (.n 999) (.l 99)) (.vs E (pre ++ stRef s)) = .vs E (pre ++ stRef s) := by
 show Ob.vs E (renL _ (pre ++ stRef s)) = _
 rw [renL_app,inertL_ren hp]
 rfl
theorem gI (l : List Th) (k : Nat) (t : Th) : renO (swp (.n 999) (.l 99)) (.rs 123 6 (rowsA l k t)) = .rs 123 6 (rowsA l k t) := by
 show Ob.rs 123 6 ((rowsA l k t).map (renL _)) = _
 unfold rowsA
 rw [List.map_set,qH]
 rfl
theorem gH {p : Key → Bool} (h1 : p (.n 899) = false) (h2 : ∀ j,p (.s 900 j) = false) (l : List Th) (k : Nat) (t : Th) : scrPO p (.rs 123 6 (rowsA l k t)) = .rs 123 6 (rowsA l k t) := congrArg (Ob.rs 123 6) (vV h1 h2 l k t)
theorem pO {x X : Ob} {f : Key → Key} (h : x = X) (hp : renO f X = X) : renO f x = X := by rw [h]; exact hp
theorem FzA_ptr {S : St} {o : Key} {off : Nat} {E : TypeId} {cs : List AV} {ds : List D} (h : S.H o = some (.vs E cs)) (hf : FzC S (cs.drop off) ds) : FzA S (.ptr o off) (.fp ds) := by
 simp only [FzA,h]
 exact ⟨ds,rfl,hf⟩
theorem fz_stA {S : St} {s : StL} {k : Nat} {t : Th} {els : List (List D)} (hk : k < s.ths.length) (ht : s.ths[k] = t) (h9 : S.H (.n 900) = some (.rs 123 6 (rowsA s.ths k t))) (hfam : ∀ j,j ≠ k → (h : j < s.ths.length) → S.H (.s 900 j) = some (.ds 105 1 (stk s.ths[j])))
  (h8 : S.H (.n 899) = some (.ds 105 1 els)) (he : els.take t.stack.length = stk t) (h3 : S.H (.n 901) = some (.ds 105 1 (s.cells.map encF))) (h4 : S.H (.n 902) = some (.ds 3 1 (s.owner.map encInt))) : FzC S (stRef s) (encSt s) := by
 have hv := dJ hk h9 hfam h8 he
 rw [← ht,List.set_getElem_self] at hv
 refine ⟨.sl (s.ths.map zF),_,rfl,⟨_,rfl,hv⟩,.sl (s.cells.map encF),_,rfl,?_,.sl (s.owner.map encInt),_,rfl,?_,di s.fault,[],rfl,rfl,rfl⟩
 ·simp [FzD,fz1,h3,List.take_of_length_le]
 ·simp [FzD,fz1,h4,List.take_of_length_le]
theorem sE {X : List (List AV)} {l : List Th} {k : Nat} {t : Th} (h : k < l.length) (hX : X = rowsA l k t) : X[((k : Nat) : Int).toNat]? = some (yC t) := by
 rw [hX]; exact zN h
theorem p8 {pre : List AV} {s : StL} {n : Int} {L : List AV} (hL : L = pre ++ stRef s) : zU L (pre.length + 3) [i64 n] = pre ++ stRef { s with fault := n } := by
 subst hL
 induction pre with
 |nil => rfl
 |cons x xs ih =>
  show zU (x :: (xs ++ stRef s)) (xs.length + 1 + 3) [i64 n] = x :: (xs ++ _)
  rw [show xs.length + 1 + 3 = (xs.length + 3) + 1 from by omega]
  exact congrArg (x :: ·) ih
theorem stepI_A (hI : yN) (E : TypeId) (x0 x1 x2 : AV) (i0 : Inert x0) (i1 : Inert x1) (i2 : Inert x2) (p : ProgL) (s : StL) (k : Nat) (hp : p.wf) (hk : k < s.ths.length) (h5 : s.ths.length ≤ 5)
  (hs : s.small) (hr : s.ths[k].ready p s k) (hst3 : s.ths[k].st ≠ 3) (hfl : ∀ x ∈ s.ths[k].stack,x < 18446744073709551616) (hjo : ∀ o,zZ p s.ths[k] = some o → zT s k o = 0 → o.code = 15 → ∃ j,yP (yK s.ths[k] o 0) s.ths.length = some j ∧ zS s s.ths[k] = some j)
  (H0 : Key → Option Ob) (h0 : H0 (.l 0) = some (.vs E ([x0,x1,x2] ++ stRef s))) (h1 : H0 (.n 899) = some (.ds 105 1 (stk s.ths[k]))) (h2 : H0 (.n 900) = some (.rs 123 6 (rowsA s.ths k s.ths[k]))) (h3 : ∀ j,H0 (.s 900 j) = fam0 s.ths k j)
  (h4 : H0 (.n 901) = some (.ds 105 1 (s.cells.map encF))) (h6 : H0 (.n 902) = some (.ds 3 1 (s.owner.map encInt))) :
  IOCall EE 115 [.ptr (.l 0) 3,agg (encProg p),i64 k] H0 (doIPost E [x0,x1,x2] k (stepL p s k).1 (stepL p s k).2) := by
 refine io_of_AW (fn := Tryz.f115) (c := Tryz.f115.body.getD .skip) Tryz.func115 rfl (by kernel_rfl) rfl ?_
 have hat : At [(0,.ptr (.l 0) 3),(1,agg (encProg p)),(2,i64 k)] [(.l 0,.vs E ([x0,x1,x2] ++ stRef s)),(.n 899,.ds 105 1 (stk s.ths[k])),(.n 900,.rs 123 6 (rowsA s.ths k s.ths[k])),(.n 901,.ds 105 1 (s.cells.map encF)),(.n 902,.ds 3 1 (s.owner.map encInt))] [(900,fam0 s.ths k)]
   ⟨fun i => [AV.ptr (.l 0) 3,agg (encProg p),i64 k].getD i .junk,H0⟩ :=
  ⟨⟨rfl,rfl,rfl,trivial⟩,⟨h0,h1,h2,h4,h6,trivial⟩,⟨h3,trivial⟩⟩
 obtain ⟨τ,H,hf⟩ := hat.form
 rw [hf]
 have hst := hs.2.1 _ (List.getElem_mem hk)
 have hgd : s.ths.getD k th0 = s.ths[k] := by simp [List.getD_eq_getElem?_getD,hk]
 have hp3 : InertL [x0,x1,x2] := by
  intro x hx
  simp only [List.mem_cons,List.not_mem_nil,or_false] at hx
  rcases hx with rfl | rfl | rfl <;> assumption
 have hpc := hr.pc
 clear hat hf h0 h1 h2 h3 h4 h6
 generalize ht0 : s.ths[k] = t at *
 conv => whnf
 refine ⟨⟨by omega,by omega⟩,?_⟩
 conv => whnf
 refine ⟨yC t,⟨by repeat (first | exact zN hk | refine yX ?_ (zV rfl t)),by simp [yC]⟩,?_⟩
 conv => whnf
 refine .inr (.inl ⟨10,[],?_⟩)
 conv => whnf
 refine ⟨yC t,⟨by repeat (first | exact zN hk | refine yX ?_ (zV rfl t)),by simp [yC]⟩,?_⟩
 conv => whnf
 refine ⟨_,Eq.mp (congrArg (fun x => CallsTo EE 151 [agg (encProg p),.agg [i64 t.rt,i64 t.pc,i64 t.st,i64 t.cond,i64 t.lock,sl x]] _) (qI t).symm) (sL p t hp hr.inP),?_,?_⟩
 ·intro c hc
  simp only [List.mem_cons,List.not_mem_nil,or_false] at hc
  rcases hc with rfl | rfl
  ·exact .inr ⟨encOp _,rfl,rfl⟩
  ·exact .inl ⟨_,rfl,rfl⟩
 conv => whnf
 refine ⟨by kernel_rfl,?_⟩
 conv => whnf
 refine ⟨yC t,⟨by repeat (first | exact zN hk | refine yX ?_ (zV rfl t)),by simp [yC]⟩,?_⟩
 conv => whnf
 have hp3 : InertL [x0,x1,x2] := by
  intro x hx
  simp only [List.mem_cons,List.not_mem_nil,or_false] at hx
  rcases hx with rfl | rfl | rfl <;> assumption
 refine kbi (fun h4 => ?_) (fun h4 => ?_)
 ·have h4 : t.st = 4 := by simpa using h4
  have hlk := hr.lock h4
  have hd : stepL p s k = ({ s with owner := s.owner.set t.lock.toNat ((k : Nat) : Int) }.put k { t with st := 1,cond := -1,lock := -1,pc := if (zZ p t).isSome = true then t.pc + 1 else t.pc },{ ev0 k t with kind := 9,obj := t.cond,lock := t.lock }) := by
   unfold stepL; rw [hgd,if_pos h4]
  conv => whnf
  refine .inr (.inl ⟨12,[],?_⟩)
  conv => whnf
  refine ⟨yC t,⟨by repeat (first | exact zN hk | refine yX ?_ (zV rfl _)),by simp [yC]⟩,?_⟩
  conv => whnf
  refine ⟨yC t,⟨by repeat (first | exact zN hk | refine yX ?_ (zV rfl _)),by simp [yC]⟩,?_⟩
  conv => whnf
  refine ⟨by kernel_rfl,?_⟩
  conv => whnf
  refine .inr (.inl ⟨9,[],?_⟩)
  conv => whnf
  refine ⟨yC t,⟨by repeat (first | exact zN hk | refine yX ?_ (zV rfl _)),by simp [yC]⟩,?_⟩
  conv => whnf
  refine ⟨by kernel_rfl,?_⟩
  conv => whnf
  refine ⟨⟨by omega,by omega⟩,?_⟩
  conv => whnf
  refine .inr (.inl ⟨7,[],?_⟩)
  conv => whnf
  refine ⟨yC { t with st := 1,cond := -1,lock := -1 },⟨yX (sE hk ?_) (zV rfl _),by simp [yC]⟩,?_⟩
  ·apply vI
   ·repeat (first | exact rfl | apply xO hk | apply xN (fun _ => rfl))
   ·rfl
  conv => whnf
  refine ⟨_,uY _,?_⟩
  conv => whnf
  refine ⟨by kernel_rfl,?_⟩
  conv => whnf
  refine ⟨_,Weak.refl,?_⟩
  conv => whnf
  rw [hd]
  refine ⟨xY,by rfl,?_⟩
  refine vX hp3 (l := s.ths) (t' := { t with st := 1,cond := -1,lock := -1,pc := if (zZ p t).isSome = true then t.pc + 1 else t.pc }) hk rfl ?_ ?_ ?_ (fun j => ?_) ?_ ?_
  ·refine Eq.trans ?_ (congrArg (fun x => some (Ob.vs E ([x0,x1,x2] ++ x))) (show stRef s = stRef _ by simp [stRef,StL.put]))
   conv => lhs; whnf
   all_goals (
    refine congrArg some ?_
    repeat (refine yH ?_ (xH i0 i1 i2 s rfl))
    all_goals rfl)
  ·rfl
  ·conv => lhs; whnf
   all_goals (
    refine congrArg (fun x => some (Ob.rs 123 6 x)) ?_
    apply vI
    ·repeat (first | exact rfl | apply xO hk | apply xN (fun _ => rfl))
    ·have ew : IntKind.i64.wrap (t.pc + (if (zZ p t).isSome = true then 1 else 0)) = (if (zZ p t).isSome = true then t.pc + 1 else t.pc) := by have a := hpc.1; have b := hpc.2; split <;> rw [zE (by omega) (by omega)]; omega
     show [_,AV.d (.int .i64 (IntKind.i64.wrap (t.pc + (if (zZ p t).isSome = true then 1 else 0)))),_,_,_,_] = _
     rw [ew]
     rfl)
  ·repeat (first | exact rfl | refine hscrO ?_ (yV _ _ _ _) | conv => lhs; whnf)
  ·rfl
  ·conv => lhs; whnf
   show some (Ob.ds 3 1 ((s.owner.map encInt).set (0 + t.lock.toNat) (encInt ((k : Nat) : Int)))) = some (Ob.ds 3 1 ((s.owner.set t.lock.toNat ((k : Nat) : Int)).map encInt))
   rw [Nat.zero_add,List.map_set]
 have h4 : ¬ t.st = 4 := by simpa using h4
 cases hn : zZ p t with
 |none =>
  conv => whnf
  have hd : stepL p s k = (s.put k { t with st := 2 },{ ev0 k t with kind := 11 }) := by
   unfold stepL; rw [hgd]; simp [h4,hn]
  refine ⟨_,Weak.refl,?_⟩
  conv => whnf
  rw [hd]
  refine ⟨xY,by rfl,?_⟩
  refine vX hp3 (l := s.ths) (t' := { t with st := 2 }) hk rfl ?_ ?_ ?_ (fun j => ?_) ?_ ?_
  ·refine Eq.trans ?_ (congrArg (fun x => some (Ob.vs E ([x0,x1,x2] ++ x))) (show stRef s = stRef _ by simp [stRef,StL.put]))
   conv => lhs; whnf
   all_goals (
    refine congrArg some ?_
    repeat (refine yH ?_ (xH i0 i1 i2 s rfl))
    all_goals rfl)
  ·rfl
  ·conv => lhs; whnf
   all_goals (
    refine congrArg (fun x => some (Ob.rs 123 6 x)) ?_
    apply vI
    ·repeat (first | exact rfl | apply xO hk | apply xN (fun _ => rfl))
    ·rfl)
  ·repeat (first | exact rfl | refine hscrO ?_ (yV _ _ _ _) | conv => lhs; whnf)
  ·rfl
  ·rfl
 |some o =>
  obtain ⟨hoS,hoF⟩ := hr.op o hn
  conv => whnf
  refine .inl ⟨[.fp (encSt s),i64 k,agg (encOp o)],[],_,⟨_,_,rfl,FzA_ptr (E := E) (cs := [x0,x1,x2] ++ stRef s) ?_ (fz_stA (k := k) (t := t) (els := stk t) hk ht0 ?_ (fun j hj hjl => ?_) rfl (by simp [stk,List.take_of_length_le]) ?_ ?_),_,_,rfl,rfl,_,_,rfl,⟨encOp o,rfl,_,_,rfl,rfl,_,_,rfl,rfl,_,_,rfl,rfl,_,_,rfl,rfl,rfl⟩,rfl⟩,rfl,eP hI s k o hk hs hoS,?_⟩
  ·conv => lhs; whnf
   all_goals (
    refine congrArg some ?_
    repeat (refine yH ?_ (xH i0 i1 i2 s rfl))
    all_goals rfl)
  ·conv => lhs; whnf
   all_goals (
    refine congrArg (fun x => some (Ob.rs 123 6 x)) ?_
    repeat (first | exact rfl | refine uR ?_ rfl (fun _ => rfl)))
  ·refine Eq.trans (b := fam0 s.ths k j) ?_ (by simp [fam0,nbeq_ne hj,zR,hjl])
   repeat (first | exact rfl | refine hscrO ?_ (yV _ _ _ _) | conv => lhs; whnf)
  ·rfl
  ·rfl
  rintro r rfl
  refine ⟨rfl,?_⟩
  conv => whnf
  refine kbi (fun h6 => ?_) (fun h6 => ?_)
  ·have h6 : ¬ zT s k o = 0 := by simpa using h6
   have hd : stepL p s k = ({ s with fault := zT s k o },{ ev0 k t with kind := 12,obj := zT s k o }) := by
    unfold stepL; rw [hgd]; simp [h4,hn,h6]
   conv => whnf
   refine ⟨_,Weak.refl,?_⟩
   conv => whnf
   rw [hd]
   refine ⟨xY,by rfl,?_⟩
   refine vX hp3 (l := s.ths) (t' := t) hk (by show s.ths = s.ths.set k t; rw [← ht0,List.set_getElem_self]) ?_ ?_ ?_ (fun j => ?_) ?_ ?_
   ·conv => lhs; whnf
    refine congrArg some ?_
    repeat (refine yH ?_ (xH i0 i1 i2 { s with fault := zT s k o } rfl))
    refine congrArg (Ob.vs E) (p8 (pre := [x0,x1,x2]) ?_)
    repeat (refine hscrL ?_ (w9 i0 i1 i2 s rfl))
    all_goals rfl
   ·rfl
   ·conv => lhs; whnf
    all_goals (
     refine congrArg (fun x => some (Ob.rs 123 6 x)) ?_
     apply vI
     ·repeat (first | exact rfl | apply xO hk | apply xN (fun _ => rfl))
     ·rfl)
   ·repeat (first | exact rfl | refine hscrO ?_ (yV _ _ _ _) | conv => lhs; whnf)
   ·rfl
   ·rfl
  ·have h6 : zT s k o = 0 := by simpa using h6
   have hd : stepL p s k = doL s k o (ev0 k t) := by
    unfold stepL; rw [hgd]; simp [h4,hn,h6]
   conv => whnf
   refine .inr (.inl ⟨999,99,xY,_,doI_okA hI E x0 x1 x2 i0 i1 i2 s k o { ev0 k t with kind := 1 } hk h5 hs (by rw [ht0]; exact hoF h6) (by rw [ht0]; exact hpc) (by rw [ht0]; exact hst3) rfl rfl (by rw [ht0]; exact hfl) (by rw [ht0]; exact hjo o hn h6) _ ?_ ?_ ?_ (fun j => ?_) ?_ ?_,rfl,?_⟩)
   ·conv => lhs; whnf
    refine congrArg some ?_
    repeat (first | exact rfl | refine yH ?_ (xH i0 i1 i2 s rfl) | refine pO ?_ (iL hp3 s))
   ·rw [ht0]
    rfl
   ·rw [ht0]
    conv => lhs; whnf
    refine congrArg some ?_
    repeat (first | exact rfl | refine yH ?_ (gH rfl (fun _ => rfl) _ _ _) | refine pO ?_ (gI _ _ _))
   ·repeat (first | exact rfl | refine hscrO ?_ (yV _ _ _ _) | refine eF ?_ (kY _ _ _ _) | conv => lhs; whnf)
   ·rfl
   ·rfl
   rintro r H1 ⟨rfl,hk2,rfl⟩
   refine ⟨aJ,?_,?_⟩
   ·intro n hn
    have : n = 0 := by simpa [xY] using hn
    subst this
    exact ⟨E,_,_,rfl,rfl⟩
   conv => whnf
   refine ⟨_,Weak.refl,?_⟩
   conv => whnf
   rw [hd]
   refine ⟨xY,by rfl,?_⟩
   refine vX hp3 (l := (doL s k o (ev0 k t)).1.ths) (t' := (doL s k o (ev0 k t)).1.ths[k]) hk2 (List.set_getElem_self _).symm ?_ ?_ ?_ (fun j => ?_) ?_ ?_
   ·conv => lhs; whnf
    refine congrArg some ?_
    repeat (first | exact rfl | refine yH ?_ (xH i0 i1 i2 _ rfl) | refine pO ?_ (iL hp3 _))
   ·rfl
   ·conv => lhs; whnf
    refine congrArg some ?_
    repeat (first | exact rfl | refine yH ?_ (gH rfl (fun _ => rfl) _ _ _) | refine pO ?_ (gI _ _ _))
   ·refine Eq.trans (b := fam0 (doL s k o (ev0 k t)).1.ths k j) ?_ rfl
    repeat (first | exact rfl | refine hscrO ?_ (yV _ _ _ _) | refine eF ?_ (kY _ _ _ _) | conv => lhs; whnf)
   ·rfl
   ·rfl
end Ai
end
section
namespace Ai
open Go Go.RowKit
section
variable {E : Env} {N : Nat} {A : Fr} {w0 w w' : World} {m m' : Own} {s s' s1 : St} {a : Act}
structure Sh where
 f : Key → Key
 hf : ∀ κ,f (f κ) = κ
 hl : ∀ n,f (.l n) = .l n
def reH (z : Sh) (H : Key → Option Ob) : Key → Option Ob := fun κ => (H (z.f κ)).map (renO z.f)
def reM (z : Sh) (m : Own) : Own := fun κ => m (z.f κ)
theorem fP {z : Sh} {H : Key → Option Ob} {o : Key} {ob : Ob} (h : H o = some ob) : reH z H (z.f o) = some (renO z.f ob) := by simp [reH,z.hf,h]
theorem reM_at {z : Sh} {o : Key} : reM z m (z.f o) = m o := by simp [reM,z.hf]
theorem iU {z : Sh} {H : Key → Option Ob} {o : Key} (h : reH z H o ≠ none) : H (z.f o) ≠ none := fun hh => h (by simp [reH,hh])
theorem VRel.re {z : Sh} {ok ok' : Nat → Prop} {H : Key → Option Ob} (h : ∀ b,ok b → ok' b) {c : AV} {v : Value} (r : VRel w ok m H c v) : VRel w ok' (reM z m) (reH z H) (Ai.ren z.f c) v := by
 have hh : ∀ b,ok b → ok' b ∧ w.heap[b]? = w.heap[b]? := fun b hb => ⟨h b hb,rfl⟩
 induction r with
 |junk v => exact .junk v
 |d x v hx => exact .d x v (hx.mono hh)
 |fp cs b off us hok hc => exact .fp cs b off us (h b hok) fun i d hi => ⟨(hc i d hi).1,(hc i d hi).2.mono hh⟩
 |ref o off n e sz els b full cap hH hn hm hcap hnc => exact .ref _ off n e sz els b full cap (fP hH) hn (reM_at.trans hm) hcap hnc
 |ref0 o e sz hH hm => exact .ref0 _ e sz (fP hH) (reM_at.trans hm)
 |ptr o off e cs b full hH hm => exact .ptr _ off e _ b full (fP hH) (reM_at.trans hm)
 |eptr o j off e sz els b full hH hj hm => exact .eptr _ j off e sz els b full (fP hH) hj (reM_at.trans hm)
 |dref o n e sz rows b full hH hn hm hnc => exact .dref _ n e sz _ b full (fP hH) (by simpa using hn) (reM_at.trans hm) hnc
 |dref0 o e sz hH hm => exact .dref0 _ e sz (fP hH) (reM_at.trans hm)
 |dptr o j off e sz rows b full hH hj hm => exact .dptr _ j off e sz _ b full (fP hH) (by simpa using hj) (reM_at.trans hm)
 |lit v h => exact .lit v h
 |mref o ag ps b full hH hm => exact .mref _ ag ps b full (fP hH) (reM_at.trans hm)
 |agg cs us hs hc ih =>
  simp only [Ai.ren]
  refine .agg _ us (by rw [xL]; exact hs) fun i c u hi hu => ?_
  rw [wZ] at hi
  obtain ⟨c0,hc0,rfl⟩ := Option.map_eq_some_iff.1 hi
  exact ih i c0 u hc0 hu
 |tup cs us hs hc ih =>
  simp only [Ai.ren]
  refine .tup _ us (by rw [xL]; exact hs) fun i c u hi hu => ?_
  rw [wZ] at hi
  obtain ⟨c0,hc0,rfl⟩ := Option.map_eq_some_iff.1 hi
  exact ih i c0 u hc0 hu
 |fn f cs us hs hc ih =>
  simp only [Ai.ren]
  refine .fn f _ us (by rw [xL]; exact hs) fun i c u hi hu => ?_
  rw [wZ] at hi
  obtain ⟨c0,hc0,rfl⟩ := Option.map_eq_some_iff.1 hi
  exact ih i c0 u hc0 hu
theorem dR {z : Sh} {Z : Nat → Prop} {H : Key → Option Ob} {b : Nat} (h : okB Z H m w b) : okB Z (reH z H) (reM z m) w b :=
 ⟨h.1,fun o ho p hp => h.2.1 _ (iU ho) p hp,h.2.2⟩
theorem ORel.re {z : Sh} {base : Nat} {Z : Nat → Prop} {H : Key → Option Ob} {o : Key} {ob : Ob} (hin : reH z H o = some ob) (h : ∀ o ob,H o = some ob → ORel Z base w m H o ob) : ORel Z base w (reM z m) (reH z H) o ob := by
 obtain ⟨ob0,h0,rfl⟩ := Option.map_eq_some_iff.1 hin
 have hor := h _ _ h0
 cases ob0 with
 |vs e cs =>
  obtain ⟨b,full,cur,h1,hb,hcur,hsz,hc⟩ := hor
  refine ⟨b,full,cur,h1,hb,hcur,by rw [xL]; exact hsz,fun i c hi => ?_⟩
  rw [wZ] at hi
  obtain ⟨c0,hc0,rfl⟩ := Option.map_eq_some_iff.1 hi
  obtain ⟨u,hu,hv⟩ := hc i c0 hc0
  exact ⟨u,hu,hv.re fun b hb => dR hb⟩
 |ds e sz els =>
  rcases hor with ⟨h1,he⟩ | ⟨b,full,cur,h1,hb,hcur,hlen,hmax,hsz,hc⟩
  ·exact .inl ⟨h1,he⟩
  ·exact .inr ⟨b,full,cur,h1,hb,hcur,hlen,hmax,hsz,fun j c hj => ⟨(hc j c hj).1,fun i d hi => let ⟨u,hu,hr⟩ := (hc j c hj).2 i d hi; ⟨u,hu,hr.mono fun b hb => ⟨dR hb,rfl⟩⟩⟩⟩
 |rs e sz els =>
  rcases hor with ⟨h1,he⟩ | ⟨b,full,cur,h1,hb,hcur,hlen,hmax,hsz,hc⟩
  ·exact .inl ⟨h1,by rw [he]; rfl⟩
  ·refine .inr ⟨b,full,cur,h1,hb,hcur,by simpa using hlen,hmax,hsz,fun j c hj => ?_⟩
   rw [List.getElem?_map] at hj
   obtain ⟨c0,hc0,rfl⟩ := Option.map_eq_some_iff.1 hj
   refine ⟨by rw [xL]; exact (hc j c0 hc0).1,fun i d hi => ?_⟩
   rw [wZ] at hi
   obtain ⟨d0,hd0,rfl⟩ := Option.map_eq_some_iff.1 hi
   obtain ⟨u,hu,h1,hr⟩ := (hc j c0 hc0).2 i d0 hd0
   exact ⟨u,hu,h1,hr.re fun b hb => dR hb⟩
 |mp ag ps =>
  obtain ⟨b,full,es,h1,hb,hcur,hr⟩ := hor
  exact ⟨b,full,es,h1,hb,hcur,hr.mono fun b hb => ⟨dR hb,rfl⟩⟩
theorem sh_inj {z : Sh} {o o' : Key} (h : z.f o = z.f o') : o = o' := by rw [← z.hf o,h,z.hf]
def St.re (z : Sh) (s : St) : St := { τ := fun i => Ai.ren z.f (s.τ i),H := reH z s.H }
theorem SRel.re0 (z : Sh) (h : SRel E N A w0 m s a w) (hp : ∀ n,A.pin n ≠ none → reH z s.H (.l n) ≠ none → some (reM z m (.l n)) = A.pin n) : SRel E N A w0 (reM z m) (s.re z) a w := by
 refine ⟨h.size,h.defers,h.below,h.inv,fun i hi => (h.tmps i hi).re fun b hb => dR hb,fun o ob ho => ORel.re ho h.objs,fun o o' p p' ho ho' hp hp' he => ?_,h.hA,
  fun b hb => ⟨(h.fr b hb).1,fun o ho p hp => (h.fr b hb).2.1 _ (iU ho) p hp,(h.fr b hb).2.2⟩,hp⟩
 exact sh_inj (h.inj _ _ p p' (iU ho) (iU ho') hp hp' he)
theorem bR (z : Sh) : ∀ cs : List AV,(∀ c ∈ cs,Ai.ren z.f (Ai.ren z.f c) = c) → renL z.f (renL z.f cs) = cs
 | [],_ => rfl
 |c :: cs,h => by simp only [renL]; rw [h c List.mem_cons_self,bR z cs fun c hc => h c (List.mem_cons_of_mem _ hc)]
theorem sG (z : Sh) : ∀ c : AV,Ai.ren z.f (Ai.ren z.f c) = c
 | .ref o off n => by simp [Ai.ren,z.hf]
 | .ptr o off => by simp [Ai.ren,z.hf]
 | .eptr o j off => by simp [Ai.ren,z.hf]
 | .dref o n => by simp [Ai.ren,z.hf]
 | .dptr o j off => by simp [Ai.ren,z.hf]
 | .mref o => by simp [Ai.ren,z.hf]
 | .lit v => rfl
 | .agg cs => by simp only [Ai.ren]; rw [bR z cs fun c _ => sG z c]
 | .tup cs => by simp only [Ai.ren]; rw [bR z cs fun c _ => sG z c]
 | .fn f cs => by simp only [Ai.ren]; rw [bR z cs fun c _ => sG z c]
 | .junk => rfl
 | .d x => rfl
 | .fp cs => rfl
 | .uq e sz els => rfl
 | .uqd e sz c e2 sz2 rows subs => rfl
 | .ownF f cs => rfl
theorem reO_reO (z : Sh) (ob : Ob) : renO z.f (renO z.f ob) = ob := by
 cases ob with
 |vs e cs => simp only [renO]; rw [bR z cs fun c _ => sG z c]
 |ds e sz els => rfl
 |rs e sz rows =>
  simp only [renO,List.map_map,Ob.rs.injEq,true_and]
  calc rows.map (renL z.f ∘ renL z.f) = rows.map id := List.map_congr_left fun r _ => bR z r fun c _ => sG z c
   _ = rows := List.map_id rows
 |mp ag ps => rfl
theorem iT (z : Sh) (H : Key → Option Ob) : reH z (reH z H) = H := by
 funext κ
 simp only [reH,z.hf,Option.map_map]
 cases H κ with
 |none => rfl
 |some ob => simp [reO_reO]
theorem HRel.re {H : Key → Option Ob} (z : Sh) (h : HRel E A w0 m H w) : HRel E A w0 (reM z m) (reH z H) w := by
 have h1 := (h.toS).re0 z (fun n hn hs => by
  show some (m (z.f (.l n))) = A.pin n
  have hs : reH z H (.l n) ≠ none := hs
  simp only [reH,z.hl] at hs
  rw [z.hl]
  exact h.pin n hn (fun hh => hs (by rw [hh]; rfl)))
 exact h1.toH
theorem IOCall.re {g : FuncId} {as1 : List AV} {H0 : Key → Option Ob} {Post : AV → (Key → Option Ob) → Prop} (z : Sh) (h : IOCall E g as1 H0 Post) :
  IOCall E g (as1.map (ren z.f)) (reH z H0) (fun r H1 => Post (ren z.f r) (reH z H1)) := by
 intro w0 A m w vs hH hl hrel
 have hH' := hH.re z
 rw [iT] at hH'
 refine (h w0 A (reM z m) w vs hH' (by simpa using hl) fun i a v ha hv => ?_).mono ?_
 ·have := (hrel i (ren z.f a) v (by rw [List.getElem?_map,ha]; rfl) hv).re (z := z) (ok' := okB A (reH z (reH z H0)) (reM z m) w) fun b hb => dR hb
  rw [sG,iT] at this
  exact this
 ·rintro v w' ⟨r,H1,m1,hP,hH1,hv⟩
  refine ⟨ren z.f r,reH z H1,reM z m1,?_,hH1.re z,hv.re fun b hb => dR hb⟩
  show Post (ren z.f (ren z.f r)) (reH z (reH z H1))
  rw [sG,iT]; exact hP
theorem weak_re (z : Sh) : Weak E N s (s.re z) := fun A w0 m a w h => by
 refine ⟨_,h.re0 z fun n hn hs => ?_⟩
 show some (m (z.f (.l n))) = A.pin n
 simp only [reH,z.hl] at hs
 rw [z.hl]
 exact h.pin n hn (fun hh => hs (by rw [hh]; rfl))
end
end Ai
end
section
set_option maxRecDepth 100000
namespace Ai
open Go Go.Proofs
theorem io_canon {E : TypeId} {pre : List AV} (hp : InertL pre) {s s' : StL} {k : Nat} {e' : Ev} {H0 : Key → Option Ob} {g : FuncId} {xs : List AV} (hk : k < s.ths.length) (hx : xs.map (ren (swp (.n 899) (.s 900 k))) = xs) (hH : AtC E pre s H0)
    (h : ∀ H0 : Key → Option Ob, H0 (.l 0) = some (.vs E (pre ++ stRef s)) → H0 (.n 899) = some (.ds 105 1 (stk s.ths[k])) → H0 (.n 900) = some (.rs 123 6 (rowsA s.ths k s.ths[k])) → (∀ j, H0 (.s 900 j) = fam0 s.ths k j) →
      H0 (.n 901) = some (.ds 105 1 (s.cells.map encF)) → H0 (.n 902) = some (.ds 3 1 (s.owner.map encInt)) → IOCall EE g xs H0 (doIPost E pre k s' e')) :
    IOCall EE g xs H0 (fun r H1 => r = agg (encEv e') ∧ H1 = stHC E pre s') := by
  obtain ⟨h0, h1, h2, h3, h4, h6⟩ := hH
  have eH : ∀ {κ κ' : Key} {ob : Ob}, swp (.n 899) (.s 900 k) κ = κ' → H0 κ' = some ob → swH (.n 899) (.s 900 k) H0 κ = some (renO (swp (.n 899) (.s 900 k)) ob) := fun e1 e2 => by simp [swH, e1, e2]
  have := h (swH (.n 899) (.s 900 k) H0)
    (by rw [eH (κ := .l 0) (κ' := .l 0) rfl h0]
        show some (Ob.vs E (renL _ (pre ++ stRef s))) = _
        rw [renL_app, inertL_ren hp, stRef_ren])
    (by rw [eH (κ := .n 899) (κ' := .s 900 k) rfl ((h3 k).trans (thFam_self hk))]; rfl)
    (by rw [eH (κ := .n 900) (κ' := .n 900) rfl h2]
        show some (Ob.rs 123 6 ((thRows 900 s.ths).map (renL (swp (.n 899) (.s 900 k))))) = _
        rw [rowsA_sw hk])
    (fun j => by
      by_cases hj : j = k
      · subst hj
        have e : swp (.n 899) (.s 900 j) (.s 900 j) = .n 899 := by simp [swp, Key.beq, nbeq_self]
        simp only [swH, e, h1, fam0, nbeq_self]; rfl
      · have e : swp (.n 899) (.s 900 k) (.s 900 j) = .s 900 j := by simp [swp, Key.beq, nbeq_ne hj]
        simp only [swH, e, h3, fam0, nbeq_ne hj]
        exact thFam_ren _ _ _)
    (by rw [eH (κ := .n 901) (κ' := .n 901) rfl h4]; rfl) (by rw [eH (κ := .n 902) (κ' := .n 902) rfl h6]; rfl)
  have := IOCall.sw (.n 899) (.s 900 k) (fun n h => by cases h) (fun n h => by cases h) this
  rw [swH_swH, hx] at this
  refine IOCall.mono this fun r H1 ⟨hr, hk', hh⟩ => ⟨?_, ?_⟩
  · have : ren (swp (.n 899) (.s 900 k)) (ren (swp (.n 899) (.s 900 k)) r) = ren (swp (.n 899) (.s 900 k)) (agg (encEv e')) := by rw [hr]
    rw [ren_ren] at this
    rw [this]; rfl
  · have : swH (.n 899) (.s 900 k) (swH (.n 899) (.s 900 k) H1) = swH (.n 899) (.s 900 k) (stHA E pre s' k s'.ths[k]) := by rw [hh]
    rw [swH_swH, swH_stHA hp] at this
    exact this
theorem agg_ren (f : Key → Key) (l : List D) : ren f (agg l) = agg l := by
 show AV.agg (renL f (l.map .d)) = _
 have : ∀ l : List D,renL f (l.map .d) = l.map .d := by
  intro l
  induction l with
  |nil => rfl
  |cons x xs ih => simp only [List.map_cons,renL,ih]; rfl
 rw [this]; rfl
theorem stepI_ok (hI : yN) (E : TypeId) (x0 x1 x2 : AV) (i0 : Inert x0) (i1 : Inert x1) (i2 : Inert x2) (p : ProgL) (s : StL) (k : Nat) (hp : p.wf) (hk : k < s.ths.length) (h5 : s.ths.length ≤ 5)
  (hs : s.small) (hr : s.ths[k].ready p s k) (hst3 : s.ths[k].st ≠ 3) (hfl : ∀ x ∈ s.ths[k].stack,x < 18446744073709551616) (hjo : ∀ o,zZ p s.ths[k] = some o → zT s k o = 0 → o.code = 15 → ∃ j,yP (yK s.ths[k] o 0) s.ths.length = some j ∧ zS s s.ths[k] = some j)
  (H0 : Key → Option Ob) (hH : AtC E [x0,x1,x2] s H0) :
  IOCall EE 115 [.ptr (.l 0) 3,agg (encProg p),i64 k] H0 (fun r H1 => r = agg (encEv (stepL p s k).2) ∧ H1 = stHC E [x0,x1,x2] (stepL p s k).1) := by
 have hp3 : InertL [x0,x1,x2] := by
  intro x hx
  simp only [List.mem_cons,List.not_mem_nil,or_false] at hx
  rcases hx with rfl | rfl | rfl <;> assumption
 refine io_canon hp3 hk ?_ hH fun H0 a b c d e f => stepI_A hI E x0 x1 x2 i0 i1 i2 p s k hp hk h5 hs hr hst3 hfl hjo H0 a b c d e f
 simp only [List.map_cons,List.map_nil,agg_ren]
 rfl
end Ai
end
section
set_option maxRecDepth 100000
namespace Ai
open Go Go.Proofs
structure RunI (p : ProgL) (Inv : StL → Prop) : Prop where
 small : ∀ s,Inv s → s.small ∧ s.ths.length ≤ 5
 seen : ∀ s,Inv s → ∀ t ∈ s.ths,t.seen p s
 ready : ∀ s,Inv s → ∀ k,k ∈ enabledL p s → (h : k < s.ths.length) → s.ths[k].ready p s k
 awake : ∀ s,Inv s → ∀ k,k ∈ enabledL p s → (h : k < s.ths.length) → s.ths[k].st ≠ 3
 flt : ∀ s,Inv s → ∀ t ∈ s.ths,∀ x ∈ t.stack,x < 18446744073709551616
 joins : ∀ s,Inv s → ∀ k,k ∈ enabledL p s → (h : k < s.ths.length) → ∀ o,zZ p s.ths[k] = some o → zT s k o = 0 → o.code = 15 → ∃ j,yP (yK s.ths[k] o 0) s.ths.length = some j ∧ zS s s.ths[k] = some j
 step : ∀ s,Inv s → ∀ k ∈ enabledL p s,Inv (stepL p s k).1
def numA (k : Nat) : Nat := bif Nat.beq k 900 then 903 else bif Nat.beq k 903 then 900 else bif Nat.beq k 901 then 904 else bif Nat.beq k 904 then 901 else bif Nat.beq k 902 then 905 else bif Nat.beq k 905 then 902 else k
theorem numA_numA (k : Nat) : numA (numA k) = k := by
 by_cases h1 : k = 900
 ·subst h1; rfl
 by_cases h2 : k = 903
 ·subst h2; rfl
 by_cases h3 : k = 901
 ·subst h3; rfl
 by_cases h4 : k = 904
 ·subst h4; rfl
 by_cases h5 : k = 902
 ·subst h5; rfl
 by_cases h6 : k = 905
 ·subst h6; rfl
 simp [numA,nbeq_ne h1,nbeq_ne h2,nbeq_ne h3,nbeq_ne h4,nbeq_ne h5,nbeq_ne h6]
def shN (g : Nat → Nat) : Key → Key
 | .n k => .n (g k)
 | .s o j => .s (g o) j
 | .l k => .l k
def mkSh (g : Nat → Nat) (hg : ∀ k,g (g k) = k) : Sh := ⟨shN g,fun κ => by cases κ <;> simp [shN,hg],fun _ => rfl⟩
def shA : Sh := mkSh numA numA_numA
theorem fz_prog {S : St} (p : ProgL) : FzA S (agg (encProg p)) (agg (encProg p)) := ⟨encProg p,rfl,_,_,rfl,rfl,_,_,rfl,rfl,_,_,rfl,rfl,_,_,rfl,rfl,rfl⟩
end Ai
end
section
set_option maxRecDepth 100000
namespace Ai
open Go Go.Proofs
def dQ (n : Nat) : Code → Option (Array Oper)
 | .region i ops _ => bif Nat.beq i n then some ops else none
 | .seq a b => match dQ n a with | some x => some x | none => dQ n b
 | .cond _ a b => match dQ n a with | some x => some x | none => dQ n b
 | .block _ a => dQ n a
 | .loop a => dQ n a
 | _ => none
theorem oI (x : D) : Inert (.d x) := ⟨fun _ => rfl,fun _ => rfl,fun _ _ => rfl⟩
def lU : Key → Bool
 | .n k => Nat.beq k 900 || Nat.beq k 901 || Nat.beq k 902
 | .s o _ => Nat.beq o 900
 | .l k => Nat.beq k 0
theorem aI {E : TypeId} {pre : List AV} {s : StL} : ∀ κ,lU κ = false → stHC E pre s κ = none
 | .l j,h => by have h : Nat.beq j 0 = false := h; simp [stHC,h]
 | .n j,h => by
  have h : (Nat.beq j 900 || Nat.beq j 901 || Nat.beq j 902) = false := h
  simp only [Bool.or_eq_false_iff] at h
  simp [stHC,h.1.1,h.1.2,h.2]
 | .s o j,h => by have h : Nat.beq o 900 = false := h; simp [stHC,h]
end Ai
end
section
set_option maxRecDepth 100000
namespace Ai
open Go Go.Proofs Ieee
theorem order_symm {x y : Nat} : double.order x y = some .eq ↔ double.order y x = some .eq := by
 have key : ∀ {x y : Nat},double.order x y = some .eq → double.order y x = some .eq := by
  intro x y h
  unfold Format.order at *
  cases hx : double.read x with
  |nan s f => rw [hx] at h; cases h
  |infinity s =>
   cases hy : double.read y with
   |nan t f => rw [hx,hy] at h; cases h
   |infinity t => rw [hx,hy] at h; cases s <;> cases t <;> first | rfl | cases h
   |number t n i => rw [hx,hy] at h; cases s <;> cases h
  |number s m e =>
   cases hy : double.read y with
   |nan t f => rw [hx,hy] at h; cases h
   |infinity t => rw [hx,hy] at h; cases t <;> cases h
   |number t n i =>
    rw [hx,hy] at h
    simp only [Datum.order,Option.some.injEq] at h ⊢
    have h := Std.LawfulEqCmp.eq_of_compare h
    rw [Int.min_comm i e,h]
    exact Std.ReflCmp.compare_self
 exact ⟨key,key⟩
theorem r4 {x y : Nat} : fcmp .eql x y = fcmp .eql y x := by
 have : ∀ a b : Nat,fcmp .eql a b = true ↔ double.order a b = some .eq := fun a b => by simp [fcmp]
 rw [Bool.eq_iff_iff,this,this]
 exact order_symm
theorem near_cut : (List.range 1001).all (fun q => canon (double.nearest false q 0) == FloatKind.f64.nearest (q : Int)) = true := by decide +kernel
theorem near_cut' {q : Nat} (h : q ≤ 1000) : canon (double.nearest false q 0) = FloatKind.f64.nearest (q : Int) := by
 have := near_cut
 simp only [List.all_eq_true,List.mem_range,beq_iff_eq] at this
 exact this q (by omega)
theorem inI56_ok (n lo hi : Int) : CallsTo EE 56 [i64 n,i64 lo,i64 hi] (· = bp (InR n lo hi)) := by
 refine callsTo_of_AW (fn := Tryz.f56) Tryz.func56 rfl (by kernel_rfl) rfl ?_
 conv => whnf
 repeat' (refine kbi (fun h => ?_) (fun h => ?_) <;> first | contradiction | conv => whnf)
 all_goals simp only [decide_eq_true_eq] at *
 all_goals first | exact bpt (by unfold InR; omega) | exact bpf (by unfold InR; omega)
theorem sW {x : Nat} {many n : Int} (h1 : 1 ≤ many ∧ many ≤ 1000) (hx0 : fcmp .lss x 0 = false) (hxm : fcmp .lss x (FloatKind.f64.nearest many) = true) (hn : floatToIntVal .f64 x .i64 = some n) (hr : 0 ≤ n ∧ n < many) :
  (wD x = 2 ∨ wD x = 3) ↔ fcmp .eql (FloatKind.f64.nearest n) x = true := by
 have hdec : FloatKind.f64.decode x = double.read x := rfl
 unfold floatToIntVal at hn
 rw [hdec] at hn
 have z0 : FloatKind.f64.nearest 0 = 0 := by decide
 unfold wD
 cases hd : double.read x with
 |nan s f =>
  rw [hd] at hn; cases hn
 |infinity s => rw [hd] at hn; cases hn
 |number s m i =>
  have hnan : ¬ zM x = true := by unfold zM; rw [hd]; simp [Datum.isNaN]
  rw [if_neg hnan]
  rw [hd] at hn
  simp only [Datum.toInt,Datum.integral] at hn
  simp only
  have hcut0 : m = 0 → Toward.cut .zero s (m <<< i.toNat) (-i).toNat = 0 := by
   rintro rfl
   rw [tR]; simp
  by_cases e0 : fcmp .eql x 0 = true
  ·rw [if_pos e0]
   have hm : m = 0 := by
    have o : double.order x 0 = some .eq := by simpa [fcmp] using e0
    unfold Format.order at o
    rw [hd,kO] at o
    simp only [Datum.order,Option.some.injEq] at o
    have o := Std.LawfulEqCmp.eq_of_compare o
    simp only [signed,Nat.shiftLeft_eq] at o
    have : 0 < 2 ^ (i - min i double.leastPlace).toNat := Nat.pow_pos (by decide)
    have o2 : m * 2 ^ (i - min i double.leastPlace).toNat = 0 := by
     simp only [Nat.zero_mul] at o
     generalize m * 2 ^ (i - min i double.leastPlace).toNat = u at o ⊢
     cases s <;> simp at o <;> omega
    rcases Nat.mul_eq_zero.1 o2 with e | e
    ·exact e
    ·omega
   have hn0 : n = 0 := by
    rw [hcut0 hm] at hn
    split at hn
    ·simp only [Option.some.injEq] at hn
     rw [← hn]
     cases s <;> rfl
    ·cases hn
   subst hn0
   rw [z0,r4,e0]
   simp
  ·rw [if_neg e0]
   have hs : s = false := by
    cases s with
    |false => rfl
    |true =>
     exfalso
     have o : double.order x 0 ≠ some .lt := by simpa [fcmp] using hx0
     have o2 : double.order x 0 ≠ some .eq := by simpa [fcmp] using e0
     unfold Format.order at o o2
     rw [hd,kO] at o o2
     simp only [Datum.order,Option.some.injEq,ne_eq] at o o2
     rw [cmp_lt] at o
     simp only [signed,if_true,Nat.shiftLeft_eq,Nat.zero_mul] at o o2
     by_cases hm : m = 0
     ·subst hm; simp at o2; try exact o2 rfl
     ·have : 0 < m * 2 ^ (i - min i double.leastPlace).toNat := Nat.mul_pos (by omega) (Nat.pow_pos (by decide))
      generalize m * 2 ^ (i - min i double.leastPlace).toNat = u at o o2 this
      simp at o
      omega
   subst hs
   generalize hq : Toward.cut .zero false (m <<< i.toNat) (-i).toNat = q at *
   have hnq : n = (q : Int) := by
    split at hn
    ·simp only [Option.some.injEq] at hn
     rw [← hn]
     show ((q <<< 0 : Nat) : Int) = q
     rw [Nat.shiftLeft_zero]
    ·cases hn
   have ht : dK x = FloatKind.f64.nearest n := by
    unfold dK
    rw [hd]
    simp only [Datum.integral,hq,Format.write]
    rw [hnq,near_cut' (by omega)]
   rw [ht,r4]
   by_cases h : fcmp .eql (FloatKind.f64.nearest n) x = true
   ·rw [if_pos h]; simp [h]
   ·rw [if_neg h]; simp [h]
theorem l9 {x : Nat} (h : wD x = 2 ∨ wD x = 3) : zM x = false := by
 cases hn : zM x with
 |false => rfl
 |true =>
  exfalso
  have : wD x = 0 := by unfold wD; rw [if_pos hn]
  omega
theorem geq_lss {x y : Nat} (h : fcmp .geq x y = true) (e : fcmp .lss x y = true) : False := by
 have h : (double.order x y == some .gt || double.order x y == some .eq) = true := h
 have e : (double.order x y == some .lt) = true := e
 simp only [Bool.or_eq_true,beq_iff_eq] at h e
 rw [e] at h
 rcases h with h | h <;> cases h
theorem pF {x : Nat} {many : Int} (h1 : InR many 1 1000) (hn : zM x = false) (h : fcmp .geq x (FloatKind.f64.nearest many) = false) : fcmp .lss x (FloatKind.f64.nearest many) = true := by
 obtain ⟨b,rfl⟩ : ∃ b : Nat,many = (b : Int) := ⟨many.toNat,by have := h1.1; omega⟩
 obtain ⟨k,hk⟩ := aV (m := b) (by have := h1.1; omega) (by have := h1.2; omega)
 have h : (double.order x (FloatKind.f64.nearest (b : Int)) == some .gt || double.order x (FloatKind.f64.nearest (b : Int)) == some .eq) = false := h
 show (double.order x (FloatKind.f64.nearest (b : Int)) == some .lt) = true
 obtain ⟨c,hc⟩ : ∃ c,double.order x (FloatKind.f64.nearest (b : Int)) = some c := by
  unfold Format.order
  rw [hk]
  unfold zM at hn
  cases hd : double.read x with
  |nan s f => rw [hd] at hn; cases hn
  |infinity s => exact ⟨_,rfl⟩
  |number s m e => exact ⟨_,rfl⟩
 rw [hc] at h ⊢
 cases c with
 |lt => rfl
 |eq => cases h
 |gt => cases h
theorem idx_none {x : Nat} {many : Int} (hk : ¬ (wD x = 2 ∨ wD x = 3)) : yP x many = none := by
 unfold yP
 split
 ·rename_i hc
  obtain ⟨n,g1,g2,g3⟩ := mA x many hc.1.1 hc.1.2 hc.2.1 hc.2.2
  rw [g1]
  simp only
  rw [if_neg]
  intro e
  exact hk ((sW hc.1 hc.2.1 hc.2.2 g1 ⟨g2,g3⟩).2 e)
 ·rfl
theorem lB : yN := by
 intro x many
 refine callsTo_of_AW (fn := Tryz.f183) Tryz.func183 rfl (by kernel_rfl) rfl ?_
 conv => whnf
 refine ⟨_,iE x,?_⟩
 rintro r rfl
 conv => whnf
 refine ocase (inI56_ok _ _ _) (fun h1 => ?_) (fun h1 => ?_)
 ·conv => whnf
  refine kbi (fun k2 => ?_) (fun k2 => ?_)
  ·have k2 : ¬ wD x = 2 := by simpa using k2
   conv => whnf
   refine kbi (fun k3 => ?_) (fun k3 => ?_)
   ·have k3 : ¬ wD x = 3 := by simpa using k3
    conv => whnf
    rw [idx_none (by omega)]
    rfl
   have hk : wD x = 2 ∨ wD x = 3 := .inr (by simpa using k3)
   conv => whnf
   refine kbi (fun hx0 => ?_) (fun hx0 => ?_)
   ·have hx0 : fcmp .lss x 0 = true := hx0
    conv => whnf
    rw [show yP x many = none by unfold yP; rw [if_neg]; rintro ⟨_,e,_⟩; rw [hx0] at e; cases e]
    rfl
   have hx0 : fcmp .lss x 0 = false := by
    have hx0 : ¬ fcmp .lss x 0 = true := hx0
    simpa using hx0
   conv => whnf
   refine kbi (fun hg => ?_) (fun hg => ?_)
   ·have hg : fcmp .geq x (FloatKind.f64.nearest many) = true := hg
    conv => whnf
    rw [show yP x many = none by unfold yP; rw [if_neg]; rintro ⟨_,_,e⟩; exact geq_lss hg e]
    rfl
   have hg : fcmp .geq x (FloatKind.f64.nearest many) = false := by
    have hg : ¬ fcmp .geq x (FloatKind.f64.nearest many) = true := hg
    simpa using hg
   have hxm := pF h1 (l9 hk) hg
   obtain ⟨n,g1,g2,g3⟩ := mA x many h1.1 h1.2 hx0 hxm
   have he := (sW h1 hx0 hxm g1 ⟨g2,g3⟩).1 hk
   conv => whnf
   refine ⟨n,g1,?_⟩
   conv => whnf
   rw [show yP x many = some n by unfold yP; rw [if_pos ⟨h1,hx0,hxm⟩,g1]; simp only; rw [if_pos he]]
   rfl
  ·have hk : wD x = 2 ∨ wD x = 3 := .inl (by simpa using k2)
   conv => whnf
   refine kbi (fun hx0 => ?_) (fun hx0 => ?_)
   ·have hx0 : fcmp .lss x 0 = true := hx0
    conv => whnf
    rw [show yP x many = none by unfold yP; rw [if_neg]; rintro ⟨_,e,_⟩; rw [hx0] at e; cases e]
    rfl
   have hx0 : fcmp .lss x 0 = false := by
    have hx0 : ¬ fcmp .lss x 0 = true := hx0
    simpa using hx0
   conv => whnf
   refine kbi (fun hg => ?_) (fun hg => ?_)
   ·have hg : fcmp .geq x (FloatKind.f64.nearest many) = true := hg
    conv => whnf
    rw [show yP x many = none by unfold yP; rw [if_neg]; rintro ⟨_,_,e⟩; exact geq_lss hg e]
    rfl
   have hg : fcmp .geq x (FloatKind.f64.nearest many) = false := by
    have hg : ¬ fcmp .geq x (FloatKind.f64.nearest many) = true := hg
    simpa using hg
   have hxm := pF h1 (l9 hk) hg
   obtain ⟨n,g1,g2,g3⟩ := mA x many h1.1 h1.2 hx0 hxm
   have he := (sW h1 hx0 hxm g1 ⟨g2,g3⟩).1 hk
   conv => whnf
   refine ⟨n,g1,?_⟩
   conv => whnf
   rw [show yP x many = some n by unfold yP; rw [if_pos ⟨h1,hx0,hxm⟩,g1]; simp only; rw [if_pos he]]
   rfl
 ·conv => whnf
  rw [show yP x many = none by unfold yP; rw [if_neg]; rintro ⟨e,_⟩; exact h1 e]
  rfl
end Ai
end
section
set_option maxRecDepth 100000
namespace Ai
open Go Go.Proofs Ieee
def F64 (x : Nat) : Prop := x < 18446744073709551616
theorem d5 (s : Bool) (m : Nat) (i : Int) : F64 (double.nearest s m i) := by
 unfold F64 Format.nearest
 have e1 : double.signWeight = 9223372036854775808 := by decide
 have e2 : double.infRung = 9218868437227405312 := by decide
 split
 ·unfold Format.word; rw [e1]; split <;> omega
 ·unfold Format.word
  rw [e1,e2]
  simp only
  generalize (max (i + ↑m.log2 - ↑double.fractionBits) double.leastPlace - double.leastPlace).toNat * double.binade + Toward.even.cut s (m <<< (i - max (i + ↑m.log2 - ↑double.fractionBits) double.leastPlace).toNat) (max (i + ↑m.log2 - ↑double.fractionBits) double.leastPlace - i).toNat = r
  split <;> omega
theorem cZ (d : Datum) : F64 (double.write d) := by
 cases d with
 |number s m i => exact d5 s m i
 |infinity s => unfold F64 Format.write Format.word; cases s <;> decide
 |nan s f =>
  show (if s = true then double.signWeight + (double.infRung + f % double.binade) else double.infRung + f % double.binade) < 18446744073709551616
  rw [show double.signWeight = 9223372036854775808 by decide,show double.infRung = 9218868437227405312 by decide,show double.binade = 4503599627370496 by decide]
  split <;> omega
theorem nearN_f64 (n : Int) : F64 (FloatKind.f64.nearest n) := cZ (.number (n < 0) n.natAbs 0)
theorem fop_f64 (op : BinOp) (x y : Nat) : F64 (fop op x y) := by
 have hn : F64 nanC := by unfold F64; decide
 have key : ∀ o : Option Datum,F64 ((o.map double.write).getD nanC) := by
  intro o
  cases o with
  |none => exact hn
  |some d => exact cZ d
 unfold fop floatBits
 cases op <;> first | exact hn | exact key _
theorem reckon_f64 (c : Int) (x y : Nat) : F64 (yL c x y) := by
 unfold yL
 repeat' split
 all_goals first | exact fop_f64 _ _ _ | (unfold F64 oneF; decide) | (unfold F64; decide)
def StL.flt (s : StL) : Prop := (∀ c ∈ s.cells,F64 c) ∧ ∀ t ∈ s.ths,∀ x ∈ t.stack,F64 x
theorem wO {s : StL} {k : Nat} {t : Th} (h : s.flt) (ht : ∀ x ∈ t.stack,F64 x) : (s.put k t).flt := by
 refine ⟨h.1,fun u hu => ?_⟩
 rcases List.mem_or_eq_of_mem_set hu with e | e
 ·exact h.2 u e
 ·subst e; exact ht
theorem topN_f64 {t : Th} {o : OpL} {i : Nat} (h : ∀ x ∈ t.stack,F64 x) : F64 (yK t o i) := lA h
theorem flt_do {s : StL} {k : Nat} {o : OpL} {e : Ev} (hk : k < s.ths.length) (h : s.flt) (ho : F64 o.v) : (doL s k o e).1.flt := by
 have hgd : s.ths.getD k th0 = s.ths[k] := by simp [List.getD_eq_getElem?_getD,hk]
 have ht := h.2 _ (List.getElem_mem hk)
 generalize s.ths[k] = t at *
 unfold doL
 simp only [hgd]
 have hpop : ∀ x ∈ (zC t o).stack,F64 x := fun x hx => ht x (List.mem_of_mem_take hx)
 have hpush : ∀ v,F64 v → ∀ x ∈ (zL (zC t o) v).stack,F64 x := by
  intro v hv x hx
  rcases List.mem_append.1 hx with e | e
  ·exact hpop x e
  ·simp only [List.mem_cons,List.not_mem_nil,or_false] at e
   subst e; exact hv
 by_cases n1 : o.code = 1
 ·rw [if_pos n1]; exact wO h (hpush _ ho)
 rw [if_neg n1]
 by_cases n2 : o.code = 2
 ·rw [if_pos n2]
  refine wO h (hpush _ ?_)
  rw [List.getD_eq_getElem?_getD]
  cases hg : s.cells[o.a.toNat]? with
  |none => unfold F64; decide
  |some c => exact h.1 c (List.mem_of_getElem? hg)
 rw [if_neg n2]
 by_cases n3 : o.code = 3
 ·rw [if_pos n3]
  refine wO ⟨fun c hc => ?_,h.2⟩ hpop
  rcases List.mem_or_eq_of_mem_set hc with e | e
  ·exact h.1 c e
  ·subst e; exact topN_f64 ht
 rw [if_neg n3]
 by_cases n10 : o.code = 10
 ·rw [if_pos n10]; exact wO h hpop
 rw [if_neg n10]
 by_cases n11 : o.code = 11
 ·rw [if_pos n11]
  refine wO h ?_
  split
  ·exact hpop
  ·exact hpop
 rw [if_neg n11]
 by_cases n12 : o.code = 12
 ·rw [if_pos n12]; exact wO (s := { s with owner := _ }) h hpop
 rw [if_neg n12]
 by_cases n13 : o.code = 13
 ·rw [if_pos n13]; exact wO (s := { s with owner := _ }) h hpop
 rw [if_neg n13]
 by_cases n14 : o.code = 14
 ·rw [if_pos n14]
  refine wO (s := { s with ths := _ }) ⟨h.1,fun u hu => ?_⟩ (hpush _ (nearN_f64 _))
  rcases List.mem_append.1 hu with e | e
  ·exact h.2 u e
  ·simp only [List.mem_cons,List.not_mem_nil,or_false] at e
   subst e; intro x hx; cases hx
 rw [if_neg n14]
 by_cases n15 : o.code = 15
 ·rw [if_pos n15]; exact wO h hpop
 rw [if_neg n15]
 by_cases n16 : o.code = 16
 ·rw [if_pos n16]; exact wO (s := { s with owner := _ }) h hpop
 rw [if_neg n16]
 by_cases n17 : o.code = 17
 ·rw [if_pos n17]
  cases wH s.ths o.a with
  |none => exact wO h hpop
  |some j =>
   refine wO (s := { s with ths := _ }) ⟨h.1,fun u hu => ?_⟩ hpop
   obtain ⟨i,hi,rfl⟩ := List.mem_iff_getElem.1 hu
   have hil : i < s.ths.length := by simpa using hi
   have := h.2 _ (List.getElem_mem hil)
   rw [List.getElem_modify]
   split
   ·exact this
   ·exact this
 rw [if_neg n17]
 exact wO h (hpush _ (reckon_f64 _ _ _))
theorem p5 {p : ProgL} (hv : p.flt) {s : StL} {k : Nat} (hk : k < s.ths.length) (h : s.flt) : (stepL p s k).1.flt := by
 have hgd : s.ths.getD k th0 = s.ths[k] := by simp [List.getD_eq_getElem?_getD,hk]
 have ht := h.2 _ (List.getElem_mem hk)
 unfold stepL
 simp only [hgd]
 split
 ·exact wO (s := { s with owner := _ }) h ht
 ·split
  ·exact wO h ht
  ·rename_i o hn
   split
   ·refine flt_do hk h ?_
    unfold zZ at hn
    by_cases hr : s.ths[k].rt.toNat < p.rs.length
    ·have e : p.rs.getD s.ths[k].rt.toNat [] = p.rs[s.ths[k].rt.toNat] := by rw [List.getD_eq_getElem?_getD,List.getElem?_eq_getElem hr]; rfl
     rw [e] at hn
     exact hv _ (List.getElem_mem hr) o (List.mem_of_getElem? hn)
    ·have e : p.rs.getD s.ths[k].rt.toNat [] = [] := by rw [List.getD_eq_getElem?_getD,List.getElem?_eq_none (by omega)]; rfl
     rw [e] at hn
     simp at hn
   ·exact h
theorem flt_new (p : ProgL) : (wY p).flt := by
 refine ⟨fun c hc => ?_,fun t ht => ?_⟩
 ·obtain ⟨_,rfl⟩ := List.mem_replicate.1 hc
  unfold F64; decide
 ·have : t = qS 0 := by simpa [wY] using ht
  subst this
  intro x hx; cases hx
theorem goes_st {p : ProgL} {s : StL} {k : Nat} (h : k ∈ enabledL p s) (hk : k < s.ths.length) : s.ths[k].st = 1 ∨ s.ths[k].st = 4 := by
 have := (List.mem_filter.1 h).2
 unfold uV at this
 have this := of_decide_eq_true this
 simp only [List.getD_eq_getElem?_getD,List.getElem?_eq_getElem hk,Option.getD_some] at this
 exact this.2.1
theorem joins_top {s : StL} {k : Nat} {o : OpL} (hk : k < s.ths.length) (hf : zT s k o = 0) (h15 : o.code = 15) : ∃ j,yP (yK s.ths[k] o 0) s.ths.length = some j ∧ zS s s.ths[k] = some j := by
 have hgd : s.ths.getD k th0 = s.ths[k] := by simp [List.getD_eq_getElem?_getD,hk]
 unfold zT at hf
 simp only [hgd] at hf
 generalize s.ths[k] = t at *
 have ht : zA o.code = (1,0) := by rw [h15]; decide
 rw [ht] at hf
 simp only at hf
 split at hf
 ·cases hf
 rename_i h1
 have hl : 1 ≤ t.stack.length := by
  have := fun e => h1 (.inl e)
  omega
 split at hf
 ·cases hf
 split at hf
 ·cases hf
 rename_i h3
 have hj : ¬ (zS s t).getD (-1) < 0 := fun e => h3 ⟨h15,e⟩
 have hkn : zP t o = t.stack.length - 1 := by simp [zP,xG,ht]
 have htop : t.stack.getLast? = some (yK t o 0) := by
  unfold yK
  rw [hkn,List.getLast?_eq_getElem?,List.getD_eq_getElem?_getD,List.getElem?_drop]
  rw [Nat.add_zero,List.getElem?_eq_getElem (by omega)]
  rfl
 unfold zS at hj ⊢
 rw [htop] at hj ⊢
 simp only [Option.bind_some] at hj ⊢
 cases hi : yP (yK t o 0) s.ths.length with
 |none => rw [hi] at hj; exact absurd (by decide) hj
 |some j => exact ⟨j,rfl,rfl⟩
theorem runI {p : ProgL} (hg : p.goodS) (hv : p.flt) : RunI p (fun s => SInv p s ∧ s.flt) := {
 small := fun s h => (runOK hg).small s h.1
 seen := fun s h => (runOK hg).seen s h.1
 ready := fun s h => (runOK hg).ready s h.1
 awake := fun s h k hk hl => by
  have := goes_st hk hl
  omega
 flt := fun s h => h.2.2
 joins := fun s h k hk hl o hn hf h15 => joins_top hl hf h15
 step := fun s h k hk => by
  have : k < s.ths.length := by have := (List.mem_filter.1 hk).1; simpa using this
  exact ⟨(runOK hg).step s h.1 k hk,p5 hv this h.2⟩ }
end Ai
end
section
set_option maxRecDepth 100000
namespace Ai
open Go Go.Proofs
noncomputable def yA (p : ProgL) (s : StL) (n : Nat) : List (Nat × Int) := ((List.range n).filter fun k => decide (0 ≤ zG p s (s.ths.getD k th0))).map fun k => (k,zG p s (s.ths.getD k th0))
noncomputable def bB (p : ProgL) (s : StL) : List (Nat × Int) := yA p s s.ths.length
def nM (e : Nat × Int) : List D := [.sl [[di e.1],[di e.2]]]
theorem zX {p : ProgL} {s : StL} {n : Nat} : yA p s (n + 1) = yA p s n ++ (if 0 ≤ zG p s (s.ths.getD n th0) then [(n,zG p s (s.ths.getD n th0))] else []) := by
 unfold yA
 rw [List.range_succ,List.filter_append,List.map_append]
 congr 1
 by_cases h : 0 ≤ zG p s (s.ths.getD n th0)
 ·rw [List.filter_cons_of_pos (by simpa using h),if_pos h]; rfl
 ·rw [List.filter_cons_of_neg (by simpa using h),if_neg h]; rfl
theorem tO {p : ProgL} {s : StL} {n : Nat} : (yA p s n).length ≤ n := by
 unfold yA
 rw [List.length_map]
 exact Nat.le_trans (List.length_filter_le _ _) (by simp)
theorem iK (hI : yN) (p : ProgL) (s : StL) (hp : p.wf) (hs : s.small) (hv : ∀ t ∈ s.ths,t.seen p s) :
  CallsTo EE 99 [.fp (encSt s),agg (encProg p)] (· = .uq 25 1 ((bB p s).map nM)) := by
 refine callsTo_of_AW (fn := Tryz.f99) Tryz.func99 rfl (by kernel_rfl) rfl ?_
 conv => whnf
 refine yR (fun k : Nat => [(0,.fp (encSt s)),(3,.ptr (.n 3) 0),(5,.ref (.n 10) 0 (yA p s k).length),(14,sl (s.ths.map zF)),(15,i64 (s.ths.map zF).length),(16,i64 k)])
  (fun k => [(.n 3,.vs 31 ((encProg p).map .d)),(.n 10,.ds 25 1 ((yA p s k).map nM))]) (fun k => s.ths.length - k) (fun k => k ≤ s.ths.length) 0
  Weak.refl ⟨rfl,rfl,rfl,rfl,rfl,rfl,trivial⟩ ⟨rfl,rfl,trivial⟩ (Nat.zero_le _) ?_
 intro k τ H hk
 have hk : k ≤ s.ths.length := hk
 conv => whnf
 refine kbi (fun h => ?_) (fun h => ?_)
 ·have hlt := xM h
  conv => whnf
  refine ⟨zF s.ths[k],yB zF hlt rfl,?_⟩
  conv => whnf
  have hg : s.ths.getD k th0 = s.ths[k] := by simp [List.getD_eq_getElem?_getD,hlt]
  have hle : (yA p s k).length ≤ k := tO
  have hn := hs.1
  refine ⟨_,aF hI p s s.ths[k] hp (hs.2.1 _ (List.getElem_mem hlt)) (hv _ (List.getElem_mem hlt)),?_⟩
  rintro r ⟨w,rfl,hw⟩
  by_cases hb : 0 ≤ zG p s s.ths[k]
  ·have hw := hw hb
   subst hw
   have hsk : yA p s (k + 1) = yA p s k ++ [(k,zG p s s.ths[k])] := by rw [zX,hg,if_pos hb]
   simp only [bp,sI hb]
   conv => whnf
   refine .inl ?_
   conv => whnf
   refine ⟨⟨rfl,by show ((yA p s k).length + 1) * 24 ≤ _; omega,by show (yA p s k).length + 1 ≤ _; omega⟩,?_⟩
   conv => whnf
   refine ⟨k + 1,by show k + 1 ≤ s.ths.length; omega,by show s.ths.length - (k + 1) < s.ths.length - k; omega,⟨rfl,rfl,?_,rfl,rfl,next_i64 hlt (by omega),trivial⟩,⟨rfl,?_,trivial⟩⟩
   ·rw [hsk]
    show AV.ref (.n 10) 0 ((yA p s k).length + 1) = _
    simp
   ·rw [hsk]
    show some (Ob.ds 25 1 (((yA p s k).map nM).take (yA p s k).length ++ [nM (k,zG p s s.ths[k])])) = _
    rw [List.take_of_length_le (by simp)]
    simp
  ·simp only [bp,iY hb]
   conv => whnf
   have hsk : yA p s (k + 1) = yA p s k := by rw [zX,hg,if_neg hb]; simp
   refine ⟨k + 1,by show k + 1 ≤ s.ths.length; omega,by show s.ths.length - (k + 1) < s.ths.length - k; omega,⟨rfl,rfl,?_,rfl,rfl,next_i64 hlt (by omega),trivial⟩,⟨rfl,?_,trivial⟩⟩
   ·rw [hsk]; rfl
   ·rw [hsk]; rfl
 ·have hge : s.ths.length ≤ k := by simpa using h
  have hkk : k = s.ths.length := by omega
  subst hkk
  conv => whnf
  show AV.uq 25 1 (List.take (yA p s s.ths.length).length (List.map nM (yA p s s.ths.length))) = _
  rw [List.take_of_length_le (by simp)]
  rfl
end Ai
end
section
namespace Ai.Cyc
structure BS where
 out : List Nat
 queue : List Nat
 far : List (Nat × Nat)
deriving DecidableEq
def setF (l : List (Nat × Nat)) (k v : Nat) : List (Nat × Nat) := if l.any (fun p => p.1 == k) = true then l.map (fun p => if p.1 == k then (k,v) else p) else l ++ [(k,v)]
def oO (l : List (Nat × Nat)) (k : Nat) : Nat := ((l.find? fun p => p.1 == k).map (·.2)).getD 0
def bsE (goal cur : Nat) (st : BS) (e : Nat × Nat) : BS :=
 if (e.2 != cur || decide (0 < st.out.getD e.1 0)) = true then st
 else if (e.1 != goal) = true then ⟨st.out.set e.1 (oO st.far cur + 1),st.queue ++ [e.1],setF st.far e.1 (oO st.far cur + 1)⟩
 else ⟨st.out.set e.1 (oO st.far cur + 1),st.queue,st.far⟩
def bs0 (goal : Nat) : BS := ⟨List.replicate 100 0,[goal],[(goal,0)]⟩
def qL (goal : Nat) (edges : List (Nat × Nat)) : Nat → Nat → BS → Option BS
 | 0,_,_ => none
 |f + 1,i,st => if i < st.queue.length then qL goal edges f (i + 1) (edges.foldl (bsE goal (st.queue.getD i 0)) st) else some st
def nextI (edges : List (Nat × Nat)) (far : List Nat) (n at_ left : Nat) : Nat :=
 edges.foldl (fun nx e => if (e.1 == at_ && e.2 != n && far.getD e.2 0 == left) = true then min nx e.2 else nx) 100
def iJ (edges : List (Nat × Nat)) (far : List Nat) (n : Nat) : Nat → List Nat → Nat → List Nat
 | 0,out,_ => out
 |left + 1,out,at_ => iJ edges far n left (out ++ [nextI edges far n at_ (left + 1)]) (nextI edges far n at_ (left + 1))
def gT (edges : List (Nat × Nat)) (n : Nat) : Option (List Nat) :=
 match qL n edges 7 0 (bs0 n) with
 |none => none
 |some st => if st.out.getD n 0 = 0 then some [] else some (iJ edges st.out n (st.out.getD n 0 - 1) [n] n)
def fI (edges : List (Nat × Nat)) (to : Nat) : Nat → Nat → List (List Nat) → List Nat → Option (List Nat)
 | 0,_,_,_ => none
 |f + 1,i,ways,seen =>
  if i < ways.length then
   match edges.find? (fun e => e.1 == (ways.getD i []).getLastD 0) with
   |none => fI edges to f (i + 1) ways seen
   |some e => if e.2 = to then some (ways.getD i []) else if seen.contains e.2 = true then fI edges to f (i + 1) ways seen
     else fI edges to f (i + 1) (ways ++ [ways.getD i [] ++ [e.2]]) (seen ++ [e.2])
  else some []
def bY (edges : List (Nat × Nat)) (n : Nat) : Option (List Nat) := fI edges n 8 0 [[n]] []
def opts : List (Option Nat) := [none,some 0,some 1,some 2,some 3,some 4]
def ed (k : Nat) (o : Option Nat) : List (Nat × Nat) := match o with | some b => [(k,b)] | none => []
def ok (edges : List (Nat × Nat)) : Bool := (List.range 5).all fun n => (gT edges n).isSome && gT edges n == bY edges n
def fQ (a : Option Nat) : Bool := opts.all fun b => opts.all fun c => opts.all fun d => opts.all fun e => ok (ed 0 a ++ ed 1 b ++ ed 2 c ++ ed 3 d ++ ed 4 e)
theorem okN : fQ none = true := by decide +kernel
theorem ok0 : fQ (some 0) = true := by decide +kernel
theorem ok1 : fQ (some 1) = true := by decide +kernel
theorem ok2 : fQ (some 2) = true := by decide +kernel
theorem ok3 : fQ (some 3) = true := by decide +kernel
theorem ok4 : fQ (some 4) = true := by decide +kernel
theorem ok_all (a b c d e : Option Nat) (ha : a ∈ opts) (hb : b ∈ opts) (hc : c ∈ opts) (hd : d ∈ opts) (he : e ∈ opts) : ok (ed 0 a ++ ed 1 b ++ ed 2 c ++ ed 3 d ++ ed 4 e) = true := by
 have h : fQ a = true := by
  simp only [opts,List.mem_cons,List.not_mem_nil,or_false] at ha
  rcases ha with rfl | rfl | rfl | rfl | rfl | rfl
  ·exact okN
  ·exact ok0
  ·exact ok1
  ·exact ok2
  ·exact ok3
  ·exact ok4
 simp only [fQ,List.all_eq_true] at h
 exact h b hb c hc d hd e he
end Ai.Cyc
end
section
set_option maxRecDepth 100000
namespace Ai
open Go Go.Proofs Cyc
def vK (e : Nat × Nat) : List D := [.sl [[di e.1],[di e.2]]]
def arr (l : List Nat) : List D := l.map fun (x : Nat) => di (x : Int)
def xE (x : Nat) : List D := [di (x : Int)]
def uE (l : List (Nat × Nat)) : List (Int × List D) := l.map fun p => (((p.1 : Nat) : Int),[di (p.2 : Int)])
structure BSok (goal : Nat) (st : BS) (m : Nat) : Prop where
 len : st.out.length = 100
 far : ∀ p ∈ st.far,p.2 ≤ m
 que : st.queue.length ≤ m + 1
 key : ∀ q ∈ st.queue,∃ v,st.far.find? (fun p => p.1 == q) = some (q,v)
 pos : ∀ p ∈ st.far,p.1 = goal ∨ 0 < st.out.getD p.1 0
 flen : st.far.length ≤ m + 1
theorem bs0_ok (goal : Nat) : BSok goal (bs0 goal) 0 := ⟨by simp [bs0],by simp [bs0],by simp [bs0],by simp [bs0],by simp [bs0],by simp [bs0]⟩
theorem rK {goal : Nat} {st : BS} {m k : Nat} (h : BSok goal st m) : oO st.far k ≤ m := by
 unfold oO
 cases hf : st.far.find? (fun p => p.1 == k) with
 |none => simp
 |some p => exact h.far p (List.mem_of_find?_eq_some hf)
theorem atM_far (l : List (Nat × Nat)) (k : Nat) : atM (uE l) (k : Int) = (l.find? fun p => p.1 == k).map fun p => [di (p.2 : Int)] := by
 unfold atM uE
 rw [List.find?_map]
 have : ((fun p : Int × List D => p.1 == (k : Int)) ∘ fun p : Nat × Nat => (((p.1 : Nat) : Int),[di (p.2 : Int)])) = fun p : Nat × Nat => p.1 == k := by
  funext p
  show (((p.1 : Nat) : Int) == (k : Int)) = (p.1 == k)
  rw [Bool.eq_iff_iff,beq_iff_eq,beq_iff_eq]
  omega
 rw [this]
 cases l.find? fun p => p.1 == k <;> rfl
theorem n6 (l : List (Nat × Nat)) (k : Nat) : cT (uE l) (k : Int) = l.any fun p => p.1 == k := by
 unfold cT uE
 rw [List.any_map]
 congr 1
 funext p
 show (((p.1 : Nat) : Int) == (k : Int)) = (p.1 == k)
 rw [Bool.eq_iff_iff,beq_iff_eq,beq_iff_eq]
 omega
theorem idxM_far {l : List (Nat × Nat)} {k : Nat} (h : (l.any fun p => p.1 == k) = false) : vC (uE l) (k : Int) = l.length := by
 unfold vC
 have h2 := n6 l k
 rw [h] at h2
 have : (uE l).findIdx? (fun p => p.1 == (k : Int)) = none := by
  rw [List.findIdx?_eq_none_iff]
  unfold cT at h2
  simpa using h2
 rw [this]
 simp [uE]
theorem addM_far {l : List (Nat × Nat)} {k : Nat} (h : (l.any fun p => p.1 == k) = false) : tY (uE l) (k : Int) = uE l ++ [((k : Int),[])] := by
 unfold tY
 rw [n6,h]
 rfl
theorem putM_far {l : List (Nat × Nat)} {k v : Nat} : kP (uE l ++ [((k : Int),[])]) l.length [di (v : Int)] = uE (l ++ [(k,v)]) := by
 unfold kP
 apply List.ext_getElem?
 intro i
 rw [List.getElem?_modify]
 by_cases h : i < l.length
 ·rw [List.getElem?_append_left (by simpa [uE] using h)]
  have : ¬ l.length = i := by omega
  simp only [uE,this,if_false,List.map_append]
  rw [List.getElem?_append_left (by simpa using h)]
  simp
 ·by_cases h2 : i = l.length
  ·subst h2
   simp [uE]
  ·have e1 : (uE l ++ [((k : Int),[])])[i]? = none := List.getElem?_eq_none (by simp [uE]; omega)
   have e2 : (uE (l ++ [(k,v)]))[i]? = none := List.getElem?_eq_none (by simp [uE]; omega)
   rw [e1,e2]; rfl
theorem q8 {l : List (Nat × Nat)} {k v : Nat} (h : (l.any fun p => p.1 == k) = false) : setF l k v = l ++ [(k,v)] := by
 unfold setF
 rw [h]
 rfl
theorem absent {goal : Nat} {st : BS} {m k : Nat} (h : BSok goal st m) (h0 : st.out.getD k 0 = 0) (hg : k ≠ goal) : (st.far.any fun p => p.1 == k) = false := by
 rw [List.any_eq_false]
 intro p hp e
 have e : p.1 = k := by simpa using e
 rcases h.pos p hp with h1 | h1
 ·exact hg (e ▸ h1)
 ·rw [e,h0] at h1; omega
theorem z7 {goal cur : Nat} {st : BS} {m : Nat} {e : Nat × Nat} (h : BSok goal st m) (he : e.1 < 100) : BSok goal (bsE goal cur st e) (m + 1) := by
 have hmono : BSok goal st (m + 1) := ⟨h.len,fun p hp => Nat.le_succ_of_le (h.far p hp),Nat.le_succ_of_le h.que,h.key,h.pos,Nat.le_succ_of_le h.flen⟩
 unfold bsE
 split
 ·exact hmono
 rename_i h1
 have h0 : st.out.getD e.1 0 = 0 := by
  simp only [Bool.or_eq_true,decide_eq_true_eq,not_or] at h1
  omega
 have hset : ∀ (i : Nat),0 < st.out.getD i 0 → 0 < (st.out.set e.1 (oO st.far cur + 1)).getD i 0 := by
  intro i hi
  simp only [List.getD_eq_getElem?_getD,List.getElem?_set]
  split
  ·split
   ·simp
   ·rename_i h2 h3
    rw [h.len] at h3
    omega
  ·simpa [List.getD_eq_getElem?_getD] using hi
 split
 ·rename_i hg
  have hg : e.1 ≠ goal := by simpa using hg
  have hab := absent h h0 hg
  rw [q8 hab]
  refine ⟨by simpa using h.len,fun p hp => ?_,by simp; exact h.que,fun q hq => ?_,fun p hp => ?_,by simp; exact h.flen⟩
  ·rcases List.mem_append.1 hp with h2 | h2
   ·exact Nat.le_succ_of_le (h.far p h2)
   ·simp only [List.mem_cons,List.not_mem_nil,or_false] at h2
    subst h2
    exact Nat.succ_le_succ (rK h)
  ·rw [List.find?_append]
   rcases List.mem_append.1 hq with h2 | h2
   ·obtain ⟨v,hv⟩ := h.key q h2
    exact ⟨v,by rw [hv]; rfl⟩
   ·simp only [List.mem_cons,List.not_mem_nil,or_false] at h2
    subst h2
    have : st.far.find? (fun p => p.1 == e.1) = none := by
     rw [List.find?_eq_none]
     intro p hp
     have := List.any_eq_false.1 hab p hp
     exact this
    rw [this]
    exact ⟨oO st.far cur + 1,by simp⟩
  ·rcases List.mem_append.1 hp with h2 | h2
   ·rcases h.pos p h2 with h3 | h3
    ·exact .inl h3
    ·exact .inr (hset _ h3)
   ·simp only [List.mem_cons,List.not_mem_nil,or_false] at h2
    subst h2
    right
    simp [List.getD_eq_getElem?_getD,h.len,he]
 ·refine ⟨by simpa using h.len,fun p hp => Nat.le_succ_of_le (h.far p hp),Nat.le_succ_of_le h.que,h.key,fun p hp => ?_,Nat.le_succ_of_le h.flen⟩
  rcases h.pos p hp with h3 | h3
  ·exact .inl h3
  ·exact .inr (hset _ h3)
end Ai
end
section
set_option maxRecDepth 100000
namespace Ai
open Go Go.Proofs Cyc
noncomputable def ops12 : Array Oper := (dQ 12 (Tryz.f137.body.getD .skip)).getD #[]
theorem dG {S : St} {A : AV} {o : Key} {T : Nat} {out : List Nat} {k : Nat} (hA : A = .ptr o (0 + k * 1)) (hH : S.H o = some (.vs T ((arr out).map .d))) (hk : k < out.length) : vG S A 1 = some [i64 (out.getD k 0 : Nat)] := by
 subst hA
 unfold vG
 simp only [hH]
 have h1 : Nat.ble (0 + k * 1 + 1) ((arr out).map AV.d).length = true := by rw [Nat.ble_eq]; simp [arr]; omega
 simp only [h1,cond_true]
 have : ((arr out).map AV.d).drop (0 + k * 1) = i64 (out.getD k 0 : Nat) :: ((arr out).map AV.d).drop (k + 1) := by
  rw [Nat.zero_add,Nat.mul_one,List.drop_eq_getElem_cons (by simpa [arr] using hk)]
  congr 1
  simp [arr,List.getD_eq_getElem?_getD,hk]
 rw [this]
 rfl
theorem jB (p : Key → Bool) (l : List Nat) : scrPL p ((arr l).map .d) = (arr l).map .d := by
 have : ∀ ds : List D,scrPL p (ds.map .d) = ds.map .d := by
  intro ds
  induction ds with
  |nil => rfl
  |cons d ds ih => simp only [List.map_cons,scrPL,ih]; rfl
 exact this _
theorem rV {α : Type} (x : α) : ∀ (l : List α) (k : Nat),k < l.length → zU l k [x] = l.set k x
 | [],k,h => by cases h
 |a :: l,0,h => rfl
 |a :: l,k + 1,h => by
  show a :: zU l k [x] = a :: l.set k x
  rw [rV x l k (by simpa using h)]
theorem rX {L : List AV} {l : List Nat} {k v : Nat} {x : AV} (hL : L = (arr l).map .d) (hk : k < l.length) (hx : x = i64 (v : Nat)) : zU L (0 + k * 1) [x] = (arr (l.set k v)).map .d := by
 subst hL hx
 rw [Nat.zero_add,Nat.mul_one,rV _ _ _ (by simpa [arr] using hk)]
 simp [arr,List.map_set]
structure R12 (edges : List (Nat × Nat)) (goal e0 e1 i j : Nat) (que out : List Nat) (far : List (Nat × Nat)) (v1 : Nat) (L : Nat → Bool) (S : St) : Prop where
 u0 : S.τ 0 = sl (edges.map vK)
 u1 : S.τ 1 = i64 goal
 u4 : S.τ 4 = .ptr (.n 4) 0
 u5 : S.τ 5 = .ptr (.n 5) 0
 u7 : S.τ 7 = .mref (.n 14)
 u8 : S.τ 8 = i64 i
 u10 : S.τ 10 = .d (.sl [[di (e0 : Int)],[di (e1 : Int)]])
 u23 : S.τ 23 = sl (edges.map vK)
 u24 : S.τ 24 = i64 (edges.map vK).length
 u25 : S.τ 25 = i64 j
 h4 : S.H (.n 4) = some (.vs 168 ((arr (List.replicate 100 0)).map .d))
 h5 : S.H (.n 5) = some (.vs 168 ((arr out).map .d))
 c0 : L 0 = true → S.τ 61 = .mref (.n 14)
 c1 : L 1 = true → S.τ 62 = .d (.sl [[di (e0 : Int)],[di (e1 : Int)]])
 c2 : L 2 = true → S.τ 63 = .fp [di (e0 : Int)]
 c3 : L 3 = true → S.τ 64 = i64 e0
 c4 : L 4 = true → S.τ 65 = .d (.sl [[di (e0 : Int)],[di (e1 : Int)]])
 c5 : L 5 = true → S.τ 66 = .fp [di (e0 : Int)]
 c6 : L 6 = true → S.τ 67 = i64 e0
 c7 : L 7 = true → S.τ 68 = .ptr (.n 5) (0 + e0 * 1)
 c8 : L 8 = true → S.τ 69 = i64 v1
 c9 : L 9 = true → L 14 = false → S.τ 70 = .ref (.n 13) 0 que.length
 c10 : L 10 = true → S.τ 71 = .d (.sl [[di (e0 : Int)],[di (e1 : Int)]])
 c11 : L 11 = true → S.τ 72 = .fp [di (e0 : Int)]
 c12 : L 12 = true → S.τ 73 = i64 e0
 c13 : L 13 = true → L 14 = false → S.τ 74 = .ref (.n 74) 0 1
 c14 : L 14 = true → S.τ 75 = .ref (.n 13) 0 (que.length + 1)
 c15 : L 15 = true → S.τ 76 = .tup [.junk,i64 far.length]
 c16 : L 16 = true → S.τ 77 = i64 far.length
 e13 : L 13 = true → L 14 = false → S.H (.n 74) = some (.ds 3 1 [[di (e0 : Int)]])
 q6a : L 14 = false → S.τ 6 = .ref (.n 13) 0 que.length
 q6b : L 18 = true → S.τ 6 = .ref (.n 13) 0 (que.length + 1)
 h13a : L 14 = false → S.H (.n 13) = some (.ds 3 1 (que.map xE))
 h13b : L 14 = true → S.H (.n 13) = some (.ds 3 1 ((que ++ [e0]).map xE))
 h14a : L 15 = false → S.H (.n 14) = some (.mp false (uE far))
 h14b : L 15 = true → L 17 = false → S.H (.n 14) = some (.mp false (uE far ++ [((e0 : Int),[])]))
 h14c : L 17 = true → S.H (.n 14) = some (.mp false (uE (far ++ [(e0,v1)])))
 o1 : L 14 = true → L 9 = true
 o2 : L 14 = true → L 13 = true
 o3 : L 17 = true → L 15 = true
 o4 : L 15 = true → L 14 = true
 o5 : L 18 = true → L 14 = true
 o6 : L 18 = true → L 17 = true
theorem opB_0 {edges : List (Nat × Nat)} {goal e0 e1 i j : Nat} {que out : List Nat} {far : List (Nat × Nat)} {v1 : Nat} (L : Nat → Bool) (S : St) (r : R12 edges goal e0 e1 i j que out far v1 L S) (hL : L 0 = false) : aDo EE Tryz.f137.ntmps ops12 (ops12[0]'(by decide)) S (R12 edges goal e0 e1 i j que out far v1 (fun j => L j || j == 0)) := by
 have hat : At [(7,.mref (.n 14))] [] [] S := ⟨⟨r.u7,trivial⟩,trivial,trivial⟩
 obtain ⟨τ,H,rfl⟩ := hat.form
 conv => whnf
 exact {
  u0 := r.u0
  u1 := r.u1
  u4 := r.u4
  u5 := r.u5
  u7 := r.u7
  u8 := r.u8
  u10 := r.u10
  u23 := r.u23
  u24 := r.u24
  u25 := r.u25
  h4 := r.h4
  h5 := r.h5
  c0 := fun _ => rfl
  c1 := fun g0 => r.c1 (by simpa using g0)
  c2 := fun g0 => r.c2 (by simpa using g0)
  c3 := fun g0 => r.c3 (by simpa using g0)
  c4 := fun g0 => r.c4 (by simpa using g0)
  c5 := fun g0 => r.c5 (by simpa using g0)
  c6 := fun g0 => r.c6 (by simpa using g0)
  c7 := fun g0 => r.c7 (by simpa using g0)
  c8 := fun g0 => r.c8 (by simpa using g0)
  c9 := fun g0 g1 => r.c9 (by simpa using g0) (by simpa using g1)
  c10 := fun g0 => r.c10 (by simpa using g0)
  c11 := fun g0 => r.c11 (by simpa using g0)
  c12 := fun g0 => r.c12 (by simpa using g0)
  c13 := fun g0 g1 => r.c13 (by simpa using g0) (by simpa using g1)
  c14 := fun g0 => r.c14 (by simpa using g0)
  c15 := fun g0 => r.c15 (by simpa using g0)
  c16 := fun g0 => r.c16 (by simpa using g0)
  e13 := fun g0 g1 => r.e13 (by simpa using g0) (by simpa using g1)
  q6a := fun g0 => r.q6a (by simpa using g0)
  q6b := fun g0 => r.q6b (by simpa using g0)
  h13a := fun g0 => r.h13a (by simpa using g0)
  h13b := fun g0 => r.h13b (by simpa using g0)
  h14a := fun g0 => r.h14a (by simpa using g0)
  h14b := fun g0 g1 => r.h14b (by simpa using g0) (by simpa using g1)
  h14c := fun g0 => r.h14c (by simpa using g0)
  o1 := fun g0 => by have := r.o1 (by simpa using g0); simp [this]
  o2 := fun g0 => by have := r.o2 (by simpa using g0); simp [this]
  o3 := fun g0 => by have := r.o3 (by simpa using g0); simp [this]
  o4 := fun g0 => by have := r.o4 (by simpa using g0); simp [this]
  o5 := fun g0 => by have := r.o5 (by simpa using g0); simp [this]
  o6 := fun g0 => by have := r.o6 (by simpa using g0); simp [this] }
theorem opB_1 {edges : List (Nat × Nat)} {goal e0 e1 i j : Nat} {que out : List Nat} {far : List (Nat × Nat)} {v1 : Nat} (L : Nat → Bool) (S : St) (r : R12 edges goal e0 e1 i j que out far v1 L S) (hL : L 1 = false) : aDo EE Tryz.f137.ntmps ops12 (ops12[1]'(by decide)) S (R12 edges goal e0 e1 i j que out far v1 (fun j => L j || j == 1)) := by
 have hat : At [(10,.d (.sl [[di (e0 : Int)],[di (e1 : Int)]]))] [] [] S := ⟨⟨r.u10,trivial⟩,trivial,trivial⟩
 obtain ⟨τ,H,rfl⟩ := hat.form
 conv => whnf
 exact {
  u0 := r.u0
  u1 := r.u1
  u4 := r.u4
  u5 := r.u5
  u7 := r.u7
  u8 := r.u8
  u10 := r.u10
  u23 := r.u23
  u24 := r.u24
  u25 := r.u25
  h4 := r.h4
  h5 := r.h5
  c0 := fun g0 => r.c0 (by simpa using g0)
  c1 := fun _ => rfl
  c2 := fun g0 => r.c2 (by simpa using g0)
  c3 := fun g0 => r.c3 (by simpa using g0)
  c4 := fun g0 => r.c4 (by simpa using g0)
  c5 := fun g0 => r.c5 (by simpa using g0)
  c6 := fun g0 => r.c6 (by simpa using g0)
  c7 := fun g0 => r.c7 (by simpa using g0)
  c8 := fun g0 => r.c8 (by simpa using g0)
  c9 := fun g0 g1 => r.c9 (by simpa using g0) (by simpa using g1)
  c10 := fun g0 => r.c10 (by simpa using g0)
  c11 := fun g0 => r.c11 (by simpa using g0)
  c12 := fun g0 => r.c12 (by simpa using g0)
  c13 := fun g0 g1 => r.c13 (by simpa using g0) (by simpa using g1)
  c14 := fun g0 => r.c14 (by simpa using g0)
  c15 := fun g0 => r.c15 (by simpa using g0)
  c16 := fun g0 => r.c16 (by simpa using g0)
  e13 := fun g0 g1 => r.e13 (by simpa using g0) (by simpa using g1)
  q6a := fun g0 => r.q6a (by simpa using g0)
  q6b := fun g0 => r.q6b (by simpa using g0)
  h13a := fun g0 => r.h13a (by simpa using g0)
  h13b := fun g0 => r.h13b (by simpa using g0)
  h14a := fun g0 => r.h14a (by simpa using g0)
  h14b := fun g0 g1 => r.h14b (by simpa using g0) (by simpa using g1)
  h14c := fun g0 => r.h14c (by simpa using g0)
  o1 := fun g0 => by have := r.o1 (by simpa using g0); simp [this]
  o2 := fun g0 => by have := r.o2 (by simpa using g0); simp [this]
  o3 := fun g0 => by have := r.o3 (by simpa using g0); simp [this]
  o4 := fun g0 => by have := r.o4 (by simpa using g0); simp [this]
  o5 := fun g0 => by have := r.o5 (by simpa using g0); simp [this]
  o6 := fun g0 => by have := r.o6 (by simpa using g0); simp [this] }
theorem opB_2 {edges : List (Nat × Nat)} {goal e0 e1 i j : Nat} {que out : List Nat} {far : List (Nat × Nat)} {v1 : Nat} (L : Nat → Bool) (S : St) (r : R12 edges goal e0 e1 i j que out far v1 L S) (hL : L 2 = false) (k1 : L 1 = true) : aDo EE Tryz.f137.ntmps ops12 (ops12[2]'(by decide)) S (R12 edges goal e0 e1 i j que out far v1 (fun j => L j || j == 2)) := by
 have hat : At [(62,.d (.sl [[di (e0 : Int)],[di (e1 : Int)]]))] [] [] S := ⟨⟨r.c1 k1,trivial⟩,trivial,trivial⟩
 obtain ⟨τ,H,rfl⟩ := hat.form
 conv => whnf
 refine ⟨[di (e0 : Int)],⟨by decide,rfl,rfl⟩,?_⟩
 conv => whnf
 exact {
  u0 := r.u0
  u1 := r.u1
  u4 := r.u4
  u5 := r.u5
  u7 := r.u7
  u8 := r.u8
  u10 := r.u10
  u23 := r.u23
  u24 := r.u24
  u25 := r.u25
  h4 := r.h4
  h5 := r.h5
  c0 := fun g0 => r.c0 (by simpa using g0)
  c1 := fun g0 => r.c1 (by simpa using g0)
  c2 := fun _ => rfl
  c3 := fun g0 => r.c3 (by simpa using g0)
  c4 := fun g0 => r.c4 (by simpa using g0)
  c5 := fun g0 => r.c5 (by simpa using g0)
  c6 := fun g0 => r.c6 (by simpa using g0)
  c7 := fun g0 => r.c7 (by simpa using g0)
  c8 := fun g0 => r.c8 (by simpa using g0)
  c9 := fun g0 g1 => r.c9 (by simpa using g0) (by simpa using g1)
  c10 := fun g0 => r.c10 (by simpa using g0)
  c11 := fun g0 => r.c11 (by simpa using g0)
  c12 := fun g0 => r.c12 (by simpa using g0)
  c13 := fun g0 g1 => r.c13 (by simpa using g0) (by simpa using g1)
  c14 := fun g0 => r.c14 (by simpa using g0)
  c15 := fun g0 => r.c15 (by simpa using g0)
  c16 := fun g0 => r.c16 (by simpa using g0)
  e13 := fun g0 g1 => r.e13 (by simpa using g0) (by simpa using g1)
  q6a := fun g0 => r.q6a (by simpa using g0)
  q6b := fun g0 => r.q6b (by simpa using g0)
  h13a := fun g0 => r.h13a (by simpa using g0)
  h13b := fun g0 => r.h13b (by simpa using g0)
  h14a := fun g0 => r.h14a (by simpa using g0)
  h14b := fun g0 g1 => r.h14b (by simpa using g0) (by simpa using g1)
  h14c := fun g0 => r.h14c (by simpa using g0)
  o1 := fun g0 => by have := r.o1 (by simpa using g0); simp [this]
  o2 := fun g0 => by have := r.o2 (by simpa using g0); simp [this]
  o3 := fun g0 => by have := r.o3 (by simpa using g0); simp [this]
  o4 := fun g0 => by have := r.o4 (by simpa using g0); simp [this]
  o5 := fun g0 => by have := r.o5 (by simpa using g0); simp [this]
  o6 := fun g0 => by have := r.o6 (by simpa using g0); simp [this] }
theorem opB_3 {edges : List (Nat × Nat)} {goal e0 e1 i j : Nat} {que out : List Nat} {far : List (Nat × Nat)} {v1 : Nat} (L : Nat → Bool) (S : St) (r : R12 edges goal e0 e1 i j que out far v1 L S) (hL : L 3 = false) (k2 : L 2 = true) : aDo EE Tryz.f137.ntmps ops12 (ops12[3]'(by decide)) S (R12 edges goal e0 e1 i j que out far v1 (fun j => L j || j == 3)) := by
 have hat : At [(63,.fp [di (e0 : Int)])] [] [] S := ⟨⟨r.c2 k2,trivial⟩,trivial,trivial⟩
 obtain ⟨τ,H,rfl⟩ := hat.form
 conv => whnf
 exact {
  u0 := r.u0
  u1 := r.u1
  u4 := r.u4
  u5 := r.u5
  u7 := r.u7
  u8 := r.u8
  u10 := r.u10
  u23 := r.u23
  u24 := r.u24
  u25 := r.u25
  h4 := r.h4
  h5 := r.h5
  c0 := fun g0 => r.c0 (by simpa using g0)
  c1 := fun g0 => r.c1 (by simpa using g0)
  c2 := fun g0 => r.c2 (by simpa using g0)
  c3 := fun _ => rfl
  c4 := fun g0 => r.c4 (by simpa using g0)
  c5 := fun g0 => r.c5 (by simpa using g0)
  c6 := fun g0 => r.c6 (by simpa using g0)
  c7 := fun g0 => r.c7 (by simpa using g0)
  c8 := fun g0 => r.c8 (by simpa using g0)
  c9 := fun g0 g1 => r.c9 (by simpa using g0) (by simpa using g1)
  c10 := fun g0 => r.c10 (by simpa using g0)
  c11 := fun g0 => r.c11 (by simpa using g0)
  c12 := fun g0 => r.c12 (by simpa using g0)
  c13 := fun g0 g1 => r.c13 (by simpa using g0) (by simpa using g1)
  c14 := fun g0 => r.c14 (by simpa using g0)
  c15 := fun g0 => r.c15 (by simpa using g0)
  c16 := fun g0 => r.c16 (by simpa using g0)
  e13 := fun g0 g1 => r.e13 (by simpa using g0) (by simpa using g1)
  q6a := fun g0 => r.q6a (by simpa using g0)
  q6b := fun g0 => r.q6b (by simpa using g0)
  h13a := fun g0 => r.h13a (by simpa using g0)
  h13b := fun g0 => r.h13b (by simpa using g0)
  h14a := fun g0 => r.h14a (by simpa using g0)
  h14b := fun g0 g1 => r.h14b (by simpa using g0) (by simpa using g1)
  h14c := fun g0 => r.h14c (by simpa using g0)
  o1 := fun g0 => by have := r.o1 (by simpa using g0); simp [this]
  o2 := fun g0 => by have := r.o2 (by simpa using g0); simp [this]
  o3 := fun g0 => by have := r.o3 (by simpa using g0); simp [this]
  o4 := fun g0 => by have := r.o4 (by simpa using g0); simp [this]
  o5 := fun g0 => by have := r.o5 (by simpa using g0); simp [this]
  o6 := fun g0 => by have := r.o6 (by simpa using g0); simp [this] }
theorem opB_4 {edges : List (Nat × Nat)} {goal e0 e1 i j : Nat} {que out : List Nat} {far : List (Nat × Nat)} {v1 : Nat} (L : Nat → Bool) (S : St) (r : R12 edges goal e0 e1 i j que out far v1 L S) (hL : L 4 = false) : aDo EE Tryz.f137.ntmps ops12 (ops12[4]'(by decide)) S (R12 edges goal e0 e1 i j que out far v1 (fun j => L j || j == 4)) := by
 have hat : At [(10,.d (.sl [[di (e0 : Int)],[di (e1 : Int)]]))] [] [] S := ⟨⟨r.u10,trivial⟩,trivial,trivial⟩
 obtain ⟨τ,H,rfl⟩ := hat.form
 conv => whnf
 exact {
  u0 := r.u0
  u1 := r.u1
  u4 := r.u4
  u5 := r.u5
  u7 := r.u7
  u8 := r.u8
  u10 := r.u10
  u23 := r.u23
  u24 := r.u24
  u25 := r.u25
  h4 := r.h4
  h5 := r.h5
  c0 := fun g0 => r.c0 (by simpa using g0)
  c1 := fun g0 => r.c1 (by simpa using g0)
  c2 := fun g0 => r.c2 (by simpa using g0)
  c3 := fun g0 => r.c3 (by simpa using g0)
  c4 := fun _ => rfl
  c5 := fun g0 => r.c5 (by simpa using g0)
  c6 := fun g0 => r.c6 (by simpa using g0)
  c7 := fun g0 => r.c7 (by simpa using g0)
  c8 := fun g0 => r.c8 (by simpa using g0)
  c9 := fun g0 g1 => r.c9 (by simpa using g0) (by simpa using g1)
  c10 := fun g0 => r.c10 (by simpa using g0)
  c11 := fun g0 => r.c11 (by simpa using g0)
  c12 := fun g0 => r.c12 (by simpa using g0)
  c13 := fun g0 g1 => r.c13 (by simpa using g0) (by simpa using g1)
  c14 := fun g0 => r.c14 (by simpa using g0)
  c15 := fun g0 => r.c15 (by simpa using g0)
  c16 := fun g0 => r.c16 (by simpa using g0)
  e13 := fun g0 g1 => r.e13 (by simpa using g0) (by simpa using g1)
  q6a := fun g0 => r.q6a (by simpa using g0)
  q6b := fun g0 => r.q6b (by simpa using g0)
  h13a := fun g0 => r.h13a (by simpa using g0)
  h13b := fun g0 => r.h13b (by simpa using g0)
  h14a := fun g0 => r.h14a (by simpa using g0)
  h14b := fun g0 g1 => r.h14b (by simpa using g0) (by simpa using g1)
  h14c := fun g0 => r.h14c (by simpa using g0)
  o1 := fun g0 => by have := r.o1 (by simpa using g0); simp [this]
  o2 := fun g0 => by have := r.o2 (by simpa using g0); simp [this]
  o3 := fun g0 => by have := r.o3 (by simpa using g0); simp [this]
  o4 := fun g0 => by have := r.o4 (by simpa using g0); simp [this]
  o5 := fun g0 => by have := r.o5 (by simpa using g0); simp [this]
  o6 := fun g0 => by have := r.o6 (by simpa using g0); simp [this] }
theorem opB_5 {edges : List (Nat × Nat)} {goal e0 e1 i j : Nat} {que out : List Nat} {far : List (Nat × Nat)} {v1 : Nat} (L : Nat → Bool) (S : St) (r : R12 edges goal e0 e1 i j que out far v1 L S) (hL : L 5 = false) (k4 : L 4 = true) : aDo EE Tryz.f137.ntmps ops12 (ops12[5]'(by decide)) S (R12 edges goal e0 e1 i j que out far v1 (fun j => L j || j == 5)) := by
 have hat : At [(65,.d (.sl [[di (e0 : Int)],[di (e1 : Int)]]))] [] [] S := ⟨⟨r.c4 k4,trivial⟩,trivial,trivial⟩
 obtain ⟨τ,H,rfl⟩ := hat.form
 conv => whnf
 refine ⟨[di (e0 : Int)],⟨by decide,rfl,rfl⟩,?_⟩
 conv => whnf
 exact {
  u0 := r.u0
  u1 := r.u1
  u4 := r.u4
  u5 := r.u5
  u7 := r.u7
  u8 := r.u8
  u10 := r.u10
  u23 := r.u23
  u24 := r.u24
  u25 := r.u25
  h4 := r.h4
  h5 := r.h5
  c0 := fun g0 => r.c0 (by simpa using g0)
  c1 := fun g0 => r.c1 (by simpa using g0)
  c2 := fun g0 => r.c2 (by simpa using g0)
  c3 := fun g0 => r.c3 (by simpa using g0)
  c4 := fun g0 => r.c4 (by simpa using g0)
  c5 := fun _ => rfl
  c6 := fun g0 => r.c6 (by simpa using g0)
  c7 := fun g0 => r.c7 (by simpa using g0)
  c8 := fun g0 => r.c8 (by simpa using g0)
  c9 := fun g0 g1 => r.c9 (by simpa using g0) (by simpa using g1)
  c10 := fun g0 => r.c10 (by simpa using g0)
  c11 := fun g0 => r.c11 (by simpa using g0)
  c12 := fun g0 => r.c12 (by simpa using g0)
  c13 := fun g0 g1 => r.c13 (by simpa using g0) (by simpa using g1)
  c14 := fun g0 => r.c14 (by simpa using g0)
  c15 := fun g0 => r.c15 (by simpa using g0)
  c16 := fun g0 => r.c16 (by simpa using g0)
  e13 := fun g0 g1 => r.e13 (by simpa using g0) (by simpa using g1)
  q6a := fun g0 => r.q6a (by simpa using g0)
  q6b := fun g0 => r.q6b (by simpa using g0)
  h13a := fun g0 => r.h13a (by simpa using g0)
  h13b := fun g0 => r.h13b (by simpa using g0)
  h14a := fun g0 => r.h14a (by simpa using g0)
  h14b := fun g0 g1 => r.h14b (by simpa using g0) (by simpa using g1)
  h14c := fun g0 => r.h14c (by simpa using g0)
  o1 := fun g0 => by have := r.o1 (by simpa using g0); simp [this]
  o2 := fun g0 => by have := r.o2 (by simpa using g0); simp [this]
  o3 := fun g0 => by have := r.o3 (by simpa using g0); simp [this]
  o4 := fun g0 => by have := r.o4 (by simpa using g0); simp [this]
  o5 := fun g0 => by have := r.o5 (by simpa using g0); simp [this]
  o6 := fun g0 => by have := r.o6 (by simpa using g0); simp [this] }
theorem opB_6 {edges : List (Nat × Nat)} {goal e0 e1 i j : Nat} {que out : List Nat} {far : List (Nat × Nat)} {v1 : Nat} (L : Nat → Bool) (S : St) (r : R12 edges goal e0 e1 i j que out far v1 L S) (hL : L 6 = false) (k5 : L 5 = true) : aDo EE Tryz.f137.ntmps ops12 (ops12[6]'(by decide)) S (R12 edges goal e0 e1 i j que out far v1 (fun j => L j || j == 6)) := by
 have hat : At [(66,.fp [di (e0 : Int)])] [] [] S := ⟨⟨r.c5 k5,trivial⟩,trivial,trivial⟩
 obtain ⟨τ,H,rfl⟩ := hat.form
 conv => whnf
 exact {
  u0 := r.u0
  u1 := r.u1
  u4 := r.u4
  u5 := r.u5
  u7 := r.u7
  u8 := r.u8
  u10 := r.u10
  u23 := r.u23
  u24 := r.u24
  u25 := r.u25
  h4 := r.h4
  h5 := r.h5
  c0 := fun g0 => r.c0 (by simpa using g0)
  c1 := fun g0 => r.c1 (by simpa using g0)
  c2 := fun g0 => r.c2 (by simpa using g0)
  c3 := fun g0 => r.c3 (by simpa using g0)
  c4 := fun g0 => r.c4 (by simpa using g0)
  c5 := fun g0 => r.c5 (by simpa using g0)
  c6 := fun _ => rfl
  c7 := fun g0 => r.c7 (by simpa using g0)
  c8 := fun g0 => r.c8 (by simpa using g0)
  c9 := fun g0 g1 => r.c9 (by simpa using g0) (by simpa using g1)
  c10 := fun g0 => r.c10 (by simpa using g0)
  c11 := fun g0 => r.c11 (by simpa using g0)
  c12 := fun g0 => r.c12 (by simpa using g0)
  c13 := fun g0 g1 => r.c13 (by simpa using g0) (by simpa using g1)
  c14 := fun g0 => r.c14 (by simpa using g0)
  c15 := fun g0 => r.c15 (by simpa using g0)
  c16 := fun g0 => r.c16 (by simpa using g0)
  e13 := fun g0 g1 => r.e13 (by simpa using g0) (by simpa using g1)
  q6a := fun g0 => r.q6a (by simpa using g0)
  q6b := fun g0 => r.q6b (by simpa using g0)
  h13a := fun g0 => r.h13a (by simpa using g0)
  h13b := fun g0 => r.h13b (by simpa using g0)
  h14a := fun g0 => r.h14a (by simpa using g0)
  h14b := fun g0 g1 => r.h14b (by simpa using g0) (by simpa using g1)
  h14c := fun g0 => r.h14c (by simpa using g0)
  o1 := fun g0 => by have := r.o1 (by simpa using g0); simp [this]
  o2 := fun g0 => by have := r.o2 (by simpa using g0); simp [this]
  o3 := fun g0 => by have := r.o3 (by simpa using g0); simp [this]
  o4 := fun g0 => by have := r.o4 (by simpa using g0); simp [this]
  o5 := fun g0 => by have := r.o5 (by simpa using g0); simp [this]
  o6 := fun g0 => by have := r.o6 (by simpa using g0); simp [this] }
theorem opB_7 {edges : List (Nat × Nat)} {goal e0 e1 i j : Nat} {que out : List Nat} {far : List (Nat × Nat)} {v1 : Nat} (he0 : e0 < 100) (L : Nat → Bool) (S : St) (r : R12 edges goal e0 e1 i j que out far v1 L S) (hL : L 7 = false) (k6 : L 6 = true) : aDo EE Tryz.f137.ntmps ops12 (ops12[7]'(by decide)) S (R12 edges goal e0 e1 i j que out far v1 (fun j => L j || j == 7)) := by
 have hat : At [(5,.ptr (.n 5) 0),(67,i64 e0)] [] [] S := ⟨⟨r.u5,r.c6 k6,trivial⟩,trivial,trivial⟩
 obtain ⟨τ,H,rfl⟩ := hat.form
 conv => whnf
 refine ⟨⟨by omega,by show (e0 : Int) < 100; omega⟩,?_⟩
 conv => whnf
 exact {
  u0 := r.u0
  u1 := r.u1
  u4 := r.u4
  u5 := r.u5
  u7 := r.u7
  u8 := r.u8
  u10 := r.u10
  u23 := r.u23
  u24 := r.u24
  u25 := r.u25
  h4 := r.h4
  h5 := r.h5
  c0 := fun g0 => r.c0 (by simpa using g0)
  c1 := fun g0 => r.c1 (by simpa using g0)
  c2 := fun g0 => r.c2 (by simpa using g0)
  c3 := fun g0 => r.c3 (by simpa using g0)
  c4 := fun g0 => r.c4 (by simpa using g0)
  c5 := fun g0 => r.c5 (by simpa using g0)
  c6 := fun g0 => r.c6 (by simpa using g0)
  c7 := fun _ => rfl
  c8 := fun g0 => r.c8 (by simpa using g0)
  c9 := fun g0 g1 => r.c9 (by simpa using g0) (by simpa using g1)
  c10 := fun g0 => r.c10 (by simpa using g0)
  c11 := fun g0 => r.c11 (by simpa using g0)
  c12 := fun g0 => r.c12 (by simpa using g0)
  c13 := fun g0 g1 => r.c13 (by simpa using g0) (by simpa using g1)
  c14 := fun g0 => r.c14 (by simpa using g0)
  c15 := fun g0 => r.c15 (by simpa using g0)
  c16 := fun g0 => r.c16 (by simpa using g0)
  e13 := fun g0 g1 => r.e13 (by simpa using g0) (by simpa using g1)
  q6a := fun g0 => r.q6a (by simpa using g0)
  q6b := fun g0 => r.q6b (by simpa using g0)
  h13a := fun g0 => r.h13a (by simpa using g0)
  h13b := fun g0 => r.h13b (by simpa using g0)
  h14a := fun g0 => r.h14a (by simpa using g0)
  h14b := fun g0 g1 => r.h14b (by simpa using g0) (by simpa using g1)
  h14c := fun g0 => r.h14c (by simpa using g0)
  o1 := fun g0 => by have := r.o1 (by simpa using g0); simp [this]
  o2 := fun g0 => by have := r.o2 (by simpa using g0); simp [this]
  o3 := fun g0 => by have := r.o3 (by simpa using g0); simp [this]
  o4 := fun g0 => by have := r.o4 (by simpa using g0); simp [this]
  o5 := fun g0 => by have := r.o5 (by simpa using g0); simp [this]
  o6 := fun g0 => by have := r.o6 (by simpa using g0); simp [this] }
theorem opB_8 {edges : List (Nat × Nat)} {goal e0 e1 i j : Nat} {que out : List Nat} {far : List (Nat × Nat)} {v1 : Nat} (he0 : e0 < out.length) (hv1 : out.getD e0 0 = v1) (L : Nat → Bool) (S : St) (r : R12 edges goal e0 e1 i j que out far v1 L S) (hL : L 8 = false) (k7 : L 7 = true) : aDo EE Tryz.f137.ntmps ops12 (ops12[8]'(by decide)) S (R12 edges goal e0 e1 i j que out far v1 (fun j => L j || j == 8)) := by
 have hat : At [(68,.ptr (.n 5) (0 + e0 * 1))] [(.n 5,.vs 168 ((arr out).map .d))] [] S := ⟨⟨r.c7 k7,trivial⟩,⟨r.h5,trivial⟩,trivial⟩
 obtain ⟨τ,H,rfl⟩ := hat.form
 conv => whnf
 split
 rotate_left 1
 ·rename_i hld
  exact absurd (hld.symm.trans (dG (out := out) (k := e0) rfl rfl he0)) (by simp)
 rename_i cs hld
 obtain rfl := Option.some.inj (hld.symm.trans (dG (out := out) (k := e0) rfl rfl he0))
 clear hld
 conv => whnf
 exact {
  u0 := r.u0
  u1 := r.u1
  u4 := r.u4
  u5 := r.u5
  u7 := r.u7
  u8 := r.u8
  u10 := r.u10
  u23 := r.u23
  u24 := r.u24
  u25 := r.u25
  h4 := r.h4
  h5 := r.h5
  c0 := fun g0 => r.c0 (by simpa using g0)
  c1 := fun g0 => r.c1 (by simpa using g0)
  c2 := fun g0 => r.c2 (by simpa using g0)
  c3 := fun g0 => r.c3 (by simpa using g0)
  c4 := fun g0 => r.c4 (by simpa using g0)
  c5 := fun g0 => r.c5 (by simpa using g0)
  c6 := fun g0 => r.c6 (by simpa using g0)
  c7 := fun g0 => r.c7 (by simpa using g0)
  c8 := fun _ => by show i64 (out.getD e0 0 : Nat) = _; rw [hv1]
  c9 := fun g0 g1 => r.c9 (by simpa using g0) (by simpa using g1)
  c10 := fun g0 => r.c10 (by simpa using g0)
  c11 := fun g0 => r.c11 (by simpa using g0)
  c12 := fun g0 => r.c12 (by simpa using g0)
  c13 := fun g0 g1 => r.c13 (by simpa using g0) (by simpa using g1)
  c14 := fun g0 => r.c14 (by simpa using g0)
  c15 := fun g0 => r.c15 (by simpa using g0)
  c16 := fun g0 => r.c16 (by simpa using g0)
  e13 := fun g0 g1 => r.e13 (by simpa using g0) (by simpa using g1)
  q6a := fun g0 => r.q6a (by simpa using g0)
  q6b := fun g0 => r.q6b (by simpa using g0)
  h13a := fun g0 => r.h13a (by simpa using g0)
  h13b := fun g0 => r.h13b (by simpa using g0)
  h14a := fun g0 => r.h14a (by simpa using g0)
  h14b := fun g0 g1 => r.h14b (by simpa using g0) (by simpa using g1)
  h14c := fun g0 => r.h14c (by simpa using g0)
  o1 := fun g0 => by have := r.o1 (by simpa using g0); simp [this]
  o2 := fun g0 => by have := r.o2 (by simpa using g0); simp [this]
  o3 := fun g0 => by have := r.o3 (by simpa using g0); simp [this]
  o4 := fun g0 => by have := r.o4 (by simpa using g0); simp [this]
  o5 := fun g0 => by have := r.o5 (by simpa using g0); simp [this]
  o6 := fun g0 => by have := r.o6 (by simpa using g0); simp [this] }
theorem opB_9 {edges : List (Nat × Nat)} {goal e0 e1 i j : Nat} {que out : List Nat} {far : List (Nat × Nat)} {v1 : Nat} (L : Nat → Bool) (S : St) (r : R12 edges goal e0 e1 i j que out far v1 L S) (hL : L 9 = false) : aDo EE Tryz.f137.ntmps ops12 (ops12[9]'(by decide)) S (R12 edges goal e0 e1 i j que out far v1 (fun j => L j || j == 9)) := by
 have n14 : L 14 = false := by
  cases h : L 14 with
  |false => rfl
  |true => exact absurd (r.o1 h) (by rw [hL]; decide)
 have hat : At [(6,.ref (.n 13) 0 que.length)] [] [] S := ⟨⟨r.q6a n14,trivial⟩,trivial,trivial⟩
 obtain ⟨τ,H,rfl⟩ := hat.form
 conv => whnf
 exact {
  u0 := r.u0
  u1 := r.u1
  u4 := r.u4
  u5 := r.u5
  u7 := r.u7
  u8 := r.u8
  u10 := r.u10
  u23 := r.u23
  u24 := r.u24
  u25 := r.u25
  h4 := r.h4
  h5 := r.h5
  c0 := fun g0 => r.c0 (by simpa using g0)
  c1 := fun g0 => r.c1 (by simpa using g0)
  c2 := fun g0 => r.c2 (by simpa using g0)
  c3 := fun g0 => r.c3 (by simpa using g0)
  c4 := fun g0 => r.c4 (by simpa using g0)
  c5 := fun g0 => r.c5 (by simpa using g0)
  c6 := fun g0 => r.c6 (by simpa using g0)
  c7 := fun g0 => r.c7 (by simpa using g0)
  c8 := fun g0 => r.c8 (by simpa using g0)
  c9 := fun _ _ => rfl
  c10 := fun g0 => r.c10 (by simpa using g0)
  c11 := fun g0 => r.c11 (by simpa using g0)
  c12 := fun g0 => r.c12 (by simpa using g0)
  c13 := fun g0 g1 => r.c13 (by simpa using g0) (by simpa using g1)
  c14 := fun g0 => r.c14 (by simpa using g0)
  c15 := fun g0 => r.c15 (by simpa using g0)
  c16 := fun g0 => r.c16 (by simpa using g0)
  e13 := fun g0 g1 => r.e13 (by simpa using g0) (by simpa using g1)
  q6a := fun g0 => r.q6a (by simpa using g0)
  q6b := fun g0 => r.q6b (by simpa using g0)
  h13a := fun g0 => r.h13a (by simpa using g0)
  h13b := fun g0 => r.h13b (by simpa using g0)
  h14a := fun g0 => r.h14a (by simpa using g0)
  h14b := fun g0 g1 => r.h14b (by simpa using g0) (by simpa using g1)
  h14c := fun g0 => r.h14c (by simpa using g0)
  o1 := fun g0 => by have := r.o1 (by simpa using g0); simp [this]
  o2 := fun g0 => by have := r.o2 (by simpa using g0); simp [this]
  o3 := fun g0 => by have := r.o3 (by simpa using g0); simp [this]
  o4 := fun g0 => by have := r.o4 (by simpa using g0); simp [this]
  o5 := fun g0 => by have := r.o5 (by simpa using g0); simp [this]
  o6 := fun g0 => by have := r.o6 (by simpa using g0); simp [this] }
theorem opB_10 {edges : List (Nat × Nat)} {goal e0 e1 i j : Nat} {que out : List Nat} {far : List (Nat × Nat)} {v1 : Nat} (L : Nat → Bool) (S : St) (r : R12 edges goal e0 e1 i j que out far v1 L S) (hL : L 10 = false) : aDo EE Tryz.f137.ntmps ops12 (ops12[10]'(by decide)) S (R12 edges goal e0 e1 i j que out far v1 (fun j => L j || j == 10)) := by
 have hat : At [(10,.d (.sl [[di (e0 : Int)],[di (e1 : Int)]]))] [] [] S := ⟨⟨r.u10,trivial⟩,trivial,trivial⟩
 obtain ⟨τ,H,rfl⟩ := hat.form
 conv => whnf
 exact {
  u0 := r.u0
  u1 := r.u1
  u4 := r.u4
  u5 := r.u5
  u7 := r.u7
  u8 := r.u8
  u10 := r.u10
  u23 := r.u23
  u24 := r.u24
  u25 := r.u25
  h4 := r.h4
  h5 := r.h5
  c0 := fun g0 => r.c0 (by simpa using g0)
  c1 := fun g0 => r.c1 (by simpa using g0)
  c2 := fun g0 => r.c2 (by simpa using g0)
  c3 := fun g0 => r.c3 (by simpa using g0)
  c4 := fun g0 => r.c4 (by simpa using g0)
  c5 := fun g0 => r.c5 (by simpa using g0)
  c6 := fun g0 => r.c6 (by simpa using g0)
  c7 := fun g0 => r.c7 (by simpa using g0)
  c8 := fun g0 => r.c8 (by simpa using g0)
  c9 := fun g0 g1 => r.c9 (by simpa using g0) (by simpa using g1)
  c10 := fun _ => rfl
  c11 := fun g0 => r.c11 (by simpa using g0)
  c12 := fun g0 => r.c12 (by simpa using g0)
  c13 := fun g0 g1 => r.c13 (by simpa using g0) (by simpa using g1)
  c14 := fun g0 => r.c14 (by simpa using g0)
  c15 := fun g0 => r.c15 (by simpa using g0)
  c16 := fun g0 => r.c16 (by simpa using g0)
  e13 := fun g0 g1 => r.e13 (by simpa using g0) (by simpa using g1)
  q6a := fun g0 => r.q6a (by simpa using g0)
  q6b := fun g0 => r.q6b (by simpa using g0)
  h13a := fun g0 => r.h13a (by simpa using g0)
  h13b := fun g0 => r.h13b (by simpa using g0)
  h14a := fun g0 => r.h14a (by simpa using g0)
  h14b := fun g0 g1 => r.h14b (by simpa using g0) (by simpa using g1)
  h14c := fun g0 => r.h14c (by simpa using g0)
  o1 := fun g0 => by have := r.o1 (by simpa using g0); simp [this]
  o2 := fun g0 => by have := r.o2 (by simpa using g0); simp [this]
  o3 := fun g0 => by have := r.o3 (by simpa using g0); simp [this]
  o4 := fun g0 => by have := r.o4 (by simpa using g0); simp [this]
  o5 := fun g0 => by have := r.o5 (by simpa using g0); simp [this]
  o6 := fun g0 => by have := r.o6 (by simpa using g0); simp [this] }
theorem opB_11 {edges : List (Nat × Nat)} {goal e0 e1 i j : Nat} {que out : List Nat} {far : List (Nat × Nat)} {v1 : Nat} (L : Nat → Bool) (S : St) (r : R12 edges goal e0 e1 i j que out far v1 L S) (hL : L 11 = false) (k10 : L 10 = true) : aDo EE Tryz.f137.ntmps ops12 (ops12[11]'(by decide)) S (R12 edges goal e0 e1 i j que out far v1 (fun j => L j || j == 11)) := by
 have hat : At [(71,.d (.sl [[di (e0 : Int)],[di (e1 : Int)]]))] [] [] S := ⟨⟨r.c10 k10,trivial⟩,trivial,trivial⟩
 obtain ⟨τ,H,rfl⟩ := hat.form
 conv => whnf
 refine ⟨[di (e0 : Int)],⟨by decide,rfl,rfl⟩,?_⟩
 conv => whnf
 exact {
  u0 := r.u0
  u1 := r.u1
  u4 := r.u4
  u5 := r.u5
  u7 := r.u7
  u8 := r.u8
  u10 := r.u10
  u23 := r.u23
  u24 := r.u24
  u25 := r.u25
  h4 := r.h4
  h5 := r.h5
  c0 := fun g0 => r.c0 (by simpa using g0)
  c1 := fun g0 => r.c1 (by simpa using g0)
  c2 := fun g0 => r.c2 (by simpa using g0)
  c3 := fun g0 => r.c3 (by simpa using g0)
  c4 := fun g0 => r.c4 (by simpa using g0)
  c5 := fun g0 => r.c5 (by simpa using g0)
  c6 := fun g0 => r.c6 (by simpa using g0)
  c7 := fun g0 => r.c7 (by simpa using g0)
  c8 := fun g0 => r.c8 (by simpa using g0)
  c9 := fun g0 g1 => r.c9 (by simpa using g0) (by simpa using g1)
  c10 := fun g0 => r.c10 (by simpa using g0)
  c11 := fun _ => rfl
  c12 := fun g0 => r.c12 (by simpa using g0)
  c13 := fun g0 g1 => r.c13 (by simpa using g0) (by simpa using g1)
  c14 := fun g0 => r.c14 (by simpa using g0)
  c15 := fun g0 => r.c15 (by simpa using g0)
  c16 := fun g0 => r.c16 (by simpa using g0)
  e13 := fun g0 g1 => r.e13 (by simpa using g0) (by simpa using g1)
  q6a := fun g0 => r.q6a (by simpa using g0)
  q6b := fun g0 => r.q6b (by simpa using g0)
  h13a := fun g0 => r.h13a (by simpa using g0)
  h13b := fun g0 => r.h13b (by simpa using g0)
  h14a := fun g0 => r.h14a (by simpa using g0)
  h14b := fun g0 g1 => r.h14b (by simpa using g0) (by simpa using g1)
  h14c := fun g0 => r.h14c (by simpa using g0)
  o1 := fun g0 => by have := r.o1 (by simpa using g0); simp [this]
  o2 := fun g0 => by have := r.o2 (by simpa using g0); simp [this]
  o3 := fun g0 => by have := r.o3 (by simpa using g0); simp [this]
  o4 := fun g0 => by have := r.o4 (by simpa using g0); simp [this]
  o5 := fun g0 => by have := r.o5 (by simpa using g0); simp [this]
  o6 := fun g0 => by have := r.o6 (by simpa using g0); simp [this] }
theorem opB_12 {edges : List (Nat × Nat)} {goal e0 e1 i j : Nat} {que out : List Nat} {far : List (Nat × Nat)} {v1 : Nat} (L : Nat → Bool) (S : St) (r : R12 edges goal e0 e1 i j que out far v1 L S) (hL : L 12 = false) (k11 : L 11 = true) : aDo EE Tryz.f137.ntmps ops12 (ops12[12]'(by decide)) S (R12 edges goal e0 e1 i j que out far v1 (fun j => L j || j == 12)) := by
 have hat : At [(72,.fp [di (e0 : Int)])] [] [] S := ⟨⟨r.c11 k11,trivial⟩,trivial,trivial⟩
 obtain ⟨τ,H,rfl⟩ := hat.form
 conv => whnf
 exact {
  u0 := r.u0
  u1 := r.u1
  u4 := r.u4
  u5 := r.u5
  u7 := r.u7
  u8 := r.u8
  u10 := r.u10
  u23 := r.u23
  u24 := r.u24
  u25 := r.u25
  h4 := r.h4
  h5 := r.h5
  c0 := fun g0 => r.c0 (by simpa using g0)
  c1 := fun g0 => r.c1 (by simpa using g0)
  c2 := fun g0 => r.c2 (by simpa using g0)
  c3 := fun g0 => r.c3 (by simpa using g0)
  c4 := fun g0 => r.c4 (by simpa using g0)
  c5 := fun g0 => r.c5 (by simpa using g0)
  c6 := fun g0 => r.c6 (by simpa using g0)
  c7 := fun g0 => r.c7 (by simpa using g0)
  c8 := fun g0 => r.c8 (by simpa using g0)
  c9 := fun g0 g1 => r.c9 (by simpa using g0) (by simpa using g1)
  c10 := fun g0 => r.c10 (by simpa using g0)
  c11 := fun g0 => r.c11 (by simpa using g0)
  c12 := fun _ => rfl
  c13 := fun g0 g1 => r.c13 (by simpa using g0) (by simpa using g1)
  c14 := fun g0 => r.c14 (by simpa using g0)
  c15 := fun g0 => r.c15 (by simpa using g0)
  c16 := fun g0 => r.c16 (by simpa using g0)
  e13 := fun g0 g1 => r.e13 (by simpa using g0) (by simpa using g1)
  q6a := fun g0 => r.q6a (by simpa using g0)
  q6b := fun g0 => r.q6b (by simpa using g0)
  h13a := fun g0 => r.h13a (by simpa using g0)
  h13b := fun g0 => r.h13b (by simpa using g0)
  h14a := fun g0 => r.h14a (by simpa using g0)
  h14b := fun g0 g1 => r.h14b (by simpa using g0) (by simpa using g1)
  h14c := fun g0 => r.h14c (by simpa using g0)
  o1 := fun g0 => by have := r.o1 (by simpa using g0); simp [this]
  o2 := fun g0 => by have := r.o2 (by simpa using g0); simp [this]
  o3 := fun g0 => by have := r.o3 (by simpa using g0); simp [this]
  o4 := fun g0 => by have := r.o4 (by simpa using g0); simp [this]
  o5 := fun g0 => by have := r.o5 (by simpa using g0); simp [this]
  o6 := fun g0 => by have := r.o6 (by simpa using g0); simp [this] }
theorem opB_13 {edges : List (Nat × Nat)} {goal e0 e1 i j : Nat} {que out : List Nat} {far : List (Nat × Nat)} {v1 : Nat} (L : Nat → Bool) (S : St) (r : R12 edges goal e0 e1 i j que out far v1 L S) (hL : L 13 = false) (k12 : L 12 = true) : aDo EE Tryz.f137.ntmps ops12 (ops12[13]'(by decide)) S (R12 edges goal e0 e1 i j que out far v1 (fun j => L j || j == 13)) := by
 have hat : At [(73,i64 e0)] [] [] S := ⟨⟨r.c12 k12,trivial⟩,trivial,trivial⟩
 obtain ⟨τ,H,rfl⟩ := hat.form
 conv => whnf
 exact {
  u0 := (congrArg (scrP (isK (.n 74))) (r.u0)).trans rfl
  u1 := (congrArg (scrP (isK (.n 74))) (r.u1)).trans rfl
  u4 := (congrArg (scrP (isK (.n 74))) (r.u4)).trans rfl
  u5 := (congrArg (scrP (isK (.n 74))) (r.u5)).trans rfl
  u7 := (congrArg (scrP (isK (.n 74))) (r.u7)).trans rfl
  u8 := (congrArg (scrP (isK (.n 74))) (r.u8)).trans rfl
  u10 := (congrArg (scrP (isK (.n 74))) (r.u10)).trans rfl
  u23 := (congrArg (scrP (isK (.n 74))) (r.u23)).trans rfl
  u24 := (congrArg (scrP (isK (.n 74))) (r.u24)).trans rfl
  u25 := (congrArg (scrP (isK (.n 74))) (r.u25)).trans rfl
  h4 := (congrArg (Option.map (scrPO (isK (.n 74)))) (r.h4)).trans (congrArg (fun x => some (Ob.vs 168 x)) (jB _ _))
  h5 := (congrArg (Option.map (scrPO (isK (.n 74)))) (r.h5)).trans (congrArg (fun x => some (Ob.vs 168 x)) (jB _ _))
  c0 := fun g0 => (congrArg (scrP (isK (.n 74))) (r.c0 (by simpa using g0))).trans rfl
  c1 := fun g0 => (congrArg (scrP (isK (.n 74))) (r.c1 (by simpa using g0))).trans rfl
  c2 := fun g0 => (congrArg (scrP (isK (.n 74))) (r.c2 (by simpa using g0))).trans rfl
  c3 := fun g0 => (congrArg (scrP (isK (.n 74))) (r.c3 (by simpa using g0))).trans rfl
  c4 := fun g0 => (congrArg (scrP (isK (.n 74))) (r.c4 (by simpa using g0))).trans rfl
  c5 := fun g0 => (congrArg (scrP (isK (.n 74))) (r.c5 (by simpa using g0))).trans rfl
  c6 := fun g0 => (congrArg (scrP (isK (.n 74))) (r.c6 (by simpa using g0))).trans rfl
  c7 := fun g0 => (congrArg (scrP (isK (.n 74))) (r.c7 (by simpa using g0))).trans rfl
  c8 := fun g0 => (congrArg (scrP (isK (.n 74))) (r.c8 (by simpa using g0))).trans rfl
  c9 := fun g0 g1 => (congrArg (scrP (isK (.n 74))) (r.c9 (by simpa using g0) (by simpa using g1))).trans rfl
  c10 := fun g0 => (congrArg (scrP (isK (.n 74))) (r.c10 (by simpa using g0))).trans rfl
  c11 := fun g0 => (congrArg (scrP (isK (.n 74))) (r.c11 (by simpa using g0))).trans rfl
  c12 := fun g0 => (congrArg (scrP (isK (.n 74))) (r.c12 (by simpa using g0))).trans rfl
  c13 := fun _ _ => rfl
  c14 := fun g0 => (congrArg (scrP (isK (.n 74))) (r.c14 (by simpa using g0))).trans rfl
  c15 := fun g0 => (congrArg (scrP (isK (.n 74))) (r.c15 (by simpa using g0))).trans rfl
  c16 := fun g0 => (congrArg (scrP (isK (.n 74))) (r.c16 (by simpa using g0))).trans rfl
  e13 := fun _ _ => rfl
  q6a := fun g0 => (congrArg (scrP (isK (.n 74))) (r.q6a (by simpa using g0))).trans rfl
  q6b := fun g0 => (congrArg (scrP (isK (.n 74))) (r.q6b (by simpa using g0))).trans rfl
  h13a := fun g0 => (congrArg (Option.map (scrPO (isK (.n 74)))) (r.h13a (by simpa using g0))).trans rfl
  h13b := fun g0 => (congrArg (Option.map (scrPO (isK (.n 74)))) (r.h13b (by simpa using g0))).trans rfl
  h14a := fun g0 => (congrArg (Option.map (scrPO (isK (.n 74)))) (r.h14a (by simpa using g0))).trans rfl
  h14b := fun g0 g1 => (congrArg (Option.map (scrPO (isK (.n 74)))) (r.h14b (by simpa using g0) (by simpa using g1))).trans rfl
  h14c := fun g0 => (congrArg (Option.map (scrPO (isK (.n 74)))) (r.h14c (by simpa using g0))).trans rfl
  o1 := fun g0 => by have := r.o1 (by simpa using g0); simp [this]
  o2 := fun g0 => by have := r.o2 (by simpa using g0); simp [this]
  o3 := fun g0 => by have := r.o3 (by simpa using g0); simp [this]
  o4 := fun g0 => by have := r.o4 (by simpa using g0); simp [this]
  o5 := fun g0 => by have := r.o5 (by simpa using g0); simp [this]
  o6 := fun g0 => by have := r.o6 (by simpa using g0); simp [this] }
theorem opB_14 {edges : List (Nat × Nat)} {goal e0 e1 i j : Nat} {que out : List Nat} {far : List (Nat × Nat)} {v1 : Nat} (hq : que.length ≤ 1000) (L : Nat → Bool) (S : St) (r : R12 edges goal e0 e1 i j que out far v1 L S) (hL : L 14 = false) (k9 : L 9 = true) (k13 : L 13 = true) : aDo EE Tryz.f137.ntmps ops12 (ops12[14]'(by decide)) S (R12 edges goal e0 e1 i j que out far v1 (fun j => L j || j == 14)) := by
 have hat : At [(70,.ref (.n 13) 0 que.length),(74,.ref (.n 74) 0 1)] [(.n 13,.ds 3 1 (que.map xE)),(.n 74,.ds 3 1 [[di (e0 : Int)]])] [] S := ⟨⟨r.c9 k9 hL,r.c13 k13 hL,trivial⟩,⟨r.h13a hL,r.e13 k13 hL,trivial⟩,trivial⟩
 obtain ⟨τ,H,rfl⟩ := hat.form
 conv => whnf
 refine ⟨⟨rfl,by show (que.length + 1) * 8 ≤ _; omega,by show que.length + 1 ≤ _; omega⟩,?_⟩
 conv => whnf
 exact {
  u0 := (congrArg (scrP (isK (.n 13))) (r.u0)).trans rfl
  u1 := (congrArg (scrP (isK (.n 13))) (r.u1)).trans rfl
  u4 := (congrArg (scrP (isK (.n 13))) (r.u4)).trans rfl
  u5 := (congrArg (scrP (isK (.n 13))) (r.u5)).trans rfl
  u7 := (congrArg (scrP (isK (.n 13))) (r.u7)).trans rfl
  u8 := (congrArg (scrP (isK (.n 13))) (r.u8)).trans rfl
  u10 := (congrArg (scrP (isK (.n 13))) (r.u10)).trans rfl
  u23 := (congrArg (scrP (isK (.n 13))) (r.u23)).trans rfl
  u24 := (congrArg (scrP (isK (.n 13))) (r.u24)).trans rfl
  u25 := (congrArg (scrP (isK (.n 13))) (r.u25)).trans rfl
  h4 := (congrArg (Option.map (scrPO (isK (.n 13)))) (r.h4)).trans (congrArg (fun x => some (Ob.vs 168 x)) (jB _ _))
  h5 := (congrArg (Option.map (scrPO (isK (.n 13)))) (r.h5)).trans (congrArg (fun x => some (Ob.vs 168 x)) (jB _ _))
  c0 := fun g0 => (congrArg (scrP (isK (.n 13))) (r.c0 (by simpa using g0))).trans rfl
  c1 := fun g0 => (congrArg (scrP (isK (.n 13))) (r.c1 (by simpa using g0))).trans rfl
  c2 := fun g0 => (congrArg (scrP (isK (.n 13))) (r.c2 (by simpa using g0))).trans rfl
  c3 := fun g0 => (congrArg (scrP (isK (.n 13))) (r.c3 (by simpa using g0))).trans rfl
  c4 := fun g0 => (congrArg (scrP (isK (.n 13))) (r.c4 (by simpa using g0))).trans rfl
  c5 := fun g0 => (congrArg (scrP (isK (.n 13))) (r.c5 (by simpa using g0))).trans rfl
  c6 := fun g0 => (congrArg (scrP (isK (.n 13))) (r.c6 (by simpa using g0))).trans rfl
  c7 := fun g0 => (congrArg (scrP (isK (.n 13))) (r.c7 (by simpa using g0))).trans rfl
  c8 := fun g0 => (congrArg (scrP (isK (.n 13))) (r.c8 (by simpa using g0))).trans rfl
  c9 := fun g0 g1 => absurd g1 (by simp)
  c10 := fun g0 => (congrArg (scrP (isK (.n 13))) (r.c10 (by simpa using g0))).trans rfl
  c11 := fun g0 => (congrArg (scrP (isK (.n 13))) (r.c11 (by simpa using g0))).trans rfl
  c12 := fun g0 => (congrArg (scrP (isK (.n 13))) (r.c12 (by simpa using g0))).trans rfl
  c13 := fun g0 g1 => absurd g1 (by simp)
  c14 := fun _ => rfl
  c15 := fun g0 => (congrArg (scrP (isK (.n 13))) (r.c15 (by simpa using g0))).trans rfl
  c16 := fun g0 => (congrArg (scrP (isK (.n 13))) (r.c16 (by simpa using g0))).trans rfl
  e13 := fun g0 g1 => absurd g1 (by simp)
  q6a := fun g0 => absurd g0 (by simp)
  q6b := fun g0 => absurd (r.o5 (by simpa using g0)) (by rw [hL]; decide)
  h13a := fun g0 => absurd g0 (by simp)
  h13b := fun _ => by
   show some (Ob.ds 3 1 ((que.map xE).take que.length ++ [xE e0])) = _
   rw [List.take_of_length_le (by simp)]
   simp
  h14a := fun g0 => (congrArg (Option.map (scrPO (isK (.n 13)))) (r.h14a (by simpa using g0))).trans rfl
  h14b := fun g0 g1 => (congrArg (Option.map (scrPO (isK (.n 13)))) (r.h14b (by simpa using g0) (by simpa using g1))).trans rfl
  h14c := fun g0 => (congrArg (Option.map (scrPO (isK (.n 13)))) (r.h14c (by simpa using g0))).trans rfl
  o1 := fun _ => by simp [k9]
  o2 := fun _ => by simp [k13]
  o3 := fun g0 => by have := r.o3 (by simpa using g0); simp [this]
  o4 := fun g0 => by have := r.o4 (by simpa using g0); simp [this]
  o5 := fun g0 => by have := r.o5 (by simpa using g0); simp [this]
  o6 := fun g0 => by have := r.o6 (by simpa using g0); simp [this] }
theorem opB_15 {edges : List (Nat × Nat)} {goal e0 e1 i j : Nat} {que out : List Nat} {far : List (Nat × Nat)} {v1 : Nat} (hab : (far.any fun p => p.1 == e0) = false) (L : Nat → Bool) (S : St) (r : R12 edges goal e0 e1 i j que out far v1 L S) (hL : L 15 = false) (k0 : L 0 = true) (k3 : L 3 = true) (k14 : L 14 = true) : aDo EE Tryz.f137.ntmps ops12 (ops12[15]'(by decide)) S (R12 edges goal e0 e1 i j que out far v1 (fun j => L j || j == 15)) := by
 have hat : At [(61,.mref (.n 14)),(64,i64 e0)] [(.n 14,.mp false (uE far))] [] S := ⟨⟨r.c0 k0,r.c3 k3,trivial⟩,⟨r.h14a hL,trivial⟩,trivial⟩
 obtain ⟨τ,H,rfl⟩ := hat.form
 conv => whnf
 exact {
  u0 := r.u0
  u1 := r.u1
  u4 := r.u4
  u5 := r.u5
  u7 := r.u7
  u8 := r.u8
  u10 := r.u10
  u23 := r.u23
  u24 := r.u24
  u25 := r.u25
  h4 := r.h4
  h5 := r.h5
  c0 := fun g0 => r.c0 (by simpa using g0)
  c1 := fun g0 => r.c1 (by simpa using g0)
  c2 := fun g0 => r.c2 (by simpa using g0)
  c3 := fun g0 => r.c3 (by simpa using g0)
  c4 := fun g0 => r.c4 (by simpa using g0)
  c5 := fun g0 => r.c5 (by simpa using g0)
  c6 := fun g0 => r.c6 (by simpa using g0)
  c7 := fun g0 => r.c7 (by simpa using g0)
  c8 := fun g0 => r.c8 (by simpa using g0)
  c9 := fun g0 g1 => r.c9 (by simpa using g0) (by simpa using g1)
  c10 := fun g0 => r.c10 (by simpa using g0)
  c11 := fun g0 => r.c11 (by simpa using g0)
  c12 := fun g0 => r.c12 (by simpa using g0)
  c13 := fun g0 g1 => r.c13 (by simpa using g0) (by simpa using g1)
  c14 := fun g0 => r.c14 (by simpa using g0)
  c15 := fun _ => by show AV.tup [.junk,.d (.int .i64 (vC (uE far) (e0 : Int) : Nat))] = _; rw [idxM_far hab]
  c16 := fun g0 => r.c16 (by simpa using g0)
  e13 := fun g0 g1 => r.e13 (by simpa using g0) (by simpa using g1)
  q6a := fun g0 => r.q6a (by simpa using g0)
  q6b := fun g0 => r.q6b (by simpa using g0)
  h13a := fun g0 => r.h13a (by simpa using g0)
  h13b := fun g0 => r.h13b (by simpa using g0)
  h14a := fun g0 => absurd g0 (by simp)
  h14b := fun _ _ => by show some (Ob.mp false (tY (uE far) (e0 : Int))) = _; rw [addM_far hab]
  h14c := fun g0 => absurd (r.o3 (by simpa using g0)) (by rw [hL]; decide)
  o1 := fun g0 => by have := r.o1 (by simpa using g0); simp [this]
  o2 := fun g0 => by have := r.o2 (by simpa using g0); simp [this]
  o3 := fun g0 => by have := r.o3 (by simpa using g0); simp [this]
  o4 := fun _ => by simp [k14]
  o5 := fun g0 => by have := r.o5 (by simpa using g0); simp [this]
  o6 := fun g0 => by have := r.o6 (by simpa using g0); simp [this] }
theorem opB_16 {edges : List (Nat × Nat)} {goal e0 e1 i j : Nat} {que out : List Nat} {far : List (Nat × Nat)} {v1 : Nat} (L : Nat → Bool) (S : St) (r : R12 edges goal e0 e1 i j que out far v1 L S) (hL : L 16 = false) (k15 : L 15 = true) : aDo EE Tryz.f137.ntmps ops12 (ops12[16]'(by decide)) S (R12 edges goal e0 e1 i j que out far v1 (fun j => L j || j == 16)) := by
 have hat : At [(76,.tup [.junk,i64 far.length])] [] [] S := ⟨⟨r.c15 k15,trivial⟩,trivial,trivial⟩
 obtain ⟨τ,H,rfl⟩ := hat.form
 conv => whnf
 exact {
  u0 := r.u0
  u1 := r.u1
  u4 := r.u4
  u5 := r.u5
  u7 := r.u7
  u8 := r.u8
  u10 := r.u10
  u23 := r.u23
  u24 := r.u24
  u25 := r.u25
  h4 := r.h4
  h5 := r.h5
  c0 := fun g0 => r.c0 (by simpa using g0)
  c1 := fun g0 => r.c1 (by simpa using g0)
  c2 := fun g0 => r.c2 (by simpa using g0)
  c3 := fun g0 => r.c3 (by simpa using g0)
  c4 := fun g0 => r.c4 (by simpa using g0)
  c5 := fun g0 => r.c5 (by simpa using g0)
  c6 := fun g0 => r.c6 (by simpa using g0)
  c7 := fun g0 => r.c7 (by simpa using g0)
  c8 := fun g0 => r.c8 (by simpa using g0)
  c9 := fun g0 g1 => r.c9 (by simpa using g0) (by simpa using g1)
  c10 := fun g0 => r.c10 (by simpa using g0)
  c11 := fun g0 => r.c11 (by simpa using g0)
  c12 := fun g0 => r.c12 (by simpa using g0)
  c13 := fun g0 g1 => r.c13 (by simpa using g0) (by simpa using g1)
  c14 := fun g0 => r.c14 (by simpa using g0)
  c15 := fun g0 => r.c15 (by simpa using g0)
  c16 := fun _ => rfl
  e13 := fun g0 g1 => r.e13 (by simpa using g0) (by simpa using g1)
  q6a := fun g0 => r.q6a (by simpa using g0)
  q6b := fun g0 => r.q6b (by simpa using g0)
  h13a := fun g0 => r.h13a (by simpa using g0)
  h13b := fun g0 => r.h13b (by simpa using g0)
  h14a := fun g0 => r.h14a (by simpa using g0)
  h14b := fun g0 g1 => r.h14b (by simpa using g0) (by simpa using g1)
  h14c := fun g0 => r.h14c (by simpa using g0)
  o1 := fun g0 => by have := r.o1 (by simpa using g0); simp [this]
  o2 := fun g0 => by have := r.o2 (by simpa using g0); simp [this]
  o3 := fun g0 => by have := r.o3 (by simpa using g0); simp [this]
  o4 := fun g0 => by have := r.o4 (by simpa using g0); simp [this]
  o5 := fun g0 => by have := r.o5 (by simpa using g0); simp [this]
  o6 := fun g0 => by have := r.o6 (by simpa using g0); simp [this] }
theorem opB_17 {edges : List (Nat × Nat)} {goal e0 e1 i j : Nat} {que out : List Nat} {far : List (Nat × Nat)} {v1 : Nat} (L : Nat → Bool) (S : St) (r : R12 edges goal e0 e1 i j que out far v1 L S) (hL : L 17 = false) (k0 : L 0 = true) (k8 : L 8 = true) (k15 : L 15 = true) (k16 : L 16 = true) : aDo EE Tryz.f137.ntmps ops12 (ops12[17]'(by decide)) S (R12 edges goal e0 e1 i j que out far v1 (fun j => L j || j == 17)) := by
 have hat : At [(61,.mref (.n 14)),(69,i64 v1),(77,i64 far.length)] [(.n 14,.mp false (uE far ++ [((e0 : Int),[])]))] [] S := ⟨⟨r.c0 k0,r.c8 k8,r.c16 k16,trivial⟩,⟨r.h14b k15 hL,trivial⟩,trivial⟩
 obtain ⟨τ,H,rfl⟩ := hat.form
 conv => whnf
 refine ⟨⟨by omega,by simp [uE]; omega⟩,?_⟩
 conv => whnf
 exact {
  u0 := r.u0
  u1 := r.u1
  u4 := r.u4
  u5 := r.u5
  u7 := r.u7
  u8 := r.u8
  u10 := r.u10
  u23 := r.u23
  u24 := r.u24
  u25 := r.u25
  h4 := r.h4
  h5 := r.h5
  c0 := fun g0 => r.c0 (by simpa using g0)
  c1 := fun g0 => r.c1 (by simpa using g0)
  c2 := fun g0 => r.c2 (by simpa using g0)
  c3 := fun g0 => r.c3 (by simpa using g0)
  c4 := fun g0 => r.c4 (by simpa using g0)
  c5 := fun g0 => r.c5 (by simpa using g0)
  c6 := fun g0 => r.c6 (by simpa using g0)
  c7 := fun g0 => r.c7 (by simpa using g0)
  c8 := fun g0 => r.c8 (by simpa using g0)
  c9 := fun g0 g1 => r.c9 (by simpa using g0) (by simpa using g1)
  c10 := fun g0 => r.c10 (by simpa using g0)
  c11 := fun g0 => r.c11 (by simpa using g0)
  c12 := fun g0 => r.c12 (by simpa using g0)
  c13 := fun g0 g1 => r.c13 (by simpa using g0) (by simpa using g1)
  c14 := fun g0 => r.c14 (by simpa using g0)
  c15 := fun g0 => r.c15 (by simpa using g0)
  c16 := fun g0 => r.c16 (by simpa using g0)
  e13 := fun g0 g1 => r.e13 (by simpa using g0) (by simpa using g1)
  q6a := fun g0 => r.q6a (by simpa using g0)
  q6b := fun g0 => r.q6b (by simpa using g0)
  h13a := fun g0 => r.h13a (by simpa using g0)
  h13b := fun g0 => r.h13b (by simpa using g0)
  h14a := fun g0 => absurd g0 (by simp [k15])
  h14b := fun g0 g1 => absurd g1 (by simp)
  h14c := fun _ => by show some (Ob.mp false (kP (uE far ++ [((e0 : Int),[])]) far.length [di (v1 : Int)])) = _; rw [putM_far]
  o1 := fun g0 => by have := r.o1 (by simpa using g0); simp [this]
  o2 := fun g0 => by have := r.o2 (by simpa using g0); simp [this]
  o3 := fun _ => by simp [k15]
  o4 := fun g0 => by have := r.o4 (by simpa using g0); simp [this]
  o5 := fun g0 => by have := r.o5 (by simpa using g0); simp [this]
  o6 := fun g0 => by have := r.o6 (by simpa using g0); simp [this] }
theorem opB_18 {edges : List (Nat × Nat)} {goal e0 e1 i j : Nat} {que out : List Nat} {far : List (Nat × Nat)} {v1 : Nat} (L : Nat → Bool) (S : St) (r : R12 edges goal e0 e1 i j que out far v1 L S) (hL : L 18 = false) (k14 : L 14 = true) (k17 : L 17 = true) : aDo EE Tryz.f137.ntmps ops12 (ops12[18]'(by decide)) S (R12 edges goal e0 e1 i j que out far v1 (fun j => L j || j == 18)) := by
 have hat : At [(75,.ref (.n 13) 0 (que.length + 1))] [] [] S := ⟨⟨r.c14 k14,trivial⟩,trivial,trivial⟩
 obtain ⟨τ,H,rfl⟩ := hat.form
 conv => whnf
 exact {
  u0 := r.u0
  u1 := r.u1
  u4 := r.u4
  u5 := r.u5
  u7 := r.u7
  u8 := r.u8
  u10 := r.u10
  u23 := r.u23
  u24 := r.u24
  u25 := r.u25
  h4 := r.h4
  h5 := r.h5
  c0 := fun g0 => r.c0 (by simpa using g0)
  c1 := fun g0 => r.c1 (by simpa using g0)
  c2 := fun g0 => r.c2 (by simpa using g0)
  c3 := fun g0 => r.c3 (by simpa using g0)
  c4 := fun g0 => r.c4 (by simpa using g0)
  c5 := fun g0 => r.c5 (by simpa using g0)
  c6 := fun g0 => r.c6 (by simpa using g0)
  c7 := fun g0 => r.c7 (by simpa using g0)
  c8 := fun g0 => r.c8 (by simpa using g0)
  c9 := fun g0 g1 => r.c9 (by simpa using g0) (by simpa using g1)
  c10 := fun g0 => r.c10 (by simpa using g0)
  c11 := fun g0 => r.c11 (by simpa using g0)
  c12 := fun g0 => r.c12 (by simpa using g0)
  c13 := fun g0 g1 => r.c13 (by simpa using g0) (by simpa using g1)
  c14 := fun g0 => r.c14 (by simpa using g0)
  c15 := fun g0 => r.c15 (by simpa using g0)
  c16 := fun g0 => r.c16 (by simpa using g0)
  e13 := fun g0 g1 => r.e13 (by simpa using g0) (by simpa using g1)
  q6a := fun g0 => absurd g0 (by simp [k14])
  q6b := fun _ => rfl
  h13a := fun g0 => r.h13a (by simpa using g0)
  h13b := fun g0 => r.h13b (by simpa using g0)
  h14a := fun g0 => r.h14a (by simpa using g0)
  h14b := fun g0 g1 => r.h14b (by simpa using g0) (by simpa using g1)
  h14c := fun g0 => r.h14c (by simpa using g0)
  o1 := fun g0 => by have := r.o1 (by simpa using g0); simp [this]
  o2 := fun g0 => by have := r.o2 (by simpa using g0); simp [this]
  o3 := fun g0 => by have := r.o3 (by simpa using g0); simp [this]
  o4 := fun g0 => by have := r.o4 (by simpa using g0); simp [this]
  o5 := fun _ => by simp [k14]
  o6 := fun _ => by simp [k17] }
theorem draw12 {edges : List (Nat × Nat)} {goal e0 e1 i j : Nat} {que out : List Nat} {far : List (Nat × Nat)} {v1 : Nat} (he : e0 < 100) (he0 : e0 < out.length) (hv1 : out.getD e0 0 = v1) (hq : que.length ≤ 1000) (hab : (far.any fun p => p.1 == e0) = false)
  (Q : AX → St → Prop) (S : St) (h : R12 edges goal e0 e1 i j que out far v1 (fun _ => false) S) (hQ : ∀ L S',(∀ i,i < 19 → L i = true) → R12 edges goal e0 e1 i j que out far v1 L S' → Q .normal S') : ADrawI EE Tryz.f137.ntmps ops12 Q S := by
 refine ⟨R12 edges goal e0 e1 i j que out far v1,h,?_,fun L S' hL hS => hQ L S' hL hS,by kernel_rfl,trivial⟩
 intro n o ho L S hL hd hI
 match n,ho,hL with
 | 0,ho,hL =>
  obtain rfl : ops12[0]'(by decide) = o := Option.some.inj (show some (ops12[0]'(by decide)) = some o from ho)
  exact opB_0 L S hI hL
 | 1,ho,hL =>
  obtain rfl : ops12[1]'(by decide) = o := Option.some.inj (show some (ops12[1]'(by decide)) = some o from ho)
  exact opB_1 L S hI hL
 | 2,ho,hL =>
  obtain rfl : ops12[2]'(by decide) = o := Option.some.inj (show some (ops12[2]'(by decide)) = some o from ho)
  have k1 : L 1 = true := hd _ (Array.getElem_mem (i := 0) (by decide)) rfl
  exact opB_2 L S hI hL k1
 | 3,ho,hL =>
  obtain rfl : ops12[3]'(by decide) = o := Option.some.inj (show some (ops12[3]'(by decide)) = some o from ho)
  have k2 : L 2 = true := hd _ (Array.getElem_mem (i := 0) (by decide)) rfl
  exact opB_3 L S hI hL k2
 | 4,ho,hL =>
  obtain rfl : ops12[4]'(by decide) = o := Option.some.inj (show some (ops12[4]'(by decide)) = some o from ho)
  exact opB_4 L S hI hL
 | 5,ho,hL =>
  obtain rfl : ops12[5]'(by decide) = o := Option.some.inj (show some (ops12[5]'(by decide)) = some o from ho)
  have k4 : L 4 = true := hd _ (Array.getElem_mem (i := 0) (by decide)) rfl
  exact opB_5 L S hI hL k4
 | 6,ho,hL =>
  obtain rfl : ops12[6]'(by decide) = o := Option.some.inj (show some (ops12[6]'(by decide)) = some o from ho)
  have k5 : L 5 = true := hd _ (Array.getElem_mem (i := 0) (by decide)) rfl
  exact opB_6 L S hI hL k5
 | 7,ho,hL =>
  obtain rfl : ops12[7]'(by decide) = o := Option.some.inj (show some (ops12[7]'(by decide)) = some o from ho)
  have k6 : L 6 = true := hd _ (Array.getElem_mem (i := 0) (by decide)) rfl
  exact opB_7 he L S hI hL k6
 | 8,ho,hL =>
  obtain rfl : ops12[8]'(by decide) = o := Option.some.inj (show some (ops12[8]'(by decide)) = some o from ho)
  have k7 : L 7 = true := hd _ (Array.getElem_mem (i := 0) (by decide)) rfl
  exact opB_8 he0 hv1 L S hI hL k7
 | 9,ho,hL =>
  obtain rfl : ops12[9]'(by decide) = o := Option.some.inj (show some (ops12[9]'(by decide)) = some o from ho)
  exact opB_9 L S hI hL
 | 10,ho,hL =>
  obtain rfl : ops12[10]'(by decide) = o := Option.some.inj (show some (ops12[10]'(by decide)) = some o from ho)
  exact opB_10 L S hI hL
 | 11,ho,hL =>
  obtain rfl : ops12[11]'(by decide) = o := Option.some.inj (show some (ops12[11]'(by decide)) = some o from ho)
  have k10 : L 10 = true := hd _ (Array.getElem_mem (i := 0) (by decide)) rfl
  exact opB_11 L S hI hL k10
 | 12,ho,hL =>
  obtain rfl : ops12[12]'(by decide) = o := Option.some.inj (show some (ops12[12]'(by decide)) = some o from ho)
  have k11 : L 11 = true := hd _ (Array.getElem_mem (i := 0) (by decide)) rfl
  exact opB_12 L S hI hL k11
 | 13,ho,hL =>
  obtain rfl : ops12[13]'(by decide) = o := Option.some.inj (show some (ops12[13]'(by decide)) = some o from ho)
  have k12 : L 12 = true := hd _ (Array.getElem_mem (i := 0) (by decide)) rfl
  exact opB_13 L S hI hL k12
 | 14,ho,hL =>
  obtain rfl : ops12[14]'(by decide) = o := Option.some.inj (show some (ops12[14]'(by decide)) = some o from ho)
  have k9 : L 9 = true := hd _ (Array.getElem_mem (i := 0) (by decide)) rfl
  have k13 : L 13 = true := hd _ (Array.getElem_mem (i := 1) (by decide)) rfl
  exact opB_14 hq L S hI hL k9 k13
 | 15,ho,hL =>
  obtain rfl : ops12[15]'(by decide) = o := Option.some.inj (show some (ops12[15]'(by decide)) = some o from ho)
  have k0 : L 0 = true := hd _ (Array.getElem_mem (i := 0) (by decide)) rfl
  have k3 : L 3 = true := hd _ (Array.getElem_mem (i := 1) (by decide)) rfl
  have k14 : L 14 = true := hd _ (Array.getElem_mem (i := 2) (by decide)) rfl
  exact opB_15 hab L S hI hL k0 k3 k14
 | 16,ho,hL =>
  obtain rfl : ops12[16]'(by decide) = o := Option.some.inj (show some (ops12[16]'(by decide)) = some o from ho)
  have k15 : L 15 = true := hd _ (Array.getElem_mem (i := 0) (by decide)) rfl
  exact opB_16 L S hI hL k15
 | 17,ho,hL =>
  obtain rfl : ops12[17]'(by decide) = o := Option.some.inj (show some (ops12[17]'(by decide)) = some o from ho)
  have k0 : L 0 = true := hd _ (Array.getElem_mem (i := 0) (by decide)) rfl
  have k8 : L 8 = true := hd _ (Array.getElem_mem (i := 2) (by decide)) rfl
  have k15 : L 15 = true := hd _ (Array.getElem_mem (i := 3) (by decide)) rfl
  have k16 : L 16 = true := hd _ (Array.getElem_mem (i := 1) (by decide)) rfl
  exact opB_17 L S hI hL k0 k8 k15 k16
 | 18,ho,hL =>
  obtain rfl : ops12[18]'(by decide) = o := Option.some.inj (show some (ops12[18]'(by decide)) = some o from ho)
  have k14 : L 14 = true := hd _ (Array.getElem_mem (i := 0) (by decide)) rfl
  have k17 : L 17 = true := hd _ (Array.getElem_mem (i := 1) (by decide)) rfl
  exact opB_18 L S hI hL k14 k17
 |n + 19,ho,hL =>
  have h1 : n + 19 < ops12.size := (Array.getElem?_eq_some_iff.1 ho).1
  have h2 : ops12.size = 19 := by decide
  omega
end Ai
end
section
set_option maxRecDepth 100000
namespace Ai
open Go Go.Proofs Cyc
theorem z8 (edges : List (Nat × Nat)) (goal : Nat) (hl : edges.length ≤ 5) (he : ∀ e ∈ edges,e.1 < 100) (fin : BS) (hr : qL goal edges 7 0 (bs0 goal) = some fin) :
  CallsTo EE 137 [sl (edges.map vK),i64 goal] (· = agg (arr fin.out)) := by
 refine callsTo_of_AW (fn := Tryz.f137) Tryz.func137 rfl (by kernel_rfl) rfl ?_
 conv => whnf
 refine yR (fun x : Nat × BS => [(0,sl (edges.map vK)),(1,i64 goal),(4,.ptr (.n 4) 0),(5,.ptr (.n 5) 0),(6,.ref (.n 13) 0 x.2.queue.length),(7,.mref (.n 14)),(8,i64 x.1)])
  (fun x => [(.n 4,.vs 168 ((arr (List.replicate 100 0)).map .d)),(.n 5,.vs 168 ((arr x.2.out).map .d)),(.n 13,.ds 3 1 (x.2.queue.map xE)),(.n 14,.mp false (uE x.2.far))]) (fun x => 7 - x.1)
  (fun x => ∃ f m,f + x.1 = 7 ∧ qL goal edges f x.1 x.2 = some fin ∧ BSok goal x.2 m ∧ m ≤ 5 * x.1) (0,bs0 goal)
  Weak.refl ?_ ?_ ⟨7,0,rfl,hr,bs0_ok goal,Nat.zero_le _⟩ ?_
 ·exact ⟨rfl,rfl,rfl,rfl,rfl,rfl,rfl,trivial⟩
 ·refine ⟨rfl,rfl,rfl,rfl,trivial⟩
 rintro ⟨i,st⟩ τ H ⟨f,m,hf,hrun,hok,hm⟩
 have hf : f + i = 7 := hf
 have hrun : qL goal edges f i st = some fin := hrun
 have hok : BSok goal st m := hok
 have hm : m ≤ 5 * i := hm
 cases f with
 |zero => cases hrun
 |succ f =>
 conv => whnf
 refine kbi (fun hi => ?_) (fun hi => ?_)
 ·have hi : i < st.queue.length := by simpa using hi
  unfold qL at hrun
  rw [if_pos hi] at hrun
  conv => whnf
  refine yR (fun y : Nat × BS => [(0,sl (edges.map vK)),(1,i64 goal),(4,.ptr (.n 4) 0),(5,.ptr (.n 5) 0),(6,.ref (.n 13) 0 y.2.queue.length),(7,.mref (.n 14)),(8,i64 i),(23,sl (edges.map vK)),(24,i64 (edges.map vK).length),(25,i64 y.1)])
   (fun y => [(.n 4,.vs 168 ((arr (List.replicate 100 0)).map .d)),(.n 5,.vs 168 ((arr y.2.out).map .d)),(.n 13,.ds 3 1 (y.2.queue.map xE)),(.n 14,.mp false (uE y.2.far))]) (fun y => edges.length - y.1)
   (fun y => y.1 ≤ edges.length ∧ y.2 = (edges.take y.1).foldl (bsE goal (st.queue.getD i 0)) st ∧ BSok goal y.2 (m + y.1) ∧ y.2.queue.getD i 0 = st.queue.getD i 0 ∧ i < y.2.queue.length) (0,st)
   Weak.refl ⟨rfl,rfl,rfl,rfl,rfl,rfl,rfl,rfl,rfl,rfl,trivial⟩ ⟨rfl,rfl,rfl,rfl,trivial⟩ ⟨Nat.zero_le _,rfl,hok,rfl,hi⟩ ?_
  rintro ⟨j,st'⟩ τ' H' ⟨hj,hst,hok',hcur,hiq⟩
  have hj : j ≤ edges.length := hj
  have hst : st' = (edges.take j).foldl (bsE goal (st.queue.getD i 0)) st := hst
  have hok' : BSok goal st' (m + j) := hok'
  have hcur : st'.queue.getD i 0 = st.queue.getD i 0 := hcur
  have hiq : i < st'.queue.length := hiq
  generalize hcd : st.queue.getD i 0 = cur at *
  conv => whnf
  refine kbi (fun hje => ?_) (fun hje => ?_)
  ·have hje : j < edges.length := by simpa using hje
   have hel := he _ (List.getElem_mem hje)
   conv => whnf
   refine ⟨vK edges[j],⟨by omega,by simp [hje],rfl⟩,?_⟩
   conv => whnf
   refine ⟨by kernel_rfl,?_⟩
   conv => whnf
   refine ⟨[di edges[j].2],⟨by decide,rfl,rfl⟩,?_⟩
   conv => whnf
   refine ⟨⟨by omega,by show (i : Int) < st'.queue.length; omega⟩,?_⟩
   conv => whnf
   have hq : (st'.queue.map xE)[i]? = some (xE (cur)) := by
    rw [List.getElem?_map,List.getElem?_eq_getElem hiq,← hcur,List.getD_eq_getElem?_getD,List.getElem?_eq_getElem hiq]; rfl
   refine ⟨xE (cur),⟨by rw [Nat.zero_add]; exact hq,by show 0 + 1 ≤ 1; omega⟩,?_⟩
   conv => whnf
   have hnext : (edges.take (j + 1)).foldl (bsE goal (cur)) st = bsE goal (cur) st' edges[j] := by
    rw [List.take_succ_eq_append_getElem hje,List.foldl_append,← hst]; rfl
   refine kbi (fun h1 => ?_) (fun h1 => ?_)
   ·have h1 : edges[j].2 ≠ cur := by
     intro e
     simp [e] at h1
    have hE : bsE goal (cur) st' edges[j] = st' := by
     unfold bsE
     rw [if_pos (by rw [Bool.or_eq_true]; exact .inl (bne_iff_ne.2 h1))]
    conv => whnf
    refine ⟨(j + 1,st'),⟨by show j + 1 ≤ edges.length; omega,by show st' = _; rw [hnext,hE],?_,hcur,hiq⟩,by show edges.length - (j + 1) < edges.length - j; omega,⟨rfl,rfl,rfl,rfl,rfl,rfl,rfl,rfl,rfl,?_,trivial⟩,⟨rfl,rfl,rfl,rfl,trivial⟩⟩
    ·exact ⟨hok'.len,fun p hp => Nat.le_trans (hok'.far p hp) (by show m + j ≤ m + (j + 1); omega),by show st'.queue.length ≤ m + (j + 1) + 1; have : st'.queue.length ≤ m + j + 1 := hok'.que; omega,hok'.key,hok'.pos,by show st'.far.length ≤ m + (j + 1) + 1; have : st'.far.length ≤ m + j + 1 := hok'.flen; omega⟩
    ·show AV.d (.int .i64 (IntKind.i64.wrap ((j : Int) + 1))) = i64 ((j + 1 : Nat) : Int)
     rw [zE (by omega) (by omega)]
     rfl
   have h1 : edges[j].2 = cur := by
    have h2 : ¬ ((edges[j].2 : Int) != (cur : Int)) = true := h1
    simp only [bne_iff_ne,ne_eq,Classical.not_not] at h2
    omega
   conv => whnf
   refine ⟨[di edges[j].1],⟨by decide,rfl,rfl⟩,?_⟩
   conv => whnf
   refine ⟨⟨by omega,by show ((edges[j].1 : Nat) : Int) < 100; omega⟩,?_⟩
   conv => whnf
   have hlt : edges[j].1 < st'.out.length := by rw [hok'.len]; exact hel
   split
   rotate_left 1
   ·rename_i hld
    exact absurd (hld.symm.trans (dG (out := st'.out) (k := edges[j].1) rfl rfl hlt)) (by simp)
   rename_i cs hld
   obtain rfl := Option.some.inj (hld.symm.trans (dG (out := st'.out) (k := edges[j].1) rfl rfl hlt))
   clear hld
   conv => whnf
   refine kbi (fun h2 => ?_) (fun h2 => ?_)
   ·have h2 : 0 < st'.out.getD edges[j].1 0 := by
     have h3 := of_decide_eq_true h2
     omega
    have hE : bsE goal cur st' edges[j] = st' := by
     unfold bsE
     rw [if_pos (by rw [Bool.or_eq_true]; exact .inr (decide_eq_true h2))]
    conv => whnf
    refine ⟨(j + 1,st'),⟨by show j + 1 ≤ edges.length; omega,by show st' = _; rw [hnext,hE],?_,hcur,hiq⟩,by show edges.length - (j + 1) < edges.length - j; omega,⟨rfl,rfl,rfl,rfl,rfl,rfl,rfl,rfl,rfl,?_,trivial⟩,⟨rfl,rfl,rfl,rfl,trivial⟩⟩
    ·exact ⟨hok'.len,fun p hp => Nat.le_trans (hok'.far p hp) (by show m + j ≤ m + (j + 1); omega),by show st'.queue.length ≤ m + (j + 1) + 1; have : st'.queue.length ≤ m + j + 1 := hok'.que; omega,hok'.key,hok'.pos,by show st'.far.length ≤ m + (j + 1) + 1; have : st'.far.length ≤ m + j + 1 := hok'.flen; omega⟩
    ·show AV.d (.int .i64 (IntKind.i64.wrap ((j : Int) + 1))) = i64 ((j + 1 : Nat) : Int)
     rw [zE (by omega) (by omega)]
     rfl
   have h2 : st'.out.getD edges[j].1 0 = 0 := by
    have h3 : ¬ ((st'.out.getD edges[j].1 0 : Nat) : Int) > 0 := fun e => h2 (decide_eq_true e)
    omega
   obtain ⟨v,hv⟩ := hok'.key cur (by rw [← hcur,List.getD_eq_getElem?_getD,List.getElem?_eq_getElem hiq]; exact List.getElem_mem hiq)
   have hgv : oO st'.far cur = v := by unfold oO; rw [hv]; rfl
   have hvm : v ≤ m + j := by rw [← hgv]; exact rK hok'
   conv => whnf
   refine .inr (.inl ⟨10,[],?_⟩)
   conv => whnf
   refine ⟨[di edges[j].1],⟨by decide,rfl,rfl⟩,?_⟩
   conv => whnf
   refine ⟨⟨by omega,by show (i : Int) < st'.queue.length; omega⟩,?_⟩
   conv => whnf
   refine ⟨xE cur,⟨by rw [Nat.zero_add]; exact hq,by show 0 + 1 ≤ 1; omega⟩,?_⟩
   conv => whnf
   refine .inl ⟨di (v : Int),by rw [atM_far,hv]; rfl,?_⟩
   conv => whnf
   refine ⟨by kernel_rfl,?_⟩
   conv => whnf
   refine ⟨⟨by omega,by show ((edges[j].1 : Nat) : Int) < 100; omega⟩,?_⟩
   conv => whnf
   split
   rotate_left 1
   ·rename_i hb
    exact absurd hb (by
     rw [jB]
     have : Nat.ble (0 + edges[j].1 * 1 + 1) ((arr st'.out).map AV.d).length = true := by rw [Nat.ble_eq]; simp [arr]; omega
     exact fun e => by rw [show Nat.ble (0 + edges[j].1 * 1 + 1) ((arr st'.out).map AV.d).length = false from e] at this; cases this)
   conv => whnf
   have ew : IntKind.i64.wrap ((v : Int) + 1) = ((v + 1 : Nat) : Int) := by rw [zE (by omega) (by omega)]; rfl
   refine ⟨[di edges[j].1],⟨by decide,rfl,rfl⟩,?_⟩
   conv => whnf
   refine kbi (fun hg => ?_) (fun hg => ?_)
   ·have hg : edges[j].1 ≠ goal := by
     have h3 : ((edges[j].1 : Int) != (goal : Int)) = true := hg
     simp only [bne_iff_ne,ne_eq] at h3
     omega
    have hab := absent hok' h2 hg
    have hE : bsE goal cur st' edges[j] = ⟨st'.out.set edges[j].1 (v + 1),st'.queue ++ [edges[j].1],st'.far ++ [(edges[j].1,v + 1)]⟩ := by
     unfold bsE
     rw [if_neg (by rw [Bool.or_eq_true,bne_iff_ne,decide_eq_true_eq]; omega),if_pos (by rw [bne_iff_ne]; exact hg),hgv,q8 hab]
    have hql : st'.queue.length ≤ m + j + 1 := hok'.que
    have hok2 : BSok goal ⟨st'.out.set edges[j].1 (v + 1),st'.queue ++ [edges[j].1],st'.far ++ [(edges[j].1,v + 1)]⟩ (m + (j + 1)) := by rw [← hE]; exact z7 hok' hel
    have hcur2 : (st'.queue ++ [edges[j].1]).getD i 0 = cur := by
     rw [← hcur,List.getD_eq_getElem?_getD,List.getElem?_append_left hiq,List.getD_eq_getElem?_getD]
    conv => whnf
    refine .inr (.inr (.inl (draw12 (edges := edges) (goal := goal) (e0 := edges[j].1) (e1 := edges[j].2) (i := i) (j := j) (que := st'.queue) (out := st'.out.set edges[j].1 (v + 1)) (far := st'.far) (v1 := v + 1) hel (by simpa using hlt) (by simp [List.getD_eq_getElem?_getD,hlt]) (by omega) hab _ _ ?_ ?_)))
    ·exact {
      u0 := rfl
      u1 := rfl
      u4 := rfl
      u5 := rfl
      u7 := rfl
      u8 := rfl
      u10 := rfl
      u23 := rfl
      u24 := rfl
      u25 := rfl
      h4 := congrArg (fun x => some (Ob.vs 168 x)) (jB _ _)
      h5 := congrArg (fun x => some (Ob.vs 168 x)) (rX (v := v + 1) (jB _ _) hlt (congrArg (fun n => AV.d (.int .i64 n)) ew))
      c0 := fun h => by cases h
      c1 := fun h => by cases h
      c2 := fun h => by cases h
      c3 := fun h => by cases h
      c4 := fun h => by cases h
      c5 := fun h => by cases h
      c6 := fun h => by cases h
      c7 := fun h => by cases h
      c8 := fun h => by cases h
      c9 := fun h => by cases h
      c10 := fun h => by cases h
      c11 := fun h => by cases h
      c12 := fun h => by cases h
      c13 := fun h => by cases h
      c14 := fun h => by cases h
      c15 := fun h => by cases h
      c16 := fun h => by cases h
      e13 := fun h => by cases h
      q6a := fun _ => rfl
      q6b := fun h => by cases h
      h13a := fun _ => rfl
      h13b := fun h => by cases h
      h14a := fun _ => rfl
      h14b := fun h => by cases h
      h14c := fun h => by cases h
      o1 := fun h => by cases h
      o2 := fun h => by cases h
      o3 := fun h => by cases h
      o4 := fun h => by cases h
      o5 := fun h => by cases h
      o6 := fun h => by cases h }
    intro L S' hL r
    have hat : At [(0,sl (edges.map vK)),(1,i64 goal),(4,.ptr (.n 4) 0),(5,.ptr (.n 5) 0),(6,.ref (.n 13) 0 (st'.queue.length + 1)),(7,.mref (.n 14)),(8,i64 i),(23,sl (edges.map vK)),(24,i64 (edges.map vK).length),(25,i64 j)]
     [(.n 4,.vs 168 ((arr (List.replicate 100 0)).map .d)),(.n 5,.vs 168 ((arr (st'.out.set edges[j].1 (v + 1))).map .d)),(.n 13,.ds 3 1 ((st'.queue ++ [edges[j].1]).map xE)),(.n 14,.mp false (uE (st'.far ++ [(edges[j].1,v + 1)])))] [] S' :=
     ⟨⟨r.u0,r.u1,r.u4,r.u5,r.q6b (hL 18 (by decide)),r.u7,r.u8,r.u23,r.u24,r.u25,trivial⟩,⟨r.h4,r.h5,r.h13b (hL 14 (by decide)),r.h14c (hL 17 (by decide)),trivial⟩,trivial⟩
    obtain ⟨τ2,H2,rfl⟩ := hat.form
    clear r hat
    conv => whnf
    refine ⟨(j + 1,⟨st'.out.set edges[j].1 (v + 1),st'.queue ++ [edges[j].1],st'.far ++ [(edges[j].1,v + 1)]⟩),⟨by show j + 1 ≤ edges.length; omega,by show _ = List.foldl _ _ _; rw [hnext,hE],hok2,hcur2,by show i < (st'.queue ++ [edges[j].1]).length; simp; omega⟩,by show edges.length - (j + 1) < edges.length - j; omega,⟨rfl,rfl,rfl,rfl,?_,rfl,rfl,rfl,rfl,?_,trivial⟩,⟨rfl,rfl,rfl,rfl,trivial⟩⟩
    ·show AV.ref (.n 13) 0 (st'.queue.length + 1) = .ref (.n 13) 0 (st'.queue ++ [edges[j].1]).length
     rw [List.length_append]
     rfl
    ·show AV.d (.int .i64 (IntKind.i64.wrap ((j : Int) + 1))) = i64 ((j + 1 : Nat) : Int)
     rw [zE (by omega) (by omega)]
     rfl
   ·have hg : edges[j].1 = goal := by
     have h3 : ¬ ((edges[j].1 : Int) != (goal : Int)) = true := hg
     simp only [bne_iff_ne,ne_eq,Classical.not_not] at h3
     omega
    have hE : bsE goal cur st' edges[j] = ⟨st'.out.set edges[j].1 (v + 1),st'.queue,st'.far⟩ := by
     unfold bsE
     rw [if_neg (by rw [Bool.or_eq_true,bne_iff_ne,decide_eq_true_eq]; omega),if_neg (by rw [bne_iff_ne]; omega),hgv]
    conv => whnf
    have hok2 : BSok goal ⟨st'.out.set edges[j].1 (v + 1),st'.queue,st'.far⟩ (m + (j + 1)) := by rw [← hE]; exact z7 hok' hel
    refine ⟨(j + 1,⟨st'.out.set edges[j].1 (v + 1),st'.queue,st'.far⟩),⟨by show j + 1 ≤ edges.length; omega,by show _ = List.foldl _ _ _; rw [hnext,hE],hok2,hcur,hiq⟩,by show edges.length - (j + 1) < edges.length - j; omega,⟨rfl,rfl,rfl,rfl,rfl,rfl,rfl,rfl,rfl,?_,trivial⟩,⟨?_,?_,rfl,rfl,trivial⟩⟩
    ·show AV.d (.int .i64 (IntKind.i64.wrap ((j : Int) + 1))) = i64 ((j + 1 : Nat) : Int)
     rw [zE (by omega) (by omega)]
     rfl
    ·exact congrArg (fun x => some (Ob.vs 168 x)) (jB _ _)
    ·exact congrArg (fun x => some (Ob.vs 168 x)) (rX (v := v + 1) (jB _ _) hlt (congrArg (fun n => AV.d (.int .i64 n)) ew))
  ·have hje : edges.length ≤ j := by simpa using hje
   have hjj : j = edges.length := by omega
   subst hjj
   conv => whnf
   rw [List.take_length] at hst
   rw [← hst] at hrun
   refine ⟨(i + 1,st'),⟨f,m + edges.length,by show f + (i + 1) = 7; omega,hrun,hok',by show m + edges.length ≤ 5 * (i + 1); omega⟩,by show 7 - (i + 1) < 7 - i; omega,⟨rfl,rfl,rfl,rfl,rfl,rfl,?_,trivial⟩,⟨rfl,rfl,rfl,rfl,trivial⟩⟩
   show AV.d (.int .i64 (IntKind.i64.wrap ((i : Int) + 1))) = i64 ((i + 1 : Nat) : Int)
   rw [zE (by omega) (by omega)]
   rfl
 ·have hi : ¬ i < st.queue.length := by simpa using hi
  unfold qL at hrun
  rw [if_neg hi] at hrun
  obtain rfl := Option.some.inj hrun
  obtain ⟨g,hg⟩ : ∃ g : Nat → Nat,st.out = (List.range 100).map g := ⟨fun i => st.out.getD i 0,by
   apply List.ext_getElem?
   intro k
   by_cases hk : k < 100
   ·have : k < st.out.length := by rw [hok.len]; exact hk
    rw [List.getElem?_map,List.getElem?_range hk,List.getElem?_eq_getElem this]
    simp [List.getD_eq_getElem?_getD,this]
   ·rw [List.getElem?_eq_none (by rw [hok.len]; omega),List.getElem?_eq_none (by simp; omega)]⟩
  obtain ⟨out,queue,far⟩ := st
  have hg : out = (List.range 100).map g := hg
  subst hg
  conv => whnf
  rfl
end Ai
end
section
set_option maxRecDepth 100000
namespace Ai
open Go Go.Proofs Cyc
theorem tG {goal cur : Nat} : ∀ (es : List (Nat × Nat)) (st : BS) (m : Nat),(∀ e ∈ es,e.1 < 100) → BSok goal st m → BSok goal (es.foldl (bsE goal cur) st) (m + es.length)
 | [],st,m,he,h => h
 |e :: es,st,m,he,h => by
  have := tG (cur := cur) es (bsE goal cur st e) (m + 1) (fun x hx => he x (List.mem_cons_of_mem _ hx)) (z7 h (he e List.mem_cons_self))
  rw [List.foldl_cons,List.length_cons,show m + (es.length + 1) = m + 1 + es.length by omega]
  exact this
theorem eY {goal : Nat} {edges : List (Nat × Nat)} (he : ∀ e ∈ edges,e.1 < 100) : ∀ (f i m : Nat) (st fin : BS),BSok goal st m → qL goal edges f i st = some fin → fin.out.length = 100
 | 0,i,m,st,fin,h,hr => by cases hr
 |f + 1,i,m,st,fin,h,hr => by
  unfold qL at hr
  split at hr
  ·exact eY he f (i + 1) _ _ fin (tG edges st m he h) hr
  ·obtain rfl := Option.some.inj hr
   exact h.len
theorem eL {goal cur : Nat} : ∀ (es : List (Nat × Nat)) (st : BS) (m : Nat),(∀ e ∈ es,e.1 < 100) → BSok goal st m → (∀ x ∈ st.out,x ≤ m) → ∀ x ∈ (es.foldl (bsE goal cur) st).out,x ≤ m + es.length
 | [],st,m,he,h,ho => ho
 |e :: es,st,m,he,h,ho => by
  have h1 : ∀ x ∈ (bsE goal cur st e).out,x ≤ m + 1 := by
   intro x hx
   unfold bsE at hx
   split at hx
   ·exact Nat.le_succ_of_le (ho x hx)
   ·split at hx
    ·rcases List.mem_or_eq_of_mem_set hx with h2 | h2
     ·exact Nat.le_succ_of_le (ho x h2)
     ·subst h2; exact Nat.succ_le_succ (rK h)
    ·rcases List.mem_or_eq_of_mem_set hx with h2 | h2
     ·exact Nat.le_succ_of_le (ho x h2)
     ·subst h2; exact Nat.succ_le_succ (rK h)
  have := eL (cur := cur) es (bsE goal cur st e) (m + 1) (fun x hx => he x (List.mem_cons_of_mem _ hx)) (z7 h (he e List.mem_cons_self)) h1
  rw [List.foldl_cons,List.length_cons,show m + (es.length + 1) = m + 1 + es.length by omega]
  exact this
theorem eX {goal : Nat} {edges : List (Nat × Nat)} (hl : edges.length ≤ 5) (he : ∀ e ∈ edges,e.1 < 100) : ∀ (f i m : Nat) (st fin : BS),BSok goal st m → (∀ x ∈ st.out,x ≤ m) → qL goal edges f i st = some fin → ∀ x ∈ fin.out,x ≤ m + 5 * f
 | 0,i,m,st,fin,h,ho,hr => by cases hr
 |f + 1,i,m,st,fin,h,ho,hr => by
  unfold qL at hr
  split at hr
  ·intro x hx
   have := eX hl he f (i + 1) _ _ fin (tG edges st m he h) (eL edges st m he h ho) hr x hx
   omega
  ·obtain rfl := Option.some.inj hr
   intro x hx
   have := ho x hx
   omega
theorem range_form {l : List Nat} (h : l.length = 100) : ∃ g : Nat → Nat,l = (List.range 100).map g := ⟨fun i => l.getD i 0,by
 apply List.ext_getElem?
 intro k
 by_cases hk : k < 100
 ·have : k < l.length := by omega
  rw [List.getElem?_map,List.getElem?_range hk,List.getElem?_eq_getElem this]
  simp [List.getD_eq_getElem?_getD,this]
 ·rw [List.getElem?_eq_none (by omega),List.getElem?_eq_none (by simp; omega)]⟩
def pR (edges : List (Nat × Nat)) : List Nat := ((List.range 100).findSome? fun n => match gT edges n with | some (x :: xs) => some (x :: xs) | _ => none).getD []
theorem cycOf_at {edges : List (Nat × Nat)} {n : Nat} {o : List Nat} (h : n < 100) (hno : ∀ k,k < n → gT edges k = some []) (ho : gT edges n = some o) (hne : o ≠ []) : pR edges = o := by
 unfold pR
 have hs : List.range 100 = (List.range 100).take n ++ n :: (List.range 100).drop (n + 1) := by
  have := (List.take_append_drop n (List.range 100)).symm
  rw [List.drop_eq_getElem_cons (by simp; omega),List.getElem_range] at this
  exact this
 have hf : (List.range 100).findSome? (fun n => match gT edges n with | some (x :: xs) => some (x :: xs) | _ => none) = some o := by
  rw [List.findSome?_eq_some_iff]
  refine ⟨_,n,_,hs,?_,fun x hx => ?_⟩
  ·rw [ho]
   cases o with
   |nil => exact absurd rfl hne
   |cons x xs => rfl
  ·obtain ⟨i,hi,rfl⟩ := List.mem_iff_getElem.1 hx
   have hi2 : i < n := by
    have := hi
    simp at this
    omega
   rw [List.getElem_take,List.getElem_range,hno i hi2]
 rw [hf]
 rfl
theorem cycleI_ok (edges : List (Nat × Nat)) (hl : edges.length ≤ 5) (he : ∀ e ∈ edges,e.1 < 100 ∧ e.2 < 100) (hr : ∀ n,n < 100 → (qL n edges 7 0 (bs0 n)).isSome = true) :
  CallsTo EE 98 [sl (edges.map vK)] (· = .tup [sl ((pR edges).map xE),bv (!(pR edges).isEmpty)]) := by
 refine callsTo_of_AW (fn := Tryz.f98) Tryz.func98 rfl (by kernel_rfl) rfl ?_
 conv => whnf
 refine yR (fun n : Nat => [(0,sl (edges.map vK)),(12,i64 n)]) (fun n => []) (fun n => 100 - n) (fun n => n ≤ 100 ∧ ∀ k,k < n → gT edges k = some []) 0
  Weak.refl ⟨rfl,rfl,trivial⟩ trivial ⟨Nat.zero_le _,fun k hk => by omega⟩ ?_
 rintro n τ H ⟨hn,hno⟩
 conv => whnf
 refine kbi (fun h => ?_) (fun h => ?_)
 ·have h : n < 100 := by
   have := of_decide_eq_true h
   omega
  obtain ⟨fin,hfin⟩ := Option.isSome_iff_exists.1 (hr n h)
  have hlen := eY (fun e h => (he e h).1) 7 0 0 (bs0 n) fin (bs0_ok n) hfin
  have hcy : gT edges n = if fin.out.getD n 0 = 0 then some [] else some (iJ edges fin.out n (fin.out.getD n 0 - 1) [n] n) := by
   unfold gT; rw [hfin]
  conv => whnf
  refine ⟨_,z8 edges n hl (fun e h => (he e h).1) fin hfin,?_⟩
  rintro r rfl
  obtain ⟨out,queue,far⟩ := fin
  have hlen : out.length = 100 := hlen
  obtain ⟨g,hg⟩ := range_form hlen
  subst hg
  conv => whnf
  have hnl : n < ((List.range 100).map g).length := by simp; omega
  refine ⟨⟨by omega,by show (n : Int) < 100; omega⟩,?_⟩
  conv => whnf
  split
  rotate_left 1
  ·rename_i hld
   exact absurd (hld.symm.trans (dG (out := (List.range 100).map g) (k := n) rfl rfl hnl)) (by simp)
  rename_i cs hld
  obtain rfl := Option.some.inj (hld.symm.trans (dG (out := (List.range 100).map g) (k := n) rfl rfl hnl))
  clear hld
  have hcy : gT edges n = if ((List.range 100).map g).getD n 0 = 0 then some [] else some (iJ edges ((List.range 100).map g) n (((List.range 100).map g).getD n 0 - 1) [n] n) := hcy
  generalize hfn : ((List.range 100).map g).getD n 0 = fn at *
  conv => whnf
  refine kbi (fun h0 => ?_) (fun h0 => ?_)
  ·have h0 : fn = 0 := by
    have h1 : ((fn : Int) == 0) = true := h0
    rw [beq_iff_eq] at h1
    omega
   rw [if_pos h0] at hcy
   conv => whnf
   refine ⟨n + 1,⟨by omega,fun k hk => ?_⟩,by show 100 - (n + 1) < 100 - n; omega,⟨rfl,?_,trivial⟩,trivial⟩
   ·by_cases hkn : k = n
    ·rw [hkn]; exact hcy
    ·exact hno k (by omega)
   ·show AV.d (.int .i64 (IntKind.i64.wrap ((n : Int) + 1))) = i64 ((n + 1 : Nat) : Int)
    rw [zE (by omega) (by omega)]
    rfl
  have h0 : fn ≠ 0 := by
   intro e
   subst e
   exact h0 rfl
  rw [if_neg h0] at hcy
  have hfb : fn ≤ 35 := by
   have := eX hl (fun e h => (he e h).1) 7 0 0 (bs0 n) _ (bs0_ok n) (by intro x hx; simp [bs0] at hx; omega) hfin fn (by
    rw [← hfn,List.getD_eq_getElem?_getD,List.getElem?_eq_getElem hnl]
    exact List.getElem_mem hnl)
   omega
  conv => whnf
  refine ⟨⟨by omega,by show (n : Int) < 100; omega⟩,?_⟩
  conv => whnf
  split
  rotate_left 1
  ·rename_i hld
   exact absurd (hld.symm.trans (dG (out := (List.range 100).map g) (k := n) rfl rfl hnl)) (by simp)
  rename_i cs hld
  obtain rfl := Option.some.inj (hld.symm.trans (dG (out := (List.range 100).map g) (k := n) rfl rfl hnl))
  clear hld
  rw [hfn]
  conv => whnf
  have ew : IntKind.i64.wrap ((fn : Int) - 1) = ((fn - 1 : Nat) : Int) := by rw [zE (by omega) (by omega)]; omega
  refine yR (fun y : Nat × List Nat × Nat => [(0,sl (edges.map vK)),(4,i64 n),(5,.ptr (.n 5) 0),(6,.ref (.n 23) 0 y.2.1.length),(7,i64 y.2.2),(8,i64 y.1),(12,i64 n)])
   (fun y => [(.n 5,.vs 168 ((arr ((List.range 100).map g)).map .d)),(.n 23,.ds 3 1 (y.2.1.map xE))]) (fun y => y.1)
   (fun y => iJ edges ((List.range 100).map g) n y.1 y.2.1 y.2.2 = iJ edges ((List.range 100).map g) n (fn - 1) [n] n ∧ y.1 + y.2.1.length = fn ∧ y.2.1.length ≥ 1) (fn - 1,[n],n)
   Weak.refl ?_ ?_ ⟨rfl,by show fn - 1 + 1 = fn; omega,Nat.le_refl _⟩ ?_
  ·refine ⟨rfl,rfl,rfl,rfl,rfl,?_,rfl,trivial⟩
   show AV.d (.int .i64 (IntKind.i64.wrap ((fn : Int) - 1))) = i64 ((fn - 1 : Nat) : Int)
   rw [ew]
  ·exact ⟨rfl,rfl,trivial⟩
  rintro ⟨left,o,a⟩ τ2 H2 ⟨hw,hlo,ho1⟩
  have hw : iJ edges ((List.range 100).map g) n left o a = iJ edges ((List.range 100).map g) n (fn - 1) [n] n := hw
  have hlo : left + o.length = fn := hlo
  conv => whnf
  refine kbi (fun h5 => ?_) (fun h5 => ?_)
  ·have h5 : 0 < left := by
    have := of_decide_eq_true h5
    omega
   obtain ⟨l,rfl⟩ : ∃ l,left = l + 1 := ⟨left - 1,by omega⟩
   conv => whnf
   refine yR (fun z : Nat × Nat => [(0,sl (edges.map vK)),(4,i64 n),(5,.ptr (.n 5) 0),(6,.ref (.n 23) 0 o.length),(7,i64 a),(8,i64 (l + 1 : Nat)),(9,i64 z.2),(12,i64 n),(33,sl (edges.map vK)),(34,i64 (edges.map vK).length),(35,i64 z.1)])
    (fun z => [(.n 5,.vs 168 ((arr ((List.range 100).map g)).map .d)),(.n 23,.ds 3 1 (o.map xE))]) (fun z => edges.length - z.1)
    (fun z => z.1 ≤ edges.length ∧ z.2 = (edges.take z.1).foldl (fun nx e => if (e.1 == a && e.2 != n && ((List.range 100).map g).getD e.2 0 == l + 1) = true then min nx e.2 else nx) 100) (0,100)
    Weak.refl ⟨rfl,rfl,rfl,rfl,rfl,rfl,rfl,rfl,rfl,rfl,rfl,trivial⟩ ⟨rfl,rfl,trivial⟩ ⟨Nat.zero_le _,rfl⟩ ?_
   rintro ⟨j,nx⟩ τ3 H3 ⟨hj,hnx⟩
   have hj : j ≤ edges.length := hj
   have hnx : nx = (edges.take j).foldl (fun nx e => if (e.1 == a && e.2 != n && ((List.range 100).map g).getD e.2 0 == l + 1) = true then min nx e.2 else nx) 100 := hnx
   conv => whnf
   refine kbi (fun h6 => ?_) (fun h6 => ?_)
   ·have hje : j < edges.length := by simpa using h6
    obtain ⟨he1,he2⟩ := he _ (List.getElem_mem hje)
    have hnext : (edges.take (j + 1)).foldl (fun nx e => if (e.1 == a && e.2 != n && ((List.range 100).map g).getD e.2 0 == l + 1) = true then min nx e.2 else nx) 100 = if (edges[j].1 == a && edges[j].2 != n && ((List.range 100).map g).getD edges[j].2 0 == l + 1) = true then min nx edges[j].2 else nx := by
     rw [List.take_succ_eq_append_getElem hje,List.foldl_append,← hnx]; rfl
    conv => whnf
    refine ⟨vK edges[j],⟨by omega,by simp [hje],rfl⟩,?_⟩
    conv => whnf
    refine ⟨[di edges[j].1],⟨by decide,rfl,rfl⟩,?_⟩
    conv => whnf
    refine kbi (fun h7 => ?_) (fun h7 => ?_)
    ·have h7 : edges[j].1 = a := by
      have h8 : ((edges[j].1 : Int) == (a : Int)) = true := h7
      rw [beq_iff_eq] at h8
      omega
     conv => whnf
     refine ⟨[di edges[j].2],⟨by decide,rfl,rfl⟩,?_⟩
     conv => whnf
     refine kbi (fun h9 => ?_) (fun h9 => ?_)
     ·have h9 : edges[j].2 ≠ n := by
       have h8 : ((edges[j].2 : Int) != (n : Int)) = true := h9
       rw [bne_iff_ne] at h8
       omega
      conv => whnf
      refine ⟨[di edges[j].2],⟨by decide,rfl,rfl⟩,?_⟩
      conv => whnf
      have he2l : edges[j].2 < ((List.range 100).map g).length := by simp; omega
      refine ⟨⟨by omega,by show (edges[j].2 : Int) < 100; omega⟩,?_⟩
      conv => whnf
      split
      rotate_left 1
      ·rename_i hld
       exact absurd (hld.symm.trans (dG (out := (List.range 100).map g) (k := edges[j].2) rfl rfl he2l)) (by simp)
      rename_i cs hld
      obtain rfl := Option.some.inj (hld.symm.trans (dG (out := (List.range 100).map g) (k := edges[j].2) rfl rfl he2l))
      clear hld
      conv => whnf
      refine kbi (fun h10 => ?_) (fun h10 => ?_)
      ·have h10 : ((List.range 100).map g).getD edges[j].2 0 = l + 1 := by
        have h8 : (((((List.range 100).map g).getD edges[j].2 0 : Nat) : Int) == ((l + 1 : Nat) : Int)) = true := h10
        rw [beq_iff_eq] at h8
        omega
       conv => whnf
       refine ⟨[di edges[j].2],⟨by decide,rfl,rfl⟩,?_⟩
       conv => whnf
       refine ⟨(j + 1,min nx edges[j].2),⟨by show j + 1 ≤ edges.length; omega,by rw [hnext,if_pos (by simp only [Bool.and_eq_true,beq_iff_eq,bne_iff_ne]; exact ⟨⟨h7,h9⟩,h10⟩)]⟩,by show edges.length - (j + 1) < edges.length - j; omega,⟨rfl,rfl,rfl,rfl,rfl,rfl,?_,rfl,rfl,rfl,?_,trivial⟩,⟨rfl,rfl,trivial⟩⟩
       ·show AV.d (.int .i64 (if (edges[j].2 : Int) < (nx : Int) then (edges[j].2 : Int) else (nx : Int))) = i64 ((min nx edges[j].2 : Nat) : Int)
        by_cases hlt : edges[j].2 < nx
        ·rw [if_pos (by omega),Nat.min_eq_right (by omega)]
        ·rw [if_neg (by omega),Nat.min_eq_left (by omega)]
       ·show AV.d (.int .i64 (IntKind.i64.wrap ((j : Int) + 1))) = i64 ((j + 1 : Nat) : Int)
        rw [zE (by omega) (by omega)]
        rfl
      ·have h10 : ((List.range 100).map g).getD edges[j].2 0 ≠ l + 1 := by
        intro e
        apply h10
        show (((((List.range 100).map g).getD edges[j].2 0 : Nat) : Int) == ((l + 1 : Nat) : Int)) = true
        rw [beq_iff_eq,e]
       conv => whnf
       refine ⟨(j + 1,nx),⟨by show j + 1 ≤ edges.length; omega,by rw [hnext]; rw [if_neg (by simp only [Bool.and_eq_true,beq_iff_eq,bne_iff_ne]; rintro ⟨⟨q1,q2⟩,q3⟩; exact h10 q3)]⟩,by show edges.length - (j + 1) < edges.length - j; omega,⟨rfl,rfl,rfl,rfl,rfl,rfl,rfl,rfl,rfl,rfl,?_,trivial⟩,⟨rfl,rfl,trivial⟩⟩
       show AV.d (.int .i64 (IntKind.i64.wrap ((j : Int) + 1))) = i64 ((j + 1 : Nat) : Int)
       rw [zE (by omega) (by omega)]
       rfl
     ·have h9 : edges[j].2 = n := by
       have h8 : ¬ ((edges[j].2 : Int) != (n : Int)) = true := h9
       rw [bne_iff_ne,ne_eq,Classical.not_not] at h8
       omega
      conv => whnf
      refine ⟨(j + 1,nx),⟨by show j + 1 ≤ edges.length; omega,by rw [hnext]; rw [if_neg (by simp only [Bool.and_eq_true,beq_iff_eq,bne_iff_ne]; rintro ⟨⟨q1,q2⟩,q3⟩; exact q2 h9)]⟩,by show edges.length - (j + 1) < edges.length - j; omega,⟨rfl,rfl,rfl,rfl,rfl,rfl,rfl,rfl,rfl,rfl,?_,trivial⟩,⟨rfl,rfl,trivial⟩⟩
      show AV.d (.int .i64 (IntKind.i64.wrap ((j : Int) + 1))) = i64 ((j + 1 : Nat) : Int)
      rw [zE (by omega) (by omega)]
      rfl
    ·have h7 : edges[j].1 ≠ a := by
      intro e
      apply h7
      show ((edges[j].1 : Int) == (a : Int)) = true
      rw [beq_iff_eq,e]
     conv => whnf
     refine ⟨(j + 1,nx),⟨by show j + 1 ≤ edges.length; omega,by rw [hnext]; rw [if_neg (by simp only [Bool.and_eq_true,beq_iff_eq,bne_iff_ne]; rintro ⟨⟨q1,q2⟩,q3⟩; exact h7 q1)]⟩,by show edges.length - (j + 1) < edges.length - j; omega,⟨rfl,rfl,rfl,rfl,rfl,rfl,rfl,rfl,rfl,rfl,?_,trivial⟩,⟨rfl,rfl,trivial⟩⟩
     show AV.d (.int .i64 (IntKind.i64.wrap ((j : Int) + 1))) = i64 ((j + 1 : Nat) : Int)
     rw [zE (by omega) (by omega)]
     rfl
   ·have hje : edges.length ≤ j := by simpa using h6
    have hjj : j = edges.length := by omega
    rw [hjj,List.take_length] at hnx
    have hnx : nx = nextI edges ((List.range 100).map g) n a (l + 1) := hnx
    conv => whnf
    refine ⟨⟨rfl,by show (o.length + 1) * 8 ≤ _; omega,by show o.length + 1 ≤ _; omega⟩,?_⟩
    conv => whnf
    refine ⟨(l,o ++ [nx],nx),⟨by show iJ edges ((List.range 100).map g) n l (o ++ [nx]) nx = _; rw [← hw,hnx]; rfl,by show l + (o ++ [nx]).length = fn; simp; omega,by show (o ++ [nx]).length ≥ 1; simp⟩,by show l < l + 1; omega,⟨rfl,rfl,rfl,?_,rfl,?_,rfl,trivial⟩,⟨rfl,?_,trivial⟩⟩
    ·show AV.ref (.n 23) 0 (o.length + 1) = .ref (.n 23) 0 (o ++ [nx]).length
     rw [List.length_append]; rfl
    ·show AV.d (.int .i64 (IntKind.i64.wrap (((l + 1 : Nat) : Int) - 1))) = i64 ((l : Nat) : Int)
     rw [zE (by omega) (by omega)]
     congr 2
     omega
    ·show some (Ob.ds 3 1 ((o.map xE).take o.length ++ [xE nx])) = some (Ob.ds 3 1 ((o ++ [nx]).map xE))
     rw [List.take_of_length_le (by simp)]
     simp
  ·have h5 : left = 0 := by
    have : ¬ (left : Int) > 0 := fun e => h5 (decide_eq_true e)
    omega
   subst h5
   conv => whnf
   refine .inl ?_
   conv => whnf
   have hoe : gT edges n = some o := by rw [hcy,← hw]; rfl
   rw [cycOf_at h hno hoe (by have : 1 ≤ o.length := ho1; intro e; rw [e] at this; simp at this)]
   have ho1 : 1 ≤ o.length := ho1
   show AV.tup [AV.d (.sl ((o.map xE).take o.length)),bv true] = _
   rw [List.take_of_length_le (by simp)]
   cases o with
   |nil => simp at ho1
   |cons x xs => rfl
 ·have h : n = 100 := by
   have : ¬ (n : Int) < 100 := fun e => h (decide_eq_true e)
   omega
  subst h
  have h0 : pR edges = [] := by
   unfold pR
   have : (List.range 100).findSome? (fun n => match gT edges n with | some (x :: xs) => some (x :: xs) | _ => none) = none := by
    rw [List.findSome?_eq_none_iff]
    intro k hk
    rw [hno k (by simpa using hk)]
   rw [this]; rfl
  conv => whnf
  rw [h0]
  refine .inl ?_
  conv => whnf
  rfl
end Ai
end
section
namespace Ai.Cyc
theorem eK {goal cur : Nat} : ∀ (es : List (Nat × Nat)) (st : BS),(∀ e ∈ es,e.2 ≠ cur) → es.foldl (bsE goal cur) st = st
 | [],st,h => rfl
 |e :: es,st,h => by
  have : bsE goal cur st e = st := by
   unfold bsE
   rw [if_pos (by rw [Bool.or_eq_true]; exact .inl (bne_iff_ne.2 (h e List.mem_cons_self)))]
  rw [List.foldl_cons,this]
  exact eK es st fun x hx => h x (List.mem_cons_of_mem _ hx)
theorem run_far {n : Nat} {edges : List (Nat × Nat)} (h : ∀ e ∈ edges,e.2 ≠ n) : qL n edges 7 0 (bs0 n) = some (bs0 n) := by
 unfold qL
 rw [if_pos (by simp [bs0])]
 rw [show (bs0 n).queue.getD 0 0 = n from rfl,eK edges _ h]
 unfold qL
 rw [if_neg (by simp [bs0])]
theorem cycI_far {n : Nat} {edges : List (Nat × Nat)} (h : ∀ e ∈ edges,e.2 ≠ n) : gT edges n = some [] := by
 unfold gT
 rw [run_far h]
 have : (bs0 n).out.getD n 0 = 0 := by
  simp only [bs0,List.getD_eq_getElem?_getD,List.getElem?_replicate]
  split <;> rfl
 show (if (bs0 n).out.getD n 0 = 0 then some [] else _) = _
 rw [if_pos this]
theorem cycS_far {n : Nat} {edges : List (Nat × Nat)} (h : ∀ e ∈ edges,e.1 ≠ n) : bY edges n = some [] := by
 have hf : edges.find? (fun e => e.1 == n) = none := by
  rw [List.find?_eq_none]
  intro e he
  simpa using h e he
 unfold bY fI
 rw [if_pos (by simp)]
 have : (([[n]] : List (List Nat)).getD 0 []).getLastD 0 = n := rfl
 rw [this,hf]
 unfold fI
 rw [if_neg (by simp)]
structure Graph (edges : List (Nat × Nat)) : Prop where
 g : ∃ a b c d e : Option Nat,(a ∈ opts ∧ b ∈ opts ∧ c ∈ opts ∧ d ∈ opts ∧ e ∈ opts) ∧ edges = ed 0 a ++ ed 1 b ++ ed 2 c ++ ed 3 d ++ ed 4 e
theorem r8 {k : Nat} {o : Option Nat} (ho : o ∈ opts) (hk : k < 5) : ∀ e ∈ ed k o,e.1 < 5 ∧ e.2 < 5 := by
 intro e he
 simp only [opts,List.mem_cons,List.not_mem_nil,or_false] at ho
 rcases ho with rfl | rfl | rfl | rfl | rfl | rfl <;> simp [ed] at he <;> subst he <;> exact ⟨hk,by simp⟩
theorem Graph.small {edges : List (Nat × Nat)} (h : Graph edges) : ∀ e ∈ edges,e.1 < 5 ∧ e.2 < 5 := by
 obtain ⟨a,b,c,d,e,⟨ha,hb,hc,hd,he⟩,rfl⟩ := h.g
 intro x hx
 simp only [List.mem_append] at hx
 rcases hx with (((hx | hx) | hx) | hx) | hx
 ·exact r8 ha (by decide) x hx
 ·exact r8 hb (by decide) x hx
 ·exact r8 hc (by decide) x hx
 ·exact r8 hd (by decide) x hx
 ·exact r8 he (by decide) x hx
theorem tP (k : Nat) (o : Option Nat) : (ed k o).length ≤ 1 := by cases o <;> simp [ed]
theorem Graph.len {edges : List (Nat × Nat)} (h : Graph edges) : edges.length ≤ 5 := by
 obtain ⟨a,b,c,d,e,-,rfl⟩ := h.g
 simp only [List.length_append]
 have := tP 0 a; have := tP 1 b; have := tP 2 c; have := tP 3 d; have := tP 4 e
 omega
theorem Graph.same {edges : List (Nat × Nat)} (h : Graph edges) (n : Nat) : (gT edges n).isSome = true ∧ gT edges n = bY edges n := by
 by_cases hn : n < 5
 ·obtain ⟨a,b,c,d,e,⟨ha,hb,hc,hd,he⟩,rfl⟩ := h.g
  have := ok_all a b c d e ha hb hc hd he
  simp only [ok,List.all_eq_true,List.mem_range,Bool.and_eq_true,beq_iff_eq] at this
  exact this n hn
 ·have h1 : gT edges n = some [] := cycI_far fun e he => by have := h.small e he; omega
  have h2 : bY edges n = some [] := cycS_far fun e he => by have := h.small e he; omega
  rw [h1,h2]
  exact ⟨rfl,rfl⟩
theorem Graph.run {edges : List (Nat × Nat)} (h : Graph edges) (n : Nat) : (qL n edges 7 0 (bs0 n)).isSome = true := by
 have := (h.same n).1
 unfold gT at this
 cases hr : qL n edges 7 0 (bs0 n) with
 |none => rw [hr] at this; cases this
 |some x => rfl
end Ai.Cyc
end
section
set_option maxRecDepth 100000
namespace Ai
open Go Go.Proofs Cyc
def xS (edges : List (Nat × Nat)) : List Nat := ((List.range 100).findSome? fun n => match bY edges n with | some (x :: xs) => some (x :: xs) | _ => none).getD []
theorem cyc_same {edges : List (Nat × Nat)} (h : Graph edges) : pR edges = xS edges := by
 unfold pR xS
 refine congrArg (fun f => ((List.range 100).findSome? f).getD []) (funext fun n => ?_)
 have e := (h.same n).2
 generalize gT edges n = a at e ⊢
 subst e
 cases bY edges n with
 |none => rfl
 |some l => cases l <;> rfl
theorem cycS_at {edges : List (Nat × Nat)} {n : Nat} {o : List Nat} (h : n < 100) (hno : ∀ k,k < n → bY edges k = some []) (ho : bY edges n = some o) (hne : o ≠ []) : xS edges = o := by
 unfold xS
 have hs : List.range 100 = (List.range 100).take n ++ n :: (List.range 100).drop (n + 1) := by
  have := (List.take_append_drop n (List.range 100)).symm
  rw [List.drop_eq_getElem_cons (by simp; omega),List.getElem_range] at this
  exact this
 have hf : (List.range 100).findSome? (fun n => match bY edges n with | some (x :: xs) => some (x :: xs) | _ => none) = some o := by
  rw [List.findSome?_eq_some_iff]
  refine ⟨_,n,_,hs,?_,fun x hx => ?_⟩
  ·rw [ho]
   cases o with
   |nil => exact absurd rfl hne
   |cons x xs => rfl
  ·obtain ⟨i,hi,rfl⟩ := List.mem_iff_getElem.1 hx
   have hi2 : i < n := by
    have := hi
    simp at this
    omega
   rw [List.getElem_take,List.getElem_range,hno i hi2]
 rw [hf]
 rfl
theorem l3Cycle_ok (edges : List (Nat × Nat)) (hG : Graph edges) (hW : ∀ n w,n < 100 → bY edges n = some w → CallsTo EE 162 [sl (edges.map vK),i64 n,i64 n] (· = sl (w.map xE))) :
  CallsTo EE 129 [sl (edges.map vK)] (· = sl ((xS edges).map xE)) := by
 refine callsTo_of_AW (fn := Tryz.f129) Tryz.func129 rfl (by kernel_rfl) rfl ?_
 conv => whnf
 refine yR (fun n : Nat => [(0,sl (edges.map vK)),(3,i64 n)]) (fun n => []) (fun n => 100 - n) (fun n => n ≤ 100 ∧ ∀ k,k < n → bY edges k = some []) 0
  Weak.refl ⟨rfl,rfl,trivial⟩ trivial ⟨Nat.zero_le _,fun k hk => by omega⟩ ?_
 rintro n τ H ⟨hn,hno⟩
 conv => whnf
 refine kbi (fun h => ?_) (fun h => ?_)
 ·have h : n < 100 := by
   have := of_decide_eq_true h
   omega
  obtain ⟨w,hw⟩ : ∃ w,bY edges n = some w := by
   have := (hG.same n).1
   rw [(hG.same n).2] at this
   exact Option.isSome_iff_exists.1 this
  conv => whnf
  refine ⟨_,hW n w h hw,?_⟩
  rintro r rfl
  conv => whnf
  refine kbi (fun h0 => ?_) (fun h0 => ?_)
  ·have h0 : 0 < w.length := by
    have := of_decide_eq_true h0
    simpa using this
   conv => whnf
   rw [cycS_at h hno hw (by intro e; rw [e] at h0; simp at h0)]
   try rfl
  ·have h0 : w = [] := by
    have h1 : ¬ ((w.map xE).length : Int) > 0 := fun e => h0 (decide_eq_true e)
    have : w.length = 0 := by simp at h1; simpa using h1
    exact List.length_eq_zero_iff.1 this
   subst h0
   conv => whnf
   refine ⟨n + 1,⟨by omega,fun k hk => ?_⟩,by show 100 - (n + 1) < 100 - n; omega,⟨rfl,?_,trivial⟩,trivial⟩
   ·by_cases hkn : k = n
    ·rw [hkn]; exact hw
    ·exact hno k (by omega)
   ·show AV.d (.int .i64 (IntKind.i64.wrap ((n : Int) + 1))) = i64 ((n + 1 : Nat) : Int)
    rw [zE (by omega) (by omega)]
    rfl
 ·have h : n = 100 := by
   have : ¬ (n : Int) < 100 := fun e => h (decide_eq_true e)
   omega
  subst h
  have h0 : xS edges = [] := by
   unfold xS
   have : (List.range 100).findSome? (fun n => match bY edges n with | some (x :: xs) => some (x :: xs) | _ => none) = none := by
    rw [List.findSome?_eq_none_iff]
    intro k hk
    rw [hno k (by simpa using hk)]
   rw [this]; rfl
  conv => whnf
  rw [h0]
  exact .inl rfl
end Ai
end
section
set_option maxRecDepth 100000
namespace Ai
open Go Go.Proofs
theorem dash_ok (l : List UInt8) : CallsTo EE 100 [sv l] (· = sv (if l = [] then [45] else l)) := by
 refine callsTo_of_AW (fn := Tryz.f100) Tryz.func100 rfl (by kernel_rfl) rfl ?_
 conv => whnf
 refine kbi (fun h => ?_) (fun h => ?_)
 ·have h : l = [] := by simpa using h
  conv => whnf
  rw [if_pos h]
  try rfl
 ·have h : ¬ l = [] := by simpa using h
  conv => whnf
  rw [if_neg h]
  try rfl
theorem sZ (xs : List Nat) (hl : xs.length ≤ 1000) (hx : ∀ x ∈ xs,x ≤ 1000000) (hlen : (Lib.join (xs.map fun x => Lib.itoa ((x : Nat) : Int)) [44]).length ≤ 140737488355328) :
  CallsTo EE 101 [sl (xs.map xE)] (· = sv (Lib.join (xs.map fun x => Lib.itoa ((x : Nat) : Int)) [44])) := by
 refine callsTo_of_AW (fn := Tryz.f101) Tryz.func101 rfl (by kernel_rfl) rfl ?_
 conv => whnf
 refine yR (fun k : Nat => [(0,sl (xs.map xE)),(3,.ref (.n 6) 0 k),(7,sl (xs.map xE)),(8,i64 (xs.map xE).length),(9,i64 k)]) (fun k => [(.n 6,.ds 9 1 (((xs.take k).map fun x => Lib.itoa ((x : Nat) : Int)).map gS))]) (fun k => xs.length - k) (fun k => k ≤ xs.length) 0
  Weak.refl ⟨rfl,rfl,rfl,rfl,rfl,trivial⟩ ⟨rfl,trivial⟩ (Nat.zero_le _) ?_
 intro k τ H hk
 have hk : k ≤ xs.length := hk
 conv => whnf
 refine kbi (fun h => ?_) (fun h => ?_)
 ·have hlt : k < xs.length := by simpa using h
  have hxk := hx _ (List.getElem_mem hlt)
  conv => whnf
  refine ⟨xE xs[k],⟨by omega,by simp [hlt],rfl⟩,?_⟩
  conv => whnf
  refine ⟨_,Itoa_ok ((xs[k] : Nat) : Int) (by omega) (by omega),?_⟩
  rintro r rfl
  conv => whnf
  refine ⟨⟨rfl,by show (k + 1) * 16 ≤ _; omega,by show k + 1 ≤ _; omega⟩,?_⟩
  conv => whnf
  refine ⟨k + 1,by show k + 1 ≤ xs.length; omega,by show xs.length - (k + 1) < xs.length - k; omega,⟨rfl,rfl,rfl,rfl,?_,trivial⟩,⟨?_,trivial⟩⟩
  ·show AV.d (.int .i64 (IntKind.i64.wrap ((k : Int) + 1))) = i64 ((k + 1 : Nat) : Int)
   rw [zE (by omega) (by omega)]
   rfl
  ·show some (Ob.ds 9 1 ((((xs.take k).map fun x => Lib.itoa ((x : Nat) : Int)).map gS).take k ++ [gS (Lib.itoa ((xs[k] : Nat) : Int))])) = some (Ob.ds 9 1 (((xs.take (k + 1)).map fun x => Lib.itoa ((x : Nat) : Int)).map gS))
   have e0 : (((xs.take k).map fun x => Lib.itoa ((x : Nat) : Int)).map gS).take k = ((xs.take k).map fun x => Lib.itoa ((x : Nat) : Int)).map gS := List.take_of_length_le (by simp; omega)
   rw [e0,List.take_succ_eq_append_getElem hlt,List.map_append,List.map_append]
   rfl
 ·have hge : xs.length ≤ k := by simpa using h
  have hkk : k = xs.length := by omega
  subst hkk
  conv => whnf
  have e : ((((xs.take xs.length).map fun x => Lib.itoa ((x : Nat) : Int)).map gS).drop 0).take xs.length = (xs.map fun x => Lib.itoa ((x : Nat) : Int)).map gS := by
   rw [List.drop_zero,List.take_length,List.take_of_length_le (by simp)]
  refine .inl ⟨_,Eq.mp (congrArg (fun x => CallsTo EE 139 [sl x,sv [44]] _) e.symm) (Join_ok (xs.map fun x => Lib.itoa ((x : Nat) : Int)) [44] (by simp; omega) hlen),?_⟩
  rintro r rfl
  refine ⟨rfl,?_⟩
  conv => whnf
  try rfl
end Ai
end
section
set_option maxRecDepth 100000
namespace Ai
open Go Go.Proofs Cyc
theorem l1Put0_ok (n : Int) : CallsTo EE 195 [sl [],i64 n] (· = .uq 3 1 [[di n]]) := by
 refine callsTo_of_AW (fn := Tryz.f195) Tryz.func195 rfl (by kernel_rfl) rfl ?_
 conv => whnf
 refine yR (fun _ : Unit => [(0,sl []),(1,i64 n),(5,i64 0)]) (fun _ => []) (fun _ => 0) (fun _ => True) ()
  Weak.refl ⟨rfl,rfl,rfl,trivial⟩ trivial trivial ?_
 rintro ⟨⟩ τ H -
 conv => whnf
 refine kbi (fun h => absurd h (by decide)) (fun h => ?_)
 conv => whnf
 refine kbi (fun h2 => absurd h2 (by decide)) (fun h2 => ?_)
 conv => whnf
 refine ⟨⟨Int.le_refl _,Int.le_refl _,Int.le_refl _,fun c hc => (by cases hc)⟩,?_⟩
 conv => whnf
 refine ⟨⟨rfl,by decide,by decide⟩,?_⟩
 conv => whnf
 refine ⟨⟨rfl,by show (8 : Nat) ≤ _; decide,by show (1 : Nat) ≤ _; decide⟩,?_⟩
 conv => whnf
 refine ⟨⟨Int.le_refl _,Int.le_refl _,Int.le_refl _,fun c hc => (by cases hc)⟩,?_⟩
 conv => whnf
 refine ⟨⟨rfl,by show (8 : Nat) ≤ _; decide,by show (1 : Nat) ≤ _; decide⟩,?_⟩
 conv => whnf
 try rfl
end Ai
end
section
set_option maxRecDepth 100000
namespace Ai
open Go Go.Proofs Cyc
def tN (w : List Nat) : List D := [.sl (w.map xE)]
def OneEach (edges : List (Nat × Nat)) : Prop := ∀ i j (hi : i < edges.length) (hj : j < edges.length),edges[i].1 = edges[j].1 → i = j
def nxv : Option Nat → AV
 |none => .d .nil
 |some b => .d (.sl [[di (b : Int)]])
theorem l3Way_ok (edges : List (Nat × Nat)) (n : Nat) (w : List Nat) (hl : edges.length ≤ 5) (ho : OneEach edges) (hw : fI edges n 8 0 [[n]] [] = some w) :
  CallsTo EE 162 [sl (edges.map vK),i64 n,i64 n] (· = sl (w.map xE)) := by
 refine callsTo_of_AW (fn := Tryz.f162) Tryz.func162 rfl (by kernel_rfl) rfl ?_
 conv => whnf
 refine .inl ?_
 conv => whnf
 refine yR (fun x : Nat × List (List Nat) × List Nat => [(0,sl (edges.map vK)),(1,i64 n),(2,i64 n),(6,.d .nil),(7,.ref (.n 18) 0 x.2.1.length),(8,.ref (.n 68) 0 x.2.2.length),(9,i64 x.1)])
  (fun x => [(.n 18,.ds 25 1 (x.2.1.map tN)),(.n 68,.ds 3 1 (x.2.2.map xE))]) (fun x => 8 - x.1)
  (fun x => ∃ f,f + x.1 = 8 ∧ fI edges n f x.1 x.2.1 x.2.2 = some w ∧ x.2.1.length ≤ x.1 + 1 ∧ (∀ v ∈ x.2.1,1 ≤ v.length ∧ v.length ≤ x.1 + 1) ∧ x.2.2.length ≤ x.1) (0,[[n]],[])
  (weak_nil 8 (.n 68) 3 1 rfl) ?_ ?_ ⟨8,rfl,hw,by simp,by simp,by simp⟩ ?_
 ·exact ⟨rfl,rfl,rfl,rfl,rfl,rfl,rfl,trivial⟩
 ·exact ⟨rfl,rfl,trivial⟩
 rintro ⟨i,ways,seen⟩ τ H ⟨f,hf,hrun,hwl,hne,hsl⟩
 cases f with
 |zero => cases hrun
 |succ f =>
 have hf : f + 1 + i = 8 := hf
 have hrun : fI edges n (f + 1) i ways seen = some w := hrun
 have hwl : ways.length ≤ i + 1 := hwl
 have hne : ∀ v ∈ ways,1 ≤ v.length ∧ v.length ≤ i + 1 := hne
 have hsl : seen.length ≤ i := hsl
 conv => whnf
 refine kbi (fun hi => ?_) (fun hi => ?_)
 ·have hi : i < ways.length := by
   have := of_decide_eq_true hi
   simpa using this
  have hwi := hne _ (List.getElem_mem hi)
  have hgd : ways.getD i [] = ways[i] := by simp [List.getD_eq_getElem?_getD,hi]
  unfold fI at hrun
  rw [if_pos hi,hgd] at hrun
  generalize hv : ways[i] = v at *
  have hvl : v.getLastD 0 = v.getD (v.length - 1) 0 := by
   rw [List.getLastD_eq_getLast?,List.getLast?_eq_getElem?,List.getD_eq_getElem?_getD]
  conv => whnf
  refine ⟨⟨by omega,by show (i : Int) < ways.length; omega⟩,?_⟩
  conv => whnf
  refine ⟨tN v,⟨by rw [Nat.zero_add]; show (ways.map tN)[i]? = _; rw [List.getElem?_map,List.getElem?_eq_getElem hi,hv]; rfl,by show 0 + 1 ≤ 1; omega⟩,?_⟩
  conv => whnf
  have ewl : IntKind.i64.wrap ((v.length : Int) - 1) = ((v.length - 1 : Nat) : Int) := by rw [zE (by omega) (by omega)]; omega
  generalize hlast : v.getLastD 0 = last at *
  refine yR (fun y : Nat × Option Nat => [(0,sl (edges.map vK)),(1,i64 n),(2,i64 n),(6,.d .nil),(7,.ref (.n 18) 0 ways.length),(8,.ref (.n 68) 0 seen.length),(9,i64 i),(10,sl (v.map xE)),(11,nxv y.2),(29,sl (edges.map vK)),(30,i64 (edges.map vK).length),(31,i64 y.1)])
   (fun y => [(.n 18,.ds 25 1 (ways.map tN)),(.n 68,.ds 3 1 (seen.map xE))]) (fun y => edges.length - y.1)
   (fun y => y.1 ≤ edges.length ∧ y.2 = ((edges.take y.1).find? (fun e => e.1 == last)).map (·.2)) (0,none)
   Weak.refl ⟨rfl,rfl,rfl,rfl,rfl,rfl,rfl,rfl,rfl,rfl,rfl,rfl,trivial⟩ ⟨rfl,rfl,trivial⟩ ⟨Nat.zero_le _,rfl⟩ ?_
  rintro ⟨j,q⟩ τ2 H2 ⟨hj,hq⟩
  have hj : j ≤ edges.length := hj
  have hq : q = ((edges.take j).find? (fun e => e.1 == last)).map (·.2) := hq
  conv => whnf
  refine kbi (fun hje => ?_) (fun hje => ?_)
  ·have hje : j < edges.length := by simpa using hje
   have hnext : (edges.take (j + 1)).find? (fun e => e.1 == last) = ((edges.take j).find? (fun e => e.1 == last)).or (if edges[j].1 == last then some edges[j] else none) := by
    rw [List.take_succ_eq_append_getElem hje,List.find?_append]
    congr 1
    simp only [List.find?_cons]
    cases (edges[j].1 == last) <;> rfl
   conv => whnf
   refine ⟨vK edges[j],⟨by omega,by simp [hje],rfl⟩,?_⟩
   conv => whnf
   refine ⟨by kernel_rfl,?_⟩
   conv => whnf
   refine ⟨[di edges[j].1],⟨by decide,rfl,rfl⟩,?_⟩
   conv => whnf
   refine ⟨xE last,⟨?_,?_,rfl⟩,?_⟩
   ·show (0 : Int) ≤ IntKind.i64.wrap (((v.map xE).length : Int) - 1)
    rw [List.length_map,ewl]; omega
   ·show (v.map xE)[(IntKind.i64.wrap (((v.map xE).length : Int) - 1)).toNat]? = _
    rw [List.length_map,ewl,hvl,List.getElem?_map,List.getD_eq_getElem?_getD]
    show (v[v.length - 1]?).map xE = _
    rw [List.getElem?_eq_getElem (by omega)]
    rfl
   conv => whnf
   refine kbi (fun h7 => ?_) (fun h7 => ?_)
   ·have h7 : edges[j].1 = last := by
     have h8 : ((edges[j].1 : Int) == (last : Int)) = true := h7
     rw [beq_iff_eq] at h8
     omega
    have hnone : (edges.take j).find? (fun e => e.1 == last) = none := by
     rw [List.find?_eq_none]
     intro e he
     obtain ⟨k,hk,rfl⟩ := List.mem_take_iff_getElem.1 he
     intro e2
     have e2 : edges[k].1 = last := by simpa using e2
     have := ho k j (by omega) hje (by rw [e2,h7])
     omega
    rw [hnone] at hq hnext
    have hq : q = none := hq
    subst hq
    conv => whnf
    refine ⟨[di edges[j].2],⟨by decide,rfl,rfl⟩,?_⟩
    conv => whnf
    refine ⟨_,l1Put0_ok (edges[j].2 : Int),?_⟩
    rintro r rfl
    refine .inl ?_
    conv => whnf
    refine ⟨(j + 1,some edges[j].2),⟨by show j + 1 ≤ edges.length; omega,by show some edges[j].2 = _; rw [hnext,h7]; simp⟩,by show edges.length - (j + 1) < edges.length - j; omega,⟨rfl,rfl,rfl,rfl,rfl,rfl,rfl,rfl,rfl,rfl,rfl,?_,trivial⟩,⟨rfl,rfl,trivial⟩⟩
    show AV.d (.int .i64 (IntKind.i64.wrap ((j : Int) + 1))) = i64 ((j + 1 : Nat) : Int)
    rw [zE (by omega) (by omega)]
    rfl
   ·have h7 : edges[j].1 ≠ last := by
     intro e
     apply h7
     show ((edges[j].1 : Int) == (last : Int)) = true
     rw [beq_iff_eq,e]
    conv => whnf
    refine ⟨(j + 1,q),⟨by show j + 1 ≤ edges.length; omega,by show q = _; rw [hnext,hq]; simp [h7]⟩,by show edges.length - (j + 1) < edges.length - j; omega,⟨rfl,rfl,rfl,rfl,rfl,rfl,rfl,rfl,rfl,rfl,rfl,?_,trivial⟩,⟨rfl,rfl,trivial⟩⟩
    show AV.d (.int .i64 (IntKind.i64.wrap ((j : Int) + 1))) = i64 ((j + 1 : Nat) : Int)
    rw [zE (by omega) (by omega)]
    rfl
  ·have hje : edges.length ≤ j := by simpa using hje
   have hjj : j = edges.length := by omega
   rw [hjj,List.take_length] at hq
   cases hfd : edges.find? (fun e => e.1 == last) with
   |none =>
    rw [hfd] at hq hrun
    have hq : q = none := hq
    subst hq
    conv => whnf
    refine yR (fun _ : Unit => [(0,sl (edges.map vK)),(1,i64 n),(2,i64 n),(6,.d .nil),(7,.ref (.n 18) 0 ways.length),(8,.ref (.n 68) 0 seen.length),(9,i64 i),(52,i64 0),(53,i64 0)])
     (fun _ => [(.n 18,.ds 25 1 (ways.map tN)),(.n 68,.ds 3 1 (seen.map xE))]) (fun _ => 0) (fun _ => True) ()
     Weak.refl ⟨rfl,rfl,rfl,rfl,rfl,rfl,rfl,rfl,rfl,trivial⟩ ⟨rfl,rfl,trivial⟩ trivial ?_
    rintro ⟨⟩ τ3 H3 -
    conv => whnf
    refine kbi (fun h8 => absurd h8 (by decide)) (fun h8 => ?_)
    conv => whnf
    refine ⟨(i + 1,ways,seen),⟨f,by show f + (i + 1) = 8; omega,hrun,by show ways.length ≤ i + 1 + 1; omega,fun v hv => ⟨(hne v hv).1,Nat.le_succ_of_le (hne v hv).2⟩,Nat.le_succ_of_le hsl⟩,by show 8 - (i + 1) < 8 - i; omega,⟨rfl,rfl,rfl,rfl,rfl,rfl,?_,trivial⟩,⟨rfl,rfl,trivial⟩⟩
    show AV.d (.int .i64 (IntKind.i64.wrap ((i : Int) + 1))) = i64 ((i + 1 : Nat) : Int)
    rw [zE (by omega) (by omega)]
    rfl
   |some e =>
    rw [hfd] at hq hrun
    have hq : q = some e.2 := hq
    subst hq
    conv => whnf
    have hrun : (if e.2 = n then some v else if seen.contains e.2 = true then fI edges n f (i + 1) ways seen else fI edges n f (i + 1) (ways ++ [v ++ [e.2]]) (seen ++ [e.2])) = some w := hrun
    refine yR (fun z : Nat × List (List Nat) × List Nat => [(0,sl (edges.map vK)),(1,i64 n),(2,i64 n),(6,.d .nil),(7,.ref (.n 18) 0 z.2.1.length),(8,.ref (.n 68) 0 z.2.2.length),(9,i64 i),(10,sl (v.map xE)),(51,.d (.sl [[di (e.2 : Int)]])),(52,i64 1),(53,i64 z.1)])
     (fun z => [(.n 18,.ds 25 1 (z.2.1.map tN)),(.n 68,.ds 3 1 (z.2.2.map xE))]) (fun z => 1 - z.1)
     (fun z => (z.1 = 0 ∧ z.2.1 = ways ∧ z.2.2 = seen) ∨ (z.1 = 1 ∧ fI edges n f (i + 1) z.2.1 z.2.2 = some w ∧ z.2.1.length ≤ i + 2 ∧ (∀ v ∈ z.2.1,1 ≤ v.length ∧ v.length ≤ i + 2) ∧ z.2.2.length ≤ i + 1)) (0,ways,seen)
     Weak.refl ⟨rfl,rfl,rfl,rfl,rfl,rfl,rfl,rfl,rfl,rfl,rfl,trivial⟩ ⟨rfl,rfl,trivial⟩ (.inl ⟨rfl,rfl,rfl⟩) ?_
    rintro ⟨k,W,Sn⟩ τ3 H3 hz
    rcases hz with ⟨hk,hW,hS⟩ | ⟨hk,hrun2,hWl,hWn,hSl⟩
    ·obtain rfl : k = 0 := hk
     obtain rfl : W = ways := hW
     obtain rfl : Sn = seen := hS
     conv => whnf
     refine kbi (fun _ => ?_) (fun h8 => absurd (show decide ((0 : Int) < 1) = true from rfl) h8)
     conv => whnf
     refine ⟨[di (e.2 : Int)],⟨Int.le_refl _,rfl,rfl⟩,?_⟩
     conv => whnf
     refine kbi (fun h9 => ?_) (fun h9 => ?_)
     ·have h9 : e.2 = n := by
       have h8 : ((e.2 : Int) == (n : Int)) = true := h9
       rw [beq_iff_eq] at h8
       omega
      rw [if_pos h9] at hrun
      obtain rfl := Option.some.inj hrun
      conv => whnf
      try rfl
     have h9 : e.2 ≠ n := by
      intro q
      apply h9
      show ((e.2 : Int) == (n : Int)) = true
      rw [beq_iff_eq,q]
     rw [if_neg h9] at hrun
     conv => whnf
     have hsn : ((Sn.map xE).drop 0).take Sn.length = (Sn.map fun x => ((x : Nat) : Int)).map encInt := by
      rw [List.drop_zero,List.take_of_length_le (by simp),List.map_map]; rfl
     refine .inl ⟨_,l1Has_at _ (Sn.map fun x => ((x : Nat) : Int)) (e.2 : Int) hsn (by simp; omega),?_⟩
     rintro r rfl
     refine ⟨rfl,?_⟩
     by_cases hc : e.2 ∈ Sn
     ·rw [if_pos (by simpa using hc)] at hrun
      simp only [bp,sI (show ((e.2 : Nat) : Int) ∈ Sn.map fun x => ((x : Nat) : Int) from List.mem_map.2 ⟨e.2,hc,rfl⟩)]
      conv => whnf
      refine ⟨(1,W,Sn),.inr ⟨rfl,hrun,by show W.length ≤ i + 2; omega,fun v hv => ⟨(hne v hv).1,Nat.le_succ_of_le (hne v hv).2⟩,by show Sn.length ≤ i + 1; omega⟩,by show 1 - 1 < 1 - 0; omega,⟨rfl,rfl,rfl,rfl,rfl,rfl,rfl,rfl,rfl,rfl,rfl,trivial⟩,⟨rfl,rfl,trivial⟩⟩
     ·rw [if_neg (by simpa using hc)] at hrun
      have hm2 : ¬ ((e.2 : Nat) : Int) ∈ Sn.map fun x => ((x : Nat) : Int) := by
       intro hm
       obtain ⟨x,hx,hx2⟩ := List.mem_map.1 hm
       have hxe : x = e.2 := by omega
       rw [hxe] at hx
       exact hc hx
      simp only [bp,iY hm2]
      conv => whnf
      refine ⟨⟨rfl,by show (Sn.length + 1) * 8 ≤ _; omega,by show Sn.length + 1 ≤ _; omega⟩,?_⟩
      conv => whnf
      have hvq : v.map xE = (v.map fun x => ((x : Nat) : Int)).map encInt := by rw [List.map_map]; rfl
      refine ⟨_,Eq.mp (congrArg (fun x => CallsTo EE 83 [sl x] _) hvq.symm) (l1Own_ok (v.map fun x => ((x : Nat) : Int)) (by simp; omega)),?_⟩
      rintro r rfl
      rw [← hvq]
      refine .inr ⟨71,rfl,?_⟩
      conv => whnf
      refine ⟨⟨rfl,by show ((v.map xE).length + 1) * 8 ≤ _; simp; omega,by show (v.map xE).length + 1 ≤ _; simp; omega⟩,?_⟩
      conv => whnf
      refine .inl ?_
      conv => whnf
      have evw : (((v.map xE).take (v.map xE).length ++ [[di (e.2 : Int)]]).drop 0).take ((v.map xE).length + 1) = (v ++ [e.2]).map xE := by
       rw [List.take_length,List.drop_zero,List.take_of_length_le (by simp),List.map_append]; rfl
      refine ⟨⟨rfl,by show (W.length + 1) * 24 ≤ _; omega,by show W.length + 1 ≤ _; omega⟩,?_⟩
      conv => whnf
      refine ⟨(1,W ++ [v ++ [e.2]],Sn ++ [e.2]),.inr ⟨rfl,hrun,by show (W ++ [v ++ [e.2]]).length ≤ i + 2; simp; omega,fun u hu => ?_,by show (Sn ++ [e.2]).length ≤ i + 1; simp; omega⟩,by show 1 - 1 < 1 - 0; omega,⟨rfl,rfl,rfl,rfl,?_,?_,rfl,rfl,rfl,rfl,rfl,trivial⟩,⟨?_,?_,trivial⟩⟩
      ·rcases List.mem_append.1 hu with hu | hu
       ·exact ⟨(hne u hu).1,Nat.le_succ_of_le (hne u hu).2⟩
       ·simp only [List.mem_cons,List.not_mem_nil,or_false] at hu
        subst hu
        simp; omega
      ·show AV.ref (.n 18) 0 (W.length + 1) = .ref (.n 18) 0 (W ++ [v ++ [e.2]]).length
       rw [List.length_append]; rfl
      ·show AV.ref (.n 68) 0 (Sn.length + 1) = .ref (.n 68) 0 (Sn ++ [e.2]).length
       rw [List.length_append]; rfl
      ·show some (Ob.ds 25 1 ((W.map tN).take W.length ++ [[.sl ((((v.map xE).take (v.map xE).length ++ [[di (e.2 : Int)]]).drop 0).take ((v.map xE).length + 1))]])) = some (Ob.ds 25 1 ((W ++ [v ++ [e.2]]).map tN))
       have e2 : (W ++ [v ++ [e.2]]).map tN = W.map tN ++ [tN (v ++ [e.2])] := by rw [List.map_append]; rfl
       rw [evw,List.take_of_length_le (by simp),e2]; rfl
      ·show some (Ob.ds 3 1 ((Sn.map xE).take Sn.length ++ [[di (e.2 : Int)]])) = some (Ob.ds 3 1 ((Sn ++ [e.2]).map xE))
       rw [List.take_of_length_le (by simp),List.map_append]; rfl
    ·obtain rfl : k = 1 := hk
     conv => whnf
     refine kbi (fun h8 => absurd h8 (show ¬ decide ((1 : Int) < 1) = true from by decide)) (fun h8 => ?_)
     conv => whnf
     refine ⟨(i + 1,W,Sn),⟨f,by show f + (i + 1) = 8; omega,hrun2,hWl,hWn,hSl⟩,by show 8 - (i + 1) < 8 - i; omega,⟨rfl,rfl,rfl,rfl,rfl,rfl,?_,trivial⟩,⟨rfl,rfl,trivial⟩⟩
     show AV.d (.int .i64 (IntKind.i64.wrap ((i : Int) + 1))) = i64 ((i + 1 : Nat) : Int)
     rw [zE (by omega) (by omega)]
     rfl
 ·have hi : ¬ i < ways.length := by
   have := fun e => hi (decide_eq_true e)
   intro e
   apply this
   show (i : Int) < ways.length
   omega
  unfold fI at hrun
  rw [if_neg hi] at hrun
  obtain rfl := Option.some.inj hrun
  conv => whnf
  exact .inl rfl
end Ai
end
section
set_option maxRecDepth 100000
namespace Ai
open Go Go.Proofs Cyc
theorem one_each {edges : List (Nat × Nat)} (h : Graph edges) : OneEach edges := by
 have hn : edges.Pairwise fun x y => x.1 ≠ y.1 := by
  obtain ⟨a,b,c,d,e,-,rfl⟩ := h.g
  cases a <;> cases b <;> cases c <;> cases d <;> cases e <;> simp [ed]
 rw [List.pairwise_iff_getElem] at hn
 intro i j hi hj e
 rcases Nat.lt_trichotomy i j with h1 | h1 | h1
 ·exact absurd e (hn i j hi hj h1)
 ·exact h1
 ·exact absurd e.symm (hn j i hj hi h1)
theorem l8 (edges : List (Nat × Nat)) (hG : Graph edges) : CallsTo EE 129 [sl (edges.map vK)] (· = sl ((xS edges).map xE)) :=
 l3Cycle_ok edges hG fun n w hn hw => l3Way_ok edges n w hG.len (one_each hG) hw
theorem cycleG_ok (edges : List (Nat × Nat)) (hG : Graph edges) : CallsTo EE 98 [sl (edges.map vK)] (· = .tup [sl ((xS edges).map xE),bv (!(xS edges).isEmpty)]) := by
 rw [← cyc_same hG]
 exact cycleI_ok edges hG.len (fun e he => by have := hG.small e he; omega) fun n _ => hG.run n
end Ai
end
section
set_option maxRecDepth 100000
namespace Ai
open Go Go.Proofs Cyc
def nS (s : StL) : Prop := ∀ x ∈ s.owner,-1 ≤ x ∧ x < s.ths.length
theorem xX {s : StL} {k : Nat} {t : Th} (h : nS s) : nS (s.put k t) := by
 intro x hx
 have := h x hx
 simpa [StL.put] using this
theorem lO {s : StL} {i : Nat} {v : Int} (h : nS s) (hv : -1 ≤ v ∧ v < s.ths.length) : nS { s with owner := s.owner.set i v } := by
 intro x hx
 rcases List.mem_or_eq_of_mem_set hx with e | e
 ·exact h x e
 ·subst e; exact hv
theorem oinv_do {s : StL} {k : Nat} {o : OpL} {e : Ev} (hk : k < s.ths.length) (h : nS s) : nS (doL s k o e).1 := by
 unfold doL
 simp only
 generalize s.ths.getD k th0 = t at *
 by_cases n1 : o.code = 1
 ·rw [if_pos n1]; exact xX h
 rw [if_neg n1]
 by_cases n2 : o.code = 2
 ·rw [if_pos n2]; exact xX h
 rw [if_neg n2]
 by_cases n3 : o.code = 3
 ·rw [if_pos n3]; exact xX (s := { s with cells := _ }) h
 rw [if_neg n3]
 by_cases n10 : o.code = 10
 ·rw [if_pos n10]; exact xX h
 rw [if_neg n10]
 by_cases n11 : o.code = 11
 ·rw [if_pos n11]; exact xX h
 rw [if_neg n11]
 by_cases n12 : o.code = 12
 ·rw [if_pos n12]; exact xX (lO h ⟨by omega,by omega⟩)
 rw [if_neg n12]
 by_cases n13 : o.code = 13
 ·rw [if_pos n13]; exact xX (lO h ⟨by omega,by omega⟩)
 rw [if_neg n13]
 by_cases n14 : o.code = 14
 ·rw [if_pos n14]
  refine xX (s := { s with ths := _ }) fun x hx => ?_
  have := h x hx
  refine ⟨this.1,?_⟩
  show x < ((s.ths ++ [qS o.a]).length : Int)
  simp; omega
 rw [if_neg n14]
 by_cases n15 : o.code = 15
 ·rw [if_pos n15]; exact xX h
 rw [if_neg n15]
 by_cases n16 : o.code = 16
 ·rw [if_pos n16]; exact xX (lO h ⟨by omega,by omega⟩)
 rw [if_neg n16]
 by_cases n17 : o.code = 17
 ·rw [if_pos n17]
  cases wH s.ths o.a with
  |none => exact xX h
  |some j =>
   refine xX (s := { s with ths := _ }) fun x hx => ?_
   have := h x hx
   refine ⟨this.1,?_⟩
   show x < ((s.ths.modify j fun u => { u with st := 4 }).length : Int)
   simp; omega
 rw [if_neg n17]
 exact xX h
theorem oinv_step {p : ProgL} {s : StL} {k : Nat} (hk : k < s.ths.length) (h : nS s) : nS (stepL p s k).1 := by
 unfold stepL
 simp only
 split
 ·exact xX (lO h ⟨by omega,by omega⟩)
 ·split
  ·exact xX h
  ·split
   ·exact oinv_do hk h
   ·exact h
theorem oinv_new (p : ProgL) : nS (wY p) := by
 intro x hx
 obtain ⟨_,rfl⟩ := List.mem_replicate.1 hx
 simp [wY]
end Ai
end
section
set_option maxRecDepth 100000
namespace Ai
open Go Go.Proofs Cyc
theorem g9 {s : StL} (h : nS s) (h1 : 1 ≤ s.ths.length) (i : Nat) : s.owner.getD i 0 < s.ths.length := by
 rw [List.getD_eq_getElem?_getD]
 cases hg : s.owner[i]? with
 |none => show (0 : Int) < _; omega
 |some x => exact (h x (List.mem_of_getElem? hg)).2
theorem blocks_lt {p : ProgL} {s : StL} (h : nS s) (h1 : 1 ≤ s.ths.length) (t : Th) : zG p s t < s.ths.length := by
 unfold zG
 split
 ·exact g9 h h1 _
 ·split
  ·omega
  ·split
   ·split
    ·exact g9 h h1 _
    ·split
     ·split
      ·rename_i k hk
       split
       ·omega
       ·exact (kA idxRange hk).2
      ·omega
     ·omega
   ·omega
end Ai
end
section
set_option maxRecDepth 100000
namespace Ai
open Go Go.Proofs Cyc
noncomputable def wP (p : ProgL) (s : StL) : List (Nat × Nat) := (bB p s).map fun e => (e.1,e.2.toNat)
theorem edges_nn {p : ProgL} {s : StL} : ∀ e ∈ bB p s,0 ≤ e.2 := by
 intro e he
 obtain ⟨k,hk,rfl⟩ := List.mem_map.1 he
 simpa using (List.mem_filter.1 hk).2
theorem eS (p : ProgL) (s : StL) : (bB p s).map nM = (wP p s).map vK := by
 unfold wP
 rw [List.map_map]
 refine List.map_congr_left fun e he => ?_
 have := edges_nn e he
 show [D.sl [[di e.1],[di e.2]]] = [D.sl [[di e.1],[di ((e.2.toNat : Nat) : Int)]]]
 rw [Int.toNat_of_nonneg this]
noncomputable def waitO (p : ProgL) (s : StL) (k : Nat) : Option Nat := if 0 ≤ zG p s (s.ths.getD k th0) then some (zG p s (s.ths.getD k th0)).toNat else none
theorem wK (p : ProgL) (s : StL) (k : Nat) : ((if 0 ≤ zG p s (s.ths.getD k th0) then [(k,zG p s (s.ths.getD k th0))] else []).map fun e : Nat × Int => (e.1,e.2.toNat)) = ed k (waitO p s k) := by
 unfold waitO
 split <;> rfl
theorem opts_lt {o : Option Nat} (h : ∀ b,o = some b → b < 5) : o ∈ opts := by
 cases o with
 |none => simp [opts]
 |some b =>
  have := h b rfl
  have : b = 0 ∨ b = 1 ∨ b = 2 ∨ b = 3 ∨ b = 4 := by omega
  rcases this with rfl | rfl | rfl | rfl | rfl <;> simp [opts]
theorem r7 {p : ProgL} {s : StL} (h : nS s) (h1 : 1 ≤ s.ths.length) (h5 : s.ths.length ≤ 5) : Graph (wP p s) := by
 have hw : ∀ k,waitO p s k ∈ opts := fun k => opts_lt fun b hb => by
  unfold waitO at hb
  split at hb
  ·rename_i h0
   have := blocks_lt (p := p) h h1 (s.ths.getD k th0)
   simp only [Option.some.injEq] at hb
   omega
  ·cases hb
 have hn : (none : Option Nat) ∈ opts := by simp [opts]
 have e0 : yA p s 0 = [] := rfl
 unfold wP bB
 have : s.ths.length = 1 ∨ s.ths.length = 2 ∨ s.ths.length = 3 ∨ s.ths.length = 4 ∨ s.ths.length = 5 := by omega
 rcases this with e | e | e | e | e <;> rw [e]
 ·exact ⟨_,none,none,none,none,⟨hw 0,hn,hn,hn,hn⟩,by rw [zX,e0,List.map_append,wK]; simp [ed]⟩
 ·exact ⟨_,_,none,none,none,⟨hw 0,hw 1,hn,hn,hn⟩,by rw [zX,zX,e0,List.map_append,List.map_append,wK,wK]; simp [ed]⟩
 ·exact ⟨_,_,_,none,none,⟨hw 0,hw 1,hw 2,hn,hn⟩,by rw [zX,zX,zX,e0,List.map_append,List.map_append,List.map_append,wK,wK,wK]; simp [ed]⟩
 ·exact ⟨_,_,_,_,none,⟨hw 0,hw 1,hw 2,hw 3,hn⟩,by rw [zX,zX,zX,zX,e0,List.map_append,List.map_append,List.map_append,List.map_append,wK,wK,wK,wK]; simp [ed]⟩
 ·exact ⟨_,_,_,_,_,⟨hw 0,hw 1,hw 2,hw 3,hw 4⟩,by rw [zX,zX,zX,zX,zX,e0,List.map_append,List.map_append,List.map_append,List.map_append,List.map_append,wK,wK,wK,wK,wK]; simp⟩
end Ai
end
section
namespace Ai
open Go Go.RowKit
section
variable {E : Env} {N : Nat} {A : Fr} {w0 w w' : World} {m m' : Own} {s s' s1 : St} {a : Act}
def lJ : AV → Option AV
 | .uq _ _ els => some (.d (.sl els))
 | .ownF _ _ => none
 |r => some r
theorem m5 {g : FuncId} {xs : List AV} {R : AV → Prop} (h : CallsTo E g xs R) : IOCall E g xs (fun _ => none) (fun r H1 => (∃ r0,R r0 ∧ (lJ r0 = none ∨ lJ r0 = some r)) ∧ H1 = fun _ => none) := by
 intro w0 A m w vs hH hl hrel
 have hI : E.I w := E.Imono _ _ hH.inv hH.below
 have hA : ∀ b,w.heap.size ≤ b → A b := fun b hb => by
  rcases hH.hA b (Nat.le_trans hH.below.size hb) with h | h
  ·exact h
  ·have := (hH.fr b h).1; omega
 refine (h w A vs hI ⟨hl,fun i a v ha hv => ?_⟩).mono ?_
 ·refine (hrel i a v ha hv).mono (fun b hb => ⟨⟨hb.1,hb.2.2⟩,rfl⟩) ⟨fun o e cs h => (absurd (show (none : Option Ob) = some _ from h) (by simp)),fun o e sz els h => (absurd (show (none : Option Ob) = some _ from h) (by simp)),fun o e sz rows h => (absurd (show (none : Option Ob) = some _ from h) (by simp)),fun o ag ps h => (absurd (show (none : Option Ob) = some _ from h) (by simp))⟩
 ·rintro v w' ⟨r0,hr,hb,hv⟩
  have hb0 : Below w0.heap.size w0 w' := hH.below.trans (hb.mono hH.below.size)
  have hH' : HRel E A w0 m (fun _ => none) w' := ⟨hb0,hH.inv,fun o ob h => (by cases h),fun o o' p p' h => absurd rfl h,hH.hA,fun b hx => by
   obtain ⟨h1,h2,h3⟩ := hH.fr b hx
   exact ⟨Nat.lt_of_lt_of_le h1 hb.size,h2,by rw [hb.block b h1]; exact h3⟩,fun n hn h => absurd rfl h⟩
  have hok : ∀ x,(x < w'.heap.size ∧ (A x ∨ w.heap.size ≤ x)) → okB A (fun _ => none) m w' x := fun x hx => ⟨hx.1,fun o ho => absurd rfl ho,hx.2.elim id (hA x)⟩
  have plain : VRel w' (fun x => x < w'.heap.size ∧ (A x ∨ w.heap.size ≤ x)) noM noH r0 v → lJ r0 = some r0 → ∃ r H1 m1,((∃ r0,R r0 ∧ (lJ r0 = none ∨ lJ r0 = some r)) ∧ H1 = fun _ => none) ∧ HRel E A w0 m1 H1 w' ∧ VRel w' (okB A H1 m1 w') m1 H1 r v :=
   fun h hp => ⟨r0,_,m,⟨⟨r0,hr,.inr hp⟩,rfl⟩,hH',h.lift hok⟩
  unfold mJ at hv
  cases r0 with
  |uq e sz els =>
   simp only [RRok] at hv
   refine ⟨.d (.sl els),_,m,⟨⟨_,hr,.inr rfl⟩,rfl⟩,hH',?_⟩
   rcases hv with ⟨rfl,rfl⟩ | ⟨b,full,cur,rfl,hbb,hcur,hle,hmax,hsz,hc⟩
   ·exact .d _ _ (.sl0 _ _)
   ·refine .d _ _ (.sl els sz b 0 full (fun q => (cur[q]?).getD undef) (hok b ⟨(Array.getElem?_eq_some_iff.1 hcur).1,.inr hbb⟩) hle (fun j c hj => ⟨(hc j c hj).1,fun i d hi => ?_⟩) (fun j c hj i d hi => ?_))
    ·obtain ⟨u,hu,_⟩ := (hc j c hj).2 i d hi
     simp [World.cell?,hcur,hu]
    ·obtain ⟨u,hu,hr⟩ := (hc j c hj).2 i d hi
     rw [hu]
     exact hr.mono fun x hx => ⟨hok x hx.1,rfl⟩
  |ownF f cs => exact ⟨.junk,_,m,⟨⟨_,hr,.inl rfl⟩,rfl⟩,hH',.junk _⟩
  | _ => exact plain hv rfl
end
end Ai
end
section
set_option maxRecDepth 100000
namespace Ai
open Go Go.Proofs Cyc
theorem iQ (p : ProgL) (s : StL) (c : Int) (tr : List Ev) (tk : List Int) (hp : p.wf) (hs : s.small) (hv : ∀ t ∈ s.ths,t.seen p s) (hG : Graph (wP p s)) (hc : c = 3) (hj1 : (xS (wP p s)).length ≤ 1000) (hj2 : ∀ x ∈ xS (wP p s),x ≤ 1000000) (hj3 : (Lib.join ((xS (wP p s)).map fun x => Lib.itoa ((x : Nat) : Int)) [44]).length ≤ 140737488355328) :
  CallsTo EE 59 [agg (encProg p),agg (encRun c tr tk s)] (· = sv ([115,116,117,99,107,32] ++ (if Lib.join ((xS (wP p s)).map fun x => Lib.itoa ((x : Nat) : Int)) [44] = [] then [45] else Lib.join ((xS (wP p s)).map fun x => Lib.itoa ((x : Nat) : Int)) [44]))) := by
 refine callsTo_of_AW (fn := Tryz.f59) Tryz.func59 rfl (by kernel_rfl) rfl ?_
 subst hc
 conv => whnf
 refine kbi (fun h => absurd h (by decide)) (fun _ => ?_)
 conv => whnf
 refine kbi (fun h => absurd h (by decide)) (fun _ => ?_)
 conv => whnf
 refine kbi (fun _ => ?_) (fun h => absurd rfl h)
 conv => whnf
 refine .inr (.inr (.inr (.inl ⟨_,99,[],weak_frz (isK (.n 3)),rfl,999,99,fun _ => false,_,m5 (iK lB p s hp hs hv),rfl,?_⟩)))
 rintro r H1 ⟨⟨r0,rfl,hr⟩,rfl⟩
 have hr : r = sl ((bB p s).map nM) := by
  rcases hr with hr | hr
  ·cases hr
  ·exact (Option.some.inj hr).symm
 subst hr
 refine ⟨fun _ _ => rfl,fun n hn => (by cases hn),?_⟩
 conv => whnf
 rw [eS]
 refine ⟨_,cycleG_ok (wP p s) hG,?_⟩
 rintro r rfl
 conv => whnf
 refine ⟨_,sZ (xS (wP p s)) hj1 hj2 hj3,?_⟩
 rintro r rfl
 conv => whnf
 refine ⟨_,dash_ok _,?_⟩
 rintro r rfl
 conv => whnf
 refine ⟨?_,?_⟩
 ·show 6 + (if Lib.join ((xS (wP p s)).map fun x => Lib.itoa ((x : Nat) : Int)) [44] = [] then [45] else Lib.join ((xS (wP p s)).map fun x => Lib.itoa ((x : Nat) : Int)) [44]).length ≤ _
  split
  ·show 6 + 1 ≤ _; omega
  ·omega
 conv => whnf
 try rfl
end Ai
end
section
set_option maxRecDepth 100000
namespace Ai
open Go Go.Proofs Cyc
theorem q6 (p : ProgL) (s : StL) (tr : List Ev) (tk : List Int) : CallsTo EE 59 [agg (encProg p),agg (encRun 1 tr tk s)] (· = sv [100,111,110,101]) := by
 refine callsTo_of_AW (fn := Tryz.f59) Tryz.func59 rfl (by kernel_rfl) rfl ?_
 conv => whnf
 refine kbi (fun _ => ?_) (fun h => absurd rfl h)
 conv => whnf
 try rfl
theorem cN (p : ProgL) (s : StL) (tr : List Ev) (tk : List Int) : CallsTo EE 59 [agg (encProg p),agg (encRun 4 tr tk s)] (· = sv [98,117,100,103,101,116]) := by
 refine callsTo_of_AW (fn := Tryz.f59) Tryz.func59 rfl (by kernel_rfl) rfl ?_
 conv => whnf
 refine kbi (fun h => absurd h (by decide)) (fun _ => ?_)
 conv => whnf
 refine kbi (fun _ => ?_) (fun h => absurd rfl h)
 conv => whnf
 try rfl
end Ai
end
section
set_option maxRecDepth 100000
namespace Ai
open Go Go.Proofs Cyc
def GTh (p : ProgL) (t : Th) : Prop := ((t.st = 1 ∨ t.st = 2) ∧ t.cond = -1 ∧ t.lock = -1) ∨ ((t.st = 3 ∨ t.st = 4) ∧ 0 ≤ t.cond ∧ t.cond < p.conds ∧ 0 ≤ t.lock ∧ t.lock < p.locks)
structure GInv (p : ProgL) (s : StL) : Prop where
 ths : ∀ t ∈ s.ths,GTh p t
 ne : 1 ≤ s.ths.length
 fault : InR s.fault 0 4
theorem xZ {p : ProgL} {s : StL} {k : Nat} {t : Th} (h : GInv p s) (ht : GTh p t) : GInv p (s.put k t) := by
 refine ⟨fun u hu => ?_,by simpa [StL.put] using h.ne,h.fault⟩
 rcases List.mem_or_eq_of_mem_set hu with e | e
 ·exact h.ths u e
 ·subst e; exact ht
theorem fault_in (s : StL) (k : Nat) (o : OpL) : InR (zT s k o) 0 4 := by
 unfold zT InR
 simp only
 split
 ·omega
 split
 ·omega
 split
 ·omega
 split <;> omega
theorem ginv_do {p : ProgL} (hg : p.goodS) {s : StL} (hi : SInv p s) {k : Nat} (h : k < s.ths.length) {o : OpL} (hn : zZ p s.ths[k] = some o) (e : Ev) (hG : GInv p s) (h1 : s.ths[k].st = 1) : GInv p (doL s k o e).1 := by
 have hT := hi.ths _ (List.getElem_mem h)
 have hgd : s.ths.getD k th0 = s.ths[k] := by simp [List.getD_eq_getElem?_getD,h]
 obtain ⟨⟨g1,g2⟩,hlt⟩ := fO hg hT hn
 obtain ⟨c1,c2,c3,_⟩ := g1
 obtain ⟨a1,a2,a3,a4,a5,a6⟩ := g2
 have ht := hG.ths _ (List.getElem_mem h)
 generalize s.ths[k] = t at *
 unfold doL
 simp only [hgd]
 have hp : GTh p (zC t o) := ht
 have hpush : ∀ v,GTh p (zL (zC t o) v) := fun v => ht
 have hpc : ∀ a,GTh p { zC t o with pc := a } := fun a => ht
 by_cases n1 : o.code = 1
 ·rw [if_pos n1]; exact xZ hG (hpush _)
 rw [if_neg n1]
 by_cases n2 : o.code = 2
 ·rw [if_pos n2]; exact xZ hG (hpush _)
 rw [if_neg n2]
 by_cases n3 : o.code = 3
 ·rw [if_pos n3]; exact xZ (s := { s with cells := _ }) ⟨hG.ths,hG.ne,hG.fault⟩ hp
 rw [if_neg n3]
 by_cases n10 : o.code = 10
 ·rw [if_pos n10]; exact xZ hG (hpc _)
 rw [if_neg n10]
 by_cases n11 : o.code = 11
 ·rw [if_pos n11]
  refine xZ hG ?_
  split
  ·exact hpc _
  ·exact hp
 rw [if_neg n11]
 by_cases n12 : o.code = 12
 ·rw [if_pos n12]; exact xZ (s := { s with owner := _ }) ⟨hG.ths,hG.ne,hG.fault⟩ hp
 rw [if_neg n12]
 by_cases n13 : o.code = 13
 ·rw [if_pos n13]; exact xZ (s := { s with owner := _ }) ⟨hG.ths,hG.ne,hG.fault⟩ hp
 rw [if_neg n13]
 by_cases n14 : o.code = 14
 ·rw [if_pos n14]
  refine xZ (s := { s with ths := _ }) ⟨fun u hu => ?_,by show 1 ≤ (s.ths ++ [qS o.a]).length; simp,hG.fault⟩ (hpush _)
  rcases List.mem_append.1 hu with e | e
  ·exact hG.ths u e
  ·simp only [List.mem_cons,List.not_mem_nil,or_false] at e
   subst e; exact .inl ⟨.inl rfl,rfl,rfl⟩
 rw [if_neg n14]
 by_cases n15 : o.code = 15
 ·rw [if_pos n15]; exact xZ hG hp
 rw [if_neg n15]
 by_cases n16 : o.code = 16
 ·rw [if_pos n16]
  exact xZ (s := { s with owner := _ }) ⟨hG.ths,hG.ne,hG.fault⟩ (.inr ⟨.inl rfl,c2.1,(a5 n16).1,c3.1,(a5 n16).2⟩)
 rw [if_neg n16]
 by_cases n17 : o.code = 17
 ·rw [if_pos n17]
  cases hw : wH s.ths o.a with
  |none => exact xZ hG hp
  |some j =>
   refine xZ (s := { s with ths := _ }) ⟨fun u hu => ?_,by simpa using hG.ne,hG.fault⟩ hp
   obtain ⟨i,hi2,rfl⟩ := List.mem_iff_getElem.1 hu
   have hil : i < s.ths.length := by simpa using hi2
   have hU := hG.ths _ (List.getElem_mem hil)
   rw [List.getElem_modify]
   split
   ·rename_i hji
    subst hji
    unfold wH at hw
    rw [List.findIdx?_eq_some_iff_getElem] at hw
    obtain ⟨_,hpw,_⟩ := hw
    simp only [Bool.and_eq_true,beq_iff_eq] at hpw
    rcases hU with ⟨h9,_⟩ | ⟨_,h9⟩
    ·have := hpw.1; omega
    ·exact .inr ⟨.inr rfl,h9⟩
   ·exact hU
 rw [if_neg n17]
 exact xZ hG (hpush _)
theorem ginv_step {p : ProgL} (hg : p.goodS) {s : StL} (hi : SInv p s) {k : Nat} (h : k < s.ths.length) (hk : k ∈ enabledL p s) (hG : GInv p s) : GInv p (stepL p s k).1 := by
 have ht := hG.ths _ (List.getElem_mem h)
 have hgo := goes_st hk h
 have hgd : s.ths.getD k th0 = s.ths[k] := by simp [List.getD_eq_getElem?_getD,h]
 unfold stepL
 simp only [hgd]
 split
 ·exact xZ (s := { s with owner := _ }) ⟨hG.ths,hG.ne,hG.fault⟩ (.inl ⟨.inl rfl,rfl,rfl⟩)
 ·rename_i h4
  have h1 : s.ths[k].st = 1 := by omega
  split
  ·refine xZ hG (.inl ⟨.inr rfl,?_⟩)
   rcases ht with ⟨_,h9⟩ | ⟨h9,_⟩
   ·exact h9
   ·omega
  ·rename_i o hn
   split
   ·exact ginv_do hg hi h hn _ hG h1
   ·exact ⟨hG.ths,hG.ne,fault_in s k o⟩
theorem ginv_new (p : ProgL) : GInv p (wY p) := by
 refine ⟨fun t ht => ?_,by simp [wY],by simp [wY,InR]⟩
 have : t = qS 0 := by simpa [wY] using ht
 subst this
 exact .inl ⟨.inl rfl,rfl,rfl⟩
structure AInv (p : ProgL) (s : StL) : Prop where
 si : SInv p s
 fl : s.flt
 ow : nS s
 gi : GInv p s
theorem en_lt {p : ProgL} {s : StL} {k : Nat} (hk : k ∈ enabledL p s) : k < s.ths.length := by have := (List.mem_filter.1 hk).1; simpa using this
theorem ainv_step {p : ProgL} (hg : p.goodS) (hv : p.flt) {s : StL} {k : Nat} (hk : k ∈ enabledL p s) (h : AInv p s) : AInv p (stepL p s k).1 :=
 ⟨m6 hg h.si (en_lt hk),p5 hv (en_lt hk) h.fl,oinv_step (en_lt hk) h.ow,ginv_step hg h.si (en_lt hk) hk h.gi⟩
theorem ainv_new {p : ProgL} (hg : p.goodS) : AInv p (wY p) := ⟨inv_new hg,flt_new p,oinv_new p,ginv_new p⟩
theorem do_lev (s : StL) (k : Nat) (o : OpL) (e : Ev) : s.ths.length ≤ (doL s k o e).1.ths.length ∧ (doL s k o e).2.th = e.th ∧ (doL s k o e).2.pc = e.pc := by
 have hput : ∀ (s : StL) (t : Th),(s.put k t).ths.length = s.ths.length := fun s t => by simp [StL.put]
 have hle : ∀ (s2 : StL) (t : Th),s.ths.length ≤ s2.ths.length → s.ths.length ≤ (s2.put k t).ths.length := fun s2 t h => by rw [hput]; exact h
 unfold doL
 simp only
 by_cases n1 : o.code = 1
 ·rw [if_pos n1]; exact ⟨hle _ _ (Nat.le_refl _),rfl,rfl⟩
 rw [if_neg n1]
 by_cases n2 : o.code = 2
 ·rw [if_pos n2]; exact ⟨hle _ _ (Nat.le_refl _),rfl,rfl⟩
 rw [if_neg n2]
 by_cases n3 : o.code = 3
 ·rw [if_pos n3]; exact ⟨hle _ _ (Nat.le_refl _),rfl,rfl⟩
 rw [if_neg n3]
 by_cases n10 : o.code = 10
 ·rw [if_pos n10]; exact ⟨hle _ _ (Nat.le_refl _),rfl,rfl⟩
 rw [if_neg n10]
 by_cases n11 : o.code = 11
 ·rw [if_pos n11]; exact ⟨hle _ _ (Nat.le_refl _),rfl,rfl⟩
 rw [if_neg n11]
 by_cases n12 : o.code = 12
 ·rw [if_pos n12]; exact ⟨hle _ _ (Nat.le_refl _),rfl,rfl⟩
 rw [if_neg n12]
 by_cases n13 : o.code = 13
 ·rw [if_pos n13]; exact ⟨hle _ _ (Nat.le_refl _),rfl,rfl⟩
 rw [if_neg n13]
 by_cases n14 : o.code = 14
 ·rw [if_pos n14]; exact ⟨hle _ _ (by show _ ≤ (s.ths ++ [qS o.a]).length; simp),rfl,rfl⟩
 rw [if_neg n14]
 by_cases n15 : o.code = 15
 ·rw [if_pos n15]; exact ⟨hle _ _ (Nat.le_refl _),rfl,rfl⟩
 rw [if_neg n15]
 by_cases n16 : o.code = 16
 ·rw [if_pos n16]; exact ⟨hle _ _ (Nat.le_refl _),rfl,rfl⟩
 rw [if_neg n16]
 by_cases n17 : o.code = 17
 ·rw [if_pos n17]
  cases wH s.ths o.a with
  |none => exact ⟨hle _ _ (Nat.le_refl _),rfl,rfl⟩
  |some j => exact ⟨hle _ _ (by show _ ≤ (s.ths.modify j _).length; simp),rfl,rfl⟩
 rw [if_neg n17]
 exact ⟨hle _ _ (Nat.le_refl _),rfl,rfl⟩
theorem step_len (p : ProgL) (s : StL) (k : Nat) : s.ths.length ≤ (stepL p s k).1.ths.length := by
 have hput : ∀ (s : StL) (t : Th),(s.put k t).ths.length = s.ths.length := fun s t => by simp [StL.put]
 unfold stepL
 simp only
 split
 ·rw [hput]; exact Nat.le_refl _
 ·split
  ·rw [hput]; exact Nat.le_refl _
  ·split
   ·exact (do_lev _ _ _ _).1
   ·exact Nat.le_refl _
theorem step_ev (p : ProgL) (s : StL) (k : Nat) : (stepL p s k).2.th = k ∧ (stepL p s k).2.pc = (s.ths.getD k th0).pc := by
 unfold stepL
 simp only
 split
 ·exact ⟨rfl,rfl⟩
 ·split
  ·exact ⟨rfl,rfl⟩
  ·split
   ·exact (do_lev _ _ _ _).2
   ·exact ⟨rfl,rfl⟩
structure TrOK (s : StL) (tr : List Ev) : Prop where
 ev : ∀ e ∈ tr,0 ≤ e.th ∧ e.th < s.ths.length ∧ 0 ≤ e.pc ∧ e.pc ≤ 24
 ne : s.fault ≠ 0 → tr ≠ []
theorem tr_step {p : ProgL} (hg : p.goodS) {s : StL} {k : Nat} (hk : k ∈ enabledL p s) (h : AInv p s) {tr : List Ev} (ht : TrOK s tr) : TrOK (stepL p s k).1 (tr ++ [(stepL p s k).2]) := by
 have hl := en_lt hk
 have hgd : s.ths.getD k th0 = s.ths[k] := by simp [List.getD_eq_getElem?_getD,hl]
 have hT := h.si.ths _ (List.getElem_mem hl)
 have hr : s.ths[k].rt.toNat < p.rs.length := by have := hT.rt; omega
 have e24 : (p.rs.getD s.ths[k].rt.toNat []).length ≤ 24 := by
  rw [List.getD_eq_getElem?_getD,List.getElem?_eq_getElem hr]
  exact (hg.2 _ (List.getElem_mem hr)).2
 have h2 := step_len p s k
 refine ⟨fun e he => ?_,fun _ => by simp⟩
 rcases List.mem_append.1 he with e1 | e1
 ·have := ht.ev e e1
  omega
 ·simp only [List.mem_cons,List.not_mem_nil,or_false] at e1
  subst e1
  obtain ⟨e1,e2⟩ := step_ev p s k
  rw [e1,e2,hgd]
  have := hT.pc
  omega
structure RunT where
 c : Int
 tr : List Ev
 tk : List Int
 s : StL
noncomputable def runT (p : ProgL) (picks : List Int) (budget : Int) : Nat → StL → List Ev → List Int → RunT
 | 0,s,tr,tk => ⟨0,tr,tk,s⟩
 |n + 1,s,tr,tk =>
  if 0 < codeL p s tr.length budget then ⟨codeL p s tr.length budget,tr,tk,s⟩
  else
   let k := pickOf picks tk (enabledL p s).length
   let w := (enabledL p s).getD k.toNat 0
   runT p picks budget n (stepL p s w).1 (tr ++ [(stepL p s w).2]) (tk ++ [k])
def qV (x : RunT) : List D := encRun x.c x.tr x.tk x.s
structure REnd (p : ProgL) (budget : Int) (x : RunT) : Prop where
 inv : AInv p x.s
 tr : TrOK x.s x.tr
 code : x.c = codeL p x.s x.tr.length budget
 pos : 0 < x.c
 len : x.tr.length = x.tk.length
 le : (x.tr.length : Int) ≤ budget
 tk : ∀ i ∈ x.tk,0 ≤ i ∧ i < 5
theorem en_ne {p : ProgL} {s : StL} {a b : Int} (h : ¬ 0 < codeL p s a b) : 0 < (enabledL p s).length ∧ a ≠ b := by
 have hen : enabledL p s ≠ [] := by
  intro he
  apply h
  unfold codeL
  by_cases hf : s.fault ≠ 0
  ·rw [if_pos hf]; decide
  ·rw [if_neg hf,if_pos he]; split <;> decide
 refine ⟨List.length_pos_iff.2 hen,fun he => h ?_⟩
 unfold codeL
 by_cases hf : s.fault ≠ 0
 ·rw [if_pos hf]; decide
 ·rw [if_neg hf,if_neg hen,if_pos he]; decide
noncomputable def runOf (p : ProgL) (picks : List Int) (budget : Int) : RunT := runT p picks budget (budget.toNat + 1) (wY p) [] []
end Ai
end
section
set_option maxRecDepth 100000
namespace Ai
open Go Go.Proofs Cyc
theorem rE {edges : List (Nat × Nat)} {to : Nat} (he : ∀ e ∈ edges,e.2 < 100) : ∀ (f i L : Nat) (ways : List (List Nat)) (seen : List Nat) (w : List Nat),(∀ w ∈ ways,w.length ≤ L ∧ ∀ x ∈ w,x < 100) → fI edges to f i ways seen = some w → w.length ≤ L + f ∧ ∀ x ∈ w,x < 100
 | 0,_,_,_,_,_,_,h => by simp [fI] at h
 |f + 1,i,L,ways,seen,w,hw,h => by
  unfold fI at h
  split at h
  ·rename_i hi
   have hgw : ways.getD i [] ∈ ways := by rw [List.getD_eq_getElem?_getD,List.getElem?_eq_getElem hi]; exact List.getElem_mem hi
   split at h
   ·obtain ⟨h1,h2⟩ := rE he f (i + 1) L ways seen w hw h
    exact ⟨by omega,h2⟩
   ·rename_i e hf
    have he2 := he e (List.mem_of_find?_eq_some hf)
    split at h
    ·simp only [Option.some.injEq] at h
     subst h
     exact ⟨by have := (hw _ hgw).1; omega,(hw _ hgw).2⟩
    ·split at h
     ·obtain ⟨h1,h2⟩ := rE he f (i + 1) L ways seen w hw h
      exact ⟨by omega,h2⟩
     ·obtain ⟨h1,h2⟩ := rE he f (i + 1) (L + 1) _ _ w (fun v hv => by
       rcases List.mem_append.1 hv with e1 | e1
       ·have := hw v e1
        exact ⟨by omega,this.2⟩
       ·simp only [List.mem_cons,List.not_mem_nil,or_false] at e1
        subst e1
        refine ⟨by have := (hw _ hgw).1; rw [List.length_append]; show _ + 1 ≤ _; omega,fun x hx => ?_⟩
        rcases List.mem_append.1 hx with e2 | e2
        ·exact (hw _ hgw).2 x e2
        ·simp only [List.mem_cons,List.not_mem_nil,or_false] at e2
         subst e2; exact he2) h
      exact ⟨by omega,h2⟩
  ·simp only [Option.some.injEq] at h
   subst h
   simp
theorem cyc_ok {edges : List (Nat × Nat)} (hG : Graph edges) : (xS edges).length ≤ 9 ∧ ∀ x ∈ xS edges,x < 100 := by
 unfold xS
 cases h : (List.range 100).findSome? (fun n => match bY edges n with | some (x :: xs) => some (x :: xs) | _ => none) with
 |none => simp
 |some o =>
  obtain ⟨n,hn,ho⟩ := List.exists_of_findSome?_eq_some h
  have hn : n < 100 := by simpa using hn
  cases hc : bY edges n with
  |none => rw [hc] at ho; cases ho
  |some l =>
   rw [hc] at ho
   cases l with
   |nil => cases ho
   |cons x xs =>
    simp only [Option.some.injEq] at ho
    subst ho
    exact rE (fun e he => by have := hG.small e he; omega) 8 0 1 _ _ _ (fun w hw => by
     simp only [List.mem_cons,List.not_mem_nil,or_false] at hw
     subst hw
     simpa using hn) hc
noncomputable def uK (p : ProgL) (s : StL) : List Int := (xS (wP p s)).map fun x => ((x : Nat) : Int)
theorem gW {p : ProgL} {s : StL} (h : AInv p s) : Graph (wP p s) := r7 h.ow h.gi.ne h.si.len
theorem dead_enc (p : ProgL) (s : StL) : (xS (wP p s)).map xE = (uK p s).map encInt := by
 unfold uK
 rw [List.map_map]
 rfl
theorem tQ {p : ProgL} {s : StL} (h : AInv p s) : Picks (uK p s) := by
 obtain ⟨h1,h2⟩ := cyc_ok (gW h)
 refine ⟨by simp [uK]; omega,fun x hx => ?_⟩
 obtain ⟨y,hy,rfl⟩ := List.mem_map.1 hx
 have := h2 y hy
 unfold InR; omega
theorem s7 {p : ProgL} {s : StL} : Lib.join ((xS (wP p s)).map fun x => Lib.itoa ((x : Nat) : Int)) [44] = txt (uK p s) := by
 unfold txt uK
 rw [List.map_map]
 refine congrArg (fun l => Lib.join l [44]) (List.map_congr_left fun x _ => ?_)
 show Lib.itoa ((x : Nat) : Int) = Lib.decDigits ((x : Nat) : Int).toNat
 unfold Lib.itoa
 rw [if_neg (by omega)]
def qZ : Ev := ⟨0,0,0,0,0⟩
def dY (s : StL) (e : Ev) : List UInt8 := [102,97,117,108,116,32] ++ Lib.decDigits s.fault.toNat ++ [32] ++ Lib.decDigits e.th.toNat ++ [32] ++ Lib.decDigits (s.ths.getD e.th.toNat th0).rt.toNat ++ [32] ++ Lib.decDigits e.pc.toNat
noncomputable def wR (p : ProgL) (x : RunT) : List UInt8 :=
 if x.c = 1 then [100,111,110,101] else if x.c = 4 then [98,117,100,103,101,116] else if x.c = 3 then [115,116,117,99,107,32] ++ dashT (txt (uK p x.s)) else dY x.s (x.tr.getLastD qZ)
theorem tS {p : ProgL} {s : StL} {a b : Int} (h : 0 < codeL p s a b) : (codeL p s a b = 1 ∨ codeL p s a b = 3 ∨ codeL p s a b = 4) ∨ (codeL p s a b = 2 ∧ s.fault ≠ 0) := by
 unfold codeL at h ⊢
 by_cases hf : s.fault ≠ 0
 ·rw [if_pos hf]; exact .inr ⟨rfl,hf⟩
 ·rw [if_neg hf] at h ⊢
  split
  ·split <;> simp
  ·split
   ·simp
   ·rename_i h1 h2
    rw [if_neg h1,if_neg h2] at h
    exact absurd h (by decide)
end Ai
end
section
set_option maxRecDepth 100000
namespace Ai
open Go Go.Proofs Cyc
theorem uI {n lo hi : Int} (h : InR n lo hi) : CallsTo EE 52 [i64 n,i64 lo,i64 hi] (· = bv true) := by
 have := qF n lo hi
 simp only [bp,sI h] at this
 exact this
theorem l1All_yes {xs : List Int} {lo hi : Int} (hx : xs.length ≤ 1048576) (h : AllIn xs lo hi) : CallsTo EE 75 [sl (xs.map encInt),i64 lo,i64 hi] (· = bv true) := by
 have := l1All_ok xs lo hi hx
 simp only [bp,sI h] at this
 exact this
theorem x8 {p : ProgL} (hs : p.rs.length ≤ 1048576 ∧ ∀ x ∈ p.rs,x.length ≤ 1048576) (hv : p.flt) (h : p.goodS) : CallsTo EE 39 [agg (encProg p)] (· = bv true) := by
 have := mK p hs hv
 simp only [bp,sI h] at this
 exact this
theorem l6 (p : ProgL) (hp : p.headS) (t : Th) (hT : TInv p t) (hG : GTh p t) : CallsTo EE 214 [agg (encProg p),agg (zF t)] (· = bv true) := by
 obtain ⟨a1,a2,a3,a4⟩ := hp
 unfold InR at a1 a2 a3 a4
 have hr := hT.rt
 have hpc := hT.pc
 have hst := hT.st
 have e4 : IntKind.i64.wrap (((p.rs.map zO).length : Int) - 1) = (p.rs.length : Int) - 1 := by rw [List.length_map]; exact zE (by omega) (by omega)
 have e2 : IntKind.i64.wrap (p.locks - 1) = p.locks - 1 := zE (by omega) (by omega)
 have e3 : IntKind.i64.wrap (p.conds - 1) = p.conds - 1 := zE (by omega) (by omega)
 refine callsTo_of_AW (fn := Tryz.f214) Tryz.func214 rfl (by kernel_rfl) rfl ?_
 conv => whnf
 refine ⟨_,uI (by rw [e4]; unfold InR; omega),?_⟩
 rintro r rfl
 conv => whnf
 refine ⟨_,uI (by unfold InR; rcases hG with h | h <;> omega),?_⟩
 rintro r rfl
 conv => whnf
 refine kbi (fun h => ?_) (fun _ => ?_)
 ·simp at h; omega
 conv => whnf
 refine ⟨by kernel_rfl,?_⟩
 conv => whnf
 have hrl : t.rt.toNat < p.rs.length := by omega
 refine ⟨zO p.rs[t.rt.toNat],⟨hr.1,by simp [hrl],rfl⟩,?_⟩
 conv => whnf
 have e5 : p.rs.getD t.rt.toNat [] = p.rs[t.rt.toNat] := by simp [List.getD_eq_getElem?_getD,hrl]
 rw [e5] at hpc
 refine ⟨_,uI (by unfold InR; rw [List.length_map]; omega),?_⟩
 conv => whnf
 refine kbi (fun h3 => ?_) (fun h3 => ?_)
 ·have h3 : t.st = 3 := by simpa using h3
  conv => whnf
  refine ⟨_,uI (by rw [e3]; unfold InR; rcases hG with h | h <;> omega),?_⟩
  rintro r rfl
  conv => whnf
  refine ⟨_,uI (by rw [e2]; unfold InR; rcases hG with h | h <;> omega),?_⟩
  rintro r rfl
  conv => whnf
  try rfl
 ·have h3 : ¬ t.st = 3 := by simpa using h3
  conv => whnf
  refine kbi (fun h4 => ?_) (fun h4 => ?_)
  ·have h4 : t.st = 4 := by simpa using h4
   conv => whnf
   refine ⟨_,uI (by rw [e3]; unfold InR; rcases hG with h | h <;> omega),?_⟩
   rintro r rfl
   conv => whnf
   refine ⟨_,uI (by rw [e2]; unfold InR; rcases hG with h | h <;> omega),?_⟩
   rintro r rfl
   conv => whnf
   try rfl
  ·have h4 : ¬ t.st = 4 := by simpa using h4
   obtain ⟨_,hc,hl⟩ : (t.st = 1 ∨ t.st = 2) ∧ t.cond = -1 ∧ t.lock = -1 := by
    rcases hG with h | h
    ·exact h
    ·omega
   conv => whnf
   refine kbi (fun _ => ?_) (fun h => absurd (beq_iff_eq.2 hc) h)
   conv => whnf
   refine kbi (fun _ => ?_) (fun h => absurd (beq_iff_eq.2 hl) h)
   conv => whnf
   try rfl
theorem hY {p : ProgL} (hg : p.goodS) {s : StL} (h : AInv p s) : s.small := ((runOK hg).small s h.si).1
theorem prog_len {p : ProgL} (h : p.goodS) : p.rs.length ≤ 1048576 ∧ ∀ x ∈ p.rs,x.length ≤ 1048576 := by
 obtain ⟨b1,b2,b3,b4⟩ := h.1
 exact ⟨by have := b4.2; omega,fun x hx => by have := (h.2 x hx).2; omega⟩
theorem l3Good_ok (p : ProgL) (hg : p.goodS) (s : StL) (h : AInv p s) : CallsTo EE 194 [agg (encProg p),agg (encSt s)] (· = bv true) := by
 have hi := h.si
 have hl5 := hi.len
 have hne := h.gi.ne
 have hsm := hY hg h
 have hgt := h.gi.ths
 have hown := h.ow
 refine callsTo_of_AW (fn := Tryz.f194) Tryz.func194 rfl (by kernel_rfl) rfl ?_
 conv => whnf
 refine ⟨_,uI (by unfold InR; rw [List.length_map]; omega),?_⟩
 rintro r rfl
 conv => whnf
 refine kbi (fun h1 => absurd (show ((s.cells.map encF).length : Int) = p.cells by rw [List.length_map]; exact hi.cells) (by simpa using h1)) (fun _ => ?_)
 conv => whnf
 refine kbi (fun h1 => absurd (show ((s.owner.map encInt).length : Int) = p.locks by rw [List.length_map]; exact hi.owner) (by simpa using h1)) (fun _ => ?_)
 conv => whnf
 refine ⟨_,uI h.gi.fault,?_⟩
 rintro r rfl
 conv => whnf
 refine yR (fun k : Nat => [(2,.ptr (.n 2) 0),(3,.ptr (.n 3) 0),(35,sl (s.ths.map zF)),(36,i64 (s.ths.map zF).length),(37,i64 k)])
  (fun k => [(.n 2,.vs 31 ((encProg p).map .d)),(.n 3,.vs 76 ((encSt s).map .d))]) (fun k => s.ths.length - k) (fun k => k ≤ s.ths.length) 0
  Weak.refl ⟨rfl,rfl,rfl,rfl,rfl,trivial⟩ ⟨rfl,rfl,trivial⟩ (Nat.zero_le _) ?_
 intro k τ H hk
 have hk : k ≤ s.ths.length := hk
 conv => whnf
 refine kbi (fun h => ?_) (fun h => ?_)
 ·have hlt := xM h
  conv => whnf
  refine ⟨zF s.ths[k],yB zF hlt rfl,?_⟩
  conv => whnf
  refine ⟨_,l6 p hg.1 s.ths[k] (hi.ths _ (List.getElem_mem hlt)) (hgt _ (List.getElem_mem hlt)),?_⟩
  rintro r rfl
  conv => whnf
  exact ⟨k + 1,by show k + 1 ≤ s.ths.length; omega,by show s.ths.length - (k + 1) < s.ths.length - k; omega,⟨rfl,rfl,rfl,rfl,next_i64 hlt (by omega),trivial⟩,⟨rfl,rfl,trivial⟩⟩
 ·conv => whnf
  have e1 : IntKind.i64.wrap (((s.ths.map zF).length : Int) - 1) = (s.ths.length : Int) - 1 := by rw [List.length_map]; exact zE (by omega) (by omega)
  rw [e1]
  refine ⟨_,l1All_yes hsm.2.2.2 (fun x hx => by have := hown x hx; unfold InR; omega),?_⟩
  rintro r rfl
  conv => whnf
  try rfl
theorem x7 (p : ProgL) (hg : p.goodS) (hv : p.flt) (s : StL) (h : AInv p s) : CallsTo EE 161 [agg (encProg p),agg (encSt s)] (· = bv true) := by
 refine callsTo_of_AW (fn := Tryz.f161) Tryz.func161 rfl (by kernel_rfl) rfl ?_
 conv => whnf
 refine ⟨_,x8 (prog_len hg) hv hg,?_⟩
 rintro r rfl
 conv => whnf
 refine ⟨_,l3Good_ok p hg s h,?_⟩
 rintro r rfl
 conv => whnf
 try rfl
end Ai
end
section
set_option maxRecDepth 100000
namespace Ai
open Go Go.Proofs Cyc
theorem iB {p : ProgL} (hg : p.goodS) {s : StL} (h : AInv p s) : ∀ t ∈ s.ths,t.seen p s := (runOK hg).seen s h.si
theorem WaitsFor_ok (p : ProgL) (hp : p.wf) (hg : p.goodS) (hv : p.flt) (s : StL) (h : AInv p s) : CallsTo EE 128 [agg (encProg p),agg (encSt s)] (· = .tup [sl ((bB p s).map nM),bv true]) := by
 have hs := hY hg h
 have hn := h.si.len
 have hse := iB hg h
 refine callsTo_of_AW (fn := Tryz.f128) Tryz.func128 rfl (by kernel_rfl) rfl ?_
 conv => whnf
 refine ⟨_,x7 p hg hv s h,?_⟩
 rintro r rfl
 conv => whnf
 refine yR (fun k : Nat => [(2,.ptr (.n 2) 0),(3,.ptr (.n 3) 0),(6,.ref (.n 6) 0 (yA p s k).length),(15,sl (s.ths.map zF)),(16,i64 (s.ths.map zF).length),(17,i64 k)])
  (fun k => [(.n 2,.vs 31 ((encProg p).map .d)),(.n 3,.vs 76 ((encSt s).map .d)),(.n 6,.ds 25 1 ((yA p s k).map nM))]) (fun k => s.ths.length - k) (fun k => k ≤ s.ths.length) 0
  (weak_nil 6 (.n 6) 25 1 rfl) ⟨rfl,rfl,rfl,rfl,rfl,rfl,trivial⟩ ⟨rfl,rfl,rfl,trivial⟩ (Nat.zero_le _) ?_
 intro k τ H hk
 have hk : k ≤ s.ths.length := hk
 conv => whnf
 refine kbi (fun h => ?_) (fun h => ?_)
 ·have hlt := xM h
  conv => whnf
  refine ⟨zF s.ths[k],yB zF hlt rfl,?_⟩
  conv => whnf
  have hgd : s.ths.getD k th0 = s.ths[k] := by simp [List.getD_eq_getElem?_getD,hlt]
  have hle : (yA p s k).length ≤ k := tO
  refine ⟨_,fS toIndexS idxRange p s s.ths[k] hp (hs.2.1 _ (List.getElem_mem hlt)) (hse _ (List.getElem_mem hlt)),?_⟩
  rintro r rfl
  conv => whnf
  refine kbi (fun hb => ?_) (fun hb => ?_)
  ·have hb : 0 ≤ zG p s s.ths[k] := by simpa using hb
   have hsk : yA p s (k + 1) = yA p s k ++ [(k,zG p s s.ths[k])] := by rw [zX,hgd,if_pos hb]
   conv => whnf
   refine .inl ?_
   conv => whnf
   refine ⟨⟨rfl,by show ((yA p s k).length + 1) * 24 ≤ _; omega,by show (yA p s k).length + 1 ≤ _; omega⟩,?_⟩
   conv => whnf
   refine ⟨k + 1,by show k + 1 ≤ s.ths.length; omega,by show s.ths.length - (k + 1) < s.ths.length - k; omega,⟨rfl,rfl,?_,rfl,rfl,next_i64 hlt (by omega),trivial⟩,⟨rfl,rfl,?_,trivial⟩⟩
   ·rw [hsk]
    show AV.ref (.n 6) 0 ((yA p s k).length + 1) = _
    simp
   ·rw [hsk]
    show some (Ob.ds 25 1 (((yA p s k).map nM).take (yA p s k).length ++ [nM (k,zG p s s.ths[k])])) = _
    rw [List.take_of_length_le (by simp)]
    simp
  ·have hb : ¬ 0 ≤ zG p s s.ths[k] := by simpa using hb
   conv => whnf
   have hsk : yA p s (k + 1) = yA p s k := by rw [zX,hgd,if_neg hb]; simp
   refine ⟨k + 1,by show k + 1 ≤ s.ths.length; omega,by show s.ths.length - (k + 1) < s.ths.length - k; omega,⟨rfl,rfl,?_,rfl,rfl,next_i64 hlt (by omega),trivial⟩,⟨rfl,rfl,?_,trivial⟩⟩
   ·rw [hsk]; rfl
   ·rw [hsk]; rfl
 ·have hge : s.ths.length ≤ k := by simpa using h
  have hkk : k = s.ths.length := by omega
  subst hkk
  conv => whnf
  refine .inl ?_
  conv => whnf
  have e : (((yA p s s.ths.length).map nM).drop 0).take (yA p s s.ths.length).length = (bB p s).map nM := by rw [List.drop_zero,List.take_of_length_le (by simp)]; rfl
  first | exact congrArg (fun x => AV.tup [sl x,bv true]) e | (rw [← e]; rfl) | trace_state
theorem l4Dead_ok (p : ProgL) (hp : p.wf) (hg : p.goodS) (hv : p.flt) (c : Int) (tr : List Ev) (tk : List Int) (s : StL) (h : AInv p s) : CallsTo EE 89 [agg (encProg p),agg (encRun c tr tk s)] (· = sl ((uK p s).map encInt)) := by
 refine callsTo_of_AW (fn := Tryz.f89) Tryz.func89 rfl (by kernel_rfl) rfl ?_
 conv => whnf
 refine ⟨_,WaitsFor_ok p hp hg hv s h,?_⟩
 rintro r rfl
 conv => whnf
 rw [eS]
 refine ⟨_,l8 (wP p s) (gW h),?_⟩
 rintro r rfl
 conv => whnf
 rw [dead_enc]
theorem last_at {tr : List Ev} (h : tr ≠ []) (hl : (tr.length : Int) ≤ 1048576) : 0 ≤ IntKind.i64.wrap (((tr.map encEv).length : Int) - 1) ∧ (tr.map encEv)[(IntKind.i64.wrap (((tr.map encEv).length : Int) - 1)).toNat]? = some (encEv (tr.getLastD qZ)) ∧ tr.getLastD qZ ∈ tr := by
 have hp : 0 < tr.length := List.length_pos_iff.2 h
 have e : IntKind.i64.wrap (((tr.map encEv).length : Int) - 1) = ((tr.length - 1 : Nat) : Int) := by
  rw [List.length_map,zE (by omega) (by omega)]; omega
 have e2 : tr.getLastD qZ = tr[tr.length - 1] := by
  rw [List.getLastD_eq_getLast?,List.getLast?_eq_getElem?,List.getElem?_eq_getElem (by omega)]; rfl
 rw [e,e2]
 refine ⟨by omega,?_,List.getElem_mem _⟩
 rw [Int.toNat_natCast,List.getElem?_map,List.getElem?_eq_getElem (by omega)]; rfl
theorem dec_ne (n : Nat) : Lib.decDigits n ≠ [] := by
 rw [Lib.decDigits]
 split <;> simp
theorem txt_ne {l : List Int} (h : l ≠ []) : txt l ≠ [] := by
 cases l with
 |nil => exact absurd rfl h
 |cons x xs =>
  unfold txt
  rw [List.map_cons,Lib.join_cons]
  intro e
  exact dec_ne _ (List.append_eq_nil_iff.1 e).1
theorem l4Sign_ok (p : ProgL) (hp : p.wf) (hg : p.goodS) (hv : p.flt) (budget : Int) (x : RunT) (h : REnd p budget x) (hb : budget ≤ 1048576) : CallsTo EE 54 [agg (encProg p),agg (qV x)] (· = sv (wR p x)) := by
 obtain ⟨c,tr,tk,s⟩ := x
 have hcode : c = codeL p s tr.length budget := h.code
 have hpos : 0 < c := h.pos
 have hcs := tS (show 0 < codeL p s tr.length budget by rw [← hcode]; exact hpos)
 rw [← hcode] at hcs
 have hi : AInv p s := h.inv
 have hT : TrOK s tr := h.tr
 have hle : (tr.length : Int) ≤ budget := h.le
 unfold wR
 show CallsTo EE 54 [agg (encProg p),agg (encRun c tr tk s)] (· = sv (if c = 1 then [100,111,110,101] else if c = 4 then [98,117,100,103,101,116] else if c = 3 then [115,116,117,99,107,32] ++ dashT (txt (uK p s)) else dY s (tr.getLastD qZ)))
 refine callsTo_of_AW (fn := Tryz.f54) Tryz.func54 rfl (by kernel_rfl) rfl ?_
 conv => whnf
 refine kbi (fun h1 => ?_) (fun h1 => ?_)
 ·have h1 : c = 1 := by simpa using h1
  rw [if_pos h1]
  conv => whnf
  try rfl
 have h1 : ¬ c = 1 := by simpa using h1
 rw [if_neg h1]
 conv => whnf
 refine kbi (fun h4 => ?_) (fun h4 => ?_)
 ·have h4 : c = 4 := by simpa using h4
  rw [if_pos h4]
  conv => whnf
  try rfl
 have h4 : ¬ c = 4 := by simpa using h4
 rw [if_neg h4]
 conv => whnf
 refine kbi (fun h2 => ?_) (fun h2 => ?_)
 ·have h2 : c = 2 := by simpa using h2
  rw [if_neg (by omega)]
  conv => whnf
  have hf : s.fault ≠ 0 := by
   rcases hcs with h | h
   ·omega
   ·exact h.2
  have hne := hT.ne hf
  have hpt : 0 < tr.length := List.length_pos_iff.2 hne
  obtain ⟨e1,e2,e3⟩ := last_at hne (by omega)
  have hev := hT.ev _ e3
  refine ⟨encEv (tr.getLastD qZ),⟨e1,e2,rfl⟩,?_⟩
  generalize tr.getLastD qZ = e at *
  conv => whnf
  refine ⟨by kernel_rfl,?_⟩
  conv => whnf
  have hfa := hi.gi.fault
  unfold InR at hfa
  refine ⟨_,kW s.fault hfa.1 (by omega),?_⟩
  conv => whnf
  have hev1 : e.th.toNat < s.ths.length := by omega
  have hrt := (hi.si.ths _ (List.getElem_mem hev1)).rt
  have hn4 := hg.1.2.2.2
  unfold InR at hn4
  have d1 : (Lib.decDigits s.fault.toNat).length ≤ 1 := wQ _ 1 (by omega) (by omega)
  have hl5 := hi.si.len
  have d2 : (Lib.decDigits e.th.toNat).length ≤ 1 := wQ _ 1 (by omega) (by omega)
  have d3 : (Lib.decDigits s.ths[e.th.toNat].rt.toNat).length ≤ 1 := wQ _ 1 (by omega) (by omega)
  have d4 : (Lib.decDigits e.pc.toNat).length ≤ 2 := wQ _ 2 (by omega) (by omega)
  have hgd : s.ths.getD e.th.toNat th0 = s.ths[e.th.toNat] := by simp [List.getD_eq_getElem?_getD,hev1]
  refine ⟨by simp; omega,?_⟩
  conv => whnf
  refine ⟨by simp; omega,?_⟩
  conv => whnf
  refine ⟨_,kW e.th hev.1 (by omega),?_⟩
  conv => whnf
  refine ⟨by simp; omega,?_⟩
  conv => whnf
  refine ⟨by simp; omega,?_⟩
  conv => whnf
  refine ⟨zF s.ths[e.th.toNat],⟨hev.1,by simp [hev1],rfl⟩,?_⟩
  conv => whnf
  refine ⟨_,kW s.ths[e.th.toNat].rt hrt.1 (by omega),?_⟩
  conv => whnf
  refine ⟨by simp; omega,?_⟩
  conv => whnf
  refine ⟨by simp; omega,?_⟩
  conv => whnf
  refine ⟨_,kW e.pc hev.2.2.1 (by omega),?_⟩
  conv => whnf
  refine ⟨by simp; omega,?_⟩
  conv => whnf
  unfold dY
  rw [hgd]
  try rfl
 ·have h2 : ¬ c = 2 := by simpa using h2
  rw [if_pos (by omega)]
  conv => whnf
  refine ⟨_,l4Dead_ok p hp hg hv c tr tk s hi,?_⟩
  rintro r rfl
  conv => whnf
  have hd := tQ hi
  refine kbi (fun h3 => ?_) (fun h3 => ?_)
  ·have h3 : 0 < (uK p s).length := by simpa using h3
   conv => whnf
   refine ⟨_,l4List_ok (uK p s) hd,?_⟩
   rintro r rfl
   conv => whnf
   have htl := iM (uK p s) hd.2 (uK p s).length (Nat.le_refl _)
   rw [List.take_length] at htl
   have h200 := hd.1
   refine ⟨by show 6 + _ ≤ _; omega,?_⟩
   conv => whnf
   have hne : txt (uK p s) ≠ [] := txt_ne (by intro e; rw [e] at h3; simp at h3)
   unfold dashT
   rw [if_neg hne]
   try rfl
  ·have h3 : uK p s = [] := by
    have : ¬ 0 < (uK p s).length := by simpa using h3
    exact List.length_eq_zero_iff.1 (by omega)
   conv => whnf
   rw [h3]
   try rfl
end Ai
end
section
set_option maxRecDepth 100000
namespace Ai
open Go Go.Proofs Cyc
def jQ (s : StL) (e : Ev) : List Int := [s.fault,e.th,(s.ths.getD e.th.toNat th0).rt,e.pc]
def pQ (s : StL) (e : Ev) (k : Nat) : List UInt8 := [102,97,117,108,116] ++ (((jQ s e).take k).map fun n => 32 :: Lib.decDigits n.toNat).flatten
theorem tM (s : StL) (e : Ev) (k : Nat) (h : k < (jQ s e).length) : pQ s e (k + 1) = pQ s e k ++ 32 :: Lib.decDigits ((jQ s e)[k]).toNat := by
 unfold pQ
 rw [List.take_add_one,List.getElem?_eq_getElem h]
 simp only [Option.toList,List.map_append,List.flatten_append,List.map_cons,List.map_nil,List.flatten_cons,List.flatten_nil,List.append_nil,List.append_assoc]
theorem fText_end (s : StL) (e : Ev) : pQ s e 4 = dY s e := by
 simp [pQ,jQ,dY]
theorem eQ (s : StL) (e : Ev) (h : ∀ n ∈ jQ s e,InR n 0 999) : ∀ k,k ≤ 4 → (pQ s e k).length ≤ 5 + 4 * k
 | 0,_ => by simp [pQ]
 |k + 1,hk => by
  have hl : k < (jQ s e).length := by show k < 4; omega
  have h1 := eQ s e h k (by omega)
  have h2 := h _ (List.getElem_mem hl)
  unfold InR at h2
  have d1 : (Lib.decDigits ((jQ s e)[k]).toNat).length ≤ 3 := wQ _ 3 (by omega) (by omega)
  rw [tM s e k hl,List.length_append,List.length_cons]
  omega
theorem itoaL_nat {n : Int} (h : 0 ≤ n) : Lib.itoa n = Lib.decDigits n.toNat := by unfold Lib.itoa; rw [if_neg (by omega)]
theorem iR (p : ProgL) (hg : p.goodS) (s : StL) (tr : List Ev) (tk : List Int) (hi : AInv p s) (hT : TrOK s tr) (hne : tr ≠ []) (hl : (tr.length : Int) ≤ 1048576) : CallsTo EE 59 [agg (encProg p),agg (encRun 2 tr tk s)] (· = sv (dY s (tr.getLastD qZ))) := by
 obtain ⟨e1,e2,e3⟩ := last_at hne (by omega)
 have hev := hT.ev _ e3
 refine callsTo_of_AW (fn := Tryz.f59) Tryz.func59 rfl (by kernel_rfl) rfl ?_
 conv => whnf
 refine kbi (fun h => absurd h (by decide)) (fun _ => ?_)
 conv => whnf
 refine kbi (fun h => absurd h (by decide)) (fun _ => ?_)
 conv => whnf
 refine kbi (fun h => absurd h (by decide)) (fun _ => ?_)
 conv => whnf
 refine ⟨encEv (tr.getLastD qZ),⟨e1,e2,rfl⟩,?_⟩
 generalize tr.getLastD qZ = e at *
 conv => whnf
 refine ⟨by kernel_rfl,?_⟩
 conv => whnf
 have hev1 : e.th.toNat < s.ths.length := by omega
 refine ⟨zF s.ths[e.th.toNat],⟨hev.1,by simp [hev1],rfl⟩,?_⟩
 conv => whnf
 have hrt := (hi.si.ths _ (List.getElem_mem hev1)).rt
 have hgd : s.ths.getD e.th.toNat th0 = s.ths[e.th.toNat] := by simp [List.getD_eq_getElem?_getD,hev1]
 have hl5 := hi.si.len
 have hn4 := hg.1.2.2.2
 have hfa := hi.gi.fault
 unfold InR at hn4 hfa
 have hin : ∀ n ∈ jQ s e,InR n 0 999 := by
  intro n hn
  unfold jQ at hn
  rw [hgd] at hn
  simp only [List.mem_cons,List.not_mem_nil,or_false] at hn
  unfold InR
  rcases hn with h | h | h | h <;> omega
 refine yR (fun k : Nat => [(8,sv (pQ s e k)),(53,sl ((jQ s e).map encInt)),(54,i64 4),(55,i64 k)]) (fun k => []) (fun k => 4 - k) (fun k => k ≤ 4) 0
  Weak.refl ⟨rfl,?_,rfl,rfl,trivial⟩ trivial (Nat.zero_le _) ?_
 ·unfold jQ; rw [hgd]; rfl
 intro k τ H hk
 have hk : k ≤ 4 := hk
 conv => whnf
 refine kbi (fun h => ?_) (fun h => ?_)
 ·have hk4 : k < 4 := by
   have := of_decide_eq_true h
   omega
  have hlt : k < (jQ s e).length := hk4
  have hr := hin _ (List.getElem_mem hlt)
  unfold InR at hr
  have d1 : (Lib.decDigits ((jQ s e)[k]).toNat).length ≤ 3 := wQ _ 3 (by omega) (by omega)
  have hfl := eQ s e hin k hk
  have hit := itoaL_nat hr.1
  conv => whnf
  refine ⟨encInt (jQ s e)[k],yB encInt hlt rfl,?_⟩
  conv => whnf
  refine ⟨_,Itoa_ok (jQ s e)[k] (by omega) (by omega),?_⟩
  rintro r rfl
  conv => whnf
  rw [hit]
  refine ⟨by show 1 + _ ≤ _; omega,?_⟩
  conv => whnf
  refine ⟨by simp; omega,?_⟩
  conv => whnf
  refine ⟨k + 1,by show k + 1 ≤ 4; omega,by show 4 - (k + 1) < 4 - k; omega,⟨?_,rfl,rfl,?_,trivial⟩,trivial⟩
  ·exact congrArg sv (tM s e k hlt).symm
  ·show AV.d (.int .i64 (IntKind.i64.wrap ((k : Int) + 1))) = i64 ((k + 1 : Nat) : Int)
   rw [zE (by omega) (by omega)]
   rfl
 ·have hk4 : k = 4 := by
   have : ¬ (k : Int) < 4 := fun e => h (decide_eq_true e)
   omega
  subst hk4
  conv => whnf
  rw [fText_end]
  try rfl
theorem signOf_ok (p : ProgL) (hp : p.wf) (hg : p.goodS) (budget : Int) (x : RunT) (h : REnd p budget x) (hb : budget ≤ 1048576) : CallsTo EE 59 [agg (encProg p),agg (qV x)] (· = sv (wR p x)) := by
 obtain ⟨c,tr,tk,s⟩ := x
 have hcode : c = codeL p s tr.length budget := h.code
 have hpos : 0 < c := h.pos
 have hcs := tS (show 0 < codeL p s tr.length budget by rw [← hcode]; exact hpos)
 rw [← hcode] at hcs
 have hi : AInv p s := h.inv
 have hT : TrOK s tr := h.tr
 have hle : (tr.length : Int) ≤ budget := h.le
 unfold wR
 show CallsTo EE 59 [agg (encProg p),agg (encRun c tr tk s)] (· = sv (if c = 1 then [100,111,110,101] else if c = 4 then [98,117,100,103,101,116] else if c = 3 then [115,116,117,99,107,32] ++ dashT (txt (uK p s)) else dY s (tr.getLastD qZ)))
 rcases hcs with (rfl | rfl | rfl) | ⟨rfl,hf⟩
 ·exact q6 p s tr tk
 ·have hd := tQ hi
  have hc := cyc_ok (gW hi)
  have htl := iM (uK p s) hd.2 (uK p s).length (Nat.le_refl _)
  rw [List.take_length] at htl
  have := iQ p s 3 tr tk hp (hY hg hi) (iB hg hi) (gW hi) rfl (by omega) (fun x hx => by have := hc.2 x hx; omega) (by rw [s7]; have := hd.1; omega)
  rw [s7] at this
  exact this
 ·exact cN p s tr tk
 ·exact iR p hg s tr tk hi hT (hT.ne hf) (by omega)
end Ai
end
section
set_option maxRecDepth 100000
namespace Ai
open Go Go.Proofs
theorem szOpS_ok (xs : List (List D)) (left : Int) (h0 : 0 ≤ left) (h1 : left ≤ 1048576) (hx : xs.length ≤ 9223372036854775807) :
  CallsTo EE 73 [sl xs,i64 left] (szR left xs.length) := by
 refine callsTo_of_AW (fn := Tryz.f73) Tryz.func73 rfl (by kernel_rfl) rfl ?_
 conv => whnf
 rw [zE (by omega) (by omega)]
 refine ⟨fun h => ?_,fun h => ?_⟩
 ·conv => whnf
  exact ⟨-1,rfl,by omega,by omega,by omega⟩
 ·conv => whnf
  simp at h
  exact ⟨_,rfl,by omega,by omega,by omega⟩
theorem szOpSS_ok (xs : List (List OpL)) (left : Int) (h0 : 0 ≤ left) (h1 : left ≤ 1048576) (hx : xs.length ≤ 9223372036854775807) (hx2 : ∀ x ∈ xs,x.length ≤ 9223372036854775807) :
  CallsTo EE 38 [sl (xs.map zO),i64 left] (szR left (fM List.length xs)) := by
 refine callsTo_of_AW (fn := Tryz.f38) Tryz.func38 rfl (by kernel_rfl) rfl ?_
 conv => whnf
 rw [zE (by simp; omega) (by simp; omega),List.length_map]
 refine ⟨fun h => ?_,fun h => ?_⟩
 ·conv => whnf
  exact ⟨-1,rfl,by omega,by omega,by omega⟩
 ·simp at h
  conv => whnf
  refine yR (fun x : Nat × Int => [(0,sl (xs.map zO)),(5,i64 x.1),(1,i64 x.2)]) (fun _ => []) (fun x => xs.length - x.1)
   (fun x => x.1 ≤ xs.length ∧ 0 ≤ x.2 ∧ (xs.length : Int) + ((xs.map List.length).take x.1).sum + x.2 ≤ left) (0,left - xs.length) .refl ⟨rfl,rfl,rfl,trivial⟩ trivial ⟨by omega,by omega,by simp; omega⟩ ?_
  rintro ⟨k,l⟩ τ H ⟨hk,hl,hs⟩
  dsimp only at hk hl hs
  conv => whnf
  refine ⟨fun h => ?_,fun h => ?_⟩
  ·have hlt := xM h
   conv => whnf
   refine ⟨zO xs[k],yB zO hlt rfl,?_⟩
   conv => whnf
   refine ⟨_,szOpS_ok _ l hl (by omega) (by simpa using hx2 _ (List.getElem_mem hlt)),?_⟩
   rintro r ⟨n,rfl,hn1,hn2,hn3⟩
   conv => whnf
   refine ⟨fun h => ?_,fun h => ?_⟩
   ·conv => whnf
    exact ⟨-1,rfl,by omega,by omega,by omega⟩
   ·simp at h
    conv => whnf
    refine ⟨(k + 1,n),⟨by omega,by omega,?_⟩,by show xs.length - (k + 1) < xs.length - k; omega,⟨rfl,next_i64 hlt hx,rfl,trivial⟩,trivial⟩
    have hm : k < (xs.map List.length).length := by simpa using hlt
    rw [cM _ _ hm]
    have := hn3 h
    simp at this ⊢
    omega
  ·have hge := ge_map h
   conv => whnf
   have hkk : k = xs.length := by omega
   subst hkk
   refine ⟨_,rfl,by omega,?_,?_⟩
   ·omega
   ·intro _
    simp only [fM]
    rw [List.take_of_length_le (by simp)] at hs
    simp at hs ⊢
    omega
theorem szProg_ok (p : ProgL) (left : Int) (h0 : 0 ≤ left) (h1 : left ≤ 1048576) (hs : p.wf) : CallsTo EE 11 [agg (encProg p),i64 left] (szR left p.size) := by
 refine callsTo_of_AW (fn := Tryz.f11) Tryz.func11 rfl (by kernel_rfl) rfl ?_
 conv => whnf
 refine ⟨_,szOpSS_ok _ left h0 h1 hs.1 hs.2,?_⟩
 rintro r ⟨n,rfl,hn1,hn2,hn3⟩
 conv => whnf
 refine ⟨fun h => ?_,fun h => ?_⟩
 ·conv => whnf
  exact ⟨-1,rfl,by omega,by omega,by omega⟩
 ·simp at h
  conv => whnf
  exact ⟨_,rfl,by omega,by omega,hn3⟩
end Ai
end
section
set_option maxRecDepth 100000
namespace Ai
open Go Go.Proofs
theorem xU (n : Int) (h : (n != n) = true) : False := by simp at h
theorem nL (xs : List Int) (hx : xs.length ≤ 1048576) : CallsTo EE 17 [sl (xs.map encInt),sl (xs.map encInt)] (· = bv true) := by
 refine callsTo_of_AW (fn := Tryz.f17) Tryz.func17 rfl (by kernel_rfl) rfl ?_
 conv => whnf
 refine ⟨fun h => (xU _ h).elim,fun _ => ?_⟩
 conv => whnf
 refine yR (fun k : Nat => [(0,sl (xs.map encInt)),(1,sl (xs.map encInt)),(5,i64 k)]) (fun k => []) (fun k => xs.length - k) (fun k => k ≤ xs.length) 0 .refl ⟨rfl,rfl,rfl,trivial⟩ trivial (Nat.zero_le _) ?_
 intro k τ H hk
 conv => whnf
 refine ⟨fun h => ?_,fun h => ?_⟩
 ·have hlt := xM h
  conv => whnf
  refine ⟨by kernel_rfl,?_⟩
  conv => whnf
  refine ⟨encInt xs[k],yB encInt hlt rfl,?_⟩
  conv => whnf
  refine ⟨encInt xs[k],yB encInt hlt rfl,?_⟩
  conv => whnf
  refine ⟨fun h => (xU _ h).elim,fun _ => ?_⟩
  conv => whnf
  refine ⟨k + 1,by omega,by show xs.length - (k + 1) < xs.length - k; omega,⟨rfl,rfl,next_i64 hlt (by omega),trivial⟩,trivial⟩
 ·conv => whnf
theorem iS (x : Nat) : CallsTo EE 160 [.d (.flt x),.d (.flt x)] (· = bv true) := by
 refine callsTo_of_AW (fn := Tryz.f160) Tryz.func160 rfl (by kernel_rfl) rfl ?_
 conv => whnf
 repeat' (refine kbi (fun h => ?_) (fun h => ?_) <;> first | contradiction | conv => whnf)
 all_goals simp [oX] at *
 all_goals simp_all
theorem eqOp_ok (x : OpL) : CallsTo EE 127 [agg (encOp x),agg (encOp x)] (· = bv true) := by
 refine callsTo_of_AW (fn := Tryz.f127) Tryz.func127 rfl (by kernel_rfl) rfl ?_
 conv => whnf
 refine ⟨fun h => (xU _ h).elim,fun _ => ?_⟩
 conv => whnf
 refine ⟨fun h => (xU _ h).elim,fun _ => ?_⟩
 conv => whnf
 refine ⟨fun h => (xU _ h).elim,fun _ => ?_⟩
 conv => whnf
 refine ⟨_,iS x.v,?_⟩
 rintro r rfl
 conv => whnf
theorem eqOpS_ok (xs : List OpL) (hx : xs.length ≤ 1048576) : CallsTo EE 82 [sl (xs.map encOp),sl (xs.map encOp)] (· = bv true) := by
 refine callsTo_of_AW (fn := Tryz.f82) Tryz.func82 rfl (by kernel_rfl) rfl ?_
 conv => whnf
 refine ⟨fun h => (xU _ h).elim,fun _ => ?_⟩
 conv => whnf
 refine yR (fun k : Nat => [(0,sl (xs.map encOp)),(1,sl (xs.map encOp)),(5,i64 k)]) (fun k => []) (fun k => xs.length - k) (fun k => k ≤ xs.length) 0 .refl ⟨rfl,rfl,rfl,trivial⟩ trivial (Nat.zero_le _) ?_
 intro k τ H hk
 conv => whnf
 refine ⟨fun h => ?_,fun h => ?_⟩
 ·have hlt := xM h
  conv => whnf
  refine ⟨by kernel_rfl,?_⟩
  conv => whnf
  refine ⟨encOp xs[k],yB encOp hlt rfl,?_⟩
  conv => whnf
  refine ⟨encOp xs[k],yB encOp hlt rfl,?_⟩
  conv => whnf
  refine ⟨_,eqOp_ok xs[k],?_⟩
  conv => whnf
  refine ⟨k + 1,by omega,by show xs.length - (k + 1) < xs.length - k; omega,⟨rfl,rfl,next_i64 hlt (by omega),trivial⟩,trivial⟩
 ·conv => whnf
theorem eqOpSS_ok (xs : List (List OpL)) (hx : xs.length ≤ 1048576) (hx2 : ∀ x ∈ xs,x.length ≤ 1048576) : CallsTo EE 46 [sl (xs.map zO),sl (xs.map zO)] (· = bv true) := by
 refine callsTo_of_AW (fn := Tryz.f46) Tryz.func46 rfl (by kernel_rfl) rfl ?_
 conv => whnf
 refine ⟨fun h => (xU _ h).elim,fun _ => ?_⟩
 conv => whnf
 refine yR (fun k : Nat => [(0,sl (xs.map zO)),(1,sl (xs.map zO)),(5,i64 k)]) (fun k => []) (fun k => xs.length - k) (fun k => k ≤ xs.length) 0 .refl ⟨rfl,rfl,rfl,trivial⟩ trivial (Nat.zero_le _) ?_
 intro k τ H hk
 conv => whnf
 refine ⟨fun h => ?_,fun h => ?_⟩
 ·have hlt := xM h
  conv => whnf
  refine ⟨by kernel_rfl,?_⟩
  conv => whnf
  refine ⟨zO xs[k],yB zO hlt rfl,?_⟩
  conv => whnf
  refine ⟨zO xs[k],yB zO hlt rfl,?_⟩
  conv => whnf
  refine ⟨_,eqOpS_ok xs[k] (hx2 _ (List.getElem_mem hlt)),?_⟩
  conv => whnf
  refine ⟨k + 1,by omega,by show xs.length - (k + 1) < xs.length - k; omega,⟨rfl,rfl,next_i64 hlt (by omega),trivial⟩,trivial⟩
 ·conv => whnf
theorem eqProg_ok (p : ProgL) (h : p.rs.length ≤ 1048576 ∧ ∀ x ∈ p.rs,x.length ≤ 1048576) : CallsTo EE 16 [agg (encProg p),agg (encProg p)] (· = bv true) := by
 refine callsTo_of_AW (fn := Tryz.f16) Tryz.func16 rfl (by kernel_rfl) rfl ?_
 conv => whnf
 refine ⟨fun h => (xU _ h).elim,fun _ => ?_⟩
 conv => whnf
 refine ⟨fun h => (xU _ h).elim,fun _ => ?_⟩
 conv => whnf
 refine ⟨fun h => (xU _ h).elim,fun _ => ?_⟩
 conv => whnf
 refine ⟨_,eqOpSS_ok _ h.1 h.2,?_⟩
 rintro r rfl
 conv => whnf
end Ai
end
section
set_option maxRecDepth 100000
namespace Ai
open Go Go.Proofs Cyc
def pV (p : ProgL) (picks : List Int) (sign : List UInt8) : Prop := wR p (runOf p picks 200) = sign
def Picks6 (xs : List Int) : Prop := xs.length ≤ 60 ∧ AllIn xs 0 999
theorem Picks6.nn {xs : List Int} (h : Picks6 xs) : ∀ i ∈ xs,0 ≤ i := fun i hi => (h.2 i hi).1
end Ai
end
section
set_option maxRecDepth 100000
namespace Ai
open Go Go.Proofs Go.Shelf Go.Sort Go.RowKit
def qW (xs : List Int) (i j : Nat) : List Int := xs.take i ++ xs.drop j
end Ai
end
section
set_option maxRecDepth 100000
namespace Ai
open Go Go.Proofs Cyc
theorem drop_in {xs : List Int} {i j : Nat} (h : ∀ x ∈ xs,0 ≤ x) : ∀ x ∈ qW xs i j,0 ≤ x := by
 intro x hx
 rcases List.mem_append.1 hx with h1 | h1
 ·exact h x (List.mem_of_mem_take h1)
 ·exact h x (List.mem_of_mem_drop h1)
end Ai
end
section
set_option maxRecDepth 100000
namespace Ai
open Go Go.Proofs Cyc
theorem aK (c : List Int) (k : Nat) (x : Int) : wJ (c.map encInt) 1 (0 + (k : Int).toNat) 0 [di x] = (c.set k x).map encInt := by
 have e : wJ (c.map encInt) 1 (0 + (k : Int).toNat) 0 [di x] = (c.map encInt).set k [di x] := by
  unfold wJ
  rw [show ([di x] : List D).length = 1 from rfl,nbeq_self,nbeq_self]
  simp
 rw [e,List.map_set]
 rfl
end Ai
end
section
set_option maxRecDepth 100000
namespace Ai
open Go Go.Proofs Cyc
section
open Classical
variable {ok : List Int → Prop} {l : Nat}
theorem oZ {xs : List Int} {i l : Nat} (h : i < xs.length ∧ 0 < l) : (qW xs i (min xs.length (i + l))).length < xs.length := by simp [qW]; omega
noncomputable def inn (ok : List Int → Prop) (l : Nat) (xs : List Int) (i a : Nat) (w : Bool) : List Int × Nat × Bool :=
 if h : i < xs.length ∧ 0 < l then
  if ok (qW xs i (min xs.length (i + l))) then inn ok l (qW xs i (min xs.length (i + l))) i (a + 1) true else inn ok l xs (i + 1) (a + 1) w
 else (xs,a,w)
termination_by xs.length - i
decreasing_by
 ·have := oZ h; omega
 ·omega
theorem inn_end {xs : List Int} {i a : Nat} {w : Bool} (h : ¬ i < xs.length) : inn ok l xs i a w = (xs,a,w) := by
 rw [inn,dif_neg (fun q => h q.1)]
theorem m7 {xs : List Int} {i a : Nat} {w : Bool} (h : i < xs.length) (h0 : 0 < l) (hk : ok (qW xs i (min xs.length (i + l)))) : inn ok l xs i a w = inn ok l (qW xs i (min xs.length (i + l))) i (a + 1) true := by
 rw [inn,dif_pos ⟨h,h0⟩,if_pos hk]
theorem m8 {xs : List Int} {i a : Nat} {w : Bool} (h : i < xs.length) (h0 : 0 < l) (hk : ¬ ok (qW xs i (min xs.length (i + l)))) : inn ok l xs i a w = inn ok l xs (i + 1) (a + 1) w := by
 rw [inn,dif_pos ⟨h,h0⟩,if_neg hk]
theorem nD : ∀ (n : Nat) (xs : List Int) (i a : Nat) (w : Bool),xs.length - i ≤ n → (inn ok l xs i a w).1.length ≤ xs.length ∧ (inn ok l xs i a w).2.1 ≤ a + n ∧ ((inn ok l xs i a w).2.2 = true → w = true ∨ (inn ok l xs i a w).1.length < xs.length) ∧ ((∀ x ∈ xs,0 ≤ x) → ∀ x ∈ (inn ok l xs i a w).1,0 ≤ x)
 | 0,xs,i,a,w,h => by
  rw [inn_end (by omega)]
  exact ⟨Nat.le_refl _,Nat.le_refl _,.inl,id⟩
 |n + 1,xs,i,a,w,h => by
  by_cases hi : i < xs.length ∧ 0 < l
  ·by_cases hk : ok (qW xs i (min xs.length (i + l)))
   ·rw [m7 hi.1 hi.2 hk]
    have hd := oZ hi
    obtain ⟨h1,h2,h3,h4⟩ := nD n (qW xs i (min xs.length (i + l))) i (a + 1) true (by omega)
    exact ⟨by omega,by omega,fun _ => .inr (by omega),fun h => h4 (drop_in h)⟩
   ·rw [m8 hi.1 hi.2 hk]
    obtain ⟨h1,h2,h3,h4⟩ := nD n xs (i + 1) (a + 1) w (by omega)
    exact ⟨h1,by omega,h3,h4⟩
  ·rw [inn,dif_neg hi]
   exact ⟨Nat.le_refl _,by show a ≤ _; omega,.inl,id⟩
theorem inn_len (xs : List Int) (a : Nat) : (inn ok l xs 0 a false).1.length ≤ xs.length := (nD _ xs 0 a false (Nat.le_refl _)).1
noncomputable def shr (ok : List Int → Prop) (l : Nat) (xs : List Int) (a : Nat) : List Int × Nat :=
 if h : 1 < l then shr ok (l / 2) (inn ok l xs 0 a false).1 (inn ok l xs 0 a false).2.1
 else if h : (inn ok l xs 0 a false).2.2 = true ∧ (inn ok l xs 0 a false).1.length < xs.length then shr ok l (inn ok l xs 0 a false).1 (inn ok l xs 0 a false).2.1
 else ((inn ok l xs 0 a false).1,(inn ok l xs 0 a false).2.1)
termination_by l + xs.length
decreasing_by
 ·have := inn_len (ok := ok) (l := l) xs a; omega
 ·omega
end
noncomputable def shrinkL (p : ProgL) (picks : List Int) (sign : List UInt8) : List Int × Nat := shr (fun xs => pV p xs sign) (max 1 (picks.length / 2)) picks 0
structure ShrP (p : ProgL) (sign : List UInt8) (F : List Int × Nat) (l : Nat) (xs : List Int) (a : Nat) : Prop where
 fin : shr (fun xs => pV p xs sign) l xs a = F
 l0 : 1 ≤ l
 l1 : l ≤ 60
 len : xs.length ≤ 60
 nn : ∀ x ∈ xs,0 ≤ x
 asked : a + 60 * (l + xs.length) ≤ 7260
structure InnP (p : ProgL) (sign : List UInt8) (l : Nat) (xs : List Int) (a : Nat) (c : List Int) (i b : Nat) (w : Bool) : Prop where
 fin : inn (fun xs => pV p xs sign) l c i b w = inn (fun xs => pV p xs sign) l xs 0 a false
 len : c.length ≤ xs.length
 il : i ≤ c.length
 nn : ∀ x ∈ c,0 ≤ x
 asked : b + (c.length - i) ≤ a + xs.length
theorem InnP.take {p : ProgL} {sign : List UInt8} {l a i b : Nat} {xs c : List Int} {w : Bool} (h : InnP p sign l xs a c i b w) (h0 : 1 ≤ l) (hi : i < c.length) (hk : pV p (qW c i (min c.length (i + l))) sign) :
  InnP p sign l xs a (qW c i (min c.length (i + l))) i (b + 1) true ∧ (qW c i (min c.length (i + l))).length < c.length := by
 have hd := oZ ⟨hi,h0⟩
 have hdl : i ≤ (qW c i (min c.length (i + l))).length := by simp [qW]; omega
 refine ⟨⟨by rw [← h.fin]; exact (m7 (ok := fun xs => pV p xs sign) hi h0 hk).symm,by have := h.len; omega,hdl,drop_in h.nn,by have := h.asked; omega⟩,hd⟩
theorem InnP.pass {p : ProgL} {sign : List UInt8} {l a i b : Nat} {xs c : List Int} {w : Bool} (h : InnP p sign l xs a c i b w) (h0 : 1 ≤ l) (hi : i < c.length) (hk : ¬ pV p (qW c i (min c.length (i + l))) sign) :
  InnP p sign l xs a c (i + 1) (b + 1) w :=
 ⟨by rw [← h.fin]; exact (m8 (ok := fun xs => pV p xs sign) hi h0 hk).symm,h.len,hi,h.nn,by have := h.asked; omega⟩
theorem ShrP.init (p : ProgL) (sign : List UInt8) {picks : List Int} (h : Picks6 picks) : ShrP p sign (shrinkL p picks sign) (max 1 (picks.length / 2)) picks 0 :=
 ⟨rfl,by omega,by have := h.1; omega,h.1,h.nn,by have := h.1; omega⟩
end Ai
end
section
set_option maxRecDepth 100000
namespace Ai
open Go Go.Proofs Cyc
def natI (l : List Nat) : List Int := l.map fun k => ((k : Nat) : Int)
theorem natI_enc (l : List Nat) : l.map encN = (natI l).map encInt := by simp [natI,encN,encInt]
end Ai
end
section
set_option maxRecDepth 100000
namespace Ai
open Go Go.Proofs Cyc
open Classical in
noncomputable def keptBy (K : StL → Nat → Ev → Prop) (s : StL) (l : List Nat) (e : Ev) : List Nat := l.filter fun u => decide (K s u e)
structure XS where
 acc : List RunT
 tried : List Nat
 ok : Bool
noncomputable def enAt (p : ProgL) (r : RunT) (k : Nat) : Nat := (enabledL p r.s).getD k 0
noncomputable def runBy (p : ProgL) (r : RunT) (k : Nat) : RunT := ⟨0,r.tr ++ [(stepL p r.s (enAt p r k)).2],r.tk ++ [(k : Int)],(stepL p r.s (enAt p r k)).1⟩
open Classical in
noncomputable def xloop (p : ProgL) (sl : Bool) (K : StL → Nat → Ev → Prop) (f : RunT → List Nat → List RunT → List RunT × Bool) (r : RunT) (sleep : List Nat) (acc : List RunT) : Nat → XS
 | 0 => ⟨acc,[],true⟩
 |k + 1 =>
  if (xloop p sl K f r sleep acc k).ok = false ∨ (sl = true ∧ enAt p r k ∈ sleep) then xloop p sl K f r sleep acc k
  else ⟨(f (runBy p r k) (keptBy K r.s (sleep ++ (xloop p sl K f r sleep acc k).tried) (stepL p r.s (enAt p r k)).2) (xloop p sl K f r sleep acc k).acc).1,(xloop p sl K f r sleep acc k).tried ++ [enAt p r k],
   (f (runBy p r k) (keptBy K r.s (sleep ++ (xloop p sl K f r sleep acc k).tried) (stepL p r.s (enAt p r k)).2) (xloop p sl K f r sleep acc k).acc).2⟩
def leaf (p : ProgL) (b : Int) (c : Int) (r : RunT) : RunT := ⟨c,r.tr,r.tk,r.s⟩
noncomputable def xgo (p : ProgL) (b : Int) (sl : Bool) (K : StL → Nat → Ev → Prop) : Nat → RunT → List Nat → List RunT → List RunT × Bool
 | 0,r,sleep,acc => (acc,true)
 |n + 1,r,sleep,acc =>
  if 0 < codeL p r.s r.tr.length b then (acc ++ [leaf p b (codeL p r.s r.tr.length b) r],decide (acc.length + 1 ≤ 400))
  else ((xloop p sl K (xgo p b sl K n) r sleep acc (enabledL p r.s).length).acc,(xloop p sl K (xgo p b sl K n) r sleep acc (enabledL p r.s).length).ok)
theorem xloop_stay {p : ProgL} {sl : Bool} {K : StL → Nat → Ev → Prop} {f : RunT → List Nat → List RunT → List RunT × Bool} {r : RunT} {sleep : List Nat} {acc : List RunT} {k : Nat} (h : (xloop p sl K f r sleep acc k).ok = false) :
    ∀ m, k ≤ m → xloop p sl K f r sleep acc m = xloop p sl K f r sleep acc k := by
  intro m hm
  induction m with
  | zero => have : k = 0 := by omega
            subst this; rfl
  | succ m ih =>
    by_cases hk : k = m + 1
    · subst hk; rfl
    · have := ih (by omega)
      rw [xloop, if_pos (.inl (by rw [this]; exact h)), this]
theorem nV {p : ProgL} {K K' : StL → Nat → Ev → Prop} {f f' : RunT → List Nat → List RunT → List RunT × Bool} {r : RunT} {s1 s2 : List Nat} {acc : List RunT}
  (hf : ∀ r a b acc,f r a acc = f' r b acc) : ∀ k,xloop p false K f r s1 acc k = xloop p false K' f' r s2 acc k
 | 0 => rfl
 |k + 1 => by
  have ih := nV (p := p) (K := K) (K' := K') (r := r) (s1 := s1) (s2 := s2) (acc := acc) hf k
  rw [xloop,xloop,ih]
  have e : ∀ (q : Nat) (l : List Nat),(false = true ∧ q ∈ l) ↔ False := fun q l => by simp
  simp only [e]
  split
  ·rfl
  ·rw [hf _ _ (keptBy K' r.s (s2 ++ (xloop p false K' f' r s2 acc k).tried) (stepL p r.s (enAt p r k)).2)]
theorem cY (p : ProgL) (b : Int) (K K' : StL → Nat → Ev → Prop) : ∀ (n : Nat) (r : RunT) (s1 s2 : List Nat) (acc : List RunT),xgo p b false K n r s1 acc = xgo p b false K' n r s2 acc
 | 0,_,_,_,_ => rfl
 |n + 1,r,s1,s2,acc => by
  rw [xgo,xgo,nV (K' := K') (f' := xgo p b false K' n) (s2 := s2) (fun r a c acc => cY p b K K' n r a c acc)]
noncomputable def pX (p : ProgL) (tr : List Ev) : Nat → StL
 | 0 => wY p
 |i + 1 => (stepL p (pX p tr i) (tr.getD i qZ).th.toNat).1
theorem rU (p : ProgL) (tr : List Ev) (e : Ev) : ∀ i,i ≤ tr.length → pX p (tr ++ [e]) i = pX p tr i
 | 0,_ => rfl
 |i + 1,h => by
  rw [pX,pX,rU p tr e i (by omega)]
  have : (tr ++ [e]).getD i qZ = tr.getD i qZ := by
   rw [List.getD_eq_getElem?_getD,List.getD_eq_getElem?_getD,List.getElem?_append_left (by omega)]
  rw [this]
structure XR (p : ProgL) (b : Int) (r : RunT) : Prop where
 inv : AInv p r.s
 tr : TrOK r.s r.tr
 len : r.tr.length = r.tk.length
 le : (r.tr.length : Int) ≤ b
 tk : ∀ i ∈ r.tk,0 ≤ i ∧ i < 5
 at_ : pX p r.tr r.tr.length = r.s
 en : ∀ i,i < r.tr.length → (r.tr.getD i qZ).th.toNat ∈ enabledL p (pX p r.tr i) ∧ 0 ≤ (r.tr.getD i qZ).th
 run : ∀ picks,r.tk <+: picks → runOf p picks b = runT p picks b (b.toNat + 1 - r.tr.length) r.s r.tr r.tk
structure XEnd (p : ProgL) (b : Int) (x : RunT) : Prop where
 fin : REnd p b x
 en : ∀ i,i < x.tr.length → (x.tr.getD i qZ).th.toNat ∈ enabledL p (pX p x.tr i) ∧ 0 ≤ (x.tr.getD i qZ).th
 run : runOf p x.tk b = x
theorem XR.new {p : ProgL} (hg : p.goodS) {b : Int} (hb : 0 ≤ b) : XR p b ⟨0,[],[],wY p⟩ :=
 ⟨ainv_new hg,⟨fun e he => (by cases he),fun h => absurd rfl h⟩,rfl,hb,fun i hi => (by cases hi),rfl,fun i hi => (by cases hi),fun picks h => rfl⟩
theorem XR.mem {p : ProgL} {b : Int} {r : RunT} {k : Nat} (hk : k < (enabledL p r.s).length) : enAt p r k ∈ enabledL p r.s := by
 unfold enAt
 rw [List.getD_eq_getElem?_getD,List.getElem?_eq_getElem hk]; exact List.getElem_mem hk
theorem XR.step {p : ProgL} (hg : p.goodS) (hv : p.flt) {b : Int} {r : RunT} (h : XR p b r) (hc : ¬ 0 < codeL p r.s r.tr.length b) {k : Nat} (hk : k < (enabledL p r.s).length) : XR p b (runBy p r k) := by
 have hm := XR.mem (b := b) hk
 have h5 : (enabledL p r.s).length ≤ 5 := Nat.le_trans (enabledTo_le) h.inv.si.len
 have hlb := (en_ne hc).2
 have hle := h.le
 have hth : (stepL p r.s (enAt p r k)).2.th = (enAt p r k : Nat) := (step_ev p r.s _).1
 refine ⟨ainv_step hg hv hm h.inv,tr_step hg hm h.inv h.tr,by simp [runBy,h.len],?_,fun i hi => ?_,?_,fun i hi => ?_,fun picks hp => ?_⟩
 ·show ((r.tr ++ [_]).length : Int) ≤ b
  simp; omega
 ·rcases List.mem_append.1 hi with e | e
  ·exact h.tk i e
  ·simp only [List.mem_cons,List.not_mem_nil,or_false] at e
   subst e; omega
 ·show pX p (r.tr ++ [_]) (r.tr ++ [_]).length = (stepL p r.s _).1
  rw [List.length_append]
  show pX p (r.tr ++ [_]) (r.tr.length + 1) = _
  rw [pX,rU _ _ _ _ (Nat.le_refl _),h.at_]
  have : (r.tr ++ [(stepL p r.s (enAt p r k)).2]).getD r.tr.length qZ = (stepL p r.s (enAt p r k)).2 := by simp [List.getD_eq_getElem?_getD]
  rw [this,hth]
  rfl
 ·have hi : i < (r.tr ++ [(stepL p r.s (enAt p r k)).2]).length := hi
  show ((r.tr ++ [_]).getD i qZ).th.toNat ∈ enabledL p (pX p (r.tr ++ [_]) i) ∧ 0 ≤ ((r.tr ++ [_]).getD i qZ).th
  simp only [List.length_append,List.length_cons,List.length_nil] at hi
  rw [rU _ _ _ _ (by omega)]
  by_cases he : i = r.tr.length
  ·subst he
   have : (r.tr ++ [(stepL p r.s (enAt p r k)).2]).getD r.tr.length qZ = (stepL p r.s (enAt p r k)).2 := by simp [List.getD_eq_getElem?_getD]
   rw [this,hth,h.at_]
   exact ⟨by simpa using hm,by omega⟩
  ·have : (r.tr ++ [(stepL p r.s (enAt p r k)).2]).getD i qZ = r.tr.getD i qZ := by
    rw [List.getD_eq_getElem?_getD,List.getD_eq_getElem?_getD,List.getElem?_append_left (by omega)]
   rw [this]
   exact h.en i (by omega)
 ·have hp : r.tk ++ [(k : Int)] <+: picks := hp
  obtain ⟨more,rfl⟩ := hp
  rw [h.run _ ⟨[(k : Int)] ++ more,by simp⟩]
  have hn : b.toNat + 1 - r.tr.length = (b.toNat - r.tr.length) + 1 := by omega
  rw [hn,runT,if_neg hc]
  have hpk : pickOf (r.tk ++ [(k : Int)] ++ more) r.tk (enabledL p r.s).length = (k : Int) := by
   unfold pickOf
   rw [if_pos (by simp)]
   have : (r.tk ++ [(k : Int)] ++ more).getD r.tk.length 0 = (k : Int) := by simp [List.getD_eq_getElem?_getD]
   rw [this]
   exact Int.tmod_eq_of_lt (by omega) (by omega)
  simp only [hpk]
  show _ = runT p _ b (b.toNat + 1 - (r.tr ++ [_]).length) _ _ _
  rw [show b.toNat + 1 - (r.tr ++ [(stepL p r.s (enAt p r k)).2]).length = b.toNat - r.tr.length by simp]
  rfl
theorem XR.leaf {p : ProgL} {b : Int} {r : RunT} (h : XR p b r) (hc : 0 < codeL p r.s r.tr.length b) : XEnd p b (leaf p b (codeL p r.s r.tr.length b) r) := by
 refine ⟨⟨h.inv,h.tr,rfl,hc,h.len,h.le,h.tk⟩,h.en,?_⟩
 show runOf p r.tk b = _
 rw [h.run _ (List.prefix_rfl)]
 have hle := h.le
 have hn : b.toNat + 1 - r.tr.length = (b.toNat - r.tr.length) + 1 := by omega
 rw [hn,runT,if_pos hc]
 rfl
theorem xgo_all {p : ProgL} (hg : p.goodS) (hv : p.flt) {b : Int} {sl : Bool} {K : StL → Nat → Ev → Prop} : ∀ (n : Nat) (r : RunT) (sleep : List Nat) (acc : List RunT),XR p b r → (∀ x ∈ acc,XEnd p b x) → ∀ x ∈ (xgo p b sl K n r sleep acc).1,XEnd p b x
 | 0,r,sleep,acc,hr,ha => ha
 |n + 1,r,sleep,acc,hr,ha => by
  rw [xgo]
  split
  ·rename_i hc
   intro x hx
   rcases List.mem_append.1 hx with e | e
   ·exact ha x e
   ·simp only [List.mem_cons,List.not_mem_nil,or_false] at e
    subst e; exact hr.leaf hc
  ·rename_i hc
   have : ∀ k,k ≤ (enabledL p r.s).length → ∀ x ∈ (xloop p sl K (xgo p b sl K n) r sleep acc k).acc,XEnd p b x := by
    intro k
    induction k with
    |zero => exact fun _ => ha
    |succ k ih =>
     intro hk
     rw [xloop]
     split
     ·exact ih (by omega)
     ·exact xgo_all hg hv n _ _ _ (hr.step hg hv hc hk) (ih (by omega))
   exact this _ (Nat.le_refl _)
theorem iH {p : ProgL} {b : Int} {sl : Bool} {K : StL → Nat → Ev → Prop} : ∀ (n : Nat) (r : RunT) (sleep : List Nat) (acc : List RunT),acc.length ≤ 400 → (xgo p b sl K n r sleep acc).1.length ≤ 401 ∧ ((xgo p b sl K n r sleep acc).2 = true → (xgo p b sl K n r sleep acc).1.length ≤ 400)
 | 0,r,sleep,acc,ha => ⟨by show acc.length ≤ _; omega,fun _ => ha⟩
 |n + 1,r,sleep,acc,ha => by
  rw [xgo]
  split
  ·refine ⟨by simp; omega,fun h => ?_⟩
   have := of_decide_eq_true h
   simp; omega
  ·have : ∀ k,(xloop p sl K (xgo p b sl K n) r sleep acc k).acc.length ≤ 401 ∧ ((xloop p sl K (xgo p b sl K n) r sleep acc k).ok = true → (xloop p sl K (xgo p b sl K n) r sleep acc k).acc.length ≤ 400) := by
    intro k
    induction k with
    |zero => exact ⟨by show acc.length ≤ _; omega,fun _ => ha⟩
    |succ k ih =>
     rw [xloop]
     split
     ·exact ih
     ·rename_i h
      have hok : (xloop p sl K (xgo p b sl K n) r sleep acc k).ok = true := by
       cases hh : (xloop p sl K (xgo p b sl K n) r sleep acc k).ok with
       |true => rfl
       |false => exact absurd (.inl hh) h
      exact iH n _ _ _ (ih.2 hok)
   exact this _
theorem xloop_len {p : ProgL} {b : Int} {sl : Bool} {K : StL → Nat → Ev → Prop} {n : Nat} {r : RunT} {sleep : List Nat} {acc : List RunT} (ha : acc.length ≤ 400) : ∀ k,(xloop p sl K (xgo p b sl K n) r sleep acc k).ok = true → (xloop p sl K (xgo p b sl K n) r sleep acc k).acc.length ≤ 400
 | 0,_ => ha
 |k + 1,hok => by
  rw [xloop] at hok ⊢
  split
  ·rename_i h
   rw [if_pos h] at hok
   exact xloop_len ha k hok
  ·rename_i h
   rw [if_neg h] at hok
   have hok1 : (xloop p sl K (xgo p b sl K n) r sleep acc k).ok = true := by
    cases hh : (xloop p sl K (xgo p b sl K n) r sleep acc k).ok with
    |true => rfl
    |false => exact absurd (.inl hh) h
   exact (iH n _ _ _ (xloop_len ha k hok1)).2 hok
theorem xloop_tried {p : ProgL} {sl : Bool} {K : StL → Nat → Ev → Prop} {f : RunT → List Nat → List RunT → List RunT × Bool} {r : RunT} {sleep : List Nat} {acc : List RunT} : ∀ k,k ≤ (enabledL p r.s).length →
  (xloop p sl K f r sleep acc k).tried.length ≤ k ∧ ∀ u ∈ (xloop p sl K f r sleep acc k).tried,u ∈ enabledL p r.s
 | 0,_ => ⟨Nat.le_refl _,fun u hu => (by cases hu)⟩
 |k + 1,hk => by
  have ih := xloop_tried (p := p) (sl := sl) (K := K) (f := f) (r := r) (sleep := sleep) (acc := acc) k (by omega)
  rw [xloop]
  split
  ·exact ⟨by omega,ih.2⟩
  ·refine ⟨by simp; exact ih.1,fun u hu => ?_⟩
   rcases List.mem_append.1 hu with e | e
   ·exact ih.2 u e
   ·simp only [List.mem_cons,List.not_mem_nil,or_false] at e
    subst e
    exact XR.mem (b := 0) (by omega)
end Ai
end
section
set_option maxRecDepth 100000
namespace Ai
open Go Go.Proofs Cyc
noncomputable def gD (p : ProgL) (b : Int) : List RunT × Bool := xgo p b false (fun _ _ _ => True) (b.toNat + 1) ⟨0,[],[],wY p⟩ [] []
theorem i7 {p : ProgL} (hg : p.goodS) (hv : p.flt) {b : Int} (hb : 0 ≤ b) : ∀ x ∈ (gD p b).1,XEnd p b x := xgo_all hg hv _ _ _ _ (XR.new hg hb) fun x hx => (by cases hx)
theorem i6 (p : ProgL) (b : Int) : (gD p b).1.length ≤ 401 := (iH _ _ _ _ (Nat.zero_le _)).1
theorem allR_of (p : ProgL) (b : Int) (K : StL → Nat → Ev → Prop) (sleep : List Nat) : xgo p b false K (b.toNat + 1) ⟨0,[],[],wY p⟩ sleep [] = gD p b := cY p b K _ _ _ _ _ _
end Ai
end
section
set_option maxRecDepth 100000
namespace Ai
open Go Go.Proofs
def n0 (xs : List Int) (n : Int) : Option Nat := xs.findIdx? (· == n)
theorem lW (xs : List Int) (n : Int) : (0 ≤ dX (n0 xs n)) ↔ n ∈ xs := by
 unfold n0
 cases h : xs.findIdx? (· == n) with
 |none =>
  rw [List.findIdx?_eq_none_iff] at h
  simp only [dX]
  refine ⟨fun e => absurd e (by decide),fun hm => ?_⟩
  have := h n hm
  simp at this
 |some k =>
  rw [List.findIdx?_eq_some_iff_getElem] at h
  obtain ⟨h1,h2,_⟩ := h
  simp only [dX]
  have h2 : xs[k] = n := by simpa using h2
  exact ⟨fun _ => h2 ▸ List.getElem_mem h1,fun _ => by omega⟩
theorem IdxA_ok (xs : List Int) (n : Int) (hx : xs.length ≤ 1048576) : CallsTo EE 106 [sl (xs.map encInt),i64 n] (· = i64 (dX (n0 xs n))) := by
 refine callsTo_of_AW (fn := Tryz.f106) Tryz.func106 rfl (by kernel_rfl) rfl ?_
 conv => whnf
 refine yR (fun k : Nat => [(0,sl (xs.map encInt)),(1,i64 n),(7,i64 (xs.map encInt).length),(8,i64 k)]) (fun k => []) (fun k => xs.length - k) (fun k => k ≤ xs.length ∧ ∀ x ∈ xs.take k,(x == n) = false) 0 .refl ⟨rfl,rfl,rfl,rfl,trivial⟩ trivial ⟨Nat.zero_le _,qC⟩ ?_
 rintro k τ H ⟨hk,ih⟩
 conv => whnf
 refine kbi (fun h => ?_) (fun h => ?_)
 ·have hlt := xM h
  conv => whnf
  refine ⟨encInt xs[k],yB encInt hlt rfl,?_⟩
  conv => whnf
  refine kbi (fun h => ?_) (fun h => ?_)
  ·conv => whnf
   have h : n = xs[k] := by simpa using h
   have : n0 xs n = some k := gP (f := (· == n)) hlt ih (by simp [h])
   rw [this]
   rfl
  ·conv => whnf
   have h : ¬ n = xs[k] := by simpa using h
   exact ⟨k + 1,⟨by omega,qD ih hlt (by simp; exact fun e => h e.symm)⟩,by show xs.length - (k + 1) < xs.length - k; omega,⟨rfl,rfl,rfl,next_i64 hlt (by omega),trivial⟩,trivial⟩
 ·conv => whnf
  have : n0 xs n = none := gQ (f := (· == n)) (kF ih (by simp at h; omega))
  rw [this]
  rfl
theorem ContA_ok (xs : List Int) (n : Int) (hx : xs.length ≤ 1048576) : CallsTo EE 113 [sl (xs.map encInt),i64 n] (· = bp (n ∈ xs)) := by
 refine callsTo_of_AW (fn := Tryz.f113) Tryz.func113 rfl (by kernel_rfl) rfl ?_
 conv => whnf
 refine ⟨_,IdxA_ok xs n hx,?_⟩
 rintro r rfl
 conv => whnf
 refine kbi (fun h => ?_) (fun h => ?_)
 ·conv => whnf
  exact bpt ((lW xs n).1 (of_decide_eq_true h))
 ·conv => whnf
  exact bpf fun e => h (decide_eq_true ((lW xs n).2 e))
theorem IdxS_ok (xs : List Int) (n : Int) (hx : xs.length ≤ 1048576) : CallsTo EE 178 [sl (xs.map encInt),i64 n] (· = i64 (dX (n0 xs n))) := by
 refine callsTo_of_AW (fn := Tryz.f178) Tryz.func178 rfl (by kernel_rfl) rfl ?_
 conv => whnf
 refine yR (fun k : Nat => [(0,sl (xs.map encInt)),(1,i64 n),(7,i64 (xs.map encInt).length),(8,i64 k)]) (fun k => []) (fun k => xs.length - k) (fun k => k ≤ xs.length ∧ ∀ x ∈ xs.take k,(x == n) = false) 0 .refl ⟨rfl,rfl,rfl,rfl,trivial⟩ trivial ⟨Nat.zero_le _,qC⟩ ?_
 rintro k τ H ⟨hk,ih⟩
 conv => whnf
 refine kbi (fun h => ?_) (fun h => ?_)
 ·have hlt := xM h
  conv => whnf
  refine ⟨encInt xs[k],yB encInt hlt rfl,?_⟩
  conv => whnf
  refine kbi (fun h => ?_) (fun h => ?_)
  ·conv => whnf
   have h : n = xs[k] := by simpa using h
   have : n0 xs n = some k := gP (f := (· == n)) hlt ih (by simp [h])
   rw [this]
   rfl
  ·conv => whnf
   have h : ¬ n = xs[k] := by simpa using h
   exact ⟨k + 1,⟨by omega,qD ih hlt (by simp; exact fun e => h e.symm)⟩,by show xs.length - (k + 1) < xs.length - k; omega,⟨rfl,rfl,rfl,next_i64 hlt (by omega),trivial⟩,trivial⟩
 ·conv => whnf
  have : n0 xs n = none := gQ (f := (· == n)) (kF ih (by simp at h; omega))
  rw [this]
  rfl
theorem ContS_ok (xs : List Int) (n : Int) (hx : xs.length ≤ 1048576) : CallsTo EE 146 [sl (xs.map encInt),i64 n] (· = bp (n ∈ xs)) := by
 refine callsTo_of_AW (fn := Tryz.f146) Tryz.func146 rfl (by kernel_rfl) rfl ?_
 conv => whnf
 refine ⟨_,IdxS_ok xs n hx,?_⟩
 rintro r rfl
 conv => whnf
 refine kbi (fun h => ?_) (fun h => ?_)
 ·conv => whnf
  exact bpt ((lW xs n).1 (of_decide_eq_true h))
 ·conv => whnf
  exact bpf fun e => h (decide_eq_true ((lW xs n).2 e))
theorem CloneS_ok (xs : List Int) (hx : xs.length ≤ 1048576) : CallsTo EE 145 [sl (xs.map encInt)] (· = .uq 3 1 (xs.map encInt)) := by
 refine callsTo_of_AW (fn := Tryz.f145) Tryz.func145 rfl (by kernel_rfl) rfl ?_
 conv => whnf
 refine ⟨fun hn => ?_,?_⟩
 ·conv => whnf
  have : xs = [] := List.eq_nil_of_length_eq_zero (by simpa using hn)
  subst this
  exact .inr ⟨3,1,rfl⟩
 ·conv => whnf
  refine ⟨⟨by simp [encInt],by simp; omega,by simp; omega⟩,?_⟩
  conv => whnf
  exact congrArg (AV.uq 3 1) (by simp [List.take_of_length_le])
def dL (e : Ev) : Prop := e.kind = 2 ∨ e.kind = 3
def pS (e : Ev) : Prop := e.kind = 8 ∨ e.kind = 9 ∨ e.kind = 10
def jZ (e : Ev) : Int := if e.kind = 4 ∨ e.kind = 5 then e.obj else if e.kind = 8 ∨ e.kind = 9 then e.lock else -2
def oM (e : Ev) : Int := if e.kind = 5 then e.obj else if e.kind = 8 then e.lock else -1
def iN (e : Ev) : Int := if e.kind = 4 then e.obj else if e.kind = 9 then e.lock else -1
def pG (e : Ev) : Int := if iN e > oM e then iN e else oM e
def fC (a b : Ev) : Prop :=
 if a.kind = 3 then dL b ∧ a.obj = b.obj
 else if a.kind = 6 then b.kind = 6 ∨ b.th = a.obj
 else if a.kind = 7 then b.kind = 11 ∧ b.th = a.obj
 else if a.kind = 10 then b.th = a.lock ∨ (pS b ∧ a.obj = b.obj)
 else if a.kind = 8 then pS b ∧ a.obj = b.obj
 else a.kind = 12
def hangE (a b : Ev) : Prop := a.th = b.th ∨ fC a b ∨ fC b a ∨ (jZ a = jZ b ∧ jZ a ≠ -2)
def hangI (a b : Ev) : Prop := a.th = b.th ∨ fC a b ∨ fC b a ∨ (0 ≤ pG a ∧ pG a = pG b)
theorem touchS_ok (e : Ev) : CallsTo EE 203 [agg (encEv e)] (· = bp (dL e)) := by
 refine callsTo_of_AW (fn := Tryz.f203) Tryz.func203 rfl (by kernel_rfl) rfl ?_
 conv => whnf
 repeat' (refine kbi (fun h => ?_) (fun h => ?_) <;> conv => whnf)
 all_goals simp only [beq_iff_eq] at *
 all_goals first | exact bpt (by unfold dL; omega) | exact bpf (by unfold dL; omega)
theorem touchI_ok (e : Ev) : CallsTo EE 205 [agg (encEv e)] (· = bp (dL e)) := by
 refine callsTo_of_AW (fn := Tryz.f205) Tryz.func205 rfl (by kernel_rfl) rfl ?_
 conv => whnf
 repeat' (refine kbi (fun h => ?_) (fun h => ?_) <;> conv => whnf)
 all_goals simp only [beq_iff_eq] at *
 all_goals first | exact bpt (by unfold dL; omega) | exact bpf (by unfold dL; omega)
theorem condS_ok (e : Ev) : CallsTo EE 204 [agg (encEv e)] (· = bp (pS e)) := by
 refine callsTo_of_AW (fn := Tryz.f204) Tryz.func204 rfl (by kernel_rfl) rfl ?_
 conv => whnf
 repeat' (refine kbi (fun h => ?_) (fun h => ?_) <;> conv => whnf)
 all_goals simp only [beq_iff_eq] at *
 all_goals first | exact bpt (by unfold pS; omega) | exact bpf (by unfold pS; omega)
theorem condI_ok (e : Ev) : CallsTo EE 206 [agg (encEv e)] (· = bp (pS e)) := by
 refine callsTo_of_AW (fn := Tryz.f206) Tryz.func206 rfl (by kernel_rfl) rfl ?_
 conv => whnf
 repeat' (refine kbi (fun h => ?_) (fun h => ?_) <;> conv => whnf)
 all_goals simp only [beq_iff_eq] at *
 all_goals first | exact bpt (by unfold pS; omega) | exact bpf (by unfold pS; omega)
theorem sQ (e : Ev) : CallsTo EE 176 [agg (encEv e)] (· = i64 (jZ e)) := by
 refine callsTo_of_AW (fn := Tryz.f176) Tryz.func176 rfl (by kernel_rfl) rfl ?_
 conv => whnf
 repeat' (refine kbi (fun h => ?_) (fun h => ?_) <;> conv => whnf)
 all_goals simp only [beq_iff_eq] at *
 all_goals exact congrArg i64 (by unfold jZ; simp [*])
theorem givesI_ok (e : Ev) : CallsTo EE 207 [agg (encEv e)] (· = i64 (oM e)) := by
 refine callsTo_of_AW (fn := Tryz.f207) Tryz.func207 rfl (by kernel_rfl) rfl ?_
 conv => whnf
 repeat' (refine kbi (fun h => ?_) (fun h => ?_) <;> conv => whnf)
 all_goals simp only [beq_iff_eq] at *
 all_goals exact congrArg i64 (by unfold oM; simp [*])
theorem takesI2_ok (e : Ev) : CallsTo EE 208 [agg (encEv e)] (· = i64 (iN e)) := by
 refine callsTo_of_AW (fn := Tryz.f208) Tryz.func208 rfl (by kernel_rfl) rfl ?_
 conv => whnf
 repeat' (refine kbi (fun h => ?_) (fun h => ?_) <;> conv => whnf)
 all_goals simp only [beq_iff_eq] at *
 all_goals exact congrArg i64 (by unfold iN; simp [*])
end Ai
end
section
set_option maxRecDepth 100000
namespace Ai
open Go Go.Proofs
theorem mD (a b : Ev) : CallsTo EE 177 [agg (encEv a),agg (encEv b)] (· = bp (fC a b)) := by
 refine callsTo_of_AW (fn := Tryz.f177) Tryz.func177 rfl (by kernel_rfl) rfl ?_
 conv => whnf
 repeat' (first | refine kbi (fun h => ?_) (fun h => ?_) | refine ocase (touchS_ok b) (fun h => ?_) (fun h => ?_) | refine ocase (condS_ok b) (fun h => ?_) (fun h => ?_)) <;> conv => whnf
 all_goals simp only [beq_iff_eq] at *
 all_goals first | exact bpt (by unfold fC; simp [*]) | exact bpf (by unfold fC; simp [*])
theorem e7 (a b : Ev) : CallsTo EE 179 [agg (encEv a),agg (encEv b)] (· = bp (fC a b)) := by
 refine callsTo_of_AW (fn := Tryz.f179) Tryz.func179 rfl (by kernel_rfl) rfl ?_
 conv => whnf
 repeat' (first | refine kbi (fun h => ?_) (fun h => ?_) | refine ocase (touchI_ok b) (fun h => ?_) (fun h => ?_) | refine ocase (condI_ok b) (fun h => ?_) (fun h => ?_)) <;> conv => whnf
 all_goals simp only [beq_iff_eq] at *
 all_goals first | exact bpt (by unfold fC; simp [*]) | exact bpf (by unfold fC; simp [*])
theorem nA (e : Ev) : CallsTo EE 180 [agg (encEv e)] (· = i64 (pG e)) := by
 refine callsTo_of_AW (fn := Tryz.f180) Tryz.func180 rfl (by kernel_rfl) rfl ?_
 conv => whnf
 refine ⟨by kernel_rfl,?_⟩
 conv => whnf
 refine ⟨_,givesI_ok e,?_⟩
 conv => whnf
 refine ⟨_,takesI2_ok e,?_⟩
 conv => whnf
 rfl
theorem hangS_ok (a b : Ev) : CallsTo EE 143 [agg (encEv a),agg (encEv b)] (· = bp (hangE a b)) := by
 refine callsTo_of_AW (fn := Tryz.f143) Tryz.func143 rfl (by kernel_rfl) rfl ?_
 conv => whnf
 refine ⟨by kernel_rfl,?_⟩
 conv => whnf
 refine kbi (fun h1 => ?_) (fun h1 => ?_)
 ·conv => whnf
  exact bpt (.inl (by simpa using h1))
 have h1 : ¬ a.th = b.th := by simpa using h1
 conv => whnf
 refine ⟨_,sQ a,?_⟩
 conv => whnf
 refine ⟨_,sQ b,?_⟩
 conv => whnf
 have rest : ¬ (jZ a = jZ b ∧ jZ a ≠ -2) → (hangE a b ↔ fC a b ∨ fC b a) := fun h => by unfold hangE; simp [h,h1]
 refine kbi (fun h2 => ?_) (fun h2 => ?_)
 ·have h2 : jZ a = jZ b := by simpa using h2
  conv => whnf
  refine ⟨_,sQ a,?_⟩
  conv => whnf
  refine kbi (fun h3 => ?_) (fun h3 => ?_)
  ·have h3 : jZ a ≠ -2 := by simpa using h3
   conv => whnf
   exact bpt (.inr (.inr (.inr ⟨h2,h3⟩)))
  have h3 : jZ a = -2 := by simpa using h3
  have rest := rest fun e => e.2 h3
  conv => whnf
  refine ocase (mD a b) (fun h => ?_) (fun h => ?_)
  ·conv => whnf
   exact bpt (rest.2 (.inl h))
  conv => whnf
  refine ocase (mD b a) (fun h4 => ?_) (fun h4 => ?_)
  ·conv => whnf
   exact bpt (rest.2 (.inr h4))
  conv => whnf
  exact bpf fun e => (rest.1 e).elim h h4
 ·have h2 : ¬ jZ a = jZ b := by simpa using h2
  have rest := rest fun e => h2 e.1
  conv => whnf
  refine ocase (mD a b) (fun h => ?_) (fun h => ?_)
  ·conv => whnf
   exact bpt (rest.2 (.inl h))
  conv => whnf
  refine ocase (mD b a) (fun h4 => ?_) (fun h4 => ?_)
  ·conv => whnf
   exact bpt (rest.2 (.inr h4))
  conv => whnf
  exact bpf fun e => (rest.1 e).elim h h4
theorem hangI_ok (a b : Ev) : CallsTo EE 148 [agg (encEv a),agg (encEv b)] (· = bp (hangI a b)) := by
 refine callsTo_of_AW (fn := Tryz.f148) Tryz.func148 rfl (by kernel_rfl) rfl ?_
 conv => whnf
 refine ⟨by kernel_rfl,?_⟩
 conv => whnf
 refine kbi (fun h1 => ?_) (fun h1 => ?_)
 ·conv => whnf
  exact bpt (.inl (by simpa using h1))
 have h1 : ¬ a.th = b.th := by simpa using h1
 conv => whnf
 refine qcase (e7 a b) (fun h2 => ?_) (fun h2 => ?_)
 ·conv => whnf
  exact bpt (.inr (.inl h2))
 conv => whnf
 refine qcase (e7 b a) (fun h3 => ?_) (fun h3 => ?_)
 ·conv => whnf
  exact bpt (.inr (.inr (.inl h3)))
 have rest : hangI a b ↔ 0 ≤ pG a ∧ pG a = pG b := by unfold hangI; simp [h1,h2,h3]
 conv => whnf
 refine ⟨_,nA a,?_⟩
 conv => whnf
 refine kbi (fun h4 => ?_) (fun h4 => ?_)
 ·have h4 : 0 ≤ pG a := by simpa using h4
  conv => whnf
  refine ⟨_,nA a,?_⟩
  conv => whnf
  refine ⟨_,nA b,?_⟩
  conv => whnf
  refine kbi (fun h5 => ?_) (fun h5 => ?_)
  ·conv => whnf
   exact bpt (rest.2 ⟨h4,by simpa using h5⟩)
  ·conv => whnf
   exact bpf fun e => h5 (by simpa using (rest.1 e).2)
 ·conv => whnf
  exact bpf fun e => h4 (decide_eq_true (rest.1 e).1)
end Ai
end
section
set_option maxRecDepth 100000
namespace Ai
open Go Go.Proofs Cyc
def rowPk (x : RunT) : List D := [.sl (x.tk.map encInt)]
def rowTr (x : RunT) : List D := [.sl (x.tr.map encEv)]
noncomputable def rowSg (p : ProgL) (x : RunT) : List D := [.str (wR p x)]
theorem event_ok (p : ProgL) (hp : p.wf) (hg : p.goodS) (s : StL) (hi : AInv p s) (k : Nat) (hk : k < s.ths.length) (b : Int) (sl many : Bool) (d1 d2 d3 : List (List D)) :
  CallsTo EE 144 [.fp (encProg p ++ [di b,.bool sl,.sl d1,.sl d2,.sl d3,.bool many]),agg (encSt s),i64 k] (· = agg (encEv (stepL p s k).2)) := by
 have hst := l3Step_ok toIndexS p s k hp hk hi.si.len (runOK hg |>.small s hi.si).1 (inv_ready hg hi.si hk)
 refine callsTo_of_AW (fn := Tryz.f144) Tryz.func144 rfl (by kernel_rfl) rfl ?_
 conv => whnf
 refine .inr (.inl ⟨14,[],?_⟩)
 conv => whnf
 refine ⟨_,hst,?_⟩
 conv => whnf
 refine ⟨by kernel_rfl,?_⟩
 conv => whnf
 rfl
def wkC (p : ProgL) (b : Int) (sl : Bool) (n : Nat) (many : Bool) : List AV := [i64 p.cells,i64 p.locks,i64 p.conds,.d (.sl (p.rs.map zO)),i64 b,bv sl,.ref (.n 901) 0 n,.ref (.n 902) 0 n,.ref (.n 903) 0 n,bv many]
noncomputable def wkH (p : ProgL) (b : Int) (sl : Bool) (xs : List RunT) (many : Bool) : Key → Option Ob
 | .l j => bif Nat.beq j 0 then some (.vs 92 (wkC p b sl xs.length many)) else none
 | .n j => bif Nat.beq j 901 then some (.ds 25 1 (xs.map rowPk)) else bif Nat.beq j 902 then some (.ds 72 1 (xs.map rowTr)) else bif Nat.beq j 903 then some (.ds 9 1 (xs.map (rowSg p))) else none
 | .s _ _ => none
def lendW : Key → Bool
 | .l j => Nat.beq j 0
 | .n j => Nat.beq j 901 || Nat.beq j 902 || Nat.beq j 903
 | .s _ _ => false
def AtW (p : ProgL) (b : Int) (sl : Bool) (xs : List RunT) (many : Bool) (H : Key → Option Ob) : Prop :=
 H (.l 0) = some (.vs 92 (wkC p b sl xs.length many)) ∧ H (.n 901) = some (.ds 25 1 (xs.map rowPk)) ∧ H (.n 902) = some (.ds 72 1 (xs.map rowTr)) ∧ H (.n 903) = some (.ds 9 1 (xs.map (rowSg p)))
theorem wkH_none {p : ProgL} {b : Int} {sl : Bool} {xs : List RunT} {many : Bool} : ∀ κ,lendW κ = false → wkH p b sl xs many κ = none
 | .l j,h => by have h : Nat.beq j 0 = false := h; simp [wkH,h]
 | .n j,h => by
  have h : (Nat.beq j 901 || Nat.beq j 902 || Nat.beq j 903) = false := h
  simp only [Bool.or_eq_false_iff] at h
  simp [wkH,h.1.1,h.1.2,h.2]
 | .s o j,h => rfl
theorem lend_wk {p : ProgL} {b : Int} {sl : Bool} {xs : List RunT} {many : Bool} {H : Key → Option Ob} (h : AtW p b sl xs many H) : yI lendW H = wkH p b sl xs many := by
 obtain ⟨h0,h1,h2,h3⟩ := h
 funext κ
 cases hk : lendW κ with
 |false => rw [wkH_none κ hk,bU hk]
 |true =>
  rw [wW hk]
  cases κ with
  |l j =>
   have := Nat.eq_of_beq_eq_true (show Nat.beq j 0 = true from hk)
   subst this
   rw [h0]; rfl
  |n j =>
   have hk : (Nat.beq j 901 || Nat.beq j 902 || Nat.beq j 903) = true := hk
   simp only [Bool.or_eq_true] at hk
   rcases hk with (hk | hk) | hk
   ·have := Nat.eq_of_beq_eq_true hk
    subst this; rw [h1]; rfl
   ·have := Nat.eq_of_beq_eq_true hk
    subst this; rw [h2]; rfl
   ·have := Nat.eq_of_beq_eq_true hk
    subst this; rw [h3]; rfl
  |s o j => cases hk
theorem io_nil {E : Env} {g : FuncId} {H0 : Key → Option Ob} {Post : AV → (Key → Option Ob) → Prop} {x y : AV} (h : IOCall E g [x,y,sl []] H0 Post) : IOCall E g [x,y,.d .nil] H0 Post := by
 intro w0 A m w vs hH hl hr
 refine h w0 A m w vs hH hl fun i a v ha hv => ?_
 match i,ha with
 | 0,ha => exact hr 0 a v ha hv
 | 1,ha => exact hr 1 a v ha hv
 | 2,ha =>
  have ha : sl [] = a := by simpa using ha
  subst ha
  have := hr 2 (.d .nil) v rfl hv
  cases this with
  |d _ _ hd => cases hd; exact .d _ _ (.sl0 none 0)
 |i + 3,ha => simp at ha
end Ai
end
