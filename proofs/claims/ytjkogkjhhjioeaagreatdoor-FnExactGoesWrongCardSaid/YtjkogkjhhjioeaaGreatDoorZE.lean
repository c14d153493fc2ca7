import Derived.Test.YtjkogkjhhjioeaaGreatDoorZD
set_option maxHeartbeats 8000000
set_option linter.unusedVariables false
set_option linter.unusedSimpArgs false
section
set_option maxRecDepth 100000
namespace Ai
open Go Go.Proofs
theorem lend_stHA {S : St} {E : TypeId} {pre : List AV} (hp : InertL pre) {s' : StL} {l : List Th} {k : Nat} {t' : Th} (hk : k < l.length) (hl : s'.ths = l.set k t') (h0 : S.H (.l 0) = some (.vs E (pre ++ stRef s'))) (h1 : S.H (.n 899) = some (.ds 105 1 (stk t')))
  (h2 : S.H (.n 900) = some (.rs 123 6 (rowsA l k t'))) (h3 : ∀ j, S.H (.s 900 j) = fam0 l k j) (h4 : S.H (.n 901) = some (.ds 105 1 (s'.cells.map encF))) (h6 : S.H (.n 902) = some (.ds 3 1 (s'.owner.map encInt))) :
  ∃ (h : k < s'.ths.length), lendH lendI S.H = stHA E pre s' k s'.ths[k] := by
 have hk' : k < s'.ths.length := by rw [hl]; simpa using hk
 refine ⟨hk', ?_⟩
 have htk : s'.ths[k] = t' := by simp [hl]
 rw [htk]
 funext κ
 cases κ with
 |l j =>
  by_cases h : j = 0
  ·subst h
   show (S.H (.l 0)).map _ = _
   rw [h0]
   show some (Ob.vs E (scrPL _ (pre ++ stRef s'))) = some (Ob.vs E (pre ++ stRef s'))
   rw [scrPL_app, inertL_scr hp, stRef_scr]
  ·simp [lendH, lendI, stHA, nbeq_ne h]
 |n j =>
  by_cases e1 : j = 899
  ·subst e1
   show (S.H (.n 899)).map _ = _
   rw [h1]; rfl
  by_cases e2 : j = 900
  ·subst e2
   show (S.H (.n 900)).map _ = _
   rw [h2]
   show some (Ob.rs 123 6 ((rowsA l k t').map (scrPL fun o => !lendI o))) = some (Ob.rs 123 6 (rowsA s'.ths k t'))
   rw [hl, rowsA_set hk]
   exact congrArg (fun x => some (Ob.rs 123 6 x)) (rowsA_scr rfl (fun _ => rfl) _ _ _)
  by_cases e3 : j = 901
  ·subst e3
   show (S.H (.n 901)).map _ = _
   rw [h4]; rfl
  by_cases e4 : j = 902
  ·subst e4
   show (S.H (.n 902)).map _ = _
   rw [h6]; rfl
  simp [lendH, lendI, stHA, nbeq_ne e1, nbeq_ne e2, nbeq_ne e3, nbeq_ne e4]
 |s o j =>
  by_cases h : o = 900
  ·subst h
   show (S.H (.s 900 j)).map _ = bif Nat.beq j k then none else thFam s'.ths j
   rw [h3, fam0_scr]
   by_cases hj : j = k
   ·subst hj; simp [fam0, nbeq_self]
   ·unfold fam0; rw [nbeq_ne hj, hl, thFam_set hj]
  ·simp [lendH, lendI, stHA, nbeq_ne h]
theorem stHA_none {E : TypeId} {pre : List AV} {s : StL} {k : Nat} {t : Th} : ∀ κ, lendI κ = false → stHA E pre s k t κ = none
 | .l j, h => by have h : Nat.beq j 0 = false := h; simp [stHA, h]
 | .n j, h => by
  have h : (Nat.beq j 899 || Nat.beq j 900 || Nat.beq j 901 || Nat.beq j 902) = false := h
  simp only [Bool.or_eq_false_iff] at h
  simp [stHA, h.1.1.1, h.1.1.2, h.1.2, h.2]
 | .s o j, h => by have h : Nat.beq o 900 = false := h; simp [stHA, h]
theorem vs_ren {E : TypeId} {pre : List AV} (hp : InertL pre) (s : StL) : renO (swp (.n 999) (.l 99)) (.vs E (pre ++ stRef s)) = .vs E (pre ++ stRef s) := by
 show Ob.vs E (renL _ (pre ++ stRef s)) = _
 rw [renL_app, inertL_ren hp]
 rfl
theorem rowsA_ren9 (l : List Th) (k : Nat) (t : Th) : renO (swp (.n 999) (.l 99)) (.rs 123 6 (rowsA l k t)) = .rs 123 6 (rowsA l k t) := by
 show Ob.rs 123 6 ((rowsA l k t).map (renL _)) = _
 unfold rowsA
 rw [List.map_set, thRows_renl]
 rfl
theorem rowsA_scrO {p : Key → Bool} (h1 : p (.n 899) = false) (h2 : ∀ j, p (.s 900 j) = false) (l : List Th) (k : Nat) (t : Th) : scrPO p (.rs 123 6 (rowsA l k t)) = .rs 123 6 (rowsA l k t) := congrArg (Ob.rs 123 6) (rowsA_scr h1 h2 l k t)
theorem hren' {x X : Ob} {f : Key → Key} (h : x = X) (hp : renO f X = X) : renO f x = X := by rw [h]; exact hp
theorem FzA_ptr {S : St} {o : Key} {off : Nat} {E : TypeId} {cs : List AV} {ds : List D} (h : S.H o = some (.vs E cs)) (hf : FzC S (cs.drop off) ds) : FzA S (.ptr o off) (.fp ds) := by
 simp only [FzA, h]
 exact ⟨ds, rfl, hf⟩
theorem fz_stA {S : St} {s : StL} {k : Nat} {t : Th} {els : List (List D)} (hk : k < s.ths.length) (ht : s.ths[k] = t) (h9 : S.H (.n 900) = some (.rs 123 6 (rowsA s.ths k t))) (hfam : ∀ j, j ≠ k → (h : j < s.ths.length) → S.H (.s 900 j) = some (.ds 105 1 (stk s.ths[j])))
  (h8 : S.H (.n 899) = some (.ds 105 1 els)) (he : els.take t.stack.length = stk t) (h3 : S.H (.n 901) = some (.ds 105 1 (s.cells.map encF))) (h4 : S.H (.n 902) = some (.ds 3 1 (s.owner.map encInt))) : FzC S (stRef s) (encSt s) := by
 have hv := view_rowsA hk h9 hfam h8 he
 rw [← ht, List.set_getElem_self] at hv
 refine ⟨.sl (s.ths.map encTh), _, rfl, ⟨_, rfl, hv⟩, .sl (s.cells.map encF), _, rfl, ?_, .sl (s.owner.map encInt), _, rfl, ?_, di s.fault, [], rfl, rfl, rfl⟩
 ·simp [FzD, fz1, h3, List.take_of_length_le]
 ·simp [FzD, fz1, h4, List.take_of_length_le]
theorem rowsA_getE {X : List (List AV)} {l : List Th} {k : Nat} {t : Th} (h : k < l.length) (hX : X = rowsA l k t) : X[((k : Nat) : Int).toNat]? = some (rowA t) := by
 rw [hX]; exact rowsA_get h
theorem fault_vs {pre : List AV} {s : StL} {n : Int} {L : List AV} (hL : L = pre ++ stRef s) : splice L (pre.length + 3) [i64 n] = pre ++ stRef { s with fault := n } := by
 subst hL
 induction pre with
 |nil => rfl
 |cons x xs ih =>
  show splice (x :: (xs ++ stRef s)) (xs.length + 1 + 3) [i64 n] = x :: (xs ++ _)
  rw [show xs.length + 1 + 3 = (xs.length + 3) + 1 from by omega]
  exact congrArg (x :: ·) ih
theorem stepI_A (hI : ToIndexISpec) (E : TypeId) (x0 x1 x2 : AV) (i0 : Inert x0) (i1 : Inert x1) (i2 : Inert x2) (p : ProgL) (s : StL) (k : Nat) (hp : p.wf) (hk : k < s.ths.length) (h5 : s.ths.length ≤ 5)
  (hs : s.small) (hr : s.ths[k].ready p s k) (hst3 : s.ths[k].st ≠ 3) (hfl : ∀ x ∈ s.ths[k].stack, x < 18446744073709551616) (hjo : ∀ o, nextOp p s.ths[k] = some o → faultOf s k o = 0 → o.code = 15 → ∃ j, idxOf (topN s.ths[k] o 0) s.ths.length = some j ∧ joinsOf s s.ths[k] = some j)
  (H0 : Key → Option Ob) (h0 : H0 (.l 0) = some (.vs E ([x0, x1, x2] ++ stRef s))) (h1 : H0 (.n 899) = some (.ds 105 1 (stk s.ths[k]))) (h2 : H0 (.n 900) = some (.rs 123 6 (rowsA s.ths k s.ths[k]))) (h3 : ∀ j, H0 (.s 900 j) = fam0 s.ths k j)
  (h4 : H0 (.n 901) = some (.ds 105 1 (s.cells.map encF))) (h6 : H0 (.n 902) = some (.ds 3 1 (s.owner.map encInt))) :
  IOCall EE 115 [.ptr (.l 0) 3, agg (encProg p), i64 k] H0 (doIPost E [x0, x1, x2] k (stepL p s k).1 (stepL p s k).2) := by
 refine io_of_AW (fn := Tryz.f115) (c := Tryz.f115.body.getD .skip) Tryz.func115 rfl (by kernel_rfl) rfl ?_
 have hat : At [(0, .ptr (.l 0) 3), (1, agg (encProg p)), (2, i64 k)] [(.l 0, .vs E ([x0, x1, x2] ++ stRef s)), (.n 899, .ds 105 1 (stk s.ths[k])), (.n 900, .rs 123 6 (rowsA s.ths k s.ths[k])), (.n 901, .ds 105 1 (s.cells.map encF)), (.n 902, .ds 3 1 (s.owner.map encInt))] [(900, fam0 s.ths k)]
   ⟨fun i => [AV.ptr (.l 0) 3, agg (encProg p), i64 k].getD i .junk, H0⟩ :=
  ⟨⟨rfl, rfl, rfl, trivial⟩, ⟨h0, h1, h2, h4, h6, trivial⟩, ⟨h3, trivial⟩⟩
 obtain ⟨τ, H, hf⟩ := hat.form
 rw [hf]
 have hst := hs.2.1 _ (List.getElem_mem hk)
 have hgd : s.ths.getD k th0 = s.ths[k] := by simp [List.getD_eq_getElem?_getD, hk]
 have hp3 : InertL [x0, x1, x2] := by
  intro x hx
  simp only [List.mem_cons, List.not_mem_nil, or_false] at hx
  rcases hx with rfl | rfl | rfl <;> assumption
 have hpc := hr.pc
 clear hat hf h0 h1 h2 h3 h4 h6
 generalize ht0 : s.ths[k] = t at *
 conv => whnf
 refine ⟨⟨by omega, by omega⟩, ?_⟩
 conv => whnf
 refine ⟨rowA t, ⟨by repeat (first | exact rowsA_get hk | refine rget ?_ (rowA_scr rfl t)), by simp [rowA]⟩, ?_⟩
 conv => whnf
 refine .inr (.inl ⟨10, [], ?_⟩)
 conv => whnf
 refine ⟨rowA t, ⟨by repeat (first | exact rowsA_get hk | refine rget ?_ (rowA_scr rfl t)), by simp [rowA]⟩, ?_⟩
 conv => whnf
 refine ⟨_, Eq.mp (congrArg (fun x => CallsTo EE 151 [agg (encProg p), .agg [i64 t.rt, i64 t.pc, i64 t.st, i64 t.cond, i64 t.lock, sl x]] _) (stk_take t).symm) (nextI_ok p t hp hr.inP), ?_, ?_⟩
 ·intro c hc
  simp only [List.mem_cons, List.not_mem_nil, or_false] at hc
  rcases hc with rfl | rfl
  ·exact .inr ⟨encOp _, rfl, rfl⟩
  ·exact .inl ⟨_, rfl, rfl⟩
 conv => whnf
 refine ⟨by kernel_rfl, ?_⟩
 conv => whnf
 refine ⟨rowA t, ⟨by repeat (first | exact rowsA_get hk | refine rget ?_ (rowA_scr rfl t)), by simp [rowA]⟩, ?_⟩
 conv => whnf
 have hp3 : InertL [x0, x1, x2] := by
  intro x hx
  simp only [List.mem_cons, List.not_mem_nil, or_false] at hx
  rcases hx with rfl | rfl | rfl <;> assumption
 refine kbi (fun h4 => ?_) (fun h4 => ?_)
 ·have h4 : t.st = 4 := by simpa using h4
  have hlk := hr.lock h4
  have hd : stepL p s k = ({ s with owner := s.owner.set t.lock.toNat ((k : Nat) : Int) }.put k { t with st := 1, cond := -1, lock := -1, pc := if (nextOp p t).isSome = true then t.pc + 1 else t.pc }, { ev0 k t with kind := 9, obj := t.cond, lock := t.lock }) := by
   unfold stepL; rw [hgd, if_pos h4]
  conv => whnf
  refine .inr (.inl ⟨12, [], ?_⟩)
  conv => whnf
  refine ⟨rowA t, ⟨by repeat (first | exact rowsA_get hk | refine rget ?_ (rowA_scr rfl _)), by simp [rowA]⟩, ?_⟩
  conv => whnf
  refine ⟨rowA t, ⟨by repeat (first | exact rowsA_get hk | refine rget ?_ (rowA_scr rfl _)), by simp [rowA]⟩, ?_⟩
  conv => whnf
  refine ⟨by kernel_rfl, ?_⟩
  conv => whnf
  refine .inr (.inl ⟨9, [], ?_⟩)
  conv => whnf
  refine ⟨rowA t, ⟨by repeat (first | exact rowsA_get hk | refine rget ?_ (rowA_scr rfl _)), by simp [rowA]⟩, ?_⟩
  conv => whnf
  refine ⟨by kernel_rfl, ?_⟩
  conv => whnf
  refine ⟨⟨by omega, by omega⟩, ?_⟩
  conv => whnf
  refine .inr (.inl ⟨7, [], ?_⟩)
  conv => whnf
  refine ⟨rowA { t with st := 1, cond := -1, lock := -1 }, ⟨rget (rowsA_getE hk ?_) (rowA_scr rfl _), by simp [rowA]⟩, ?_⟩
  ·apply G_to
   ·repeat (first | exact rfl | apply G_put hk | apply G_scr (fun _ => rfl))
   ·rfl
  conv => whnf
  refine ⟨_, boolInt_ok _, ?_⟩
  conv => whnf
  refine ⟨by kernel_rfl, ?_⟩
  conv => whnf
  refine ⟨_, Weak.refl, ?_⟩
  conv => whnf
  rw [hd]
  refine ⟨lendI, by rfl, ?_⟩
  refine lend_stHA hp3 (l := s.ths) (t' := { t with st := 1, cond := -1, lock := -1, pc := if (nextOp p t).isSome = true then t.pc + 1 else t.pc }) hk rfl ?_ ?_ ?_ (fun j => ?_) ?_ ?_
  ·refine Eq.trans ?_ (congrArg (fun x => some (Ob.vs E ([x0, x1, x2] ++ x))) (show stRef s = stRef _ by simp [stRef, StL.put]))
   conv => lhs; whnf
   all_goals (
    refine congrArg some ?_
    repeat (refine hscr' ?_ (vs_scr3 i0 i1 i2 s rfl))
    all_goals rfl)
  ·rfl
  ·conv => lhs; whnf
   all_goals (
    refine congrArg (fun x => some (Ob.rs 123 6 x)) ?_
    apply G_to
    ·repeat (first | exact rfl | apply G_put hk | apply G_scr (fun _ => rfl))
    ·have ew : IntKind.i64.wrap (t.pc + (if (nextOp p t).isSome = true then 1 else 0)) = (if (nextOp p t).isSome = true then t.pc + 1 else t.pc) := by have a := hpc.1; have b := hpc.2; split <;> rw [wrap_id (by omega) (by omega)]; omega
     show [_, AV.d (.int .i64 (IntKind.i64.wrap (t.pc + (if (nextOp p t).isSome = true then 1 else 0)))), _, _, _, _] = _
     rw [ew]
     rfl)
  ·repeat (first | exact rfl | refine hscrO ?_ (fam0_scr _ _ _ _) | conv => lhs; whnf)
  ·rfl
  ·conv => lhs; whnf
   show some (Ob.ds 3 1 ((s.owner.map encInt).set (0 + t.lock.toNat) (encInt ((k : Nat) : Int)))) = some (Ob.ds 3 1 ((s.owner.set t.lock.toNat ((k : Nat) : Int)).map encInt))
   rw [Nat.zero_add, List.map_set]
 have h4 : ¬ t.st = 4 := by simpa using h4
 cases hn : nextOp p t with
 |none =>
  conv => whnf
  have hd : stepL p s k = (s.put k { t with st := 2 }, { ev0 k t with kind := 11 }) := by
   unfold stepL; rw [hgd]; simp [h4, hn]
  refine ⟨_, Weak.refl, ?_⟩
  conv => whnf
  rw [hd]
  refine ⟨lendI, by rfl, ?_⟩
  refine lend_stHA hp3 (l := s.ths) (t' := { t with st := 2 }) hk rfl ?_ ?_ ?_ (fun j => ?_) ?_ ?_
  ·refine Eq.trans ?_ (congrArg (fun x => some (Ob.vs E ([x0, x1, x2] ++ x))) (show stRef s = stRef _ by simp [stRef, StL.put]))
   conv => lhs; whnf
   all_goals (
    refine congrArg some ?_
    repeat (refine hscr' ?_ (vs_scr3 i0 i1 i2 s rfl))
    all_goals rfl)
  ·rfl
  ·conv => lhs; whnf
   all_goals (
    refine congrArg (fun x => some (Ob.rs 123 6 x)) ?_
    apply G_to
    ·repeat (first | exact rfl | apply G_put hk | apply G_scr (fun _ => rfl))
    ·rfl)
  ·repeat (first | exact rfl | refine hscrO ?_ (fam0_scr _ _ _ _) | conv => lhs; whnf)
  ·rfl
  ·rfl
 |some o =>
  obtain ⟨hoS, hoF⟩ := hr.op o hn
  conv => whnf
  refine .inl ⟨[.fp (encSt s), i64 k, agg (encOp o)], [], _, ⟨_, _, rfl, FzA_ptr (E := E) (cs := [x0, x1, x2] ++ stRef s) ?_ (fz_stA (k := k) (t := t) (els := stk t) hk ht0 ?_ (fun j hj hjl => ?_) rfl (by simp [stk, List.take_of_length_le]) ?_ ?_), _, _, rfl, rfl, _, _, rfl, ⟨encOp o, rfl, _, _, rfl, rfl, _, _, rfl, rfl, _, _, rfl, rfl, _, _, rfl, rfl, rfl⟩, rfl⟩, rfl, faultI_ok hI s k o hk hs hoS, ?_⟩
  ·conv => lhs; whnf
   all_goals (
    refine congrArg some ?_
    repeat (refine hscr' ?_ (vs_scr3 i0 i1 i2 s rfl))
    all_goals rfl)
  ·conv => lhs; whnf
   all_goals (
    refine congrArg (fun x => some (Ob.rs 123 6 x)) ?_
    repeat (first | exact rfl | refine rowsA_scrE ?_ rfl (fun _ => rfl)))
  ·refine Eq.trans (b := fam0 s.ths k j) ?_ (by simp [fam0, nbeq_ne hj, thFam, hjl])
   repeat (first | exact rfl | refine hscrO ?_ (fam0_scr _ _ _ _) | conv => lhs; whnf)
  ·rfl
  ·rfl
  rintro r rfl
  refine ⟨rfl, ?_⟩
  conv => whnf
  refine kbi (fun h6 => ?_) (fun h6 => ?_)
  ·have h6 : ¬ faultOf s k o = 0 := by simpa using h6
   have hd : stepL p s k = ({ s with fault := faultOf s k o }, { ev0 k t with kind := 12, obj := faultOf s k o }) := by
    unfold stepL; rw [hgd]; simp [h4, hn, h6]
   conv => whnf
   refine ⟨_, Weak.refl, ?_⟩
   conv => whnf
   rw [hd]
   refine ⟨lendI, by rfl, ?_⟩
   refine lend_stHA hp3 (l := s.ths) (t' := t) hk (by show s.ths = s.ths.set k t; rw [← ht0, List.set_getElem_self]) ?_ ?_ ?_ (fun j => ?_) ?_ ?_
   ·conv => lhs; whnf
    refine congrArg some ?_
    repeat (refine hscr' ?_ (vs_scr3 i0 i1 i2 { s with fault := faultOf s k o } rfl))
    refine congrArg (Ob.vs E) (fault_vs (pre := [x0, x1, x2]) ?_)
    repeat (refine hscrL ?_ (vs_scrL3 i0 i1 i2 s rfl))
    all_goals rfl
   ·rfl
   ·conv => lhs; whnf
    all_goals (
     refine congrArg (fun x => some (Ob.rs 123 6 x)) ?_
     apply G_to
     ·repeat (first | exact rfl | apply G_put hk | apply G_scr (fun _ => rfl))
     ·rfl)
   ·repeat (first | exact rfl | refine hscrO ?_ (fam0_scr _ _ _ _) | conv => lhs; whnf)
   ·rfl
   ·rfl
  ·have h6 : faultOf s k o = 0 := by simpa using h6
   have hd : stepL p s k = doL s k o (ev0 k t) := by
    unfold stepL; rw [hgd]; simp [h4, hn, h6]
   conv => whnf
   refine .inr (.inl ⟨999, 99, lendI, _, doI_okA hI E x0 x1 x2 i0 i1 i2 s k o { ev0 k t with kind := 1 } hk h5 hs (by rw [ht0]; exact hoF h6) (by rw [ht0]; exact hpc) (by rw [ht0]; exact hst3) rfl rfl (by rw [ht0]; exact hfl) (by rw [ht0]; exact hjo o hn h6) _ ?_ ?_ ?_ (fun j => ?_) ?_ ?_, rfl, ?_⟩)
   ·conv => lhs; whnf
    refine congrArg some ?_
    repeat (first | exact rfl | refine hscr' ?_ (vs_scr3 i0 i1 i2 s rfl) | refine hren' ?_ (vs_ren hp3 s))
   ·rw [ht0]
    rfl
   ·rw [ht0]
    conv => lhs; whnf
    refine congrArg some ?_
    repeat (first | exact rfl | refine hscr' ?_ (rowsA_scrO rfl (fun _ => rfl) _ _ _) | refine hren' ?_ (rowsA_ren9 _ _ _))
   ·repeat (first | exact rfl | refine hscrO ?_ (fam0_scr _ _ _ _) | refine hrenO ?_ (fam0_ren _ _ _ _) | conv => lhs; whnf)
   ·rfl
   ·rfl
   rintro r H1 ⟨rfl, hk2, rfl⟩
   refine ⟨stHA_none, ?_, ?_⟩
   ·intro n hn
    have : n = 0 := by simpa [lendI] using hn
    subst this
    exact ⟨E, _, _, rfl, rfl⟩
   conv => whnf
   refine ⟨_, Weak.refl, ?_⟩
   conv => whnf
   rw [hd]
   refine ⟨lendI, by rfl, ?_⟩
   refine lend_stHA hp3 (l := (doL s k o (ev0 k t)).1.ths) (t' := (doL s k o (ev0 k t)).1.ths[k]) hk2 (List.set_getElem_self _).symm ?_ ?_ ?_ (fun j => ?_) ?_ ?_
   ·conv => lhs; whnf
    refine congrArg some ?_
    repeat (first | exact rfl | refine hscr' ?_ (vs_scr3 i0 i1 i2 _ rfl) | refine hren' ?_ (vs_ren hp3 _))
   ·rfl
   ·conv => lhs; whnf
    refine congrArg some ?_
    repeat (first | exact rfl | refine hscr' ?_ (rowsA_scrO rfl (fun _ => rfl) _ _ _) | refine hren' ?_ (rowsA_ren9 _ _ _))
   ·refine Eq.trans (b := fam0 (doL s k o (ev0 k t)).1.ths k j) ?_ rfl
    repeat (first | exact rfl | refine hscrO ?_ (fam0_scr _ _ _ _) | refine hrenO ?_ (fam0_ren _ _ _ _) | conv => lhs; whnf)
   ·rfl
   ·rfl
end Ai
end
section
namespace Ai
open Go Go.RowKit
section
variable {E : Env} {N : Nat} {A : Fr} {w0 w w' : World} {m m' : Own} {s s' s1 : St} {a : Act}
structure Sh where
 f : Key → Key
 hf : ∀ κ, f (f κ) = κ
 hl : ∀ n, f (.l n) = .l n
def reH (z : Sh) (H : Key → Option Ob) : Key → Option Ob := fun κ => (H (z.f κ)).map (renO z.f)
def reM (z : Sh) (m : Own) : Own := fun κ => m (z.f κ)
theorem reH_at {z : Sh} {H : Key → Option Ob} {o : Key} {ob : Ob} (h : H o = some ob) : reH z H (z.f o) = some (renO z.f ob) := by simp [reH, z.hf, h]
theorem reM_at {z : Sh} {o : Key} : reM z m (z.f o) = m o := by simp [reM, z.hf]
theorem reH_ne {z : Sh} {H : Key → Option Ob} {o : Key} (h : reH z H o ≠ none) : H (z.f o) ≠ none := fun hh => h (by simp [reH, hh])
theorem VRel.re {z : Sh} {ok ok' : Nat → Prop} {H : Key → Option Ob} (h : ∀ b, ok b → ok' b) {c : AV} {v : Value} (r : VRel w ok m H c v) : VRel w ok' (reM z m) (reH z H) (Ai.ren z.f c) v := by
 have hh : ∀ b, ok b → ok' b ∧ w.heap[b]? = w.heap[b]? := fun b hb => ⟨h b hb, rfl⟩
 induction r with
 |junk v => exact .junk v
 |d x v hx => exact .d x v (hx.mono hh)
 |fp cs b off us hok hc => exact .fp cs b off us (h b hok) fun i d hi => ⟨(hc i d hi).1, (hc i d hi).2.mono hh⟩
 |ref o off n e sz els b full cap hH hn hm hcap hnc => exact .ref _ off n e sz els b full cap (reH_at hH) hn (reM_at.trans hm) hcap hnc
 |ref0 o e sz hH hm => exact .ref0 _ e sz (reH_at hH) (reM_at.trans hm)
 |ptr o off e cs b full hH hm => exact .ptr _ off e _ b full (reH_at hH) (reM_at.trans hm)
 |eptr o j off e sz els b full hH hj hm => exact .eptr _ j off e sz els b full (reH_at hH) hj (reM_at.trans hm)
 |dref o n e sz rows b full hH hn hm hnc => exact .dref _ n e sz _ b full (reH_at hH) (by simpa using hn) (reM_at.trans hm) hnc
 |dref0 o e sz hH hm => exact .dref0 _ e sz (reH_at hH) (reM_at.trans hm)
 |dptr o j off e sz rows b full hH hj hm => exact .dptr _ j off e sz _ b full (reH_at hH) (by simpa using hj) (reM_at.trans hm)
 |lit v h => exact .lit v h
 |mref o ag ps b full hH hm => exact .mref _ ag ps b full (reH_at hH) (reM_at.trans hm)
 |agg cs us hs hc ih =>
  simp only [Ai.ren]
  refine .agg _ us (by rw [renL_length]; exact hs) fun i c u hi hu => ?_
  rw [renL_get] at hi
  obtain ⟨c0, hc0, rfl⟩ := Option.map_eq_some_iff.1 hi
  exact ih i c0 u hc0 hu
 |tup cs us hs hc ih =>
  simp only [Ai.ren]
  refine .tup _ us (by rw [renL_length]; exact hs) fun i c u hi hu => ?_
  rw [renL_get] at hi
  obtain ⟨c0, hc0, rfl⟩ := Option.map_eq_some_iff.1 hi
  exact ih i c0 u hc0 hu
 |fn f cs us hs hc ih =>
  simp only [Ai.ren]
  refine .fn f _ us (by rw [renL_length]; exact hs) fun i c u hi hu => ?_
  rw [renL_get] at hi
  obtain ⟨c0, hc0, rfl⟩ := Option.map_eq_some_iff.1 hi
  exact ih i c0 u hc0 hu
theorem okB_re {z : Sh} {Z : Nat → Prop} {H : Key → Option Ob} {b : Nat} (h : okB Z H m w b) : okB Z (reH z H) (reM z m) w b :=
 ⟨h.1, fun o ho p hp => h.2.1 _ (reH_ne ho) p hp, h.2.2⟩
theorem ORel.re {z : Sh} {base : Nat} {Z : Nat → Prop} {H : Key → Option Ob} {o : Key} {ob : Ob} (hin : reH z H o = some ob) (h : ∀ o ob, H o = some ob → ORel Z base w m H o ob) : ORel Z base w (reM z m) (reH z H) o ob := by
 obtain ⟨ob0, h0, rfl⟩ := Option.map_eq_some_iff.1 hin
 have hor := h _ _ h0
 cases ob0 with
 |vs e cs =>
  obtain ⟨b, full, cur, h1, hb, hcur, hsz, hc⟩ := hor
  refine ⟨b, full, cur, h1, hb, hcur, by rw [renL_length]; exact hsz, fun i c hi => ?_⟩
  rw [renL_get] at hi
  obtain ⟨c0, hc0, rfl⟩ := Option.map_eq_some_iff.1 hi
  obtain ⟨u, hu, hv⟩ := hc i c0 hc0
  exact ⟨u, hu, hv.re fun b hb => okB_re hb⟩
 |ds e sz els =>
  rcases hor with ⟨h1, he⟩ | ⟨b, full, cur, h1, hb, hcur, hlen, hmax, hsz, hc⟩
  ·exact .inl ⟨h1, he⟩
  ·exact .inr ⟨b, full, cur, h1, hb, hcur, hlen, hmax, hsz, fun j c hj => ⟨(hc j c hj).1, fun i d hi => let ⟨u, hu, hr⟩ := (hc j c hj).2 i d hi; ⟨u, hu, hr.mono fun b hb => ⟨okB_re hb, rfl⟩⟩⟩⟩
 |rs e sz els =>
  rcases hor with ⟨h1, he⟩ | ⟨b, full, cur, h1, hb, hcur, hlen, hmax, hsz, hc⟩
  ·exact .inl ⟨h1, by rw [he]; rfl⟩
  ·refine .inr ⟨b, full, cur, h1, hb, hcur, by simpa using hlen, hmax, hsz, fun j c hj => ?_⟩
   rw [List.getElem?_map] at hj
   obtain ⟨c0, hc0, rfl⟩ := Option.map_eq_some_iff.1 hj
   refine ⟨by rw [renL_length]; exact (hc j c0 hc0).1, fun i d hi => ?_⟩
   rw [renL_get] at hi
   obtain ⟨d0, hd0, rfl⟩ := Option.map_eq_some_iff.1 hi
   obtain ⟨u, hu, h1, hr⟩ := (hc j c0 hc0).2 i d0 hd0
   exact ⟨u, hu, h1, hr.re fun b hb => okB_re hb⟩
 |mp ag ps =>
  obtain ⟨b, full, es, h1, hb, hcur, hr⟩ := hor
  exact ⟨b, full, es, h1, hb, hcur, hr.mono fun b hb => ⟨okB_re hb, rfl⟩⟩
theorem sh_inj {z : Sh} {o o' : Key} (h : z.f o = z.f o') : o = o' := by rw [← z.hf o, h, z.hf]
def St.re (z : Sh) (s : St) : St := { τ := fun i => Ai.ren z.f (s.τ i), H := reH z s.H }
theorem SRel.re0 (z : Sh) (h : SRel E N A w0 m s a w) (hp : ∀ n, A.pin n ≠ none → reH z s.H (.l n) ≠ none → some (reM z m (.l n)) = A.pin n) : SRel E N A w0 (reM z m) (s.re z) a w := by
 refine ⟨h.size, h.defers, h.below, h.inv, fun i hi => (h.tmps i hi).re fun b hb => okB_re hb, fun o ob ho => ORel.re ho h.objs, fun o o' p p' ho ho' hp hp' he => ?_, h.hA,
  fun b hb => ⟨(h.fr b hb).1, fun o ho p hp => (h.fr b hb).2.1 _ (reH_ne ho) p hp, (h.fr b hb).2.2⟩, hp⟩
 exact sh_inj (h.inj _ _ p p' (reH_ne ho) (reH_ne ho') hp hp' he)
theorem reL_reL (z : Sh) : ∀ cs : List AV, (∀ c ∈ cs, Ai.ren z.f (Ai.ren z.f c) = c) → renL z.f (renL z.f cs) = cs
 | [], _ => rfl
 |c :: cs, h => by simp only [renL]; rw [h c List.mem_cons_self, reL_reL z cs fun c hc => h c (List.mem_cons_of_mem _ hc)]
theorem re_re (z : Sh) : ∀ c : AV, Ai.ren z.f (Ai.ren z.f c) = c
 | .ref o off n => by simp [Ai.ren, z.hf]
 | .ptr o off => by simp [Ai.ren, z.hf]
 | .eptr o j off => by simp [Ai.ren, z.hf]
 | .dref o n => by simp [Ai.ren, z.hf]
 | .dptr o j off => by simp [Ai.ren, z.hf]
 | .mref o => by simp [Ai.ren, z.hf]
 | .lit v => rfl
 | .agg cs => by simp only [Ai.ren]; rw [reL_reL z cs fun c _ => re_re z c]
 | .tup cs => by simp only [Ai.ren]; rw [reL_reL z cs fun c _ => re_re z c]
 | .fn f cs => by simp only [Ai.ren]; rw [reL_reL z cs fun c _ => re_re z c]
 | .junk => rfl
 | .d x => rfl
 | .fp cs => rfl
 | .uq e sz els => rfl
 | .uqd e sz c e2 sz2 rows subs => rfl
 | .ownF f cs => rfl
theorem reO_reO (z : Sh) (ob : Ob) : renO z.f (renO z.f ob) = ob := by
 cases ob with
 |vs e cs => simp only [renO]; rw [reL_reL z cs fun c _ => re_re z c]
 |ds e sz els => rfl
 |rs e sz rows =>
  simp only [renO, List.map_map, Ob.rs.injEq, true_and]
  calc rows.map (renL z.f ∘ renL z.f) = rows.map id := List.map_congr_left fun r _ => reL_reL z r fun c _ => re_re z c
   _ = rows := List.map_id rows
 |mp ag ps => rfl
theorem reH_reH (z : Sh) (H : Key → Option Ob) : reH z (reH z H) = H := by
 funext κ
 simp only [reH, z.hf, Option.map_map]
 cases H κ with
 |none => rfl
 |some ob => simp [reO_reO]
theorem HRel.re {H : Key → Option Ob} (z : Sh) (h : HRel E A w0 m H w) : HRel E A w0 (reM z m) (reH z H) w := by
 have h1 := (h.toS).re0 z (fun n hn hs => by
  show some (m (z.f (.l n))) = A.pin n
  have hs : reH z H (.l n) ≠ none := hs
  simp only [reH, z.hl] at hs
  rw [z.hl]
  exact h.pin n hn (fun hh => hs (by rw [hh]; rfl)))
 exact h1.toH
theorem IOCall.re {g : FuncId} {as1 : List AV} {H0 : Key → Option Ob} {Post : AV → (Key → Option Ob) → Prop} (z : Sh) (h : IOCall E g as1 H0 Post) :
  IOCall E g (as1.map (ren z.f)) (reH z H0) (fun r H1 => Post (ren z.f r) (reH z H1)) := by
 intro w0 A m w vs hH hl hrel
 have hH' := hH.re z
 rw [reH_reH] at hH'
 refine (h w0 A (reM z m) w vs hH' (by simpa using hl) fun i a v ha hv => ?_).mono ?_
 ·have := (hrel i (ren z.f a) v (by rw [List.getElem?_map, ha]; rfl) hv).re (z := z) (ok' := okB A (reH z (reH z H0)) (reM z m) w) fun b hb => okB_re hb
  rw [re_re, reH_reH] at this
  exact this
 ·rintro v w' ⟨r, H1, m1, hP, hH1, hv⟩
  refine ⟨ren z.f r, reH z H1, reM z m1, ?_, hH1.re z, hv.re fun b hb => okB_re hb⟩
  show Post (ren z.f (ren z.f r)) (reH z (reH z H1))
  rw [re_re, reH_reH]; exact hP
theorem weak_re (z : Sh) : Weak E N s (s.re z) := fun A w0 m a w h => by
 refine ⟨_, h.re0 z fun n hn hs => ?_⟩
 show some (m (z.f (.l n))) = A.pin n
 simp only [reH, z.hl] at hs
 rw [z.hl]
 exact h.pin n hn (fun hh => hs (by rw [hh]; rfl))
end
end Ai
end
section
set_option maxRecDepth 100000
namespace Ai
open Go Go.Proofs
theorem io_canon {E : TypeId} {pre : List AV} (hp : InertL pre) {s s' : StL} {k : Nat} {e' : Ev} {H0 : Key → Option Ob} {g : FuncId} {xs : List AV} (hk : k < s.ths.length) (hx : xs.map (ren (swp (.n 899) (.s 900 k))) = xs) (hH : AtC E pre s H0)
    (h : ∀ H0 : Key → Option Ob, H0 (.l 0) = some (.vs E (pre ++ stRef s)) → H0 (.n 899) = some (.ds 105 1 (stk s.ths[k])) → H0 (.n 900) = some (.rs 123 6 (rowsA s.ths k s.ths[k])) → (∀ j, H0 (.s 900 j) = fam0 s.ths k j) →
      H0 (.n 901) = some (.ds 105 1 (s.cells.map encF)) → H0 (.n 902) = some (.ds 3 1 (s.owner.map encInt)) → IOCall EE g xs H0 (doIPost E pre k s' e')) :
    IOCall EE g xs H0 (fun r H1 => r = agg (encEv e') ∧ H1 = stHC E pre s') := by
  obtain ⟨h0, h1, h2, h3, h4, h6⟩ := hH
  have eH : ∀ {κ κ' : Key} {ob : Ob}, swp (.n 899) (.s 900 k) κ = κ' → H0 κ' = some ob → swH (.n 899) (.s 900 k) H0 κ = some (renO (swp (.n 899) (.s 900 k)) ob) := fun e1 e2 => by simp [swH, e1, e2]
  have := h (swH (.n 899) (.s 900 k) H0)
    (by rw [eH (κ := .l 0) (κ' := .l 0) rfl h0]
        show some (Ob.vs E (renL _ (pre ++ stRef s))) = _
        rw [renL_app, inertL_ren hp, stRef_ren])
    (by rw [eH (κ := .n 899) (κ' := .s 900 k) rfl ((h3 k).trans (thFam_self hk))]; rfl)
    (by rw [eH (κ := .n 900) (κ' := .n 900) rfl h2]
        show some (Ob.rs 123 6 ((thRows 900 s.ths).map (renL (swp (.n 899) (.s 900 k))))) = _
        rw [rowsA_sw hk])
    (fun j => by
      by_cases hj : j = k
      · subst hj
        have e : swp (.n 899) (.s 900 j) (.s 900 j) = .n 899 := by simp [swp, Key.beq, nbeq_self]
        simp only [swH, e, h1, fam0, nbeq_self]; rfl
      · have e : swp (.n 899) (.s 900 k) (.s 900 j) = .s 900 j := by simp [swp, Key.beq, nbeq_ne hj]
        simp only [swH, e, h3, fam0, nbeq_ne hj]
        exact thFam_ren _ _ _)
    (by rw [eH (κ := .n 901) (κ' := .n 901) rfl h4]; rfl) (by rw [eH (κ := .n 902) (κ' := .n 902) rfl h6]; rfl)
  have := IOCall.sw (.n 899) (.s 900 k) (fun n h => by cases h) (fun n h => by cases h) this
  rw [swH_swH, hx] at this
  refine IOCall.mono this fun r H1 ⟨hr, hk', hh⟩ => ⟨?_, ?_⟩
  · have : ren (swp (.n 899) (.s 900 k)) (ren (swp (.n 899) (.s 900 k)) r) = ren (swp (.n 899) (.s 900 k)) (agg (encEv e')) := by rw [hr]
    rw [ren_ren] at this
    rw [this]; rfl
  · have : swH (.n 899) (.s 900 k) (swH (.n 899) (.s 900 k) H1) = swH (.n 899) (.s 900 k) (stHA E pre s' k s'.ths[k]) := by rw [hh]
    rw [swH_swH, swH_stHA hp] at this
    exact this
theorem agg_ren (f : Key → Key) (l : List D) : ren f (agg l) = agg l := by
 show AV.agg (renL f (l.map .d)) = _
 have : ∀ l : List D, renL f (l.map .d) = l.map .d := by
  intro l
  induction l with
  |nil => rfl
  |cons x xs ih => simp only [List.map_cons, renL, ih]; rfl
 rw [this]; rfl
theorem stepI_ok (hI : ToIndexISpec) (E : TypeId) (x0 x1 x2 : AV) (i0 : Inert x0) (i1 : Inert x1) (i2 : Inert x2) (p : ProgL) (s : StL) (k : Nat) (hp : p.wf) (hk : k < s.ths.length) (h5 : s.ths.length ≤ 5)
  (hs : s.small) (hr : s.ths[k].ready p s k) (hst3 : s.ths[k].st ≠ 3) (hfl : ∀ x ∈ s.ths[k].stack, x < 18446744073709551616) (hjo : ∀ o, nextOp p s.ths[k] = some o → faultOf s k o = 0 → o.code = 15 → ∃ j, idxOf (topN s.ths[k] o 0) s.ths.length = some j ∧ joinsOf s s.ths[k] = some j)
  (H0 : Key → Option Ob) (hH : AtC E [x0, x1, x2] s H0) :
  IOCall EE 115 [.ptr (.l 0) 3, agg (encProg p), i64 k] H0 (fun r H1 => r = agg (encEv (stepL p s k).2) ∧ H1 = stHC E [x0, x1, x2] (stepL p s k).1) := by
 have hp3 : InertL [x0, x1, x2] := by
  intro x hx
  simp only [List.mem_cons, List.not_mem_nil, or_false] at hx
  rcases hx with rfl | rfl | rfl <;> assumption
 refine io_canon hp3 hk ?_ hH fun H0 a b c d e f => stepI_A hI E x0 x1 x2 i0 i1 i2 p s k hp hk h5 hs hr hst3 hfl hjo H0 a b c d e f
 simp only [List.map_cons, List.map_nil, agg_ren]
 rfl
end Ai
end
section
set_option maxRecDepth 100000
namespace Ai
open Go Go.Proofs
noncomputable def runK (p : ProgL) (pk : List Nat → Nat → Int) (budget : Int) : Nat → StL → List Ev → List Int → Int × List Ev × List Int × StL
 | 0, s, tr, tk => (0, tr, tk, s)
 |n + 1, s, tr, tk =>
  if codeL p s tr.length budget ≠ 0 then (codeL p s tr.length budget, tr, tk, s)
  else runK p pk budget n (stepL p s ((enabledL p s).getD (pk (enabledL p s) tr.length).toNat 0)).1 (tr ++ [(stepL p s ((enabledL p s).getD (pk (enabledL p s) tr.length).toNat 0)).2]) (tk ++ [pk (enabledL p s) tr.length])
def ownRun (x : Int × List Ev × List Int × StL) : List AV := [i64 x.1, .uq 120 5 (x.2.1.map encEv), .uq 3 1 (x.2.2.1.map encInt)] ++ ownSt x.2.2.2
structure RunI (p : ProgL) (Inv : StL → Prop) : Prop where
 small : ∀ s, Inv s → s.small ∧ s.ths.length ≤ 5
 seen : ∀ s, Inv s → ∀ t ∈ s.ths, t.seen p s
 ready : ∀ s, Inv s → ∀ k, k ∈ enabledL p s → (h : k < s.ths.length) → s.ths[k].ready p s k
 awake : ∀ s, Inv s → ∀ k, k ∈ enabledL p s → (h : k < s.ths.length) → s.ths[k].st ≠ 3
 flt : ∀ s, Inv s → ∀ t ∈ s.ths, ∀ x ∈ t.stack, x < 18446744073709551616
 joins : ∀ s, Inv s → ∀ k, k ∈ enabledL p s → (h : k < s.ths.length) → ∀ o, nextOp p s.ths[k] = some o → faultOf s k o = 0 → o.code = 15 → ∃ j, idxOf (topN s.ths[k] o 0) s.ths.length = some j ∧ joinsOf s s.ths[k] = some j
 step : ∀ s, Inv s → ∀ k ∈ enabledL p s, Inv (stepL p s k).1
def oRI (p : ProgL) (s : StL) (tr : List Ev) (tk : List Int) : List (Key × Ob) := [(.n 3, .vs 31 ((encProg p).map .d)), (.n 6, .vs 78 [i64 0, .d .nil, .d .nil, .d .nil, .d .nil, .d .nil, i64 0]),
 (.n 8, .vs 78 ([i64 0, .ref (.n 12) 0 tr.length, .ref (.n 13) 0 tk.length] ++ stRef s)), (.n 12, .ds 120 5 (tr.map encEv)), (.n 13, .ds 3 1 (tk.map encInt)), (.n 900, .rs 123 6 (thRows 900 s.ths)), (.n 901, .ds 105 1 (s.cells.map encF)), (.n 902, .ds 3 1 (s.owner.map encInt))]
def numA (k : Nat) : Nat := bif Nat.beq k 900 then 903 else bif Nat.beq k 903 then 900 else bif Nat.beq k 901 then 904 else bif Nat.beq k 904 then 901 else bif Nat.beq k 902 then 905 else bif Nat.beq k 905 then 902 else k
def numB (k : Nat) : Nat := bif Nat.beq k 12 then 901 else bif Nat.beq k 901 then 12 else bif Nat.beq k 13 then 902 else bif Nat.beq k 902 then 13 else k
theorem numA_numA (k : Nat) : numA (numA k) = k := by
 by_cases h1 : k = 900
 ·subst h1; rfl
 by_cases h2 : k = 903
 ·subst h2; rfl
 by_cases h3 : k = 901
 ·subst h3; rfl
 by_cases h4 : k = 904
 ·subst h4; rfl
 by_cases h5 : k = 902
 ·subst h5; rfl
 by_cases h6 : k = 905
 ·subst h6; rfl
 simp [numA, nbeq_ne h1, nbeq_ne h2, nbeq_ne h3, nbeq_ne h4, nbeq_ne h5, nbeq_ne h6]
theorem numB_numB (k : Nat) : numB (numB k) = k := by
 by_cases h1 : k = 12
 ·subst h1; rfl
 by_cases h2 : k = 901
 ·subst h2; rfl
 by_cases h3 : k = 13
 ·subst h3; rfl
 by_cases h4 : k = 902
 ·subst h4; rfl
 simp [numB, nbeq_ne h1, nbeq_ne h2, nbeq_ne h3, nbeq_ne h4]
def shN (g : Nat → Nat) : Key → Key
 | .n k => .n (g k)
 | .s o j => .s (g o) j
 | .l k => .l k
def mkSh (g : Nat → Nat) (hg : ∀ k, g (g k) = k) : Sh := ⟨shN g, fun κ => by cases κ <;> simp [shN, hg], fun _ => rfl⟩
def shA : Sh := mkSh numA numA_numA
def shB : Sh := mkSh numB numB_numB
theorem thRows_jo (o : Nat) (l : List Th) (i : Nat) : (thRows o l)[i]? = (l[i]?).map (thRow o i) := by
 by_cases h : i < l.length
 ·rw [thRows_get h, List.getElem?_eq_getElem h]; rfl
 ·rw [List.getElem?_eq_none (by rw [thRows_len]; omega), List.getElem?_eq_none (by omega)]; rfl
theorem thRows_sh {g : Nat → Nat} {hg : ∀ k, g (g k) = k} (o : Nat) (l : List Th) : (thRows o l).map (renL (mkSh g hg).f) = thRows (g o) l := by
 apply List.ext_getElem?
 intro i
 rw [List.getElem?_map, thRows_jo, thRows_jo]
 cases l[i]? <;> rfl
theorem fz_run {S : St} {s : StL} {x0 x1 x2 : AV} (h8 : S.H (.n 8) = some (.vs 78 ([x0, x1, x2] ++ stRef s))) (h : StAt 900 s S) : FzA S (.ptr (.n 8) (0 + 3)) (.fp (encSt s)) :=
 FzA_ptr h8 (fz_st h rfl rfl rfl)
theorem fz_prog {S : St} (p : ProgL) : FzA S (agg (encProg p)) (agg (encProg p)) := ⟨encProg p, rfl, _, _, rfl, rfl, _, _, rfl, rfl, _, _, rfl, rfl, _, _, rfl, rfl, rfl⟩
theorem ownSt_flat (s : StL) : Flat (.own (ownSt s)) := by
 intro c hc
 simp only [ownSt, List.mem_cons, List.not_mem_nil, or_false] at hc
 rcases hc with rfl | rfl | rfl | rfl
 ·refine ⟨fun c hc => ?_, fun q hq c hc => ?_⟩
  ·obtain ⟨t, _, rfl⟩ := List.mem_map.1 hc; rfl
  ·obtain ⟨t, _, rfl⟩ := List.mem_map.1 hq
   obtain ⟨y, _, rfl⟩ := List.mem_map.1 hc; rfl
 ·intro c hc
  obtain ⟨y, _, rfl⟩ := List.mem_map.1 hc; rfl
 ·intro c hc
  obtain ⟨y, _, rfl⟩ := List.mem_map.1 hc; rfl
 ·rfl
end Ai
end
section
set_option maxRecDepth 100000
namespace Ai
open Go Go.Proofs
def regOps (n : Nat) : Code → Option (Array Oper)
 | .region i ops _ => bif Nat.beq i n then some ops else none
 | .seq a b => match regOps n a with | some x => some x | none => regOps n b
 | .cond _ a b => match regOps n a with | some x => some x | none => regOps n b
 | .block _ a => regOps n a
 | .loop a => regOps n a
 | _ => none
noncomputable def ops13 : Array Oper := (regOps 13 (Tryz.f104.body.getD .skip)).getD #[]
structure R13 (p : ProgL) (s s1 : StL) (ev : Ev) (tr : List Ev) (tk : List Int) (kk : Int) (w : Nat) (budget : Int) (g : FuncId) (c : List D) (L : Nat → Bool) (S : St) : Prop where
 u1 : S.τ 1 = i64 budget
 u2 : S.τ 2 = .fn g [.fp c]
 u3 : S.τ 3 = .ptr (.n 3) 0
 u6 : S.τ 6 = .ptr (.n 6) 0
 u7 : S.τ 7 = bv false
 u8 : S.τ 8 = .ptr (.n 8) 0
 u9 : S.τ 9 = i64 tr.length
 u10 : S.τ 10 = sl ((enabledL p s).map encN)
 u11 : S.τ 11 = i64 kk
 h3 : S.H (.n 3) = some (.vs 31 ((encProg p).map .d))
 h6 : S.H (.n 6) = some (.vs 78 [i64 0, .d .nil, .d .nil, .d .nil, .d .nil, .d .nil, i64 0])
 h13 : S.H (.n 13) = some (.ds 3 1 ((tk ++ [kk]).map encInt))
 c0 : L 0 = true → S.τ 50 = .ptr (.n 8) (0 + 1)
 c1 : L 1 = true → L 10 = false → S.τ 51 = .ref (.n 12) 0 tr.length
 c2 : L 2 = true → S.τ 52 = .ptr (.n 8) (0 + 3)
 c3 : L 3 = true → S.τ 53 = agg (encProg p)
 c4 : L 4 = true → S.τ 54 = sl ((enabledL p s).map encN)
 c5 : L 5 = true → S.τ 55 = i64 kk
 c6 : L 6 = true → S.τ 56 = .fp (encN w)
 c7 : L 7 = true → S.τ 57 = i64 w
 c8 : L 8 = true → S.τ 58 = agg (encEv ev)
 c9 : L 9 = true → L 10 = false → S.τ 59 = .ref (.n 59) 0 1
 c10 : L 10 = true → S.τ 60 = .ref (.n 12) 0 (tr.length + 1)
 c11 : L 11 = true → S.τ 61 = .ptr (.n 8) (0 + 1)
 e9 : L 9 = true → L 10 = false → S.H (.n 59) = some (.ds 120 5 [encEv ev])
 d12a : L 10 = false → S.H (.n 12) = some (.ds 120 5 (tr.map encEv))
 d12b : L 10 = true → S.H (.n 12) = some (.ds 120 5 ((tr ++ [ev]).map encEv))
 d8a : L 8 = false → S.H (.n 8) = some (.vs 78 ([i64 0, .ref (.n 12) 0 tr.length, .ref (.n 13) 0 (tk.length + 1)] ++ stRef s))
 d8b : L 8 = true → L 10 = false → S.H (.n 8) = some (.vs 78 ([i64 0, .ref (.n 12) 0 tr.length, .ref (.n 13) 0 (tk.length + 1)] ++ stRef s1))
 d8c : L 10 = true → L 12 = false → S.H (.n 8) = some (.vs 78 ([i64 0, .junk, .ref (.n 13) 0 (tk.length + 1)] ++ stRef s1))
 d8d : L 12 = true → S.H (.n 8) = some (.vs 78 ([i64 0, .ref (.n 12) 0 (tr.length + 1), .ref (.n 13) 0 (tk.length + 1)] ++ stRef s1))
 sa0 : L 8 = false → S.H (.n 900) = some (.rs 123 6 (thRows 900 s.ths))
 saF : L 8 = false → ∀ j, S.H (.s 900 j) = thFam s.ths j
 sa1 : L 8 = false → S.H (.n 901) = some (.ds 105 1 (s.cells.map encF))
 sa2 : L 8 = false → S.H (.n 902) = some (.ds 3 1 (s.owner.map encInt))
 sb0 : L 8 = true → S.H (.n 900) = some (.rs 123 6 (thRows 900 s1.ths))
 sbF : L 8 = true → ∀ j, S.H (.s 900 j) = thFam s1.ths j
 sb1 : L 8 = true → S.H (.n 901) = some (.ds 105 1 (s1.cells.map encF))
 sb2 : L 8 = true → S.H (.n 902) = some (.ds 3 1 (s1.owner.map encInt))
 o1 : L 10 = true → L 8 = true
 o2 : L 12 = true → L 10 = true
 o3 : L 10 = true → L 1 = true
 o4 : L 10 = true → L 9 = true
theorem inert_lit (v : Value) : Inert (.lit v) := ⟨fun _ => rfl, fun _ => rfl, fun _ _ => rfl⟩
theorem inert_d (x : D) : Inert (.d x) := ⟨fun _ => rfl, fun _ => rfl, fun _ _ => rfl⟩
theorem litB13 (a b : AV) (s1 : StL) (lam : Nat → Value) : LitB [a, b] lam ([i64 0, a, b] ++ stRef s1) ([i64 0, .lit (lam 0), .lit (lam 1)] ++ stRef s1) :=
 ⟨_, _, rfl, .inl rfl, _, _, rfl, .inr ⟨0, rfl, rfl⟩, _, _, rfl, .inr ⟨1, rfl, rfl⟩, _, _, rfl, .inl rfl, _, _, rfl, .inl rfl, _, _, rfl, .inl rfl, _, _, rfl, .inl rfl, rfl⟩
theorem litC13 (K : Key → Bool) (a b : AV) (s : StL) (hs : scrPL (fun o => !K o) (stRef s) = stRef s) (lam : Nat → Value) : LitC K [a, b] lam ([i64 0, a, b] ++ stRef s) ([i64 0, .lit (lam 0), .lit (lam 1)] ++ stRef s) := by
 simp only [stRef, scrPL, List.cons.injEq] at hs
 exact ⟨_, _, rfl, .inl rfl, _, _, rfl, .inr ⟨0, rfl, rfl⟩, _, _, rfl, .inr ⟨1, rfl, rfl⟩, _, _, rfl, .inl hs.1.symm, _, _, rfl, .inl hs.2.1.symm, _, _, rfl, .inl hs.2.2.1.symm, _, _, rfl, .inl rfl, rfl⟩
theorem op13_0 {p : ProgL} {s s1 : StL} {ev : Ev} {tr : List Ev} {tk : List Int} {kk : Int} {w : Nat} {budget : Int} {g : FuncId} {c : List D} (L : Nat → Bool) (S : St) (r : R13 p s s1 ev tr tk kk w budget g c L S) (hL : L 0 = false) : aDo EE Tryz.f104.ntmps ops13 (ops13[0]'(by decide)) S (R13 p s s1 ev tr tk kk w budget g c (fun j => L j || j == 0)) := by
 have hat : At [(8, .ptr (.n 8) 0)] [] [] S := ⟨⟨r.u8, trivial⟩, trivial, trivial⟩
 obtain ⟨τ, H, rfl⟩ := hat.form
 conv => whnf
 exact {
  u1 := r.u1
  u2 := r.u2
  u3 := r.u3
  u6 := r.u6
  u7 := r.u7
  u8 := r.u8
  u9 := r.u9
  u10 := r.u10
  u11 := r.u11
  h3 := r.h3
  h6 := r.h6
  h13 := r.h13
  c0 := fun _ => rfl
  c1 := fun g0 g1 => r.c1 (by simpa using g0) (by simpa using g1)
  c2 := fun g0 => r.c2 (by simpa using g0)
  c3 := fun g0 => r.c3 (by simpa using g0)
  c4 := fun g0 => r.c4 (by simpa using g0)
  c5 := fun g0 => r.c5 (by simpa using g0)
  c6 := fun g0 => r.c6 (by simpa using g0)
  c7 := fun g0 => r.c7 (by simpa using g0)
  c8 := fun g0 => r.c8 (by simpa using g0)
  c9 := fun g0 g1 => r.c9 (by simpa using g0) (by simpa using g1)
  c10 := fun g0 => r.c10 (by simpa using g0)
  c11 := fun g0 => r.c11 (by simpa using g0)
  e9 := fun g0 g1 => r.e9 (by simpa using g0) (by simpa using g1)
  d12a := fun g0 => r.d12a (by simpa using g0)
  d12b := fun g0 => r.d12b (by simpa using g0)
  d8a := fun g0 => r.d8a (by simpa using g0)
  d8b := fun g0 g1 => r.d8b (by simpa using g0) (by simpa using g1)
  d8c := fun g0 g1 => r.d8c (by simpa using g0) (by simpa using g1)
  d8d := fun g0 => r.d8d (by simpa using g0)
  sa0 := fun g0 => r.sa0 (by simpa using g0)
  saF := fun g0 => r.saF (by simpa using g0)
  sa1 := fun g0 => r.sa1 (by simpa using g0)
  sa2 := fun g0 => r.sa2 (by simpa using g0)
  sb0 := fun g0 => r.sb0 (by simpa using g0)
  sbF := fun g0 => r.sbF (by simpa using g0)
  sb1 := fun g0 => r.sb1 (by simpa using g0)
  sb2 := fun g0 => r.sb2 (by simpa using g0)
  o1 := fun g0 => by have := r.o1 (by simpa using g0); simp [this]
  o2 := fun g0 => by have := r.o2 (by simpa using g0); simp [this]
  o3 := fun g0 => by have := r.o3 (by simpa using g0); simp [this]
  o4 := fun g0 => by have := r.o4 (by simpa using g0); simp [this] }
theorem op13_2 {p : ProgL} {s s1 : StL} {ev : Ev} {tr : List Ev} {tk : List Int} {kk : Int} {w : Nat} {budget : Int} {g : FuncId} {c : List D} (L : Nat → Bool) (S : St) (r : R13 p s s1 ev tr tk kk w budget g c L S) (hL : L 2 = false) : aDo EE Tryz.f104.ntmps ops13 (ops13[2]'(by decide)) S (R13 p s s1 ev tr tk kk w budget g c (fun j => L j || j == 2)) := by
 have hat : At [(8, .ptr (.n 8) 0)] [] [] S := ⟨⟨r.u8, trivial⟩, trivial, trivial⟩
 obtain ⟨τ, H, rfl⟩ := hat.form
 conv => whnf
 exact {
  u1 := r.u1
  u2 := r.u2
  u3 := r.u3
  u6 := r.u6
  u7 := r.u7
  u8 := r.u8
  u9 := r.u9
  u10 := r.u10
  u11 := r.u11
  h3 := r.h3
  h6 := r.h6
  h13 := r.h13
  c0 := fun g0 => r.c0 (by simpa using g0)
  c1 := fun g0 g1 => r.c1 (by simpa using g0) (by simpa using g1)
  c2 := fun _ => rfl
  c3 := fun g0 => r.c3 (by simpa using g0)
  c4 := fun g0 => r.c4 (by simpa using g0)
  c5 := fun g0 => r.c5 (by simpa using g0)
  c6 := fun g0 => r.c6 (by simpa using g0)
  c7 := fun g0 => r.c7 (by simpa using g0)
  c8 := fun g0 => r.c8 (by simpa using g0)
  c9 := fun g0 g1 => r.c9 (by simpa using g0) (by simpa using g1)
  c10 := fun g0 => r.c10 (by simpa using g0)
  c11 := fun g0 => r.c11 (by simpa using g0)
  e9 := fun g0 g1 => r.e9 (by simpa using g0) (by simpa using g1)
  d12a := fun g0 => r.d12a (by simpa using g0)
  d12b := fun g0 => r.d12b (by simpa using g0)
  d8a := fun g0 => r.d8a (by simpa using g0)
  d8b := fun g0 g1 => r.d8b (by simpa using g0) (by simpa using g1)
  d8c := fun g0 g1 => r.d8c (by simpa using g0) (by simpa using g1)
  d8d := fun g0 => r.d8d (by simpa using g0)
  sa0 := fun g0 => r.sa0 (by simpa using g0)
  saF := fun g0 => r.saF (by simpa using g0)
  sa1 := fun g0 => r.sa1 (by simpa using g0)
  sa2 := fun g0 => r.sa2 (by simpa using g0)
  sb0 := fun g0 => r.sb0 (by simpa using g0)
  sbF := fun g0 => r.sbF (by simpa using g0)
  sb1 := fun g0 => r.sb1 (by simpa using g0)
  sb2 := fun g0 => r.sb2 (by simpa using g0)
  o1 := fun g0 => by have := r.o1 (by simpa using g0); simp [this]
  o2 := fun g0 => by have := r.o2 (by simpa using g0); simp [this]
  o3 := fun g0 => by have := r.o3 (by simpa using g0); simp [this]
  o4 := fun g0 => by have := r.o4 (by simpa using g0); simp [this] }
theorem op13_3 {p : ProgL} {s s1 : StL} {ev : Ev} {tr : List Ev} {tk : List Int} {kk : Int} {w : Nat} {budget : Int} {g : FuncId} {c : List D} (L : Nat → Bool) (S : St) (r : R13 p s s1 ev tr tk kk w budget g c L S) (hL : L 3 = false) : aDo EE Tryz.f104.ntmps ops13 (ops13[3]'(by decide)) S (R13 p s s1 ev tr tk kk w budget g c (fun j => L j || j == 3)) := by
 have hat : At [(3, .ptr (.n 3) 0)] [(.n 3, .vs 31 ((encProg p).map .d))] [] S := ⟨⟨r.u3, trivial⟩, ⟨r.h3, trivial⟩, trivial⟩
 obtain ⟨τ, H, rfl⟩ := hat.form
 conv => whnf
 exact {
  u1 := r.u1
  u2 := r.u2
  u3 := r.u3
  u6 := r.u6
  u7 := r.u7
  u8 := r.u8
  u9 := r.u9
  u10 := r.u10
  u11 := r.u11
  h3 := r.h3
  h6 := r.h6
  h13 := r.h13
  c0 := fun g0 => r.c0 (by simpa using g0)
  c1 := fun g0 g1 => r.c1 (by simpa using g0) (by simpa using g1)
  c2 := fun g0 => r.c2 (by simpa using g0)
  c3 := fun _ => rfl
  c4 := fun g0 => r.c4 (by simpa using g0)
  c5 := fun g0 => r.c5 (by simpa using g0)
  c6 := fun g0 => r.c6 (by simpa using g0)
  c7 := fun g0 => r.c7 (by simpa using g0)
  c8 := fun g0 => r.c8 (by simpa using g0)
  c9 := fun g0 g1 => r.c9 (by simpa using g0) (by simpa using g1)
  c10 := fun g0 => r.c10 (by simpa using g0)
  c11 := fun g0 => r.c11 (by simpa using g0)
  e9 := fun g0 g1 => r.e9 (by simpa using g0) (by simpa using g1)
  d12a := fun g0 => r.d12a (by simpa using g0)
  d12b := fun g0 => r.d12b (by simpa using g0)
  d8a := fun g0 => r.d8a (by simpa using g0)
  d8b := fun g0 g1 => r.d8b (by simpa using g0) (by simpa using g1)
  d8c := fun g0 g1 => r.d8c (by simpa using g0) (by simpa using g1)
  d8d := fun g0 => r.d8d (by simpa using g0)
  sa0 := fun g0 => r.sa0 (by simpa using g0)
  saF := fun g0 => r.saF (by simpa using g0)
  sa1 := fun g0 => r.sa1 (by simpa using g0)
  sa2 := fun g0 => r.sa2 (by simpa using g0)
  sb0 := fun g0 => r.sb0 (by simpa using g0)
  sbF := fun g0 => r.sbF (by simpa using g0)
  sb1 := fun g0 => r.sb1 (by simpa using g0)
  sb2 := fun g0 => r.sb2 (by simpa using g0)
  o1 := fun g0 => by have := r.o1 (by simpa using g0); simp [this]
  o2 := fun g0 => by have := r.o2 (by simpa using g0); simp [this]
  o3 := fun g0 => by have := r.o3 (by simpa using g0); simp [this]
  o4 := fun g0 => by have := r.o4 (by simpa using g0); simp [this] }
theorem op13_4 {p : ProgL} {s s1 : StL} {ev : Ev} {tr : List Ev} {tk : List Int} {kk : Int} {w : Nat} {budget : Int} {g : FuncId} {c : List D} (L : Nat → Bool) (S : St) (r : R13 p s s1 ev tr tk kk w budget g c L S) (hL : L 4 = false) : aDo EE Tryz.f104.ntmps ops13 (ops13[4]'(by decide)) S (R13 p s s1 ev tr tk kk w budget g c (fun j => L j || j == 4)) := by
 have hat : At [(10, sl ((enabledL p s).map encN))] [] [] S := ⟨⟨r.u10, trivial⟩, trivial, trivial⟩
 obtain ⟨τ, H, rfl⟩ := hat.form
 conv => whnf
 exact {
  u1 := r.u1
  u2 := r.u2
  u3 := r.u3
  u6 := r.u6
  u7 := r.u7
  u8 := r.u8
  u9 := r.u9
  u10 := r.u10
  u11 := r.u11
  h3 := r.h3
  h6 := r.h6
  h13 := r.h13
  c0 := fun g0 => r.c0 (by simpa using g0)
  c1 := fun g0 g1 => r.c1 (by simpa using g0) (by simpa using g1)
  c2 := fun g0 => r.c2 (by simpa using g0)
  c3 := fun g0 => r.c3 (by simpa using g0)
  c4 := fun _ => rfl
  c5 := fun g0 => r.c5 (by simpa using g0)
  c6 := fun g0 => r.c6 (by simpa using g0)
  c7 := fun g0 => r.c7 (by simpa using g0)
  c8 := fun g0 => r.c8 (by simpa using g0)
  c9 := fun g0 g1 => r.c9 (by simpa using g0) (by simpa using g1)
  c10 := fun g0 => r.c10 (by simpa using g0)
  c11 := fun g0 => r.c11 (by simpa using g0)
  e9 := fun g0 g1 => r.e9 (by simpa using g0) (by simpa using g1)
  d12a := fun g0 => r.d12a (by simpa using g0)
  d12b := fun g0 => r.d12b (by simpa using g0)
  d8a := fun g0 => r.d8a (by simpa using g0)
  d8b := fun g0 g1 => r.d8b (by simpa using g0) (by simpa using g1)
  d8c := fun g0 g1 => r.d8c (by simpa using g0) (by simpa using g1)
  d8d := fun g0 => r.d8d (by simpa using g0)
  sa0 := fun g0 => r.sa0 (by simpa using g0)
  saF := fun g0 => r.saF (by simpa using g0)
  sa1 := fun g0 => r.sa1 (by simpa using g0)
  sa2 := fun g0 => r.sa2 (by simpa using g0)
  sb0 := fun g0 => r.sb0 (by simpa using g0)
  sbF := fun g0 => r.sbF (by simpa using g0)
  sb1 := fun g0 => r.sb1 (by simpa using g0)
  sb2 := fun g0 => r.sb2 (by simpa using g0)
  o1 := fun g0 => by have := r.o1 (by simpa using g0); simp [this]
  o2 := fun g0 => by have := r.o2 (by simpa using g0); simp [this]
  o3 := fun g0 => by have := r.o3 (by simpa using g0); simp [this]
  o4 := fun g0 => by have := r.o4 (by simpa using g0); simp [this] }
theorem op13_5 {p : ProgL} {s s1 : StL} {ev : Ev} {tr : List Ev} {tk : List Int} {kk : Int} {w : Nat} {budget : Int} {g : FuncId} {c : List D} (L : Nat → Bool) (S : St) (r : R13 p s s1 ev tr tk kk w budget g c L S) (hL : L 5 = false) : aDo EE Tryz.f104.ntmps ops13 (ops13[5]'(by decide)) S (R13 p s s1 ev tr tk kk w budget g c (fun j => L j || j == 5)) := by
 have hat : At [(11, i64 kk)] [] [] S := ⟨⟨r.u11, trivial⟩, trivial, trivial⟩
 obtain ⟨τ, H, rfl⟩ := hat.form
 conv => whnf
 exact {
  u1 := r.u1
  u2 := r.u2
  u3 := r.u3
  u6 := r.u6
  u7 := r.u7
  u8 := r.u8
  u9 := r.u9
  u10 := r.u10
  u11 := r.u11
  h3 := r.h3
  h6 := r.h6
  h13 := r.h13
  c0 := fun g0 => r.c0 (by simpa using g0)
  c1 := fun g0 g1 => r.c1 (by simpa using g0) (by simpa using g1)
  c2 := fun g0 => r.c2 (by simpa using g0)
  c3 := fun g0 => r.c3 (by simpa using g0)
  c4 := fun g0 => r.c4 (by simpa using g0)
  c5 := fun _ => rfl
  c6 := fun g0 => r.c6 (by simpa using g0)
  c7 := fun g0 => r.c7 (by simpa using g0)
  c8 := fun g0 => r.c8 (by simpa using g0)
  c9 := fun g0 g1 => r.c9 (by simpa using g0) (by simpa using g1)
  c10 := fun g0 => r.c10 (by simpa using g0)
  c11 := fun g0 => r.c11 (by simpa using g0)
  e9 := fun g0 g1 => r.e9 (by simpa using g0) (by simpa using g1)
  d12a := fun g0 => r.d12a (by simpa using g0)
  d12b := fun g0 => r.d12b (by simpa using g0)
  d8a := fun g0 => r.d8a (by simpa using g0)
  d8b := fun g0 g1 => r.d8b (by simpa using g0) (by simpa using g1)
  d8c := fun g0 g1 => r.d8c (by simpa using g0) (by simpa using g1)
  d8d := fun g0 => r.d8d (by simpa using g0)
  sa0 := fun g0 => r.sa0 (by simpa using g0)
  saF := fun g0 => r.saF (by simpa using g0)
  sa1 := fun g0 => r.sa1 (by simpa using g0)
  sa2 := fun g0 => r.sa2 (by simpa using g0)
  sb0 := fun g0 => r.sb0 (by simpa using g0)
  sbF := fun g0 => r.sbF (by simpa using g0)
  sb1 := fun g0 => r.sb1 (by simpa using g0)
  sb2 := fun g0 => r.sb2 (by simpa using g0)
  o1 := fun g0 => by have := r.o1 (by simpa using g0); simp [this]
  o2 := fun g0 => by have := r.o2 (by simpa using g0); simp [this]
  o3 := fun g0 => by have := r.o3 (by simpa using g0); simp [this]
  o4 := fun g0 => by have := r.o4 (by simpa using g0); simp [this] }
theorem op13_6 {p : ProgL} {s s1 : StL} {ev : Ev} {tr : List Ev} {tk : List Int} {kk : Int} {w : Nat} {budget : Int} {g : FuncId} {c : List D} (hk0 : 0 ≤ kk) (hen : ((enabledL p s).map encN)[kk.toNat]? = some (encN w)) (L : Nat → Bool) (S : St) (r : R13 p s s1 ev tr tk kk w budget g c L S) (hL : L 6 = false) (k4 : L 4 = true) (k5 : L 5 = true) : aDo EE Tryz.f104.ntmps ops13 (ops13[6]'(by decide)) S (R13 p s s1 ev tr tk kk w budget g c (fun j => L j || j == 6)) := by
 have hat : At [(54, sl ((enabledL p s).map encN)), (55, i64 kk)] [] [] S := ⟨⟨r.c4 k4, r.c5 k5, trivial⟩, trivial, trivial⟩
 obtain ⟨τ, H, rfl⟩ := hat.form
 conv => whnf
 refine ⟨encN w, ⟨hk0, hen, rfl⟩, ?_⟩
 conv => whnf
 exact {
  u1 := r.u1
  u2 := r.u2
  u3 := r.u3
  u6 := r.u6
  u7 := r.u7
  u8 := r.u8
  u9 := r.u9
  u10 := r.u10
  u11 := r.u11
  h3 := r.h3
  h6 := r.h6
  h13 := r.h13
  c0 := fun g0 => r.c0 (by simpa using g0)
  c1 := fun g0 g1 => r.c1 (by simpa using g0) (by simpa using g1)
  c2 := fun g0 => r.c2 (by simpa using g0)
  c3 := fun g0 => r.c3 (by simpa using g0)
  c4 := fun g0 => r.c4 (by simpa using g0)
  c5 := fun g0 => r.c5 (by simpa using g0)
  c6 := fun _ => rfl
  c7 := fun g0 => r.c7 (by simpa using g0)
  c8 := fun g0 => r.c8 (by simpa using g0)
  c9 := fun g0 g1 => r.c9 (by simpa using g0) (by simpa using g1)
  c10 := fun g0 => r.c10 (by simpa using g0)
  c11 := fun g0 => r.c11 (by simpa using g0)
  e9 := fun g0 g1 => r.e9 (by simpa using g0) (by simpa using g1)
  d12a := fun g0 => r.d12a (by simpa using g0)
  d12b := fun g0 => r.d12b (by simpa using g0)
  d8a := fun g0 => r.d8a (by simpa using g0)
  d8b := fun g0 g1 => r.d8b (by simpa using g0) (by simpa using g1)
  d8c := fun g0 g1 => r.d8c (by simpa using g0) (by simpa using g1)
  d8d := fun g0 => r.d8d (by simpa using g0)
  sa0 := fun g0 => r.sa0 (by simpa using g0)
  saF := fun g0 => r.saF (by simpa using g0)
  sa1 := fun g0 => r.sa1 (by simpa using g0)
  sa2 := fun g0 => r.sa2 (by simpa using g0)
  sb0 := fun g0 => r.sb0 (by simpa using g0)
  sbF := fun g0 => r.sbF (by simpa using g0)
  sb1 := fun g0 => r.sb1 (by simpa using g0)
  sb2 := fun g0 => r.sb2 (by simpa using g0)
  o1 := fun g0 => by have := r.o1 (by simpa using g0); simp [this]
  o2 := fun g0 => by have := r.o2 (by simpa using g0); simp [this]
  o3 := fun g0 => by have := r.o3 (by simpa using g0); simp [this]
  o4 := fun g0 => by have := r.o4 (by simpa using g0); simp [this] }
theorem op13_7 {p : ProgL} {s s1 : StL} {ev : Ev} {tr : List Ev} {tk : List Int} {kk : Int} {w : Nat} {budget : Int} {g : FuncId} {c : List D} (L : Nat → Bool) (S : St) (r : R13 p s s1 ev tr tk kk w budget g c L S) (hL : L 7 = false) (k6 : L 6 = true) : aDo EE Tryz.f104.ntmps ops13 (ops13[7]'(by decide)) S (R13 p s s1 ev tr tk kk w budget g c (fun j => L j || j == 7)) := by
 have hat : At [(56, .fp (encN w))] [] [] S := ⟨⟨r.c6 k6, trivial⟩, trivial, trivial⟩
 obtain ⟨τ, H, rfl⟩ := hat.form
 conv => whnf
 exact {
  u1 := r.u1
  u2 := r.u2
  u3 := r.u3
  u6 := r.u6
  u7 := r.u7
  u8 := r.u8
  u9 := r.u9
  u10 := r.u10
  u11 := r.u11
  h3 := r.h3
  h6 := r.h6
  h13 := r.h13
  c0 := fun g0 => r.c0 (by simpa using g0)
  c1 := fun g0 g1 => r.c1 (by simpa using g0) (by simpa using g1)
  c2 := fun g0 => r.c2 (by simpa using g0)
  c3 := fun g0 => r.c3 (by simpa using g0)
  c4 := fun g0 => r.c4 (by simpa using g0)
  c5 := fun g0 => r.c5 (by simpa using g0)
  c6 := fun g0 => r.c6 (by simpa using g0)
  c7 := fun _ => rfl
  c8 := fun g0 => r.c8 (by simpa using g0)
  c9 := fun g0 g1 => r.c9 (by simpa using g0) (by simpa using g1)
  c10 := fun g0 => r.c10 (by simpa using g0)
  c11 := fun g0 => r.c11 (by simpa using g0)
  e9 := fun g0 g1 => r.e9 (by simpa using g0) (by simpa using g1)
  d12a := fun g0 => r.d12a (by simpa using g0)
  d12b := fun g0 => r.d12b (by simpa using g0)
  d8a := fun g0 => r.d8a (by simpa using g0)
  d8b := fun g0 g1 => r.d8b (by simpa using g0) (by simpa using g1)
  d8c := fun g0 g1 => r.d8c (by simpa using g0) (by simpa using g1)
  d8d := fun g0 => r.d8d (by simpa using g0)
  sa0 := fun g0 => r.sa0 (by simpa using g0)
  saF := fun g0 => r.saF (by simpa using g0)
  sa1 := fun g0 => r.sa1 (by simpa using g0)
  sa2 := fun g0 => r.sa2 (by simpa using g0)
  sb0 := fun g0 => r.sb0 (by simpa using g0)
  sbF := fun g0 => r.sbF (by simpa using g0)
  sb1 := fun g0 => r.sb1 (by simpa using g0)
  sb2 := fun g0 => r.sb2 (by simpa using g0)
  o1 := fun g0 => by have := r.o1 (by simpa using g0); simp [this]
  o2 := fun g0 => by have := r.o2 (by simpa using g0); simp [this]
  o3 := fun g0 => by have := r.o3 (by simpa using g0); simp [this]
  o4 := fun g0 => by have := r.o4 (by simpa using g0); simp [this] }
theorem op13_11 {p : ProgL} {s s1 : StL} {ev : Ev} {tr : List Ev} {tk : List Int} {kk : Int} {w : Nat} {budget : Int} {g : FuncId} {c : List D} (L : Nat → Bool) (S : St) (r : R13 p s s1 ev tr tk kk w budget g c L S) (hL : L 11 = false) : aDo EE Tryz.f104.ntmps ops13 (ops13[11]'(by decide)) S (R13 p s s1 ev tr tk kk w budget g c (fun j => L j || j == 11)) := by
 have hat : At [(8, .ptr (.n 8) 0)] [] [] S := ⟨⟨r.u8, trivial⟩, trivial, trivial⟩
 obtain ⟨τ, H, rfl⟩ := hat.form
 conv => whnf
 exact {
  u1 := r.u1
  u2 := r.u2
  u3 := r.u3
  u6 := r.u6
  u7 := r.u7
  u8 := r.u8
  u9 := r.u9
  u10 := r.u10
  u11 := r.u11
  h3 := r.h3
  h6 := r.h6
  h13 := r.h13
  c0 := fun g0 => r.c0 (by simpa using g0)
  c1 := fun g0 g1 => r.c1 (by simpa using g0) (by simpa using g1)
  c2 := fun g0 => r.c2 (by simpa using g0)
  c3 := fun g0 => r.c3 (by simpa using g0)
  c4 := fun g0 => r.c4 (by simpa using g0)
  c5 := fun g0 => r.c5 (by simpa using g0)
  c6 := fun g0 => r.c6 (by simpa using g0)
  c7 := fun g0 => r.c7 (by simpa using g0)
  c8 := fun g0 => r.c8 (by simpa using g0)
  c9 := fun g0 g1 => r.c9 (by simpa using g0) (by simpa using g1)
  c10 := fun g0 => r.c10 (by simpa using g0)
  c11 := fun _ => rfl
  e9 := fun g0 g1 => r.e9 (by simpa using g0) (by simpa using g1)
  d12a := fun g0 => r.d12a (by simpa using g0)
  d12b := fun g0 => r.d12b (by simpa using g0)
  d8a := fun g0 => r.d8a (by simpa using g0)
  d8b := fun g0 g1 => r.d8b (by simpa using g0) (by simpa using g1)
  d8c := fun g0 g1 => r.d8c (by simpa using g0) (by simpa using g1)
  d8d := fun g0 => r.d8d (by simpa using g0)
  sa0 := fun g0 => r.sa0 (by simpa using g0)
  saF := fun g0 => r.saF (by simpa using g0)
  sa1 := fun g0 => r.sa1 (by simpa using g0)
  sa2 := fun g0 => r.sa2 (by simpa using g0)
  sb0 := fun g0 => r.sb0 (by simpa using g0)
  sbF := fun g0 => r.sbF (by simpa using g0)
  sb1 := fun g0 => r.sb1 (by simpa using g0)
  sb2 := fun g0 => r.sb2 (by simpa using g0)
  o1 := fun g0 => by have := r.o1 (by simpa using g0); simp [this]
  o2 := fun g0 => by have := r.o2 (by simpa using g0); simp [this]
  o3 := fun g0 => by have := r.o3 (by simpa using g0); simp [this]
  o4 := fun g0 => by have := r.o4 (by simpa using g0); simp [this] }
theorem op13_1 {p : ProgL} {s s1 : StL} {ev : Ev} {tr : List Ev} {tk : List Int} {kk : Int} {w : Nat} {budget : Int} {g : FuncId} {c : List D} (L : Nat → Bool) (S : St) (r : R13 p s s1 ev tr tk kk w budget g c L S) (hL : L 1 = false) (k0 : L 0 = true) : aDo EE Tryz.f104.ntmps ops13 (ops13[1]'(by decide)) S (R13 p s s1 ev tr tk kk w budget g c (fun j => L j || j == 1)) := by
 have n10 : L 10 = false := by
  cases h : L 10 with
  |false => rfl
  |true => exact absurd (r.o3 h) (by rw [hL]; decide)
 obtain ⟨st, hst⟩ : ∃ st, S.H (.n 8) = some (.vs 78 ([i64 0, .ref (.n 12) 0 tr.length, .ref (.n 13) 0 (tk.length + 1)] ++ stRef st)) := by
  cases h8 : L 8 with
  |false => exact ⟨_, r.d8a h8⟩
  |true => exact ⟨_, r.d8b h8 n10⟩
 have hat : At [(50, .ptr (.n 8) (0 + 1))] [(.n 8, .vs 78 ([i64 0, .ref (.n 12) 0 tr.length, .ref (.n 13) 0 (tk.length + 1)] ++ stRef st))] [] S := ⟨⟨r.c0 k0, trivial⟩, ⟨hst, trivial⟩, trivial⟩
 obtain ⟨τ, H, rfl⟩ := hat.form
 conv => whnf
 exact {
  u1 := r.u1
  u2 := r.u2
  u3 := r.u3
  u6 := r.u6
  u7 := r.u7
  u8 := r.u8
  u9 := r.u9
  u10 := r.u10
  u11 := r.u11
  h3 := r.h3
  h6 := r.h6
  h13 := r.h13
  c0 := fun g0 => r.c0 (by simpa using g0)
  c1 := fun _ _ => rfl
  c2 := fun g0 => r.c2 (by simpa using g0)
  c3 := fun g0 => r.c3 (by simpa using g0)
  c4 := fun g0 => r.c4 (by simpa using g0)
  c5 := fun g0 => r.c5 (by simpa using g0)
  c6 := fun g0 => r.c6 (by simpa using g0)
  c7 := fun g0 => r.c7 (by simpa using g0)
  c8 := fun g0 => r.c8 (by simpa using g0)
  c9 := fun g0 g1 => r.c9 (by simpa using g0) (by simpa using g1)
  c10 := fun g0 => r.c10 (by simpa using g0)
  c11 := fun g0 => r.c11 (by simpa using g0)
  e9 := fun g0 g1 => r.e9 (by simpa using g0) (by simpa using g1)
  d12a := fun g0 => r.d12a (by simpa using g0)
  d12b := fun g0 => r.d12b (by simpa using g0)
  d8a := fun g0 => r.d8a (by simpa using g0)
  d8b := fun g0 g1 => r.d8b (by simpa using g0) (by simpa using g1)
  d8c := fun g0 g1 => r.d8c (by simpa using g0) (by simpa using g1)
  d8d := fun g0 => r.d8d (by simpa using g0)
  sa0 := fun g0 => r.sa0 (by simpa using g0)
  saF := fun g0 => r.saF (by simpa using g0)
  sa1 := fun g0 => r.sa1 (by simpa using g0)
  sa2 := fun g0 => r.sa2 (by simpa using g0)
  sb0 := fun g0 => r.sb0 (by simpa using g0)
  sbF := fun g0 => r.sbF (by simpa using g0)
  sb1 := fun g0 => r.sb1 (by simpa using g0)
  sb2 := fun g0 => r.sb2 (by simpa using g0)
  o1 := fun g0 => by have := r.o1 (by simpa using g0); simp [this]
  o2 := fun g0 => by have := r.o2 (by simpa using g0); simp [this]
  o3 := fun g0 => by have := r.o3 (by simpa using g0); simp [this]
  o4 := fun g0 => by have := r.o4 (by simpa using g0); simp [this] }
theorem op13_9 {p : ProgL} {s s1 : StL} {ev : Ev} {tr : List Ev} {tk : List Int} {kk : Int} {w : Nat} {budget : Int} {g : FuncId} {c : List D} (L : Nat → Bool) (S : St) (r : R13 p s s1 ev tr tk kk w budget g c L S) (hL : L 9 = false) (k8 : L 8 = true) : aDo EE Tryz.f104.ntmps ops13 (ops13[9]'(by decide)) S (R13 p s s1 ev tr tk kk w budget g c (fun j => L j || j == 9)) := by
 have hat : At [(58, agg (encEv ev))] [] [] S := ⟨⟨r.c8 k8, trivial⟩, trivial, trivial⟩
 obtain ⟨τ, H, rfl⟩ := hat.form
 conv => whnf
 exact {
  u1 := (congrArg (scrP (isK (.n 59))) (r.u1)).trans rfl
  u2 := (congrArg (scrP (isK (.n 59))) (r.u2)).trans rfl
  u3 := (congrArg (scrP (isK (.n 59))) (r.u3)).trans rfl
  u6 := (congrArg (scrP (isK (.n 59))) (r.u6)).trans rfl
  u7 := (congrArg (scrP (isK (.n 59))) (r.u7)).trans rfl
  u8 := (congrArg (scrP (isK (.n 59))) (r.u8)).trans rfl
  u9 := (congrArg (scrP (isK (.n 59))) (r.u9)).trans rfl
  u10 := (congrArg (scrP (isK (.n 59))) (r.u10)).trans rfl
  u11 := (congrArg (scrP (isK (.n 59))) (r.u11)).trans rfl
  h3 := (congrArg (Option.map (scrPO (isK (.n 59)))) (r.h3)).trans rfl
  h6 := (congrArg (Option.map (scrPO (isK (.n 59)))) (r.h6)).trans rfl
  h13 := (congrArg (Option.map (scrPO (isK (.n 59)))) (r.h13)).trans rfl
  c0 := fun g0 => (congrArg (scrP (isK (.n 59))) (r.c0 (by simpa using g0))).trans rfl
  c1 := fun g0 g1 => (congrArg (scrP (isK (.n 59))) (r.c1 (by simpa using g0) (by simpa using g1))).trans rfl
  c2 := fun g0 => (congrArg (scrP (isK (.n 59))) (r.c2 (by simpa using g0))).trans rfl
  c3 := fun g0 => (congrArg (scrP (isK (.n 59))) (r.c3 (by simpa using g0))).trans rfl
  c4 := fun g0 => (congrArg (scrP (isK (.n 59))) (r.c4 (by simpa using g0))).trans rfl
  c5 := fun g0 => (congrArg (scrP (isK (.n 59))) (r.c5 (by simpa using g0))).trans rfl
  c6 := fun g0 => (congrArg (scrP (isK (.n 59))) (r.c6 (by simpa using g0))).trans rfl
  c7 := fun g0 => (congrArg (scrP (isK (.n 59))) (r.c7 (by simpa using g0))).trans rfl
  c8 := fun g0 => (congrArg (scrP (isK (.n 59))) (r.c8 (by simpa using g0))).trans rfl
  c9 := fun _ _ => rfl
  c10 := fun g0 => (congrArg (scrP (isK (.n 59))) (r.c10 (by simpa using g0))).trans rfl
  c11 := fun g0 => (congrArg (scrP (isK (.n 59))) (r.c11 (by simpa using g0))).trans rfl
  e9 := fun _ _ => rfl
  d12a := fun g0 => (congrArg (Option.map (scrPO (isK (.n 59)))) (r.d12a (by simpa using g0))).trans rfl
  d12b := fun g0 => (congrArg (Option.map (scrPO (isK (.n 59)))) (r.d12b (by simpa using g0))).trans rfl
  d8a := fun g0 => (congrArg (Option.map (scrPO (isK (.n 59)))) (r.d8a (by simpa using g0))).trans rfl
  d8b := fun g0 g1 => (congrArg (Option.map (scrPO (isK (.n 59)))) (r.d8b (by simpa using g0) (by simpa using g1))).trans rfl
  d8c := fun g0 g1 => (congrArg (Option.map (scrPO (isK (.n 59)))) (r.d8c (by simpa using g0) (by simpa using g1))).trans rfl
  d8d := fun g0 => (congrArg (Option.map (scrPO (isK (.n 59)))) (r.d8d (by simpa using g0))).trans rfl
  sa0 := fun g0 => (congrArg (Option.map (scrPO (isK (.n 59)))) (r.sa0 (by simpa using g0))).trans (congrArg (fun x => some (Ob.rs 123 6 x)) (thRows_scr fun _ _ => rfl))
  saF := fun g0 => fun j => (congrArg (Option.map (scrPO (isK (.n 59)))) (r.saF (by simpa using g0) j)).trans (thFam_scr _ _ _)
  sa1 := fun g0 => (congrArg (Option.map (scrPO (isK (.n 59)))) (r.sa1 (by simpa using g0))).trans rfl
  sa2 := fun g0 => (congrArg (Option.map (scrPO (isK (.n 59)))) (r.sa2 (by simpa using g0))).trans rfl
  sb0 := fun g0 => (congrArg (Option.map (scrPO (isK (.n 59)))) (r.sb0 (by simpa using g0))).trans (congrArg (fun x => some (Ob.rs 123 6 x)) (thRows_scr fun _ _ => rfl))
  sbF := fun g0 => fun j => (congrArg (Option.map (scrPO (isK (.n 59)))) (r.sbF (by simpa using g0) j)).trans (thFam_scr _ _ _)
  sb1 := fun g0 => (congrArg (Option.map (scrPO (isK (.n 59)))) (r.sb1 (by simpa using g0))).trans rfl
  sb2 := fun g0 => (congrArg (Option.map (scrPO (isK (.n 59)))) (r.sb2 (by simpa using g0))).trans rfl
  o1 := fun g0 => by have := r.o1 (by simpa using g0); simp [this]
  o2 := fun g0 => by have := r.o2 (by simpa using g0); simp [this]
  o3 := fun g0 => by have := r.o3 (by simpa using g0); simp [this]
  o4 := fun g0 => by have := r.o4 (by simpa using g0); simp [this] }
theorem op13_10 {p : ProgL} {s s1 : StL} {ev : Ev} {tr : List Ev} {tk : List Int} {kk : Int} {w : Nat} {budget : Int} {g : FuncId} {c : List D} (htr : tr.length ≤ 1048576) (L : Nat → Bool) (S : St) (r : R13 p s s1 ev tr tk kk w budget g c L S) (hL : L 10 = false) (k1 : L 1 = true) (k8 : L 8 = true) (k9 : L 9 = true) : aDo EE Tryz.f104.ntmps ops13 (ops13[10]'(by decide)) S (R13 p s s1 ev tr tk kk w budget g c (fun j => L j || j == 10)) := by
 have hat : At [(51, .ref (.n 12) 0 tr.length), (59, .ref (.n 59) 0 1)] [(.n 12, .ds 120 5 (tr.map encEv)), (.n 59, .ds 120 5 [encEv ev])] [] S := ⟨⟨r.c1 k1 hL, r.c9 k9 hL, trivial⟩, ⟨r.d12a hL, r.e9 k9 hL, trivial⟩, trivial⟩
 obtain ⟨τ, H, rfl⟩ := hat.form
 conv => whnf
 refine ⟨⟨rfl, by show (tr.length + 1) * 40 ≤ _; omega, by show tr.length + 1 ≤ _; omega⟩, ?_⟩
 conv => whnf
 exact {
  u1 := (congrArg (scrP (isK (.n 12))) (r.u1)).trans rfl
  u2 := (congrArg (scrP (isK (.n 12))) (r.u2)).trans rfl
  u3 := (congrArg (scrP (isK (.n 12))) (r.u3)).trans rfl
  u6 := (congrArg (scrP (isK (.n 12))) (r.u6)).trans rfl
  u7 := (congrArg (scrP (isK (.n 12))) (r.u7)).trans rfl
  u8 := (congrArg (scrP (isK (.n 12))) (r.u8)).trans rfl
  u9 := (congrArg (scrP (isK (.n 12))) (r.u9)).trans rfl
  u10 := (congrArg (scrP (isK (.n 12))) (r.u10)).trans rfl
  u11 := (congrArg (scrP (isK (.n 12))) (r.u11)).trans rfl
  h3 := (congrArg (Option.map (scrPO (isK (.n 12)))) (r.h3)).trans rfl
  h6 := (congrArg (Option.map (scrPO (isK (.n 12)))) (r.h6)).trans rfl
  h13 := (congrArg (Option.map (scrPO (isK (.n 12)))) (r.h13)).trans rfl
  c0 := fun g0 => (congrArg (scrP (isK (.n 12))) (r.c0 (by simpa using g0))).trans rfl
  c1 := fun g0 g1 => absurd g1 (by simp)
  c2 := fun g0 => (congrArg (scrP (isK (.n 12))) (r.c2 (by simpa using g0))).trans rfl
  c3 := fun g0 => (congrArg (scrP (isK (.n 12))) (r.c3 (by simpa using g0))).trans rfl
  c4 := fun g0 => (congrArg (scrP (isK (.n 12))) (r.c4 (by simpa using g0))).trans rfl
  c5 := fun g0 => (congrArg (scrP (isK (.n 12))) (r.c5 (by simpa using g0))).trans rfl
  c6 := fun g0 => (congrArg (scrP (isK (.n 12))) (r.c6 (by simpa using g0))).trans rfl
  c7 := fun g0 => (congrArg (scrP (isK (.n 12))) (r.c7 (by simpa using g0))).trans rfl
  c8 := fun g0 => (congrArg (scrP (isK (.n 12))) (r.c8 (by simpa using g0))).trans rfl
  c9 := fun g0 g1 => absurd g1 (by simp)
  c10 := fun _ => rfl
  c11 := fun g0 => (congrArg (scrP (isK (.n 12))) (r.c11 (by simpa using g0))).trans rfl
  e9 := fun g0 g1 => absurd g1 (by simp)
  d12a := fun g0 => absurd g0 (by simp)
  d12b := fun _ => by
   show some (Ob.ds 120 5 ((tr.map encEv).take tr.length ++ [encEv ev])) = _
   rw [List.take_of_length_le (by simp)]
   simp
  d8a := fun g0 => absurd g0 (by simp [k8])
  d8b := fun g0 g1 => absurd g1 (by simp)
  d8c := fun _ _ => (congrArg (Option.map (scrPO (isK (.n 12)))) (r.d8b k8 hL)).trans rfl
  d8d := fun g0 => absurd (r.o2 (by simpa using g0)) (by rw [hL]; decide)
  sa0 := fun g0 => (congrArg (Option.map (scrPO (isK (.n 12)))) (r.sa0 (by simpa using g0))).trans (congrArg (fun x => some (Ob.rs 123 6 x)) (thRows_scr fun _ _ => rfl))
  saF := fun g0 => fun j => (congrArg (Option.map (scrPO (isK (.n 12)))) (r.saF (by simpa using g0) j)).trans (thFam_scr _ _ _)
  sa1 := fun g0 => (congrArg (Option.map (scrPO (isK (.n 12)))) (r.sa1 (by simpa using g0))).trans rfl
  sa2 := fun g0 => (congrArg (Option.map (scrPO (isK (.n 12)))) (r.sa2 (by simpa using g0))).trans rfl
  sb0 := fun g0 => (congrArg (Option.map (scrPO (isK (.n 12)))) (r.sb0 (by simpa using g0))).trans (congrArg (fun x => some (Ob.rs 123 6 x)) (thRows_scr fun _ _ => rfl))
  sbF := fun g0 => fun j => (congrArg (Option.map (scrPO (isK (.n 12)))) (r.sbF (by simpa using g0) j)).trans (thFam_scr _ _ _)
  sb1 := fun g0 => (congrArg (Option.map (scrPO (isK (.n 12)))) (r.sb1 (by simpa using g0))).trans rfl
  sb2 := fun g0 => (congrArg (Option.map (scrPO (isK (.n 12)))) (r.sb2 (by simpa using g0))).trans rfl
  o1 := fun _ => by simp [k8]
  o2 := fun g0 => by have := r.o2 (by simpa using g0); simp [this]
  o3 := fun _ => by simp [k1]
  o4 := fun _ => by simp [k9] }
theorem op13_12 {p : ProgL} {s s1 : StL} {ev : Ev} {tr : List Ev} {tk : List Int} {kk : Int} {w : Nat} {budget : Int} {g : FuncId} {c : List D} (L : Nat → Bool) (S : St) (r : R13 p s s1 ev tr tk kk w budget g c L S) (hL : L 12 = false) (k10 : L 10 = true) (k11 : L 11 = true) : aDo EE Tryz.f104.ntmps ops13 (ops13[12]'(by decide)) S (R13 p s s1 ev tr tk kk w budget g c (fun j => L j || j == 12)) := by
 have hat : At [(61, .ptr (.n 8) (0 + 1)), (60, .ref (.n 12) 0 (tr.length + 1))] [(.n 8, .vs 78 ([i64 0, .junk, .ref (.n 13) 0 (tk.length + 1)] ++ stRef s1))] [] S := ⟨⟨r.c11 k11, r.c10 k10, trivial⟩, ⟨r.d8c k10 hL, trivial⟩, trivial⟩
 obtain ⟨τ, H, rfl⟩ := hat.form
 conv => whnf
 exact {
  u1 := r.u1
  u2 := r.u2
  u3 := r.u3
  u6 := r.u6
  u7 := r.u7
  u8 := r.u8
  u9 := r.u9
  u10 := r.u10
  u11 := r.u11
  h3 := r.h3
  h6 := r.h6
  h13 := r.h13
  c0 := fun g0 => r.c0 (by simpa using g0)
  c1 := fun g0 g1 => r.c1 (by simpa using g0) (by simpa using g1)
  c2 := fun g0 => r.c2 (by simpa using g0)
  c3 := fun g0 => r.c3 (by simpa using g0)
  c4 := fun g0 => r.c4 (by simpa using g0)
  c5 := fun g0 => r.c5 (by simpa using g0)
  c6 := fun g0 => r.c6 (by simpa using g0)
  c7 := fun g0 => r.c7 (by simpa using g0)
  c8 := fun g0 => r.c8 (by simpa using g0)
  c9 := fun g0 g1 => r.c9 (by simpa using g0) (by simpa using g1)
  c10 := fun g0 => r.c10 (by simpa using g0)
  c11 := fun g0 => r.c11 (by simpa using g0)
  e9 := fun g0 g1 => r.e9 (by simpa using g0) (by simpa using g1)
  d12a := fun g0 => r.d12a (by simpa using g0)
  d12b := fun g0 => r.d12b (by simpa using g0)
  d8a := fun g0 => absurd g0 (by simp [r.o1 k10])
  d8b := fun _ g1 => absurd g1 (by simp [k10])
  d8c := fun g0 g1 => absurd g1 (by simp)
  d8d := fun _ => rfl
  sa0 := fun g0 => r.sa0 (by simpa using g0)
  saF := fun g0 => r.saF (by simpa using g0)
  sa1 := fun g0 => r.sa1 (by simpa using g0)
  sa2 := fun g0 => r.sa2 (by simpa using g0)
  sb0 := fun g0 => r.sb0 (by simpa using g0)
  sbF := fun g0 => r.sbF (by simpa using g0)
  sb1 := fun g0 => r.sb1 (by simpa using g0)
  sb2 := fun g0 => r.sb2 (by simpa using g0)
  o1 := fun g0 => by have := r.o1 (by simpa using g0); simp [this]
  o2 := fun _ => by simp [k10]
  o3 := fun g0 => by have := r.o3 (by simpa using g0); simp [this]
  o4 := fun g0 => by have := r.o4 (by simpa using g0); simp [this] }
def lendC : Key → Bool
 | .n k => Nat.beq k 900 || Nat.beq k 901 || Nat.beq k 902
 | .s o _ => Nat.beq o 900
 | .l k => Nat.beq k 0
theorem stHC_none {E : TypeId} {pre : List AV} {s : StL} : ∀ κ, lendC κ = false → stHC E pre s κ = none
 | .l j, h => by have h : Nat.beq j 0 = false := h; simp [stHC, h]
 | .n j, h => by
  have h : (Nat.beq j 900 || Nat.beq j 901 || Nat.beq j 902) = false := h
  simp only [Bool.or_eq_false_iff] at h
  simp [stHC, h.1.1, h.1.2, h.2]
 | .s o j, h => by have h : Nat.beq o 900 = false := h; simp [stHC, h]
theorem op13_8 {p : ProgL} {s s1 : StL} {ev : Ev} {tr : List Ev} {tk : List Int} {kk : Int} {w : Nat} {budget : Int} {g : FuncId} {c : List D} (hst : ∀ (v0 v1 : Value) (H0 : Key → Option Ob), AtC 78 [i64 0, .lit v0, .lit v1] s H0 → IOCall EE 115 [.ptr (.l 0) 3, agg (encProg p), i64 w] H0 (fun r H1 => r = agg (encEv ev) ∧ H1 = stHC 78 [i64 0, .lit v0, .lit v1] s1)) (L : Nat → Bool) (S : St) (r : R13 p s s1 ev tr tk kk w budget g c L S) (hL : L 8 = false) (k2 : L 2 = true) (k3 : L 3 = true) (k7 : L 7 = true) : aDo EE Tryz.f104.ntmps ops13 (ops13[8]'(by decide)) S (R13 p s s1 ev tr tk kk w budget g c (fun j => L j || j == 8)) := by
 have n10 : L 10 = false := by
  cases h : L 10 with
  |false => rfl
  |true => exact absurd (r.o1 h) (by rw [hL]; decide)
 have hat : At [(52, .ptr (.n 8) (0 + 3)), (53, agg (encProg p)), (57, i64 w)] [(.n 8, .vs 78 ([i64 0, .ref (.n 12) 0 tr.length, .ref (.n 13) 0 (tk.length + 1)] ++ stRef s)), (.n 900, .rs 123 6 (thRows 900 s.ths)), (.n 901, .ds 105 1 (s.cells.map encF)), (.n 902, .ds 3 1 (s.owner.map encInt))] [(900, thFam s.ths)] S := ⟨⟨r.c2 k2, r.c3 k3, r.c7 k7, trivial⟩, ⟨r.d8a hL, r.sa0 hL, r.sa1 hL, r.sa2 hL, trivial⟩, ⟨r.saF hL, trivial⟩⟩
 obtain ⟨τ, H, rfl⟩ := hat.form
 conv => whnf
 refine .inr (.inr (.inr ⟨_, 115, [], 8, 0, lendC, 78, [i64 0, .ref (.n 12) 0 tr.length, .ref (.n 13) 0 (tk.length + 1)] ++ stRef s, [.ref (.n 12) 0 tr.length, .ref (.n 13) 0 (tk.length + 1)], fun lam => [i64 0, .lit (lam 0), .lit (lam 1)] ++ stRef s, fun lam r H1 => r = agg (encEv ev) ∧ H1 = stHC 78 [i64 0, .lit (lam 0), .lit (lam 1)] s1, Weak.refl, rfl, ⟨rfl, rfl, rfl⟩, ?_, fun lam => litC13 _ _ _ _ rfl lam, fun lam => hst (lam 0) (lam 1) _ ⟨rfl, rfl, ?_, fun j => ?_, rfl, rfl⟩, ?_⟩))
 ·intro c hc
  simp only [List.mem_cons, List.not_mem_nil, or_false] at hc
  rcases hc with rfl | rfl
  ·exact ⟨rfl, by simp⟩
  ·exact ⟨rfl, by simp⟩
 ·show some (Ob.rs 123 6 (((thRows 900 s.ths).map (renL (swp (.n 8) (.l 0)))).map (scrPL fun o => !lendC o))) = _
  rw [thRows_renl]
  exact congrArg (fun x => some (Ob.rs 123 6 x)) (thRows_scr fun _ _ => rfl)
 ·show ((thFam s.ths j).map (renO _)).map (scrPO _) = _
  rw [thFam_ren, thFam_scr]
 rintro lam rr H1 ⟨rfl, rfl⟩
 refine ⟨stHC_none, ?_, [i64 0, .lit (lam 0), .lit (lam 1)] ++ stRef s1, [i64 0, .ref (.n 12) 0 tr.length, .ref (.n 13) 0 (tk.length + 1)] ++ stRef s1, rfl, litB13 _ _ _ _, ?_⟩
 ·intro n hn
  have : n = 0 := by simpa [lendC] using hn
  subst this
  exact ⟨78, _, _, rfl, rfl⟩
 exact {
  u1 := (congrArg (fun x => ren (swp (.n 8) (.l 0)) (scrP (notL lendC) (ren (swp (.n 8) (.l 0)) x))) (r.u1)).trans rfl
  u2 := (congrArg (fun x => ren (swp (.n 8) (.l 0)) (scrP (notL lendC) (ren (swp (.n 8) (.l 0)) x))) (r.u2)).trans rfl
  u3 := (congrArg (fun x => ren (swp (.n 8) (.l 0)) (scrP (notL lendC) (ren (swp (.n 8) (.l 0)) x))) (r.u3)).trans rfl
  u6 := (congrArg (fun x => ren (swp (.n 8) (.l 0)) (scrP (notL lendC) (ren (swp (.n 8) (.l 0)) x))) (r.u6)).trans rfl
  u7 := (congrArg (fun x => ren (swp (.n 8) (.l 0)) (scrP (notL lendC) (ren (swp (.n 8) (.l 0)) x))) (r.u7)).trans rfl
  u8 := (congrArg (fun x => ren (swp (.n 8) (.l 0)) (scrP (notL lendC) (ren (swp (.n 8) (.l 0)) x))) (r.u8)).trans rfl
  u9 := (congrArg (fun x => ren (swp (.n 8) (.l 0)) (scrP (notL lendC) (ren (swp (.n 8) (.l 0)) x))) (r.u9)).trans rfl
  u10 := (congrArg (fun x => ren (swp (.n 8) (.l 0)) (scrP (notL lendC) (ren (swp (.n 8) (.l 0)) x))) (r.u10)).trans rfl
  u11 := (congrArg (fun x => ren (swp (.n 8) (.l 0)) (scrP (notL lendC) (ren (swp (.n 8) (.l 0)) x))) (r.u11)).trans rfl
  h3 := (congrArg (fun x => (((x.map (renO (swp (.n 8) (.l 0)))).map (scrPO (notL lendC))).map (renO (swp (.n 8) (.l 0))))) (r.h3)).trans rfl
  h6 := (congrArg (fun x => (((x.map (renO (swp (.n 8) (.l 0)))).map (scrPO (notL lendC))).map (renO (swp (.n 8) (.l 0))))) (r.h6)).trans rfl
  h13 := (congrArg (fun x => (((x.map (renO (swp (.n 8) (.l 0)))).map (scrPO (notL lendC))).map (renO (swp (.n 8) (.l 0))))) (r.h13)).trans rfl
  c0 := fun g0 => (congrArg (fun x => ren (swp (.n 8) (.l 0)) (scrP (notL lendC) (ren (swp (.n 8) (.l 0)) x))) (r.c0 (by simpa using g0))).trans rfl
  c1 := fun g0 g1 => (congrArg (fun x => ren (swp (.n 8) (.l 0)) (scrP (notL lendC) (ren (swp (.n 8) (.l 0)) x))) (r.c1 (by simpa using g0) (by simpa using g1))).trans rfl
  c2 := fun g0 => (congrArg (fun x => ren (swp (.n 8) (.l 0)) (scrP (notL lendC) (ren (swp (.n 8) (.l 0)) x))) (r.c2 (by simpa using g0))).trans rfl
  c3 := fun g0 => (congrArg (fun x => ren (swp (.n 8) (.l 0)) (scrP (notL lendC) (ren (swp (.n 8) (.l 0)) x))) (r.c3 (by simpa using g0))).trans rfl
  c4 := fun g0 => (congrArg (fun x => ren (swp (.n 8) (.l 0)) (scrP (notL lendC) (ren (swp (.n 8) (.l 0)) x))) (r.c4 (by simpa using g0))).trans rfl
  c5 := fun g0 => (congrArg (fun x => ren (swp (.n 8) (.l 0)) (scrP (notL lendC) (ren (swp (.n 8) (.l 0)) x))) (r.c5 (by simpa using g0))).trans rfl
  c6 := fun g0 => (congrArg (fun x => ren (swp (.n 8) (.l 0)) (scrP (notL lendC) (ren (swp (.n 8) (.l 0)) x))) (r.c6 (by simpa using g0))).trans rfl
  c7 := fun g0 => (congrArg (fun x => ren (swp (.n 8) (.l 0)) (scrP (notL lendC) (ren (swp (.n 8) (.l 0)) x))) (r.c7 (by simpa using g0))).trans rfl
  c8 := fun _ => agg_ren _ _
  c9 := fun g0 g1 => (congrArg (fun x => ren (swp (.n 8) (.l 0)) (scrP (notL lendC) (ren (swp (.n 8) (.l 0)) x))) (r.c9 (by simpa using g0) (by simpa using g1))).trans rfl
  c10 := fun g0 => (congrArg (fun x => ren (swp (.n 8) (.l 0)) (scrP (notL lendC) (ren (swp (.n 8) (.l 0)) x))) (r.c10 (by simpa using g0))).trans rfl
  c11 := fun g0 => (congrArg (fun x => ren (swp (.n 8) (.l 0)) (scrP (notL lendC) (ren (swp (.n 8) (.l 0)) x))) (r.c11 (by simpa using g0))).trans rfl
  e9 := fun g0 g1 => (congrArg (fun x => (((x.map (renO (swp (.n 8) (.l 0)))).map (scrPO (notL lendC))).map (renO (swp (.n 8) (.l 0))))) (r.e9 (by simpa using g0) (by simpa using g1))).trans rfl
  d12a := fun g0 => (congrArg (fun x => (((x.map (renO (swp (.n 8) (.l 0)))).map (scrPO (notL lendC))).map (renO (swp (.n 8) (.l 0))))) (r.d12a (by simpa using g0))).trans rfl
  d12b := fun g0 => (congrArg (fun x => (((x.map (renO (swp (.n 8) (.l 0)))).map (scrPO (notL lendC))).map (renO (swp (.n 8) (.l 0))))) (r.d12b (by simpa using g0))).trans rfl
  d8a := fun g0 => absurd g0 (by simp)
  d8b := fun _ _ => rfl
  d8c := fun g0 => absurd g0 (by simp [n10])
  d8d := fun g0 => absurd (r.o2 (by simpa using g0)) (by rw [n10]; decide)
  sa0 := fun g0 => absurd g0 (by simp)
  saF := fun g0 => absurd g0 (by simp)
  sa1 := fun g0 => absurd g0 (by simp)
  sa2 := fun g0 => absurd g0 (by simp)
  sb0 := fun _ => congrArg (fun x => some (Ob.rs 123 6 x)) (thRows_renl 8 0 900 s1.ths)
  sbF := fun _ j => thFam_ren _ _ _
  sb1 := fun _ => rfl
  sb2 := fun _ => rfl
  o1 := fun _ => by simp
  o2 := fun g0 => by have := r.o2 (by simpa using g0); simp [this]
  o3 := fun g0 => by have := r.o3 (by simpa using g0); simp [this]
  o4 := fun g0 => by have := r.o4 (by simpa using g0); simp [this] }
end Ai
end
section
set_option maxRecDepth 100000
namespace Ai
open Go Go.Proofs
theorem draw13 {p : ProgL} {s s1 : StL} {ev : Ev} {tr : List Ev} {tk : List Int} {kk : Int} {w : Nat} {budget : Int} {g : FuncId} {c : List D} (hk0 : 0 ≤ kk) (hen : ((enabledL p s).map encN)[kk.toNat]? = some (encN w)) (htr : tr.length ≤ 1048576)
  (hst : ∀ (v0 v1 : Value) (H0 : Key → Option Ob), AtC 78 [i64 0, .lit v0, .lit v1] s H0 → IOCall EE 115 [.ptr (.l 0) 3, agg (encProg p), i64 w] H0 (fun r H1 => r = agg (encEv ev) ∧ H1 = stHC 78 [i64 0, .lit v0, .lit v1] s1))
  (Q : AX → St → Prop) (S : St) (h : R13 p s s1 ev tr tk kk w budget g c (fun _ => false) S) (hQ : ∀ L S', (∀ i, i < 13 → L i = true) → R13 p s s1 ev tr tk kk w budget g c L S' → Q .normal S') : ADrawI EE Tryz.f104.ntmps ops13 Q S := by
 refine ⟨R13 p s s1 ev tr tk kk w budget g c, h, ?_, fun L S' hL hS => hQ L S' hL hS, by kernel_rfl, trivial⟩
 intro i o ho L S hL hd hI
 match i, ho, hL with
 | 0, ho, hL =>
  obtain rfl : ops13[0]'(by decide) = o := Option.some.inj (show some (ops13[0]'(by decide)) = some o from ho)
  exact op13_0 L S hI hL
 | 1, ho, hL =>
  obtain rfl : ops13[1]'(by decide) = o := Option.some.inj (show some (ops13[1]'(by decide)) = some o from ho)
  have k0 : L 0 = true := hd _ (Array.getElem_mem (i := 0) (by decide)) rfl
  exact op13_1 L S hI hL k0
 | 2, ho, hL =>
  obtain rfl : ops13[2]'(by decide) = o := Option.some.inj (show some (ops13[2]'(by decide)) = some o from ho)
  exact op13_2 L S hI hL
 | 3, ho, hL =>
  obtain rfl : ops13[3]'(by decide) = o := Option.some.inj (show some (ops13[3]'(by decide)) = some o from ho)
  exact op13_3 L S hI hL
 | 4, ho, hL =>
  obtain rfl : ops13[4]'(by decide) = o := Option.some.inj (show some (ops13[4]'(by decide)) = some o from ho)
  exact op13_4 L S hI hL
 | 5, ho, hL =>
  obtain rfl : ops13[5]'(by decide) = o := Option.some.inj (show some (ops13[5]'(by decide)) = some o from ho)
  exact op13_5 L S hI hL
 | 6, ho, hL =>
  obtain rfl : ops13[6]'(by decide) = o := Option.some.inj (show some (ops13[6]'(by decide)) = some o from ho)
  have k4 : L 4 = true := hd _ (Array.getElem_mem (i := 0) (by decide)) rfl
  have k5 : L 5 = true := hd _ (Array.getElem_mem (i := 1) (by decide)) rfl
  exact op13_6 hk0 hen L S hI hL k4 k5
 | 7, ho, hL =>
  obtain rfl : ops13[7]'(by decide) = o := Option.some.inj (show some (ops13[7]'(by decide)) = some o from ho)
  have k6 : L 6 = true := hd _ (Array.getElem_mem (i := 0) (by decide)) rfl
  exact op13_7 L S hI hL k6
 | 8, ho, hL =>
  obtain rfl : ops13[8]'(by decide) = o := Option.some.inj (show some (ops13[8]'(by decide)) = some o from ho)
  have k2 : L 2 = true := hd _ (Array.getElem_mem (i := 0) (by decide)) rfl
  have k3 : L 3 = true := hd _ (Array.getElem_mem (i := 1) (by decide)) rfl
  have k7 : L 7 = true := hd _ (Array.getElem_mem (i := 2) (by decide)) rfl
  exact op13_8 hst L S hI hL k2 k3 k7
 | 9, ho, hL =>
  obtain rfl : ops13[9]'(by decide) = o := Option.some.inj (show some (ops13[9]'(by decide)) = some o from ho)
  have k8 : L 8 = true := hd _ (Array.getElem_mem (i := 0) (by decide)) rfl
  exact op13_9 L S hI hL k8
 | 10, ho, hL =>
  obtain rfl : ops13[10]'(by decide) = o := Option.some.inj (show some (ops13[10]'(by decide)) = some o from ho)
  have k1 : L 1 = true := hd _ (Array.getElem_mem (i := 0) (by decide)) rfl
  have k8 : L 8 = true := hd _ (Array.getElem_mem (i := 2) (by decide)) rfl
  have k9 : L 9 = true := hd _ (Array.getElem_mem (i := 1) (by decide)) rfl
  exact op13_10 htr L S hI hL k1 k8 k9
 | 11, ho, hL =>
  obtain rfl : ops13[11]'(by decide) = o := Option.some.inj (show some (ops13[11]'(by decide)) = some o from ho)
  exact op13_11 L S hI hL
 | 12, ho, hL =>
  obtain rfl : ops13[12]'(by decide) = o := Option.some.inj (show some (ops13[12]'(by decide)) = some o from ho)
  have k10 : L 10 = true := hd _ (Array.getElem_mem (i := 1) (by decide)) rfl
  have k11 : L 11 = true := hd _ (Array.getElem_mem (i := 0) (by decide)) rfl
  exact op13_12 L S hI hL k10 k11
 |n + 13, ho, hL =>
  have h1 : n + 13 < ops13.size := (Array.getElem?_eq_some_iff.1 ho).1
  have h2 : ops13.size = 13 := by decide
  omega
theorem runI_ok (hI : ToIndexISpec) (p : ProgL) (hp : p.wf) (h1 : InR p.cells 0 1048576) (h2 : InR p.locks 0 1048576) (Inv : StL → Prop) (hI0 : Inv (newL p)) (hok : RunI p Inv) (budget : Int) (hb : InR budget 0 1048576) (g : FuncId) (c : List D)
  (pk : List Nat → Nat → Int) (hg : ∀ (en : List Nat) (n : Nat), en ≠ [] → CallsTo EE g [sl (en.map encN), i64 n, .fp c] (· = i64 (pk en n))) (hpk : ∀ en : List Nat, ∀ n, en ≠ [] → 0 ≤ pk en n ∧ pk en n < en.length) :
  CallsTo EE 104 [agg (encProg p), i64 budget, .fn g [.fp c]] (· = .ownF 8 (ownRun (runK p pk budget (budget.toNat + 1) (newL p) [] []) ++ [bv true])) := by
 refine callsTo_of_AW (fn := Tryz.f104) Tryz.func104 rfl (by kernel_rfl) rfl ?_
 conv => whnf
 refine ⟨_, start_ok p h1 h2, ?_⟩
 rintro r rfl
 conv => whnf
 refine aloopF (fun x : StL × List Ev × List Int => [(1, i64 budget), (2, .fn g [.fp c]), (3, .ptr (.n 3) 0), (6, .ptr (.n 6) 0), (7, bv false), (8, .ptr (.n 8) 0), (9, i64 x.2.1.length)]) (fun x => oRI p x.1 x.2.1 x.2.2) (fun x => [(900, thFam x.1.ths)]) (fun x => budget.toNat - x.2.1.length)
  (fun x => Inv x.1 ∧ x.2.1.length = x.2.2.length ∧ (x.2.1.length : Int) ≤ budget ∧ runK p pk budget (budget.toNat + 1 - x.2.1.length) x.1 x.2.1 x.2.2 = runK p pk budget (budget.toNat + 1) (newL p) [] []) (newL p, [], [])
  Weak.refl ?_ ?_ ?_ ⟨hI0, rfl, hb.1, rfl⟩ ?_
 ·exact ⟨rfl, rfl, rfl, rfl, rfl, rfl, rfl, trivial⟩
 ·refine ⟨rfl, rfl, ?_, rfl, rfl, ?_, ?_, ?_, trivial⟩
  ·show some (Ob.vs 78 [i64 0, .ref (.n 12) 0 0, .ref (.n 13) 0 0, .dref (.n 900) ((newL p).ths.map encThP).length, .ref (.n 901) 0 ((newL p).cells.map encF).length, .ref (.n 902) 0 ((newL p).owner.map encInt).length, i64 0]) = some (Ob.vs 78 [i64 0, .ref (.n 12) 0 0, .ref (.n 13) 0 0, .dref (.n 900) (newL p).ths.length, .ref (.n 901) 0 (newL p).cells.length, .ref (.n 902) 0 (newL p).owner.length, i64 0])
   rw [List.length_map, List.length_map, List.length_map]
  ·conv => lhs; whnf
   refine congrArg some ?_
   repeat (first | exact rfl | refine hscr' ?_ (congrArg (Ob.rs 123 6) (thRows_scr fun _ _ => rfl)))
  ·rfl
  ·rfl
 ·refine ⟨fun j => ?_, trivial⟩
  conv => lhs; whnf
  repeat (first | exact own_fam (newL p) j | (refine hscrO ?_ (thFam_scr _ _ _); conv => lhs; whnf))
 rintro ⟨s, tr, tk⟩ τ H ⟨hinv, hlen, hle, hrun⟩
 have hs := hok.small s hinv
 conv => whnf
 refine .inl ⟨[.fp (encSt s), agg (encProg p)], [], _, ⟨_, _, rfl, fz_run (x0 := i64 0) (x1 := .ref (.n 12) 0 tr.length) (x2 := .ref (.n 13) 0 tk.length) rfl ⟨rfl, fun j hj => thFam_self hj, rfl, rfl⟩, _, _, rfl, fz_prog p, rfl⟩, rfl, enabledI_ok hI p s hp hs.1 (hok.seen s hinv), ?_⟩
 rintro r rfl
 refine ⟨?_, .inl ?_⟩
 ·intro c hc
  obtain ⟨y, _, rfl⟩ := List.mem_map.1 hc
  rfl
 conv => whnf
 refine .inl ⟨[agg (encProg p), .fp (encSt s), sl ((enabledL p s).map encN), i64 tr.length, i64 budget], [], _, ⟨_, _, rfl, fz_prog p, _, _, rfl, fz_run (x0 := i64 0) (x1 := .ref (.n 12) 0 tr.length) (x2 := .ref (.n 13) 0 tk.length) rfl ⟨rfl, fun j hj => thFam_self hj, rfl, rfl⟩, _, _, rfl, rfl, _, _, rfl, rfl, _, _, rfl, rfl, rfl⟩, rfl, codeOf_ok p s tr.length budget hs.1, ?_⟩
 rintro r rfl
 refine ⟨rfl, ?_⟩
 conv => whnf
 have hfuel : budget.toNat + 1 - tr.length = (budget.toNat - tr.length) + 1 := by
  have : (tr.length : Int) ≤ budget := hle
  omega
 have hrun : runK p pk budget (budget.toNat + 1 - tr.length) s tr tk = _ := hrun
 rw [hfuel] at hrun
 refine kbi (fun hc => ?_) (fun hc => ?_)
 ·have hc : codeL p s tr.length budget ≠ 0 := by simpa using hc
  conv => whnf
  refine .inl ⟨[agg (encSt s)], [], _, ⟨_, _, rfl, ⟨encSt s, rfl, fz_st ⟨rfl, fun j hj => thFam_self hj, rfl, rfl⟩ rfl rfl rfl⟩, rfl⟩, rfl, copied_ok s hs.1, ?_⟩
  rintro r rfl
  refine ⟨ownSt_flat s, ?_⟩
  conv => whnf
  refine .inr ⟨8, ownRun (codeL p s tr.length budget, tr, tk, s) ++ [bv true], _, [.agg [i64 (codeL p s tr.length budget), .ref (.n 901) 0 tr.length, .ref (.n 902) 0 tk.length, .dref (.n 903) s.ths.length, .ref (.n 904) 0 s.cells.length, .ref (.n 905) 0 s.owner.length, i64 s.fault], bv true], (weak_re shA).trans (weak_re shB), ?_, (by simp), ?_, ?_, own_at ⟨trivial, ?_, ?_, ⟨?_, fun j q hq => ?_⟩, ?_, ?_, trivial, trivial, trivial⟩, ?_⟩
  ·show some [.agg [i64 (codeL p s tr.length budget), .ref (.n 901) 0 tr.length, .ref (.n 902) 0 tk.length, .dref (.n 903) (s.ths.map encThP).length, .ref (.n 904) 0 (s.cells.map encF).length, .ref (.n 905) 0 (s.owner.map encInt).length, i64 s.fault], bv true] = _
   rw [List.length_map, List.length_map, List.length_map]
  ·simp [ownRun, ownSt, ownR, ownR1, wrapF]
  ·intro v hv
   simp only [ownRun, ownSt, List.mem_append, List.mem_cons, List.not_mem_nil, or_false] at hv
   rcases hv with ((rfl | rfl | rfl) | (rfl | rfl | rfl | rfl)) | rfl
   all_goals first | trivial | (show (s.ths.map encThP).length = (s.ths.map stk).length; simp)
  ·rfl
  ·rfl
  ·conv => lhs; whnf
   show some (Ob.rs 123 6 (((thRows 900 s.ths).map (renL (mkSh numA numA_numA).f)).map (renL (mkSh numB numB_numB).f))) = some (Ob.rs 123 6 (thRows 903 s.ths))
   rw [thRows_sh, thRows_sh]
   rfl
  ·have hq : (s.ths.map stk)[j]? = some q := hq
   rw [List.getElem?_map] at hq
   obtain ⟨t, ht, rfl⟩ := Option.map_eq_some_iff.1 hq
   have e : ∀ X : Option Ob, X = thFam s.ths j → (X.map (renO shA.f)).map (renO shB.f) = some (.ds 105 1 (stk t)) := by
    rintro _ rfl
    rw [thFam_ren, thFam_ren, thFam, ht]; rfl
   refine e _ ?_
   show (match ownH (ownSt s) (.s 900 j) with | some ob => some ob | none => _) = thFam s.ths j
   show (match ((s.ths.map stk)[j]?).map (Ob.ds 105 1) with | some ob => some ob | none => _) = _
   rw [List.getElem?_map, thFam, ht]
   rfl
  ·rfl
  ·rfl
  ·rw [← hrun]
   simp only [runK, if_pos hc]
 have hc : ¬ codeL p s tr.length budget ≠ 0 := by simpa using hc
 have hc : codeL p s tr.length budget = 0 := by simpa using hc
 conv => whnf
 have hen : enabledL p s ≠ [] := by
  intro he
  have := hc
  unfold codeL at this
  by_cases hf : s.fault ≠ 0
  ·rw [if_pos hf] at this; exact absurd this (by decide)
  ·rw [if_neg hf, if_pos he] at this; split at this <;> exact absurd this (by decide)
 refine ⟨_, hg (enabledL p s) tr.length hen, ?_⟩
 rintro r rfl
 have hlb : (tr.length : Int) ≠ budget := by
  intro he
  have := hc
  unfold codeL at this
  by_cases hf : s.fault ≠ 0
  ·rw [if_pos hf] at this; exact absurd this (by decide)
  ·rw [if_neg hf, if_neg hen, if_pos he] at this; exact absurd this (by decide)
 obtain ⟨hk1, hk2⟩ := hpk (enabledL p s) tr.length hen
 have hrun2 : runK p pk budget (budget.toNat - tr.length) (stepL p s ((enabledL p s).getD (pk (enabledL p s) tr.length).toNat 0)).1 (tr ++ [(stepL p s ((enabledL p s).getD (pk (enabledL p s) tr.length).toNat 0)).2]) (tk ++ [pk (enabledL p s) tr.length]) = runK p pk budget (budget.toNat + 1) (newL p) [] [] := by
  rw [← hrun]; simp only [runK, hc]; rfl
 generalize hkv : pk (enabledL p s) tr.length = kk at *
 have hkl : kk.toNat < (enabledL p s).length := by omega
 have hmem : (enabledL p s).getD kk.toNat 0 ∈ enabledL p s := by rw [List.getD_eq_getElem?_getD, List.getElem?_eq_getElem hkl]; exact List.getElem_mem hkl
 have hwl : (enabledL p s).getD kk.toNat 0 < s.ths.length := by have := (List.mem_filter.1 hmem).1; simpa using this
 conv => whnf
 refine kbi (fun hk => ?_) (fun hk => ?_)
 ·have hk : kk < 0 := by simpa using hk
  omega
 conv => whnf
 have hlen' : tr.length = tk.length := hlen
 have hle' : (tr.length : Int) ≤ budget := hle
 have hb2 := hb.2
 refine ⟨⟨rfl, by show (tk.length + 1) * 8 ≤ _; omega, by show tk.length + 1 ≤ _; omega⟩, ?_⟩
 conv => whnf
 generalize hwd : (enabledL p s).getD kk.toNat 0 = w at *
 have hen13 : ((enabledL p s).map encN)[kk.toNat]? = some (encN w) := by rw [← hwd]; exact en_get hkl
 have htr : tr.length ≤ 1048576 := by omega
 refine .inr (.inr (.inl (draw13 (p := p) (s := s) (s1 := (stepL p s w).1) (ev := (stepL p s w).2) (tr := tr) (tk := tk) (kk := kk) (w := w) (budget := budget) (g := g) (c := c) hk1 hen13 htr
  (fun v0 v1 H0 hH => stepI_ok hI 78 (i64 0) (.lit v0) (.lit v1) (inert_d _) (inert_lit _) (inert_lit _) p s w hp hwl hs.2 hs.1 (hok.ready s hinv w hmem hwl) (hok.awake s hinv w hmem hwl) (hok.flt s hinv _ (List.getElem_mem hwl)) (hok.joins s hinv w hmem hwl) H0 hH) _ _ ?_ ?_)))
 ·exact {
   u1 := rfl
   u2 := rfl
   u3 := rfl
   u6 := rfl
   u7 := rfl
   u8 := rfl
   u9 := rfl
   u10 := rfl
   u11 := rfl
   h3 := rfl
   h6 := rfl
   h13 := by
    show some (Ob.ds 3 1 ((tk.map encInt).take tk.length ++ [encInt kk])) = _
    rw [List.take_of_length_le (by simp)]
    simp
   c0 := fun h => by cases h
   c1 := fun h => by cases h
   c2 := fun h => by cases h
   c3 := fun h => by cases h
   c4 := fun h => by cases h
   c5 := fun h => by cases h
   c6 := fun h => by cases h
   c7 := fun h => by cases h
   c8 := fun h => by cases h
   c9 := fun h => by cases h
   c10 := fun h => by cases h
   c11 := fun h => by cases h
   e9 := fun h => by cases h
   d12a := fun _ => rfl
   d12b := fun h => by cases h
   d8a := fun _ => by
    show some (Ob.vs 78 ([i64 (codeL p s tr.length budget), .ref (.n 12) 0 tr.length, .ref (.n 13) 0 (tk.length + 1)] ++ stRef s)) = _
    rw [hc]
   d8b := fun h => by cases h
   d8c := fun h => by cases h
   d8d := fun h => by cases h
   sa0 := fun _ => by
    conv => lhs; whnf
    refine congrArg some ?_
    repeat (first | exact rfl | refine hscr' ?_ (congrArg (Ob.rs 123 6) (thRows_scr fun _ _ => rfl)))
   saF := fun _ j => by
    repeat (first | exact rfl | refine hscrO ?_ (thFam_scr _ _ _) | conv => lhs; whnf)
   sa1 := fun _ => rfl
   sa2 := fun _ => rfl
   sb0 := fun h => by cases h
   sbF := fun h => by cases h
   sb1 := fun h => by cases h
   sb2 := fun h => by cases h
   o1 := fun h => by cases h
   o2 := fun h => by cases h
   o3 := fun h => by cases h
   o4 := fun h => by cases h }
 intro L S' hL r
 have hat : At [(1, i64 budget), (2, .fn g [.fp c]), (3, .ptr (.n 3) 0), (6, .ptr (.n 6) 0), (7, bv false), (8, .ptr (.n 8) 0), (9, i64 tr.length)]
  [(.n 3, .vs 31 ((encProg p).map .d)), (.n 6, .vs 78 [i64 0, .d .nil, .d .nil, .d .nil, .d .nil, .d .nil, i64 0]), (.n 8, .vs 78 ([i64 0, .ref (.n 12) 0 (tr.length + 1), .ref (.n 13) 0 (tk.length + 1)] ++ stRef (stepL p s w).1)), (.n 12, .ds 120 5 ((tr ++ [(stepL p s w).2]).map encEv)), (.n 13, .ds 3 1 ((tk ++ [kk]).map encInt)),
   (.n 900, .rs 123 6 (thRows 900 (stepL p s w).1.ths)), (.n 901, .ds 105 1 ((stepL p s w).1.cells.map encF)), (.n 902, .ds 3 1 ((stepL p s w).1.owner.map encInt))] [(900, thFam (stepL p s w).1.ths)] S' :=
  ⟨⟨r.u1, r.u2, r.u3, r.u6, r.u7, r.u8, r.u9, trivial⟩, ⟨r.h3, r.h6, r.d8d (hL 12 (by decide)), r.d12b (hL 10 (by decide)), r.h13, r.sb0 (hL 8 (by decide)), r.sb1 (hL 8 (by decide)), r.sb2 (hL 8 (by decide)), trivial⟩, ⟨r.sbF (hL 8 (by decide)), trivial⟩⟩
 obtain ⟨τ', H', rfl⟩ := hat.form
 clear r hat
 have hrun2 := hrun2
 generalize hst : stepL p s w = st at *
 have ew : IntKind.i64.wrap ((tr.length : Int) + 1) = (((tr ++ [st.2]).length : Nat) : Int) := by rw [wrap_id (by omega) (by omega)]; simp
 conv => whnf
 refine ⟨(st.1, tr ++ [st.2], tk ++ [kk]), _, Weak.refl, ⟨hst ▸ hok.step s hinv w hmem, by simp; exact hlen', by simp; omega, ?_⟩, ?_, ⟨rfl, rfl, rfl, rfl, rfl, rfl, ?_, trivial⟩, ⟨rfl, rfl, ?_, rfl, rfl, rfl, rfl, rfl, trivial⟩, ⟨fun j => rfl, trivial⟩⟩
 ·show runK p pk budget (budget.toNat + 1 - (tr ++ [st.2]).length) st.1 (tr ++ [st.2]) (tk ++ [kk]) = _
  rw [show budget.toNat + 1 - (tr ++ [st.2]).length = budget.toNat - tr.length by simp]
  exact hrun2
 ·show budget.toNat - (tr ++ [st.2]).length < budget.toNat - tr.length
  simp; omega
 ·show AV.d (.int .i64 (IntKind.i64.wrap ((tr.length : Int) + 1))) = i64 ((tr ++ [st.2]).length : Nat)
  rw [ew]
 ·show some (Ob.vs 78 ([i64 0, .ref (.n 12) 0 (tr.length + 1), .ref (.n 13) 0 (tk.length + 1)] ++ stRef st.1)) = some (Ob.vs 78 ([i64 0, .ref (.n 12) 0 (tr ++ [st.2]).length, .ref (.n 13) 0 (tk ++ [kk]).length] ++ stRef st.1))
  rw [List.length_append, List.length_append]
  rfl
end Ai
end
section
set_option maxRecDepth 100000
namespace Ai
open Go Go.Proofs
def pkP (picks : List Int) (en : List Nat) (n : Nat) : Int := if n < picks.length then (picks.getD n 0).tmod en.length else 0
theorem pickP_ok (picks : List Int) (hl : picks.length ≤ 1048576) (en : List Nat) (n : Nat) (he : en ≠ []) : CallsTo EE 126 [sl (en.map encN), i64 n, .fp [.sl (picks.map encInt)]] (· = i64 (pkP picks en n)) := by
 refine callsTo_of_AW (fn := Tryz.f126) Tryz.func126 rfl (by kernel_rfl) rfl ?_
 have hep : 0 < en.length := List.length_pos_iff.2 he
 conv => whnf
 refine kbi (fun h => ?_) (fun h => ?_)
 ·have h : picks.length ≤ n := by simpa using h
  conv => whnf
  unfold pkP
  rw [if_neg (by omega)]
 ·have h : n < picks.length := by simpa using h
  conv => whnf
  refine ⟨encInt picks[n], ⟨by omega, by simp [h], rfl⟩, ?_⟩
  conv => whnf
  refine ⟨by simp; omega, ?_⟩
  conv => whnf
  unfold pkP
  rw [if_pos h]
  simp [List.getD_eq_getElem?_getD, h]
  try rfl
theorem pkP_in {picks : List Int} (h0 : ∀ i ∈ picks, 0 ≤ i) (en : List Nat) (n : Nat) (he : en ≠ []) : 0 ≤ pkP picks en n ∧ pkP picks en n < en.length := by
 have hep : 0 < en.length := List.length_pos_iff.2 he
 unfold pkP
 split
 ·rename_i h
  have hp : 0 ≤ picks.getD n 0 := by
   rw [List.getD_eq_getElem?_getD, List.getElem?_eq_getElem h]
   exact h0 _ (List.getElem_mem h)
  exact ⟨Int.tmod_nonneg _ hp, Int.tmod_lt_of_pos _ (by omega)⟩
 ·omega
theorem ownRun_flat (x : Int × List Ev × List Int × StL) (b : Bool) : Flat (.ownF 8 (ownRun x ++ [bv b])) := by
 intro c hc
 rcases List.mem_append.1 hc with h | h
 ·rcases List.mem_append.1 h with h | h
  ·simp only [List.mem_cons, List.not_mem_nil, or_false] at h
   rcases h with rfl | rfl | rfl
   ·rfl
   ·intro c hc
    obtain ⟨y, _, rfl⟩ := List.mem_map.1 hc; rfl
   ·intro c hc
    obtain ⟨y, _, rfl⟩ := List.mem_map.1 hc; rfl
  ·exact ownSt_flat x.2.2.2 c h
 ·simp only [List.mem_cons, List.not_mem_nil, or_false] at h
  subst h; rfl
theorem fz_runS {S : St} {c : Int} {tr : List Ev} {tk : List Int} {s : StL} (h1 : S.H (.n 901) = some (.ds 120 5 (tr.map encEv))) (h2 : S.H (.n 902) = some (.ds 3 1 (tk.map encInt))) (h3 : S.H (.n 903) = some (.rs 123 6 (thRows 903 s.ths)))
  (hf : ∀ j, (h : j < s.ths.length) → S.H (.s 903 j) = some (.ds 105 1 (stk s.ths[j]))) (h4 : S.H (.n 904) = some (.ds 105 1 (s.cells.map encF))) (h5 : S.H (.n 905) = some (.ds 3 1 (s.owner.map encInt))) {a b d f g : Nat} (ha : a = tr.length) (hb : b = tk.length) (hd : d = s.ths.length) (hff : f = s.cells.length) (hg : g = s.owner.length) :
  FzC S [i64 c, .ref (.n 901) 0 a, .ref (.n 902) 0 b, .dref (.n 903) d, .ref (.n 904) 0 f, .ref (.n 905) 0 g, i64 s.fault] (encRun c tr tk s) := by
 subst ha hb
 refine ⟨di c, _, rfl, rfl, .sl (tr.map encEv), _, rfl, ?_, .sl (tk.map encInt), _, rfl, ?_, fz_st (o := 903) (s := s) ⟨h3, hf, h4, h5⟩ hd hff hg⟩
 ·simp [FzD, fz1, h1, List.take_of_length_le]
 ·simp [FzD, fz1, h2, List.take_of_length_le]
theorem runK_L (p : ProgL) (picks : List Int) (budget : Int) : ∀ (n : Nat) (s : StL) (tr : List Ev) (tk : List Int), tr.length = tk.length →
  encRun (runK p (pkP picks) budget n s tr tk).1 (runK p (pkP picks) budget n s tr tk).2.1 (runK p (pkP picks) budget n s tr tk).2.2.1 (runK p (pkP picks) budget n s tr tk).2.2.2 = runL p picks budget n s tr tk
 | 0, s, tr, tk, h => rfl
 |n + 1, s, tr, tk, h => by
  have hpk : pkP picks (enabledL p s) tr.length = pickOf picks tk (enabledL p s).length := by
   unfold pkP pickOf
   rw [h]
  by_cases hc : codeL p s tr.length budget = 0
  ·simp only [runK, runL, hc]
   rw [if_neg (by simp), if_neg (by decide)]
   rw [hpk]
   exact runK_L p picks budget n _ _ _ (by simp [h])
  ·have := codeL_nn p s tr.length budget
   simp only [runK, runL]
   rw [if_pos hc, if_pos (by omega)]
theorem runPicksI_ok (hI : ToIndexISpec) (p : ProgL) (hp : p.wf) (h1 : InR p.cells 0 1048576) (h2 : InR p.locks 0 1048576) (Inv : StL → Prop) (hI0 : Inv (newL p)) (hok : RunI p Inv) (picks : List Int) (budget : Int) (hpk : ∀ i ∈ picks, 0 ≤ i) (hl : picks.length ≤ 1048576) (hb : InR budget 0 1048576) :
  CallsTo EE 81 [agg (encProg p), sl (picks.map encInt), i64 budget] (· = agg (runL p picks budget (budget.toNat + 1) (newL p) [] [])) := by
 refine callsTo_of_AW (fn := Tryz.f81) Tryz.func81 rfl (by kernel_rfl) rfl ?_
 conv => whnf
 refine .inl ⟨_, runI_ok hI p hp h1 h2 Inv hI0 hok budget hb 126 [.sl (picks.map encInt)] (pkP picks) (fun en n he => pickP_ok picks hl en n he) (fun en n he => pkP_in hpk en n he), ?_⟩
 rintro r rfl
 refine ⟨ownRun_flat _ _, ?_⟩
 rw [← runK_L p picks budget _ _ _ _ rfl]
 generalize runK p (pkP picks) budget (budget.toNat + 1) (newL p) [] [] = x
 obtain ⟨c, tr, tk, s⟩ := x
 conv => whnf
 refine .inr ?_
 conv => whnf
 refine .inl ⟨agg (encRun c tr tk s), ⟨encRun c tr tk s, rfl, fz_runS (c := c) (tr := tr) (tk := tk) (s := s) rfl rfl ?_ (fun j hj => ?_) rfl rfl ?_ ?_ ?_ ?_ ?_⟩, rfl⟩
 ·conv => lhs; whnf
  refine congrArg some ?_
  repeat (first | exact rfl | refine hscr' ?_ (congrArg (Ob.rs 123 6) (thRows_scr fun _ _ => rfl)))
 ·have e : ownH (ownRun (c, tr, tk, s) ++ [bv true]) (.s 903 j) = some (.ds 105 1 (stk s.ths[j])) := by
   show ((s.ths.map stk)[j]?).map (Ob.ds 105 1) = _
   simp [hj]
  show Option.map (scrO (.n 7)) (match ownH (ownRun (c, tr, tk, s) ++ [bv true]) (.s 903 j) with | some ob => some ob | none => _) = _
  rw [e]
  rfl
 ·simp
 ·simp
 ·simp
 ·simp
 ·simp
end Ai
end
section
set_option maxRecDepth 100000
namespace Ai
open Go Go.Proofs Ieee
theorem order_symm {x y : Nat} : double.order x y = some .eq ↔ double.order y x = some .eq := by
 have key : ∀ {x y : Nat}, double.order x y = some .eq → double.order y x = some .eq := by
  intro x y h
  unfold Format.order at *
  cases hx : double.read x with
  |nan s f => rw [hx] at h; cases h
  |infinity s =>
   cases hy : double.read y with
   |nan t f => rw [hx, hy] at h; cases h
   |infinity t => rw [hx, hy] at h; cases s <;> cases t <;> first | rfl | cases h
   |number t n i => rw [hx, hy] at h; cases s <;> cases h
  |number s m e =>
   cases hy : double.read y with
   |nan t f => rw [hx, hy] at h; cases h
   |infinity t => rw [hx, hy] at h; cases t <;> cases h
   |number t n i =>
    rw [hx, hy] at h
    simp only [Datum.order, Option.some.injEq] at h ⊢
    have h := Std.LawfulEqCmp.eq_of_compare h
    rw [Int.min_comm i e, h]
    exact Std.ReflCmp.compare_self
 exact ⟨key, key⟩
theorem eql_symm {x y : Nat} : fcmp .eql x y = fcmp .eql y x := by
 have : ∀ a b : Nat, fcmp .eql a b = true ↔ double.order a b = some .eq := fun a b => by simp [fcmp]
 rw [Bool.eq_iff_iff, this, this]
 exact order_symm
theorem near_cut : (List.range 1001).all (fun q => canon (double.nearest false q 0) == FloatKind.f64.nearest (q : Int)) = true := by decide +kernel
theorem near_cut' {q : Nat} (h : q ≤ 1000) : canon (double.nearest false q 0) = FloatKind.f64.nearest (q : Int) := by
 have := near_cut
 simp only [List.all_eq_true, List.mem_range, beq_iff_eq] at this
 exact this q (by omega)
theorem inI56_ok (n lo hi : Int) : CallsTo EE 56 [i64 n, i64 lo, i64 hi] (· = bp (InR n lo hi)) := by
 refine callsTo_of_AW (fn := Tryz.f56) Tryz.func56 rfl (by kernel_rfl) rfl ?_
 conv => whnf
 repeat' (refine kbi (fun h => ?_) (fun h => ?_) <;> first | contradiction | conv => whnf)
 all_goals simp only [decide_eq_true_eq] at *
 all_goals first | exact bpt (by unfold InR; omega) | exact bpf (by unfold InR; omega)
theorem kind_idx {x : Nat} {many n : Int} (h1 : 1 ≤ many ∧ many ≤ 1000) (hx0 : fcmp .lss x 0 = false) (hxm : fcmp .lss x (FloatKind.f64.nearest many) = true) (hn : floatToIntVal .f64 x .i64 = some n) (hr : 0 ≤ n ∧ n < many) :
  (kindF x = 2 ∨ kindF x = 3) ↔ fcmp .eql (FloatKind.f64.nearest n) x = true := by
 have hdec : FloatKind.f64.decode x = double.read x := rfl
 unfold floatToIntVal at hn
 rw [hdec] at hn
 have z0 : FloatKind.f64.nearest 0 = 0 := by decide
 unfold kindF
 cases hd : double.read x with
 |nan s f =>
  rw [hd] at hn; cases hn
 |infinity s => rw [hd] at hn; cases hn
 |number s m i =>
  have hnan : ¬ isNan x = true := by unfold isNan; rw [hd]; simp [Datum.isNaN]
  rw [if_neg hnan]
  rw [hd] at hn
  simp only [Datum.toInt, Datum.integral] at hn
  simp only
  have hcut0 : m = 0 → Toward.cut .zero s (m <<< i.toNat) (-i).toNat = 0 := by
   rintro rfl
   rw [cut_zero]; simp
  by_cases e0 : fcmp .eql x 0 = true
  ·rw [if_pos e0]
   have hm : m = 0 := by
    have o : double.order x 0 = some .eq := by simpa [fcmp] using e0
    unfold Format.order at o
    rw [hd, read_zero] at o
    simp only [Datum.order, Option.some.injEq] at o
    have o := Std.LawfulEqCmp.eq_of_compare o
    simp only [signed, Nat.shiftLeft_eq] at o
    have : 0 < 2 ^ (i - min i double.leastPlace).toNat := Nat.pow_pos (by decide)
    have o2 : m * 2 ^ (i - min i double.leastPlace).toNat = 0 := by
     simp only [Nat.zero_mul] at o
     generalize m * 2 ^ (i - min i double.leastPlace).toNat = u at o ⊢
     cases s <;> simp at o <;> omega
    rcases Nat.mul_eq_zero.1 o2 with e | e
    ·exact e
    ·omega
   have hn0 : n = 0 := by
    rw [hcut0 hm] at hn
    split at hn
    ·simp only [Option.some.injEq] at hn
     rw [← hn]
     cases s <;> rfl
    ·cases hn
   subst hn0
   rw [z0, eql_symm, e0]
   simp
  ·rw [if_neg e0]
   have hs : s = false := by
    cases s with
    |false => rfl
    |true =>
     exfalso
     have o : double.order x 0 ≠ some .lt := by simpa [fcmp] using hx0
     have o2 : double.order x 0 ≠ some .eq := by simpa [fcmp] using e0
     unfold Format.order at o o2
     rw [hd, read_zero] at o o2
     simp only [Datum.order, Option.some.injEq, ne_eq] at o o2
     rw [cmp_lt] at o
     simp only [signed, if_true, Nat.shiftLeft_eq, Nat.zero_mul] at o o2
     by_cases hm : m = 0
     ·subst hm; simp at o2; try exact o2 rfl
     ·have : 0 < m * 2 ^ (i - min i double.leastPlace).toNat := Nat.mul_pos (by omega) (Nat.pow_pos (by decide))
      generalize m * 2 ^ (i - min i double.leastPlace).toNat = u at o o2 this
      simp at o
      omega
   subst hs
   generalize hq : Toward.cut .zero false (m <<< i.toNat) (-i).toNat = q at *
   have hnq : n = (q : Int) := by
    split at hn
    ·simp only [Option.some.injEq] at hn
     rw [← hn]
     show ((q <<< 0 : Nat) : Int) = q
     rw [Nat.shiftLeft_zero]
    ·cases hn
   have ht : truncF x = FloatKind.f64.nearest n := by
    unfold truncF
    rw [hd]
    simp only [Datum.integral, hq, Format.write]
    rw [hnq, near_cut' (by omega)]
   rw [ht, eql_symm]
   by_cases h : fcmp .eql (FloatKind.f64.nearest n) x = true
   ·rw [if_pos h]; simp [h]
   ·rw [if_neg h]; simp [h]
theorem kind_nan {x : Nat} (h : kindF x = 2 ∨ kindF x = 3) : isNan x = false := by
 cases hn : isNan x with
 |false => rfl
 |true =>
  exfalso
  have : kindF x = 0 := by unfold kindF; rw [if_pos hn]
  omega
theorem geq_lss {x y : Nat} (h : fcmp .geq x y = true) (e : fcmp .lss x y = true) : False := by
 have h : (double.order x y == some .gt || double.order x y == some .eq) = true := h
 have e : (double.order x y == some .lt) = true := e
 simp only [Bool.or_eq_true, beq_iff_eq] at h e
 rw [e] at h
 rcases h with h | h <;> cases h
theorem lss_of_ngeq {x : Nat} {many : Int} (h1 : InR many 1 1000) (hn : isNan x = false) (h : fcmp .geq x (FloatKind.f64.nearest many) = false) : fcmp .lss x (FloatKind.f64.nearest many) = true := by
 obtain ⟨b, rfl⟩ : ∃ b : Nat, many = (b : Int) := ⟨many.toNat, by have := h1.1; omega⟩
 obtain ⟨k, hk⟩ := near_read (m := b) (by have := h1.1; omega) (by have := h1.2; omega)
 have h : (double.order x (FloatKind.f64.nearest (b : Int)) == some .gt || double.order x (FloatKind.f64.nearest (b : Int)) == some .eq) = false := h
 show (double.order x (FloatKind.f64.nearest (b : Int)) == some .lt) = true
 obtain ⟨c, hc⟩ : ∃ c, double.order x (FloatKind.f64.nearest (b : Int)) = some c := by
  unfold Format.order
  rw [hk]
  unfold isNan at hn
  cases hd : double.read x with
  |nan s f => rw [hd] at hn; cases hn
  |infinity s => exact ⟨_, rfl⟩
  |number s m e => exact ⟨_, rfl⟩
 rw [hc] at h ⊢
 cases c with
 |lt => rfl
 |eq => cases h
 |gt => cases h
theorem idx_none {x : Nat} {many : Int} (hk : ¬ (kindF x = 2 ∨ kindF x = 3)) : idxOf x many = none := by
 unfold idxOf
 split
 ·rename_i hc
  obtain ⟨n, g1, g2, g3⟩ := floatIn x many hc.1.1 hc.1.2 hc.2.1 hc.2.2
  rw [g1]
  simp only
  rw [if_neg]
  intro e
  exact hk ((kind_idx hc.1 hc.2.1 hc.2.2 g1 ⟨g2, g3⟩).2 e)
 ·rfl
theorem toIndexI : ToIndexISpec := by
 intro x many
 refine callsTo_of_AW (fn := Tryz.f183) Tryz.func183 rfl (by kernel_rfl) rfl ?_
 conv => whnf
 refine ⟨_, KindOf_ok x, ?_⟩
 rintro r rfl
 conv => whnf
 refine ocase (inI56_ok _ _ _) (fun h1 => ?_) (fun h1 => ?_)
 ·conv => whnf
  refine kbi (fun k2 => ?_) (fun k2 => ?_)
  ·have k2 : ¬ kindF x = 2 := by simpa using k2
   conv => whnf
   refine kbi (fun k3 => ?_) (fun k3 => ?_)
   ·have k3 : ¬ kindF x = 3 := by simpa using k3
    conv => whnf
    rw [idx_none (by omega)]
    rfl
   have hk : kindF x = 2 ∨ kindF x = 3 := .inr (by simpa using k3)
   conv => whnf
   refine kbi (fun hx0 => ?_) (fun hx0 => ?_)
   ·have hx0 : fcmp .lss x 0 = true := hx0
    conv => whnf
    rw [show idxOf x many = none by unfold idxOf; rw [if_neg]; rintro ⟨_, e, _⟩; rw [hx0] at e; cases e]
    rfl
   have hx0 : fcmp .lss x 0 = false := by
    have hx0 : ¬ fcmp .lss x 0 = true := hx0
    simpa using hx0
   conv => whnf
   refine kbi (fun hg => ?_) (fun hg => ?_)
   ·have hg : fcmp .geq x (FloatKind.f64.nearest many) = true := hg
    conv => whnf
    rw [show idxOf x many = none by unfold idxOf; rw [if_neg]; rintro ⟨_, _, e⟩; exact geq_lss hg e]
    rfl
   have hg : fcmp .geq x (FloatKind.f64.nearest many) = false := by
    have hg : ¬ fcmp .geq x (FloatKind.f64.nearest many) = true := hg
    simpa using hg
   have hxm := lss_of_ngeq h1 (kind_nan hk) hg
   obtain ⟨n, g1, g2, g3⟩ := floatIn x many h1.1 h1.2 hx0 hxm
   have he := (kind_idx h1 hx0 hxm g1 ⟨g2, g3⟩).1 hk
   conv => whnf
   refine ⟨n, g1, ?_⟩
   conv => whnf
   rw [show idxOf x many = some n by unfold idxOf; rw [if_pos ⟨h1, hx0, hxm⟩, g1]; simp only; rw [if_pos he]]
   rfl
  ·have hk : kindF x = 2 ∨ kindF x = 3 := .inl (by simpa using k2)
   conv => whnf
   refine kbi (fun hx0 => ?_) (fun hx0 => ?_)
   ·have hx0 : fcmp .lss x 0 = true := hx0
    conv => whnf
    rw [show idxOf x many = none by unfold idxOf; rw [if_neg]; rintro ⟨_, e, _⟩; rw [hx0] at e; cases e]
    rfl
   have hx0 : fcmp .lss x 0 = false := by
    have hx0 : ¬ fcmp .lss x 0 = true := hx0
    simpa using hx0
   conv => whnf
   refine kbi (fun hg => ?_) (fun hg => ?_)
   ·have hg : fcmp .geq x (FloatKind.f64.nearest many) = true := hg
    conv => whnf
    rw [show idxOf x many = none by unfold idxOf; rw [if_neg]; rintro ⟨_, _, e⟩; exact geq_lss hg e]
    rfl
   have hg : fcmp .geq x (FloatKind.f64.nearest many) = false := by
    have hg : ¬ fcmp .geq x (FloatKind.f64.nearest many) = true := hg
    simpa using hg
   have hxm := lss_of_ngeq h1 (kind_nan hk) hg
   obtain ⟨n, g1, g2, g3⟩ := floatIn x many h1.1 h1.2 hx0 hxm
   have he := (kind_idx h1 hx0 hxm g1 ⟨g2, g3⟩).1 hk
   conv => whnf
   refine ⟨n, g1, ?_⟩
   conv => whnf
   rw [show idxOf x many = some n by unfold idxOf; rw [if_pos ⟨h1, hx0, hxm⟩, g1]; simp only; rw [if_pos he]]
   rfl
 ·conv => whnf
  rw [show idxOf x many = none by unfold idxOf; rw [if_neg]; rintro ⟨e, _⟩; exact h1 e]
  rfl
end Ai
end
section
set_option maxRecDepth 100000
namespace Ai
open Go Go.Proofs Ieee
def F64 (x : Nat) : Prop := x < 18446744073709551616
theorem nearest_f64 (s : Bool) (m : Nat) (i : Int) : F64 (double.nearest s m i) := by
 unfold F64 Format.nearest
 have e1 : double.signWeight = 9223372036854775808 := by decide
 have e2 : double.infRung = 9218868437227405312 := by decide
 split
 ·unfold Format.word; rw [e1]; split <;> omega
 ·unfold Format.word
  rw [e1, e2]
  simp only
  generalize (max (i + ↑m.log2 - ↑double.fractionBits) double.leastPlace - double.leastPlace).toNat * double.binade + Toward.even.cut s (m <<< (i - max (i + ↑m.log2 - ↑double.fractionBits) double.leastPlace).toNat) (max (i + ↑m.log2 - ↑double.fractionBits) double.leastPlace - i).toNat = r
  split <;> omega
theorem write_f64 (d : Datum) : F64 (double.write d) := by
 cases d with
 |number s m i => exact nearest_f64 s m i
 |infinity s => unfold F64 Format.write Format.word; cases s <;> decide
 |nan s f =>
  show (if s = true then double.signWeight + (double.infRung + f % double.binade) else double.infRung + f % double.binade) < 18446744073709551616
  rw [show double.signWeight = 9223372036854775808 by decide, show double.infRung = 9218868437227405312 by decide, show double.binade = 4503599627370496 by decide]
  split <;> omega
theorem nearN_f64 (n : Int) : F64 (FloatKind.f64.nearest n) := write_f64 (.number (n < 0) n.natAbs 0)
theorem fop_f64 (op : BinOp) (x y : Nat) : F64 (fop op x y) := by
 have hn : F64 nanC := by unfold F64; decide
 have key : ∀ o : Option Datum, F64 ((o.map double.write).getD nanC) := by
  intro o
  cases o with
  |none => exact hn
  |some d => exact write_f64 d
 unfold fop floatBits
 cases op <;> first | exact hn | exact key _
theorem reckon_f64 (c : Int) (x y : Nat) : F64 (reckonOf c x y) := by
 unfold reckonOf
 repeat' split
 all_goals first | exact fop_f64 _ _ _ | (unfold F64 oneF; decide) | (unfold F64; decide)
def StL.flt (s : StL) : Prop := (∀ c ∈ s.cells, F64 c) ∧ ∀ t ∈ s.ths, ∀ x ∈ t.stack, F64 x
theorem flt_put {s : StL} {k : Nat} {t : Th} (h : s.flt) (ht : ∀ x ∈ t.stack, F64 x) : (s.put k t).flt := by
 refine ⟨h.1, fun u hu => ?_⟩
 rcases List.mem_or_eq_of_mem_set hu with e | e
 ·exact h.2 u e
 ·subst e; exact ht
theorem topN_f64 {t : Th} {o : OpL} {i : Nat} (h : ∀ x ∈ t.stack, F64 x) : F64 (topN t o i) := topN_lt h
theorem flt_do {s : StL} {k : Nat} {o : OpL} {e : Ev} (hk : k < s.ths.length) (h : s.flt) (ho : F64 o.v) : (doL s k o e).1.flt := by
 have hgd : s.ths.getD k th0 = s.ths[k] := by simp [List.getD_eq_getElem?_getD, hk]
 have ht := h.2 _ (List.getElem_mem hk)
 generalize s.ths[k] = t at *
 unfold doL
 simp only [hgd]
 have hpop : ∀ x ∈ (popT t o).stack, F64 x := fun x hx => ht x (List.mem_of_mem_take hx)
 have hpush : ∀ v, F64 v → ∀ x ∈ (pushT (popT t o) v).stack, F64 x := by
  intro v hv x hx
  rcases List.mem_append.1 hx with e | e
  ·exact hpop x e
  ·simp only [List.mem_cons, List.not_mem_nil, or_false] at e
   subst e; exact hv
 by_cases n1 : o.code = 1
 ·rw [if_pos n1]; exact flt_put h (hpush _ ho)
 rw [if_neg n1]
 by_cases n2 : o.code = 2
 ·rw [if_pos n2]
  refine flt_put h (hpush _ ?_)
  rw [List.getD_eq_getElem?_getD]
  cases hg : s.cells[o.a.toNat]? with
  |none => unfold F64; decide
  |some c => exact h.1 c (List.mem_of_getElem? hg)
 rw [if_neg n2]
 by_cases n3 : o.code = 3
 ·rw [if_pos n3]
  refine flt_put ⟨fun c hc => ?_, h.2⟩ hpop
  rcases List.mem_or_eq_of_mem_set hc with e | e
  ·exact h.1 c e
  ·subst e; exact topN_f64 ht
 rw [if_neg n3]
 by_cases n10 : o.code = 10
 ·rw [if_pos n10]; exact flt_put h hpop
 rw [if_neg n10]
 by_cases n11 : o.code = 11
 ·rw [if_pos n11]
  refine flt_put h ?_
  split
  ·exact hpop
  ·exact hpop
 rw [if_neg n11]
 by_cases n12 : o.code = 12
 ·rw [if_pos n12]; exact flt_put (s := { s with owner := _ }) h hpop
 rw [if_neg n12]
 by_cases n13 : o.code = 13
 ·rw [if_pos n13]; exact flt_put (s := { s with owner := _ }) h hpop
 rw [if_neg n13]
 by_cases n14 : o.code = 14
 ·rw [if_pos n14]
  refine flt_put (s := { s with ths := _ }) ⟨h.1, fun u hu => ?_⟩ (hpush _ (nearN_f64 _))
  rcases List.mem_append.1 hu with e | e
  ·exact h.2 u e
  ·simp only [List.mem_cons, List.not_mem_nil, or_false] at e
   subst e; intro x hx; cases hx
 rw [if_neg n14]
 by_cases n15 : o.code = 15
 ·rw [if_pos n15]; exact flt_put h hpop
 rw [if_neg n15]
 by_cases n16 : o.code = 16
 ·rw [if_pos n16]; exact flt_put (s := { s with owner := _ }) h hpop
 rw [if_neg n16]
 by_cases n17 : o.code = 17
 ·rw [if_pos n17]
  cases wakeIx s.ths o.a with
  |none => exact flt_put h hpop
  |some j =>
   refine flt_put (s := { s with ths := _ }) ⟨h.1, fun u hu => ?_⟩ hpop
   obtain ⟨i, hi, rfl⟩ := List.mem_iff_getElem.1 hu
   have hil : i < s.ths.length := by simpa using hi
   have := h.2 _ (List.getElem_mem hil)
   rw [List.getElem_modify]
   split
   ·exact this
   ·exact this
 rw [if_neg n17]
 exact flt_put h (hpush _ (reckon_f64 _ _ _))
theorem flt_step {p : ProgL} (hv : p.flt) {s : StL} {k : Nat} (hk : k < s.ths.length) (h : s.flt) : (stepL p s k).1.flt := by
 have hgd : s.ths.getD k th0 = s.ths[k] := by simp [List.getD_eq_getElem?_getD, hk]
 have ht := h.2 _ (List.getElem_mem hk)
 unfold stepL
 simp only [hgd]
 split
 ·exact flt_put (s := { s with owner := _ }) h ht
 ·split
  ·exact flt_put h ht
  ·rename_i o hn
   split
   ·refine flt_do hk h ?_
    unfold nextOp at hn
    by_cases hr : s.ths[k].rt.toNat < p.rs.length
    ·have e : p.rs.getD s.ths[k].rt.toNat [] = p.rs[s.ths[k].rt.toNat] := by rw [List.getD_eq_getElem?_getD, List.getElem?_eq_getElem hr]; rfl
     rw [e] at hn
     exact hv _ (List.getElem_mem hr) o (List.mem_of_getElem? hn)
    ·have e : p.rs.getD s.ths[k].rt.toNat [] = [] := by rw [List.getD_eq_getElem?_getD, List.getElem?_eq_none (by omega)]; rfl
     rw [e] at hn
     simp at hn
   ·exact h
theorem flt_new (p : ProgL) : (newL p).flt := by
 refine ⟨fun c hc => ?_, fun t ht => ?_⟩
 ·obtain ⟨_, rfl⟩ := List.mem_replicate.1 hc
  unfold F64; decide
 ·have : t = newTh 0 := by simpa [newL] using ht
  subst this
  intro x hx; cases hx
theorem goes_st {p : ProgL} {s : StL} {k : Nat} (h : k ∈ enabledL p s) (hk : k < s.ths.length) : s.ths[k].st = 1 ∨ s.ths[k].st = 4 := by
 have := (List.mem_filter.1 h).2
 unfold goes at this
 have this := of_decide_eq_true this
 simp only [List.getD_eq_getElem?_getD, List.getElem?_eq_getElem hk, Option.getD_some] at this
 exact this.2.1
theorem joins_top {s : StL} {k : Nat} {o : OpL} (hk : k < s.ths.length) (hf : faultOf s k o = 0) (h15 : o.code = 15) : ∃ j, idxOf (topN s.ths[k] o 0) s.ths.length = some j ∧ joinsOf s s.ths[k] = some j := by
 have hgd : s.ths.getD k th0 = s.ths[k] := by simp [List.getD_eq_getElem?_getD, hk]
 unfold faultOf at hf
 simp only [hgd] at hf
 generalize s.ths[k] = t at *
 have ht : takesOf o.code = (1, 0) := by rw [h15]; decide
 rw [ht] at hf
 simp only at hf
 split at hf
 ·cases hf
 rename_i h1
 have hl : 1 ≤ t.stack.length := by
  have := fun e => h1 (.inl e)
  omega
 split at hf
 ·cases hf
 split at hf
 ·cases hf
 rename_i h3
 have hj : ¬ (joinsOf s t).getD (-1) < 0 := fun e => h3 ⟨h15, e⟩
 have hkn : keepN t o = t.stack.length - 1 := by simp [keepN, takeN, ht]
 have htop : t.stack.getLast? = some (topN t o 0) := by
  unfold topN
  rw [hkn, List.getLast?_eq_getElem?, List.getD_eq_getElem?_getD, List.getElem?_drop]
  rw [Nat.add_zero, List.getElem?_eq_getElem (by omega)]
  rfl
 unfold joinsOf at hj ⊢
 rw [htop] at hj ⊢
 simp only [Option.bind_some] at hj ⊢
 cases hi : idxOf (topN t o 0) s.ths.length with
 |none => rw [hi] at hj; exact absurd (by decide) hj
 |some j => exact ⟨j, rfl, rfl⟩
theorem runI {p : ProgL} (hg : p.goodS) (hv : p.flt) : RunI p (fun s => SInv p s ∧ s.flt) := {
 small := fun s h => (runOK hg).small s h.1
 seen := fun s h => (runOK hg).seen s h.1
 ready := fun s h => (runOK hg).ready s h.1
 awake := fun s h k hk hl => by
  have := goes_st hk hl
  omega
 flt := fun s h => h.2.2
 joins := fun s h k hk hl o hn hf h15 => joins_top hl hf h15
 step := fun s h k hk => by
  have : k < s.ths.length := by have := (List.mem_filter.1 hk).1; simpa using this
  exact ⟨(runOK hg).step s h.1 k hk, flt_step hv this h.2⟩ }
theorem runPicks_good (p : ProgL) (hp : p.wf) (hg : p.goodS) (hv : p.flt) (picks : List Int) (budget : Int) (hpk : ∀ i ∈ picks, 0 ≤ i) (hl : picks.length ≤ 1048576) (hb : InR budget 0 1048576) :
  CallsTo EE 81 [agg (encProg p), sl (picks.map encInt), i64 budget] (· = agg (runL p picks budget (budget.toNat + 1) (newL p) [] [])) := by
 obtain ⟨b1, b2, b3, b4⟩ := hg.1
 exact runPicksI_ok toIndexI p hp ⟨b1.1, by have := b1.2; omega⟩ ⟨b2.1, by have := b2.2; omega⟩ _ ⟨inv_new hg, flt_new p⟩ (runI hg hv) picks budget hpk hl hb
end Ai
end
section
set_option maxRecDepth 100000
namespace Ai
open Go Go.Proofs
noncomputable def edgesTo (p : ProgL) (s : StL) (n : Nat) : List (Nat × Int) := ((List.range n).filter fun k => decide (0 ≤ blocksOf p s (s.ths.getD k th0))).map fun k => (k, blocksOf p s (s.ths.getD k th0))
noncomputable def edgesL (p : ProgL) (s : StL) : List (Nat × Int) := edgesTo p s s.ths.length
def encE (e : Nat × Int) : List D := [.sl [[di e.1], [di e.2]]]
theorem edgesTo_succ {p : ProgL} {s : StL} {n : Nat} : edgesTo p s (n + 1) = edgesTo p s n ++ (if 0 ≤ blocksOf p s (s.ths.getD n th0) then [(n, blocksOf p s (s.ths.getD n th0))] else []) := by
 unfold edgesTo
 rw [List.range_succ, List.filter_append, List.map_append]
 congr 1
 by_cases h : 0 ≤ blocksOf p s (s.ths.getD n th0)
 ·rw [List.filter_cons_of_pos (by simpa using h), if_pos h]; rfl
 ·rw [List.filter_cons_of_neg (by simpa using h), if_neg h]; rfl
theorem edgesTo_le {p : ProgL} {s : StL} {n : Nat} : (edgesTo p s n).length ≤ n := by
 unfold edgesTo
 rw [List.length_map]
 exact Nat.le_trans (List.length_filter_le _ _) (by simp)
theorem waitsForI_ok (hI : ToIndexISpec) (p : ProgL) (s : StL) (hp : p.wf) (hs : s.small) (hv : ∀ t ∈ s.ths, t.seen p s) :
  CallsTo EE 99 [.fp (encSt s), agg (encProg p)] (· = .uq 25 1 ((edgesL p s).map encE)) := by
 refine callsTo_of_AW (fn := Tryz.f99) Tryz.func99 rfl (by kernel_rfl) rfl ?_
 conv => whnf
 refine aloop (fun k : Nat => [(0, .fp (encSt s)), (3, .ptr (.n 3) 0), (5, .ref (.n 10) 0 (edgesTo p s k).length), (14, sl (s.ths.map encTh)), (15, i64 (s.ths.map encTh).length), (16, i64 k)])
  (fun k => [(.n 3, .vs 31 ((encProg p).map .d)), (.n 10, .ds 25 1 ((edgesTo p s k).map encE))]) (fun k => s.ths.length - k) (fun k => k ≤ s.ths.length) 0
  Weak.refl ⟨rfl, rfl, rfl, rfl, rfl, rfl, trivial⟩ ⟨rfl, rfl, trivial⟩ (Nat.zero_le _) ?_
 intro k τ H hk
 have hk : k ≤ s.ths.length := hk
 conv => whnf
 refine kbi (fun h => ?_) (fun h => ?_)
 ·have hlt := lt_map h
  conv => whnf
  refine ⟨encTh s.ths[k], map_get encTh hlt rfl, ?_⟩
  conv => whnf
  have hg : s.ths.getD k th0 = s.ths[k] := by simp [List.getD_eq_getElem?_getD, hlt]
  have hle : (edgesTo p s k).length ≤ k := edgesTo_le
  have hn := hs.1
  refine ⟨_, waitsI_ok hI p s s.ths[k] hp (hs.2.1 _ (List.getElem_mem hlt)) (hv _ (List.getElem_mem hlt)), ?_⟩
  rintro r ⟨w, rfl, hw⟩
  by_cases hb : 0 ≤ blocksOf p s s.ths[k]
  ·have hw := hw hb
   subst hw
   have hsk : edgesTo p s (k + 1) = edgesTo p s k ++ [(k, blocksOf p s s.ths[k])] := by rw [edgesTo_succ, hg, if_pos hb]
   simp only [bp, pb_t hb]
   conv => whnf
   refine .inl ?_
   conv => whnf
   refine ⟨⟨rfl, by show ((edgesTo p s k).length + 1) * 24 ≤ _; omega, by show (edgesTo p s k).length + 1 ≤ _; omega⟩, ?_⟩
   conv => whnf
   refine ⟨k + 1, by show k + 1 ≤ s.ths.length; omega, by show s.ths.length - (k + 1) < s.ths.length - k; omega, ⟨rfl, rfl, ?_, rfl, rfl, next_i64 hlt (by omega), trivial⟩, ⟨rfl, ?_, trivial⟩⟩
   ·rw [hsk]
    show AV.ref (.n 10) 0 ((edgesTo p s k).length + 1) = _
    simp
   ·rw [hsk]
    show some (Ob.ds 25 1 (((edgesTo p s k).map encE).take (edgesTo p s k).length ++ [encE (k, blocksOf p s s.ths[k])])) = _
    rw [List.take_of_length_le (by simp)]
    simp
  ·simp only [bp, pb_f hb]
   conv => whnf
   have hsk : edgesTo p s (k + 1) = edgesTo p s k := by rw [edgesTo_succ, hg, if_neg hb]; simp
   refine ⟨k + 1, by show k + 1 ≤ s.ths.length; omega, by show s.ths.length - (k + 1) < s.ths.length - k; omega, ⟨rfl, rfl, ?_, rfl, rfl, next_i64 hlt (by omega), trivial⟩, ⟨rfl, ?_, trivial⟩⟩
   ·rw [hsk]; rfl
   ·rw [hsk]; rfl
 ·have hge : s.ths.length ≤ k := by simpa using h
  have hkk : k = s.ths.length := by omega
  subst hkk
  conv => whnf
  show AV.uq 25 1 (List.take (edgesTo p s s.ths.length).length (List.map encE (edgesTo p s s.ths.length))) = _
  rw [List.take_of_length_le (by simp)]
  rfl
end Ai
end
section
namespace Ai.Cyc
structure BS where
 out : List Nat
 queue : List Nat
 far : List (Nat × Nat)
deriving DecidableEq
def setF (l : List (Nat × Nat)) (k v : Nat) : List (Nat × Nat) := if l.any (fun p => p.1 == k) = true then l.map (fun p => if p.1 == k then (k, v) else p) else l ++ [(k, v)]
def getF (l : List (Nat × Nat)) (k : Nat) : Nat := ((l.find? fun p => p.1 == k).map (·.2)).getD 0
def bsE (goal cur : Nat) (st : BS) (e : Nat × Nat) : BS :=
 if (e.2 != cur || decide (0 < st.out.getD e.1 0)) = true then st
 else if (e.1 != goal) = true then ⟨st.out.set e.1 (getF st.far cur + 1), st.queue ++ [e.1], setF st.far e.1 (getF st.far cur + 1)⟩
 else ⟨st.out.set e.1 (getF st.far cur + 1), st.queue, st.far⟩
def bs0 (goal : Nat) : BS := ⟨List.replicate 100 0, [goal], [(goal, 0)]⟩
def bsRun (goal : Nat) (edges : List (Nat × Nat)) : Nat → Nat → BS → Option BS
 | 0, _, _ => none
 |f + 1, i, st => if i < st.queue.length then bsRun goal edges f (i + 1) (edges.foldl (bsE goal (st.queue.getD i 0)) st) else some st
def nextI (edges : List (Nat × Nat)) (far : List Nat) (n at_ left : Nat) : Nat :=
 edges.foldl (fun nx e => if (e.1 == at_ && e.2 != n && far.getD e.2 0 == left) = true then min nx e.2 else nx) 100
def wayI (edges : List (Nat × Nat)) (far : List Nat) (n : Nat) : Nat → List Nat → Nat → List Nat
 | 0, out, _ => out
 |left + 1, out, at_ => wayI edges far n left (out ++ [nextI edges far n at_ (left + 1)]) (nextI edges far n at_ (left + 1))
def cycI (edges : List (Nat × Nat)) (n : Nat) : Option (List Nat) :=
 match bsRun n edges 7 0 (bs0 n) with
 |none => none
 |some st => if st.out.getD n 0 = 0 then some [] else some (wayI edges st.out n (st.out.getD n 0 - 1) [n] n)
def wayS (edges : List (Nat × Nat)) (to : Nat) : Nat → Nat → List (List Nat) → List Nat → Option (List Nat)
 | 0, _, _, _ => none
 |f + 1, i, ways, seen =>
  if i < ways.length then
   match edges.find? (fun e => e.1 == (ways.getD i []).getLastD 0) with
   |none => wayS edges to f (i + 1) ways seen
   |some e => if e.2 = to then some (ways.getD i []) else if seen.contains e.2 = true then wayS edges to f (i + 1) ways seen
     else wayS edges to f (i + 1) (ways ++ [ways.getD i [] ++ [e.2]]) (seen ++ [e.2])
  else some []
def cycS (edges : List (Nat × Nat)) (n : Nat) : Option (List Nat) := wayS edges n 8 0 [[n]] []
def opts : List (Option Nat) := [none, some 0, some 1, some 2, some 3, some 4]
def ed (k : Nat) (o : Option Nat) : List (Nat × Nat) := match o with | some b => [(k, b)] | none => []
def ok (edges : List (Nat × Nat)) : Bool := (List.range 5).all fun n => (cycI edges n).isSome && cycI edges n == cycS edges n
def okFrom (a : Option Nat) : Bool := opts.all fun b => opts.all fun c => opts.all fun d => opts.all fun e => ok (ed 0 a ++ ed 1 b ++ ed 2 c ++ ed 3 d ++ ed 4 e)
theorem okN : okFrom none = true := by decide +kernel
theorem ok0 : okFrom (some 0) = true := by decide +kernel
theorem ok1 : okFrom (some 1) = true := by decide +kernel
theorem ok2 : okFrom (some 2) = true := by decide +kernel
theorem ok3 : okFrom (some 3) = true := by decide +kernel
theorem ok4 : okFrom (some 4) = true := by decide +kernel
theorem ok_all (a b c d e : Option Nat) (ha : a ∈ opts) (hb : b ∈ opts) (hc : c ∈ opts) (hd : d ∈ opts) (he : e ∈ opts) : ok (ed 0 a ++ ed 1 b ++ ed 2 c ++ ed 3 d ++ ed 4 e) = true := by
 have h : okFrom a = true := by
  simp only [opts, List.mem_cons, List.not_mem_nil, or_false] at ha
  rcases ha with rfl | rfl | rfl | rfl | rfl | rfl
  ·exact okN
  ·exact ok0
  ·exact ok1
  ·exact ok2
  ·exact ok3
  ·exact ok4
 simp only [okFrom, List.all_eq_true] at h
 exact h b hb c hc d hd e he
end Ai.Cyc
end
section
set_option maxRecDepth 100000
namespace Ai
open Go Go.Proofs Cyc
def encG (e : Nat × Nat) : List D := [.sl [[di e.1], [di e.2]]]
def arr (l : List Nat) : List D := l.map fun (x : Nat) => di (x : Int)
def encQ (x : Nat) : List D := [di (x : Int)]
def farM (l : List (Nat × Nat)) : List (Int × List D) := l.map fun p => (((p.1 : Nat) : Int), [di (p.2 : Int)])
structure BSok (goal : Nat) (st : BS) (m : Nat) : Prop where
 len : st.out.length = 100
 far : ∀ p ∈ st.far, p.2 ≤ m
 que : st.queue.length ≤ m + 1
 key : ∀ q ∈ st.queue, ∃ v, st.far.find? (fun p => p.1 == q) = some (q, v)
 pos : ∀ p ∈ st.far, p.1 = goal ∨ 0 < st.out.getD p.1 0
 flen : st.far.length ≤ m + 1
theorem bs0_ok (goal : Nat) : BSok goal (bs0 goal) 0 := ⟨by simp [bs0], by simp [bs0], by simp [bs0], by simp [bs0], by simp [bs0], by simp [bs0]⟩
theorem getF_le {goal : Nat} {st : BS} {m k : Nat} (h : BSok goal st m) : getF st.far k ≤ m := by
 unfold getF
 cases hf : st.far.find? (fun p => p.1 == k) with
 |none => simp
 |some p => exact h.far p (List.mem_of_find?_eq_some hf)
theorem atM_far (l : List (Nat × Nat)) (k : Nat) : atM (farM l) (k : Int) = (l.find? fun p => p.1 == k).map fun p => [di (p.2 : Int)] := by
 unfold atM farM
 rw [List.find?_map]
 have : ((fun p : Int × List D => p.1 == (k : Int)) ∘ fun p : Nat × Nat => (((p.1 : Nat) : Int), [di (p.2 : Int)])) = fun p : Nat × Nat => p.1 == k := by
  funext p
  show (((p.1 : Nat) : Int) == (k : Int)) = (p.1 == k)
  rw [Bool.eq_iff_iff, beq_iff_eq, beq_iff_eq]
  omega
 rw [this]
 cases l.find? fun p => p.1 == k <;> rfl
theorem hasM_far (l : List (Nat × Nat)) (k : Nat) : hasM (farM l) (k : Int) = l.any fun p => p.1 == k := by
 unfold hasM farM
 rw [List.any_map]
 congr 1
 funext p
 show (((p.1 : Nat) : Int) == (k : Int)) = (p.1 == k)
 rw [Bool.eq_iff_iff, beq_iff_eq, beq_iff_eq]
 omega
theorem idxM_far {l : List (Nat × Nat)} {k : Nat} (h : (l.any fun p => p.1 == k) = false) : idxM (farM l) (k : Int) = l.length := by
 unfold idxM
 have h2 := hasM_far l k
 rw [h] at h2
 have : (farM l).findIdx? (fun p => p.1 == (k : Int)) = none := by
  rw [List.findIdx?_eq_none_iff]
  unfold hasM at h2
  simpa using h2
 rw [this]
 simp [farM]
theorem addM_far {l : List (Nat × Nat)} {k : Nat} (h : (l.any fun p => p.1 == k) = false) : addM (farM l) (k : Int) = farM l ++ [((k : Int), [])] := by
 unfold addM
 rw [hasM_far, h]
 rfl
theorem putM_far {l : List (Nat × Nat)} {k v : Nat} : putM (farM l ++ [((k : Int), [])]) l.length [di (v : Int)] = farM (l ++ [(k, v)]) := by
 unfold putM
 apply List.ext_getElem?
 intro i
 rw [List.getElem?_modify]
 by_cases h : i < l.length
 ·rw [List.getElem?_append_left (by simpa [farM] using h)]
  have : ¬ l.length = i := by omega
  simp only [farM, this, if_false, List.map_append]
  rw [List.getElem?_append_left (by simpa using h)]
  simp
 ·by_cases h2 : i = l.length
  ·subst h2
   simp [farM]
  ·have e1 : (farM l ++ [((k : Int), [])])[i]? = none := List.getElem?_eq_none (by simp [farM]; omega)
   have e2 : (farM (l ++ [(k, v)]))[i]? = none := List.getElem?_eq_none (by simp [farM]; omega)
   rw [e1, e2]; rfl
theorem setF_new {l : List (Nat × Nat)} {k v : Nat} (h : (l.any fun p => p.1 == k) = false) : setF l k v = l ++ [(k, v)] := by
 unfold setF
 rw [h]
 rfl
theorem absent {goal : Nat} {st : BS} {m k : Nat} (h : BSok goal st m) (h0 : st.out.getD k 0 = 0) (hg : k ≠ goal) : (st.far.any fun p => p.1 == k) = false := by
 rw [List.any_eq_false]
 intro p hp e
 have e : p.1 = k := by simpa using e
 rcases h.pos p hp with h1 | h1
 ·exact hg (e ▸ h1)
 ·rw [e, h0] at h1; omega
theorem bsE_ok {goal cur : Nat} {st : BS} {m : Nat} {e : Nat × Nat} (h : BSok goal st m) (he : e.1 < 100) : BSok goal (bsE goal cur st e) (m + 1) := by
 have hmono : BSok goal st (m + 1) := ⟨h.len, fun p hp => Nat.le_succ_of_le (h.far p hp), Nat.le_succ_of_le h.que, h.key, h.pos, Nat.le_succ_of_le h.flen⟩
 unfold bsE
 split
 ·exact hmono
 rename_i h1
 have h0 : st.out.getD e.1 0 = 0 := by
  simp only [Bool.or_eq_true, decide_eq_true_eq, not_or] at h1
  omega
 have hset : ∀ (i : Nat), 0 < st.out.getD i 0 → 0 < (st.out.set e.1 (getF st.far cur + 1)).getD i 0 := by
  intro i hi
  simp only [List.getD_eq_getElem?_getD, List.getElem?_set]
  split
  ·split
   ·simp
   ·rename_i h2 h3
    rw [h.len] at h3
    omega
  ·simpa [List.getD_eq_getElem?_getD] using hi
 split
 ·rename_i hg
  have hg : e.1 ≠ goal := by simpa using hg
  have hab := absent h h0 hg
  rw [setF_new hab]
  refine ⟨by simpa using h.len, fun p hp => ?_, by simp; exact h.que, fun q hq => ?_, fun p hp => ?_, by simp; exact h.flen⟩
  ·rcases List.mem_append.1 hp with h2 | h2
   ·exact Nat.le_succ_of_le (h.far p h2)
   ·simp only [List.mem_cons, List.not_mem_nil, or_false] at h2
    subst h2
    exact Nat.succ_le_succ (getF_le h)
  ·rw [List.find?_append]
   rcases List.mem_append.1 hq with h2 | h2
   ·obtain ⟨v, hv⟩ := h.key q h2
    exact ⟨v, by rw [hv]; rfl⟩
   ·simp only [List.mem_cons, List.not_mem_nil, or_false] at h2
    subst h2
    have : st.far.find? (fun p => p.1 == e.1) = none := by
     rw [List.find?_eq_none]
     intro p hp
     have := List.any_eq_false.1 hab p hp
     exact this
    rw [this]
    exact ⟨getF st.far cur + 1, by simp⟩
  ·rcases List.mem_append.1 hp with h2 | h2
   ·rcases h.pos p h2 with h3 | h3
    ·exact .inl h3
    ·exact .inr (hset _ h3)
   ·simp only [List.mem_cons, List.not_mem_nil, or_false] at h2
    subst h2
    right
    simp [List.getD_eq_getElem?_getD, h.len, he]
 ·refine ⟨by simpa using h.len, fun p hp => Nat.le_succ_of_le (h.far p hp), Nat.le_succ_of_le h.que, h.key, fun p hp => ?_, Nat.le_succ_of_le h.flen⟩
  rcases h.pos p hp with h3 | h3
  ·exact .inl h3
  ·exact .inr (hset _ h3)
end Ai
end
section
set_option maxRecDepth 100000
namespace Ai
open Go Go.Proofs Cyc
noncomputable def ops12 : Array Oper := (regOps 12 (Tryz.f137.body.getD .skip)).getD #[]
theorem ldArr {S : St} {A : AV} {o : Key} {T : Nat} {out : List Nat} {k : Nat} (hA : A = .ptr o (0 + k * 1)) (hH : S.H o = some (.vs T ((arr out).map .d))) (hk : k < out.length) : ldCells S A 1 = some [i64 (out.getD k 0 : Nat)] := by
 subst hA
 unfold ldCells
 simp only [hH]
 have h1 : Nat.ble (0 + k * 1 + 1) ((arr out).map AV.d).length = true := by rw [Nat.ble_eq]; simp [arr]; omega
 simp only [h1, cond_true]
 have : ((arr out).map AV.d).drop (0 + k * 1) = i64 (out.getD k 0 : Nat) :: ((arr out).map AV.d).drop (k + 1) := by
  rw [Nat.zero_add, Nat.mul_one, List.drop_eq_getElem_cons (by simpa [arr] using hk)]
  congr 1
  simp [arr, List.getD_eq_getElem?_getD, hk]
 rw [this]
 rfl
theorem arr_scr (p : Key → Bool) (l : List Nat) : scrPL p ((arr l).map .d) = (arr l).map .d := by
 have : ∀ ds : List D, scrPL p (ds.map .d) = ds.map .d := by
  intro ds
  induction ds with
  |nil => rfl
  |cons d ds ih => simp only [List.map_cons, scrPL, ih]; rfl
 exact this _
theorem splice_set {α : Type} (x : α) : ∀ (l : List α) (k : Nat), k < l.length → splice l k [x] = l.set k x
 | [], k, h => by cases h
 |a :: l, 0, h => rfl
 |a :: l, k + 1, h => by
  show a :: splice l k [x] = a :: l.set k x
  rw [splice_set x l k (by simpa using h)]
theorem splice_arr {L : List AV} {l : List Nat} {k v : Nat} {x : AV} (hL : L = (arr l).map .d) (hk : k < l.length) (hx : x = i64 (v : Nat)) : splice L (0 + k * 1) [x] = (arr (l.set k v)).map .d := by
 subst hL hx
 rw [Nat.zero_add, Nat.mul_one, splice_set _ _ _ (by simpa [arr] using hk)]
 simp [arr, List.map_set]
structure R12 (edges : List (Nat × Nat)) (goal e0 e1 i j : Nat) (que out : List Nat) (far : List (Nat × Nat)) (v1 : Nat) (L : Nat → Bool) (S : St) : Prop where
 u0 : S.τ 0 = sl (edges.map encG)
 u1 : S.τ 1 = i64 goal
 u4 : S.τ 4 = .ptr (.n 4) 0
 u5 : S.τ 5 = .ptr (.n 5) 0
 u7 : S.τ 7 = .mref (.n 14)
 u8 : S.τ 8 = i64 i
 u10 : S.τ 10 = .d (.sl [[di (e0 : Int)], [di (e1 : Int)]])
 u23 : S.τ 23 = sl (edges.map encG)
 u24 : S.τ 24 = i64 (edges.map encG).length
 u25 : S.τ 25 = i64 j
 h4 : S.H (.n 4) = some (.vs 168 ((arr (List.replicate 100 0)).map .d))
 h5 : S.H (.n 5) = some (.vs 168 ((arr out).map .d))
 c0 : L 0 = true → S.τ 61 = .mref (.n 14)
 c1 : L 1 = true → S.τ 62 = .d (.sl [[di (e0 : Int)], [di (e1 : Int)]])
 c2 : L 2 = true → S.τ 63 = .fp [di (e0 : Int)]
 c3 : L 3 = true → S.τ 64 = i64 e0
 c4 : L 4 = true → S.τ 65 = .d (.sl [[di (e0 : Int)], [di (e1 : Int)]])
 c5 : L 5 = true → S.τ 66 = .fp [di (e0 : Int)]
 c6 : L 6 = true → S.τ 67 = i64 e0
 c7 : L 7 = true → S.τ 68 = .ptr (.n 5) (0 + e0 * 1)
 c8 : L 8 = true → S.τ 69 = i64 v1
 c9 : L 9 = true → L 14 = false → S.τ 70 = .ref (.n 13) 0 que.length
 c10 : L 10 = true → S.τ 71 = .d (.sl [[di (e0 : Int)], [di (e1 : Int)]])
 c11 : L 11 = true → S.τ 72 = .fp [di (e0 : Int)]
 c12 : L 12 = true → S.τ 73 = i64 e0
 c13 : L 13 = true → L 14 = false → S.τ 74 = .ref (.n 74) 0 1
 c14 : L 14 = true → S.τ 75 = .ref (.n 13) 0 (que.length + 1)
 c15 : L 15 = true → S.τ 76 = .tup [.junk, i64 far.length]
 c16 : L 16 = true → S.τ 77 = i64 far.length
 e13 : L 13 = true → L 14 = false → S.H (.n 74) = some (.ds 3 1 [[di (e0 : Int)]])
 q6a : L 14 = false → S.τ 6 = .ref (.n 13) 0 que.length
 q6b : L 18 = true → S.τ 6 = .ref (.n 13) 0 (que.length + 1)
 h13a : L 14 = false → S.H (.n 13) = some (.ds 3 1 (que.map encQ))
 h13b : L 14 = true → S.H (.n 13) = some (.ds 3 1 ((que ++ [e0]).map encQ))
 h14a : L 15 = false → S.H (.n 14) = some (.mp false (farM far))
 h14b : L 15 = true → L 17 = false → S.H (.n 14) = some (.mp false (farM far ++ [((e0 : Int), [])]))
 h14c : L 17 = true → S.H (.n 14) = some (.mp false (farM (far ++ [(e0, v1)])))
 o1 : L 14 = true → L 9 = true
 o2 : L 14 = true → L 13 = true
 o3 : L 17 = true → L 15 = true
 o4 : L 15 = true → L 14 = true
 o5 : L 18 = true → L 14 = true
 o6 : L 18 = true → L 17 = true
theorem opB_0 {edges : List (Nat × Nat)} {goal e0 e1 i j : Nat} {que out : List Nat} {far : List (Nat × Nat)} {v1 : Nat} (L : Nat → Bool) (S : St) (r : R12 edges goal e0 e1 i j que out far v1 L S) (hL : L 0 = false) : aDo EE Tryz.f137.ntmps ops12 (ops12[0]'(by decide)) S (R12 edges goal e0 e1 i j que out far v1 (fun j => L j || j == 0)) := by
 have hat : At [(7, .mref (.n 14))] [] [] S := ⟨⟨r.u7, trivial⟩, trivial, trivial⟩
 obtain ⟨τ, H, rfl⟩ := hat.form
 conv => whnf
 exact {
  u0 := r.u0
  u1 := r.u1
  u4 := r.u4
  u5 := r.u5
  u7 := r.u7
  u8 := r.u8
  u10 := r.u10
  u23 := r.u23
  u24 := r.u24
  u25 := r.u25
  h4 := r.h4
  h5 := r.h5
  c0 := fun _ => rfl
  c1 := fun g0 => r.c1 (by simpa using g0)
  c2 := fun g0 => r.c2 (by simpa using g0)
  c3 := fun g0 => r.c3 (by simpa using g0)
  c4 := fun g0 => r.c4 (by simpa using g0)
  c5 := fun g0 => r.c5 (by simpa using g0)
  c6 := fun g0 => r.c6 (by simpa using g0)
  c7 := fun g0 => r.c7 (by simpa using g0)
  c8 := fun g0 => r.c8 (by simpa using g0)
  c9 := fun g0 g1 => r.c9 (by simpa using g0) (by simpa using g1)
  c10 := fun g0 => r.c10 (by simpa using g0)
  c11 := fun g0 => r.c11 (by simpa using g0)
  c12 := fun g0 => r.c12 (by simpa using g0)
  c13 := fun g0 g1 => r.c13 (by simpa using g0) (by simpa using g1)
  c14 := fun g0 => r.c14 (by simpa using g0)
  c15 := fun g0 => r.c15 (by simpa using g0)
  c16 := fun g0 => r.c16 (by simpa using g0)
  e13 := fun g0 g1 => r.e13 (by simpa using g0) (by simpa using g1)
  q6a := fun g0 => r.q6a (by simpa using g0)
  q6b := fun g0 => r.q6b (by simpa using g0)
  h13a := fun g0 => r.h13a (by simpa using g0)
  h13b := fun g0 => r.h13b (by simpa using g0)
  h14a := fun g0 => r.h14a (by simpa using g0)
  h14b := fun g0 g1 => r.h14b (by simpa using g0) (by simpa using g1)
  h14c := fun g0 => r.h14c (by simpa using g0)
  o1 := fun g0 => by have := r.o1 (by simpa using g0); simp [this]
  o2 := fun g0 => by have := r.o2 (by simpa using g0); simp [this]
  o3 := fun g0 => by have := r.o3 (by simpa using g0); simp [this]
  o4 := fun g0 => by have := r.o4 (by simpa using g0); simp [this]
  o5 := fun g0 => by have := r.o5 (by simpa using g0); simp [this]
  o6 := fun g0 => by have := r.o6 (by simpa using g0); simp [this] }
theorem opB_1 {edges : List (Nat × Nat)} {goal e0 e1 i j : Nat} {que out : List Nat} {far : List (Nat × Nat)} {v1 : Nat} (L : Nat → Bool) (S : St) (r : R12 edges goal e0 e1 i j que out far v1 L S) (hL : L 1 = false) : aDo EE Tryz.f137.ntmps ops12 (ops12[1]'(by decide)) S (R12 edges goal e0 e1 i j que out far v1 (fun j => L j || j == 1)) := by
 have hat : At [(10, .d (.sl [[di (e0 : Int)], [di (e1 : Int)]]))] [] [] S := ⟨⟨r.u10, trivial⟩, trivial, trivial⟩
 obtain ⟨τ, H, rfl⟩ := hat.form
 conv => whnf
 exact {
  u0 := r.u0
  u1 := r.u1
  u4 := r.u4
  u5 := r.u5
  u7 := r.u7
  u8 := r.u8
  u10 := r.u10
  u23 := r.u23
  u24 := r.u24
  u25 := r.u25
  h4 := r.h4
  h5 := r.h5
  c0 := fun g0 => r.c0 (by simpa using g0)
  c1 := fun _ => rfl
  c2 := fun g0 => r.c2 (by simpa using g0)
  c3 := fun g0 => r.c3 (by simpa using g0)
  c4 := fun g0 => r.c4 (by simpa using g0)
  c5 := fun g0 => r.c5 (by simpa using g0)
  c6 := fun g0 => r.c6 (by simpa using g0)
  c7 := fun g0 => r.c7 (by simpa using g0)
  c8 := fun g0 => r.c8 (by simpa using g0)
  c9 := fun g0 g1 => r.c9 (by simpa using g0) (by simpa using g1)
  c10 := fun g0 => r.c10 (by simpa using g0)
  c11 := fun g0 => r.c11 (by simpa using g0)
  c12 := fun g0 => r.c12 (by simpa using g0)
  c13 := fun g0 g1 => r.c13 (by simpa using g0) (by simpa using g1)
  c14 := fun g0 => r.c14 (by simpa using g0)
  c15 := fun g0 => r.c15 (by simpa using g0)
  c16 := fun g0 => r.c16 (by simpa using g0)
  e13 := fun g0 g1 => r.e13 (by simpa using g0) (by simpa using g1)
  q6a := fun g0 => r.q6a (by simpa using g0)
  q6b := fun g0 => r.q6b (by simpa using g0)
  h13a := fun g0 => r.h13a (by simpa using g0)
  h13b := fun g0 => r.h13b (by simpa using g0)
  h14a := fun g0 => r.h14a (by simpa using g0)
  h14b := fun g0 g1 => r.h14b (by simpa using g0) (by simpa using g1)
  h14c := fun g0 => r.h14c (by simpa using g0)
  o1 := fun g0 => by have := r.o1 (by simpa using g0); simp [this]
  o2 := fun g0 => by have := r.o2 (by simpa using g0); simp [this]
  o3 := fun g0 => by have := r.o3 (by simpa using g0); simp [this]
  o4 := fun g0 => by have := r.o4 (by simpa using g0); simp [this]
  o5 := fun g0 => by have := r.o5 (by simpa using g0); simp [this]
  o6 := fun g0 => by have := r.o6 (by simpa using g0); simp [this] }
theorem opB_2 {edges : List (Nat × Nat)} {goal e0 e1 i j : Nat} {que out : List Nat} {far : List (Nat × Nat)} {v1 : Nat} (L : Nat → Bool) (S : St) (r : R12 edges goal e0 e1 i j que out far v1 L S) (hL : L 2 = false) (k1 : L 1 = true) : aDo EE Tryz.f137.ntmps ops12 (ops12[2]'(by decide)) S (R12 edges goal e0 e1 i j que out far v1 (fun j => L j || j == 2)) := by
 have hat : At [(62, .d (.sl [[di (e0 : Int)], [di (e1 : Int)]]))] [] [] S := ⟨⟨r.c1 k1, trivial⟩, trivial, trivial⟩
 obtain ⟨τ, H, rfl⟩ := hat.form
 conv => whnf
 refine ⟨[di (e0 : Int)], ⟨by decide, rfl, rfl⟩, ?_⟩
 conv => whnf
 exact {
  u0 := r.u0
  u1 := r.u1
  u4 := r.u4
  u5 := r.u5
  u7 := r.u7
  u8 := r.u8
  u10 := r.u10
  u23 := r.u23
  u24 := r.u24
  u25 := r.u25
  h4 := r.h4
  h5 := r.h5
  c0 := fun g0 => r.c0 (by simpa using g0)
  c1 := fun g0 => r.c1 (by simpa using g0)
  c2 := fun _ => rfl
  c3 := fun g0 => r.c3 (by simpa using g0)
  c4 := fun g0 => r.c4 (by simpa using g0)
  c5 := fun g0 => r.c5 (by simpa using g0)
  c6 := fun g0 => r.c6 (by simpa using g0)
  c7 := fun g0 => r.c7 (by simpa using g0)
  c8 := fun g0 => r.c8 (by simpa using g0)
  c9 := fun g0 g1 => r.c9 (by simpa using g0) (by simpa using g1)
  c10 := fun g0 => r.c10 (by simpa using g0)
  c11 := fun g0 => r.c11 (by simpa using g0)
  c12 := fun g0 => r.c12 (by simpa using g0)
  c13 := fun g0 g1 => r.c13 (by simpa using g0) (by simpa using g1)
  c14 := fun g0 => r.c14 (by simpa using g0)
  c15 := fun g0 => r.c15 (by simpa using g0)
  c16 := fun g0 => r.c16 (by simpa using g0)
  e13 := fun g0 g1 => r.e13 (by simpa using g0) (by simpa using g1)
  q6a := fun g0 => r.q6a (by simpa using g0)
  q6b := fun g0 => r.q6b (by simpa using g0)
  h13a := fun g0 => r.h13a (by simpa using g0)
  h13b := fun g0 => r.h13b (by simpa using g0)
  h14a := fun g0 => r.h14a (by simpa using g0)
  h14b := fun g0 g1 => r.h14b (by simpa using g0) (by simpa using g1)
  h14c := fun g0 => r.h14c (by simpa using g0)
  o1 := fun g0 => by have := r.o1 (by simpa using g0); simp [this]
  o2 := fun g0 => by have := r.o2 (by simpa using g0); simp [this]
  o3 := fun g0 => by have := r.o3 (by simpa using g0); simp [this]
  o4 := fun g0 => by have := r.o4 (by simpa using g0); simp [this]
  o5 := fun g0 => by have := r.o5 (by simpa using g0); simp [this]
  o6 := fun g0 => by have := r.o6 (by simpa using g0); simp [this] }
theorem opB_3 {edges : List (Nat × Nat)} {goal e0 e1 i j : Nat} {que out : List Nat} {far : List (Nat × Nat)} {v1 : Nat} (L : Nat → Bool) (S : St) (r : R12 edges goal e0 e1 i j que out far v1 L S) (hL : L 3 = false) (k2 : L 2 = true) : aDo EE Tryz.f137.ntmps ops12 (ops12[3]'(by decide)) S (R12 edges goal e0 e1 i j que out far v1 (fun j => L j || j == 3)) := by
 have hat : At [(63, .fp [di (e0 : Int)])] [] [] S := ⟨⟨r.c2 k2, trivial⟩, trivial, trivial⟩
 obtain ⟨τ, H, rfl⟩ := hat.form
 conv => whnf
 exact {
  u0 := r.u0
  u1 := r.u1
  u4 := r.u4
  u5 := r.u5
  u7 := r.u7
  u8 := r.u8
  u10 := r.u10
  u23 := r.u23
  u24 := r.u24
  u25 := r.u25
  h4 := r.h4
  h5 := r.h5
  c0 := fun g0 => r.c0 (by simpa using g0)
  c1 := fun g0 => r.c1 (by simpa using g0)
  c2 := fun g0 => r.c2 (by simpa using g0)
  c3 := fun _ => rfl
  c4 := fun g0 => r.c4 (by simpa using g0)
  c5 := fun g0 => r.c5 (by simpa using g0)
  c6 := fun g0 => r.c6 (by simpa using g0)
  c7 := fun g0 => r.c7 (by simpa using g0)
  c8 := fun g0 => r.c8 (by simpa using g0)
  c9 := fun g0 g1 => r.c9 (by simpa using g0) (by simpa using g1)
  c10 := fun g0 => r.c10 (by simpa using g0)
  c11 := fun g0 => r.c11 (by simpa using g0)
  c12 := fun g0 => r.c12 (by simpa using g0)
  c13 := fun g0 g1 => r.c13 (by simpa using g0) (by simpa using g1)
  c14 := fun g0 => r.c14 (by simpa using g0)
  c15 := fun g0 => r.c15 (by simpa using g0)
  c16 := fun g0 => r.c16 (by simpa using g0)
  e13 := fun g0 g1 => r.e13 (by simpa using g0) (by simpa using g1)
  q6a := fun g0 => r.q6a (by simpa using g0)
  q6b := fun g0 => r.q6b (by simpa using g0)
  h13a := fun g0 => r.h13a (by simpa using g0)
  h13b := fun g0 => r.h13b (by simpa using g0)
  h14a := fun g0 => r.h14a (by simpa using g0)
  h14b := fun g0 g1 => r.h14b (by simpa using g0) (by simpa using g1)
  h14c := fun g0 => r.h14c (by simpa using g0)
  o1 := fun g0 => by have := r.o1 (by simpa using g0); simp [this]
  o2 := fun g0 => by have := r.o2 (by simpa using g0); simp [this]
  o3 := fun g0 => by have := r.o3 (by simpa using g0); simp [this]
  o4 := fun g0 => by have := r.o4 (by simpa using g0); simp [this]
  o5 := fun g0 => by have := r.o5 (by simpa using g0); simp [this]
  o6 := fun g0 => by have := r.o6 (by simpa using g0); simp [this] }
theorem opB_4 {edges : List (Nat × Nat)} {goal e0 e1 i j : Nat} {que out : List Nat} {far : List (Nat × Nat)} {v1 : Nat} (L : Nat → Bool) (S : St) (r : R12 edges goal e0 e1 i j que out far v1 L S) (hL : L 4 = false) : aDo EE Tryz.f137.ntmps ops12 (ops12[4]'(by decide)) S (R12 edges goal e0 e1 i j que out far v1 (fun j => L j || j == 4)) := by
 have hat : At [(10, .d (.sl [[di (e0 : Int)], [di (e1 : Int)]]))] [] [] S := ⟨⟨r.u10, trivial⟩, trivial, trivial⟩
 obtain ⟨τ, H, rfl⟩ := hat.form
 conv => whnf
 exact {
  u0 := r.u0
  u1 := r.u1
  u4 := r.u4
  u5 := r.u5
  u7 := r.u7
  u8 := r.u8
  u10 := r.u10
  u23 := r.u23
  u24 := r.u24
  u25 := r.u25
  h4 := r.h4
  h5 := r.h5
  c0 := fun g0 => r.c0 (by simpa using g0)
  c1 := fun g0 => r.c1 (by simpa using g0)
  c2 := fun g0 => r.c2 (by simpa using g0)
  c3 := fun g0 => r.c3 (by simpa using g0)
  c4 := fun _ => rfl
  c5 := fun g0 => r.c5 (by simpa using g0)
  c6 := fun g0 => r.c6 (by simpa using g0)
  c7 := fun g0 => r.c7 (by simpa using g0)
  c8 := fun g0 => r.c8 (by simpa using g0)
  c9 := fun g0 g1 => r.c9 (by simpa using g0) (by simpa using g1)
  c10 := fun g0 => r.c10 (by simpa using g0)
  c11 := fun g0 => r.c11 (by simpa using g0)
  c12 := fun g0 => r.c12 (by simpa using g0)
  c13 := fun g0 g1 => r.c13 (by simpa using g0) (by simpa using g1)
  c14 := fun g0 => r.c14 (by simpa using g0)
  c15 := fun g0 => r.c15 (by simpa using g0)
  c16 := fun g0 => r.c16 (by simpa using g0)
  e13 := fun g0 g1 => r.e13 (by simpa using g0) (by simpa using g1)
  q6a := fun g0 => r.q6a (by simpa using g0)
  q6b := fun g0 => r.q6b (by simpa using g0)
  h13a := fun g0 => r.h13a (by simpa using g0)
  h13b := fun g0 => r.h13b (by simpa using g0)
  h14a := fun g0 => r.h14a (by simpa using g0)
  h14b := fun g0 g1 => r.h14b (by simpa using g0) (by simpa using g1)
  h14c := fun g0 => r.h14c (by simpa using g0)
  o1 := fun g0 => by have := r.o1 (by simpa using g0); simp [this]
  o2 := fun g0 => by have := r.o2 (by simpa using g0); simp [this]
  o3 := fun g0 => by have := r.o3 (by simpa using g0); simp [this]
  o4 := fun g0 => by have := r.o4 (by simpa using g0); simp [this]
  o5 := fun g0 => by have := r.o5 (by simpa using g0); simp [this]
  o6 := fun g0 => by have := r.o6 (by simpa using g0); simp [this] }
theorem opB_5 {edges : List (Nat × Nat)} {goal e0 e1 i j : Nat} {que out : List Nat} {far : List (Nat × Nat)} {v1 : Nat} (L : Nat → Bool) (S : St) (r : R12 edges goal e0 e1 i j que out far v1 L S) (hL : L 5 = false) (k4 : L 4 = true) : aDo EE Tryz.f137.ntmps ops12 (ops12[5]'(by decide)) S (R12 edges goal e0 e1 i j que out far v1 (fun j => L j || j == 5)) := by
 have hat : At [(65, .d (.sl [[di (e0 : Int)], [di (e1 : Int)]]))] [] [] S := ⟨⟨r.c4 k4, trivial⟩, trivial, trivial⟩
 obtain ⟨τ, H, rfl⟩ := hat.form
 conv => whnf
 refine ⟨[di (e0 : Int)], ⟨by decide, rfl, rfl⟩, ?_⟩
 conv => whnf
 exact {
  u0 := r.u0
  u1 := r.u1
  u4 := r.u4
  u5 := r.u5
  u7 := r.u7
  u8 := r.u8
  u10 := r.u10
  u23 := r.u23
  u24 := r.u24
  u25 := r.u25
  h4 := r.h4
  h5 := r.h5
  c0 := fun g0 => r.c0 (by simpa using g0)
  c1 := fun g0 => r.c1 (by simpa using g0)
  c2 := fun g0 => r.c2 (by simpa using g0)
  c3 := fun g0 => r.c3 (by simpa using g0)
  c4 := fun g0 => r.c4 (by simpa using g0)
  c5 := fun _ => rfl
  c6 := fun g0 => r.c6 (by simpa using g0)
  c7 := fun g0 => r.c7 (by simpa using g0)
  c8 := fun g0 => r.c8 (by simpa using g0)
  c9 := fun g0 g1 => r.c9 (by simpa using g0) (by simpa using g1)
  c10 := fun g0 => r.c10 (by simpa using g0)
  c11 := fun g0 => r.c11 (by simpa using g0)
  c12 := fun g0 => r.c12 (by simpa using g0)
  c13 := fun g0 g1 => r.c13 (by simpa using g0) (by simpa using g1)
  c14 := fun g0 => r.c14 (by simpa using g0)
  c15 := fun g0 => r.c15 (by simpa using g0)
  c16 := fun g0 => r.c16 (by simpa using g0)
  e13 := fun g0 g1 => r.e13 (by simpa using g0) (by simpa using g1)
  q6a := fun g0 => r.q6a (by simpa using g0)
  q6b := fun g0 => r.q6b (by simpa using g0)
  h13a := fun g0 => r.h13a (by simpa using g0)
  h13b := fun g0 => r.h13b (by simpa using g0)
  h14a := fun g0 => r.h14a (by simpa using g0)
  h14b := fun g0 g1 => r.h14b (by simpa using g0) (by simpa using g1)
  h14c := fun g0 => r.h14c (by simpa using g0)
  o1 := fun g0 => by have := r.o1 (by simpa using g0); simp [this]
  o2 := fun g0 => by have := r.o2 (by simpa using g0); simp [this]
  o3 := fun g0 => by have := r.o3 (by simpa using g0); simp [this]
  o4 := fun g0 => by have := r.o4 (by simpa using g0); simp [this]
  o5 := fun g0 => by have := r.o5 (by simpa using g0); simp [this]
  o6 := fun g0 => by have := r.o6 (by simpa using g0); simp [this] }
theorem opB_6 {edges : List (Nat × Nat)} {goal e0 e1 i j : Nat} {que out : List Nat} {far : List (Nat × Nat)} {v1 : Nat} (L : Nat → Bool) (S : St) (r : R12 edges goal e0 e1 i j que out far v1 L S) (hL : L 6 = false) (k5 : L 5 = true) : aDo EE Tryz.f137.ntmps ops12 (ops12[6]'(by decide)) S (R12 edges goal e0 e1 i j que out far v1 (fun j => L j || j == 6)) := by
 have hat : At [(66, .fp [di (e0 : Int)])] [] [] S := ⟨⟨r.c5 k5, trivial⟩, trivial, trivial⟩
 obtain ⟨τ, H, rfl⟩ := hat.form
 conv => whnf
 exact {
  u0 := r.u0
  u1 := r.u1
  u4 := r.u4
  u5 := r.u5
  u7 := r.u7
  u8 := r.u8
  u10 := r.u10
  u23 := r.u23
  u24 := r.u24
  u25 := r.u25
  h4 := r.h4
  h5 := r.h5
  c0 := fun g0 => r.c0 (by simpa using g0)
  c1 := fun g0 => r.c1 (by simpa using g0)
  c2 := fun g0 => r.c2 (by simpa using g0)
  c3 := fun g0 => r.c3 (by simpa using g0)
  c4 := fun g0 => r.c4 (by simpa using g0)
  c5 := fun g0 => r.c5 (by simpa using g0)
  c6 := fun _ => rfl
  c7 := fun g0 => r.c7 (by simpa using g0)
  c8 := fun g0 => r.c8 (by simpa using g0)
  c9 := fun g0 g1 => r.c9 (by simpa using g0) (by simpa using g1)
  c10 := fun g0 => r.c10 (by simpa using g0)
  c11 := fun g0 => r.c11 (by simpa using g0)
  c12 := fun g0 => r.c12 (by simpa using g0)
  c13 := fun g0 g1 => r.c13 (by simpa using g0) (by simpa using g1)
  c14 := fun g0 => r.c14 (by simpa using g0)
  c15 := fun g0 => r.c15 (by simpa using g0)
  c16 := fun g0 => r.c16 (by simpa using g0)
  e13 := fun g0 g1 => r.e13 (by simpa using g0) (by simpa using g1)
  q6a := fun g0 => r.q6a (by simpa using g0)
  q6b := fun g0 => r.q6b (by simpa using g0)
  h13a := fun g0 => r.h13a (by simpa using g0)
  h13b := fun g0 => r.h13b (by simpa using g0)
  h14a := fun g0 => r.h14a (by simpa using g0)
  h14b := fun g0 g1 => r.h14b (by simpa using g0) (by simpa using g1)
  h14c := fun g0 => r.h14c (by simpa using g0)
  o1 := fun g0 => by have := r.o1 (by simpa using g0); simp [this]
  o2 := fun g0 => by have := r.o2 (by simpa using g0); simp [this]
  o3 := fun g0 => by have := r.o3 (by simpa using g0); simp [this]
  o4 := fun g0 => by have := r.o4 (by simpa using g0); simp [this]
  o5 := fun g0 => by have := r.o5 (by simpa using g0); simp [this]
  o6 := fun g0 => by have := r.o6 (by simpa using g0); simp [this] }
theorem opB_7 {edges : List (Nat × Nat)} {goal e0 e1 i j : Nat} {que out : List Nat} {far : List (Nat × Nat)} {v1 : Nat} (he0 : e0 < 100) (L : Nat → Bool) (S : St) (r : R12 edges goal e0 e1 i j que out far v1 L S) (hL : L 7 = false) (k6 : L 6 = true) : aDo EE Tryz.f137.ntmps ops12 (ops12[7]'(by decide)) S (R12 edges goal e0 e1 i j que out far v1 (fun j => L j || j == 7)) := by
 have hat : At [(5, .ptr (.n 5) 0), (67, i64 e0)] [] [] S := ⟨⟨r.u5, r.c6 k6, trivial⟩, trivial, trivial⟩
 obtain ⟨τ, H, rfl⟩ := hat.form
 conv => whnf
 refine ⟨⟨by omega, by show (e0 : Int) < 100; omega⟩, ?_⟩
 conv => whnf
 exact {
  u0 := r.u0
  u1 := r.u1
  u4 := r.u4
  u5 := r.u5
  u7 := r.u7
  u8 := r.u8
  u10 := r.u10
  u23 := r.u23
  u24 := r.u24
  u25 := r.u25
  h4 := r.h4
  h5 := r.h5
  c0 := fun g0 => r.c0 (by simpa using g0)
  c1 := fun g0 => r.c1 (by simpa using g0)
  c2 := fun g0 => r.c2 (by simpa using g0)
  c3 := fun g0 => r.c3 (by simpa using g0)
  c4 := fun g0 => r.c4 (by simpa using g0)
  c5 := fun g0 => r.c5 (by simpa using g0)
  c6 := fun g0 => r.c6 (by simpa using g0)
  c7 := fun _ => rfl
  c8 := fun g0 => r.c8 (by simpa using g0)
  c9 := fun g0 g1 => r.c9 (by simpa using g0) (by simpa using g1)
  c10 := fun g0 => r.c10 (by simpa using g0)
  c11 := fun g0 => r.c11 (by simpa using g0)
  c12 := fun g0 => r.c12 (by simpa using g0)
  c13 := fun g0 g1 => r.c13 (by simpa using g0) (by simpa using g1)
  c14 := fun g0 => r.c14 (by simpa using g0)
  c15 := fun g0 => r.c15 (by simpa using g0)
  c16 := fun g0 => r.c16 (by simpa using g0)
  e13 := fun g0 g1 => r.e13 (by simpa using g0) (by simpa using g1)
  q6a := fun g0 => r.q6a (by simpa using g0)
  q6b := fun g0 => r.q6b (by simpa using g0)
  h13a := fun g0 => r.h13a (by simpa using g0)
  h13b := fun g0 => r.h13b (by simpa using g0)
  h14a := fun g0 => r.h14a (by simpa using g0)
  h14b := fun g0 g1 => r.h14b (by simpa using g0) (by simpa using g1)
  h14c := fun g0 => r.h14c (by simpa using g0)
  o1 := fun g0 => by have := r.o1 (by simpa using g0); simp [this]
  o2 := fun g0 => by have := r.o2 (by simpa using g0); simp [this]
  o3 := fun g0 => by have := r.o3 (by simpa using g0); simp [this]
  o4 := fun g0 => by have := r.o4 (by simpa using g0); simp [this]
  o5 := fun g0 => by have := r.o5 (by simpa using g0); simp [this]
  o6 := fun g0 => by have := r.o6 (by simpa using g0); simp [this] }
theorem opB_8 {edges : List (Nat × Nat)} {goal e0 e1 i j : Nat} {que out : List Nat} {far : List (Nat × Nat)} {v1 : Nat} (he0 : e0 < out.length) (hv1 : out.getD e0 0 = v1) (L : Nat → Bool) (S : St) (r : R12 edges goal e0 e1 i j que out far v1 L S) (hL : L 8 = false) (k7 : L 7 = true) : aDo EE Tryz.f137.ntmps ops12 (ops12[8]'(by decide)) S (R12 edges goal e0 e1 i j que out far v1 (fun j => L j || j == 8)) := by
 have hat : At [(68, .ptr (.n 5) (0 + e0 * 1))] [(.n 5, .vs 168 ((arr out).map .d))] [] S := ⟨⟨r.c7 k7, trivial⟩, ⟨r.h5, trivial⟩, trivial⟩
 obtain ⟨τ, H, rfl⟩ := hat.form
 conv => whnf
 split
 rotate_left 1
 ·rename_i hld
  exact absurd (hld.symm.trans (ldArr (out := out) (k := e0) rfl rfl he0)) (by simp)
 rename_i cs hld
 obtain rfl := Option.some.inj (hld.symm.trans (ldArr (out := out) (k := e0) rfl rfl he0))
 clear hld
 conv => whnf
 exact {
  u0 := r.u0
  u1 := r.u1
  u4 := r.u4
  u5 := r.u5
  u7 := r.u7
  u8 := r.u8
  u10 := r.u10
  u23 := r.u23
  u24 := r.u24
  u25 := r.u25
  h4 := r.h4
  h5 := r.h5
  c0 := fun g0 => r.c0 (by simpa using g0)
  c1 := fun g0 => r.c1 (by simpa using g0)
  c2 := fun g0 => r.c2 (by simpa using g0)
  c3 := fun g0 => r.c3 (by simpa using g0)
  c4 := fun g0 => r.c4 (by simpa using g0)
  c5 := fun g0 => r.c5 (by simpa using g0)
  c6 := fun g0 => r.c6 (by simpa using g0)
  c7 := fun g0 => r.c7 (by simpa using g0)
  c8 := fun _ => by show i64 (out.getD e0 0 : Nat) = _; rw [hv1]
  c9 := fun g0 g1 => r.c9 (by simpa using g0) (by simpa using g1)
  c10 := fun g0 => r.c10 (by simpa using g0)
  c11 := fun g0 => r.c11 (by simpa using g0)
  c12 := fun g0 => r.c12 (by simpa using g0)
  c13 := fun g0 g1 => r.c13 (by simpa using g0) (by simpa using g1)
  c14 := fun g0 => r.c14 (by simpa using g0)
  c15 := fun g0 => r.c15 (by simpa using g0)
  c16 := fun g0 => r.c16 (by simpa using g0)
  e13 := fun g0 g1 => r.e13 (by simpa using g0) (by simpa using g1)
  q6a := fun g0 => r.q6a (by simpa using g0)
  q6b := fun g0 => r.q6b (by simpa using g0)
  h13a := fun g0 => r.h13a (by simpa using g0)
  h13b := fun g0 => r.h13b (by simpa using g0)
  h14a := fun g0 => r.h14a (by simpa using g0)
  h14b := fun g0 g1 => r.h14b (by simpa using g0) (by simpa using g1)
  h14c := fun g0 => r.h14c (by simpa using g0)
  o1 := fun g0 => by have := r.o1 (by simpa using g0); simp [this]
  o2 := fun g0 => by have := r.o2 (by simpa using g0); simp [this]
  o3 := fun g0 => by have := r.o3 (by simpa using g0); simp [this]
  o4 := fun g0 => by have := r.o4 (by simpa using g0); simp [this]
  o5 := fun g0 => by have := r.o5 (by simpa using g0); simp [this]
  o6 := fun g0 => by have := r.o6 (by simpa using g0); simp [this] }
theorem opB_9 {edges : List (Nat × Nat)} {goal e0 e1 i j : Nat} {que out : List Nat} {far : List (Nat × Nat)} {v1 : Nat} (L : Nat → Bool) (S : St) (r : R12 edges goal e0 e1 i j que out far v1 L S) (hL : L 9 = false) : aDo EE Tryz.f137.ntmps ops12 (ops12[9]'(by decide)) S (R12 edges goal e0 e1 i j que out far v1 (fun j => L j || j == 9)) := by
 have n14 : L 14 = false := by
  cases h : L 14 with
  |false => rfl
  |true => exact absurd (r.o1 h) (by rw [hL]; decide)
 have hat : At [(6, .ref (.n 13) 0 que.length)] [] [] S := ⟨⟨r.q6a n14, trivial⟩, trivial, trivial⟩
 obtain ⟨τ, H, rfl⟩ := hat.form
 conv => whnf
 exact {
  u0 := r.u0
  u1 := r.u1
  u4 := r.u4
  u5 := r.u5
  u7 := r.u7
  u8 := r.u8
  u10 := r.u10
  u23 := r.u23
  u24 := r.u24
  u25 := r.u25
  h4 := r.h4
  h5 := r.h5
  c0 := fun g0 => r.c0 (by simpa using g0)
  c1 := fun g0 => r.c1 (by simpa using g0)
  c2 := fun g0 => r.c2 (by simpa using g0)
  c3 := fun g0 => r.c3 (by simpa using g0)
  c4 := fun g0 => r.c4 (by simpa using g0)
  c5 := fun g0 => r.c5 (by simpa using g0)
  c6 := fun g0 => r.c6 (by simpa using g0)
  c7 := fun g0 => r.c7 (by simpa using g0)
  c8 := fun g0 => r.c8 (by simpa using g0)
  c9 := fun _ _ => rfl
  c10 := fun g0 => r.c10 (by simpa using g0)
  c11 := fun g0 => r.c11 (by simpa using g0)
  c12 := fun g0 => r.c12 (by simpa using g0)
  c13 := fun g0 g1 => r.c13 (by simpa using g0) (by simpa using g1)
  c14 := fun g0 => r.c14 (by simpa using g0)
  c15 := fun g0 => r.c15 (by simpa using g0)
  c16 := fun g0 => r.c16 (by simpa using g0)
  e13 := fun g0 g1 => r.e13 (by simpa using g0) (by simpa using g1)
  q6a := fun g0 => r.q6a (by simpa using g0)
  q6b := fun g0 => r.q6b (by simpa using g0)
  h13a := fun g0 => r.h13a (by simpa using g0)
  h13b := fun g0 => r.h13b (by simpa using g0)
  h14a := fun g0 => r.h14a (by simpa using g0)
  h14b := fun g0 g1 => r.h14b (by simpa using g0) (by simpa using g1)
  h14c := fun g0 => r.h14c (by simpa using g0)
  o1 := fun g0 => by have := r.o1 (by simpa using g0); simp [this]
  o2 := fun g0 => by have := r.o2 (by simpa using g0); simp [this]
  o3 := fun g0 => by have := r.o3 (by simpa using g0); simp [this]
  o4 := fun g0 => by have := r.o4 (by simpa using g0); simp [this]
  o5 := fun g0 => by have := r.o5 (by simpa using g0); simp [this]
  o6 := fun g0 => by have := r.o6 (by simpa using g0); simp [this] }
theorem opB_10 {edges : List (Nat × Nat)} {goal e0 e1 i j : Nat} {que out : List Nat} {far : List (Nat × Nat)} {v1 : Nat} (L : Nat → Bool) (S : St) (r : R12 edges goal e0 e1 i j que out far v1 L S) (hL : L 10 = false) : aDo EE Tryz.f137.ntmps ops12 (ops12[10]'(by decide)) S (R12 edges goal e0 e1 i j que out far v1 (fun j => L j || j == 10)) := by
 have hat : At [(10, .d (.sl [[di (e0 : Int)], [di (e1 : Int)]]))] [] [] S := ⟨⟨r.u10, trivial⟩, trivial, trivial⟩
 obtain ⟨τ, H, rfl⟩ := hat.form
 conv => whnf
 exact {
  u0 := r.u0
  u1 := r.u1
  u4 := r.u4
  u5 := r.u5
  u7 := r.u7
  u8 := r.u8
  u10 := r.u10
  u23 := r.u23
  u24 := r.u24
  u25 := r.u25
  h4 := r.h4
  h5 := r.h5
  c0 := fun g0 => r.c0 (by simpa using g0)
  c1 := fun g0 => r.c1 (by simpa using g0)
  c2 := fun g0 => r.c2 (by simpa using g0)
  c3 := fun g0 => r.c3 (by simpa using g0)
  c4 := fun g0 => r.c4 (by simpa using g0)
  c5 := fun g0 => r.c5 (by simpa using g0)
  c6 := fun g0 => r.c6 (by simpa using g0)
  c7 := fun g0 => r.c7 (by simpa using g0)
  c8 := fun g0 => r.c8 (by simpa using g0)
  c9 := fun g0 g1 => r.c9 (by simpa using g0) (by simpa using g1)
  c10 := fun _ => rfl
  c11 := fun g0 => r.c11 (by simpa using g0)
  c12 := fun g0 => r.c12 (by simpa using g0)
  c13 := fun g0 g1 => r.c13 (by simpa using g0) (by simpa using g1)
  c14 := fun g0 => r.c14 (by simpa using g0)
  c15 := fun g0 => r.c15 (by simpa using g0)
  c16 := fun g0 => r.c16 (by simpa using g0)
  e13 := fun g0 g1 => r.e13 (by simpa using g0) (by simpa using g1)
  q6a := fun g0 => r.q6a (by simpa using g0)
  q6b := fun g0 => r.q6b (by simpa using g0)
  h13a := fun g0 => r.h13a (by simpa using g0)
  h13b := fun g0 => r.h13b (by simpa using g0)
  h14a := fun g0 => r.h14a (by simpa using g0)
  h14b := fun g0 g1 => r.h14b (by simpa using g0) (by simpa using g1)
  h14c := fun g0 => r.h14c (by simpa using g0)
  o1 := fun g0 => by have := r.o1 (by simpa using g0); simp [this]
  o2 := fun g0 => by have := r.o2 (by simpa using g0); simp [this]
  o3 := fun g0 => by have := r.o3 (by simpa using g0); simp [this]
  o4 := fun g0 => by have := r.o4 (by simpa using g0); simp [this]
  o5 := fun g0 => by have := r.o5 (by simpa using g0); simp [this]
  o6 := fun g0 => by have := r.o6 (by simpa using g0); simp [this] }
theorem opB_11 {edges : List (Nat × Nat)} {goal e0 e1 i j : Nat} {que out : List Nat} {far : List (Nat × Nat)} {v1 : Nat} (L : Nat → Bool) (S : St) (r : R12 edges goal e0 e1 i j que out far v1 L S) (hL : L 11 = false) (k10 : L 10 = true) : aDo EE Tryz.f137.ntmps ops12 (ops12[11]'(by decide)) S (R12 edges goal e0 e1 i j que out far v1 (fun j => L j || j == 11)) := by
 have hat : At [(71, .d (.sl [[di (e0 : Int)], [di (e1 : Int)]]))] [] [] S := ⟨⟨r.c10 k10, trivial⟩, trivial, trivial⟩
 obtain ⟨τ, H, rfl⟩ := hat.form
 conv => whnf
 refine ⟨[di (e0 : Int)], ⟨by decide, rfl, rfl⟩, ?_⟩
 conv => whnf
 exact {
  u0 := r.u0
  u1 := r.u1
  u4 := r.u4
  u5 := r.u5
  u7 := r.u7
  u8 := r.u8
  u10 := r.u10
  u23 := r.u23
  u24 := r.u24
  u25 := r.u25
  h4 := r.h4
  h5 := r.h5
  c0 := fun g0 => r.c0 (by simpa using g0)
  c1 := fun g0 => r.c1 (by simpa using g0)
  c2 := fun g0 => r.c2 (by simpa using g0)
  c3 := fun g0 => r.c3 (by simpa using g0)
  c4 := fun g0 => r.c4 (by simpa using g0)
  c5 := fun g0 => r.c5 (by simpa using g0)
  c6 := fun g0 => r.c6 (by simpa using g0)
  c7 := fun g0 => r.c7 (by simpa using g0)
  c8 := fun g0 => r.c8 (by simpa using g0)
  c9 := fun g0 g1 => r.c9 (by simpa using g0) (by simpa using g1)
  c10 := fun g0 => r.c10 (by simpa using g0)
  c11 := fun _ => rfl
  c12 := fun g0 => r.c12 (by simpa using g0)
  c13 := fun g0 g1 => r.c13 (by simpa using g0) (by simpa using g1)
  c14 := fun g0 => r.c14 (by simpa using g0)
  c15 := fun g0 => r.c15 (by simpa using g0)
  c16 := fun g0 => r.c16 (by simpa using g0)
  e13 := fun g0 g1 => r.e13 (by simpa using g0) (by simpa using g1)
  q6a := fun g0 => r.q6a (by simpa using g0)
  q6b := fun g0 => r.q6b (by simpa using g0)
  h13a := fun g0 => r.h13a (by simpa using g0)
  h13b := fun g0 => r.h13b (by simpa using g0)
  h14a := fun g0 => r.h14a (by simpa using g0)
  h14b := fun g0 g1 => r.h14b (by simpa using g0) (by simpa using g1)
  h14c := fun g0 => r.h14c (by simpa using g0)
  o1 := fun g0 => by have := r.o1 (by simpa using g0); simp [this]
  o2 := fun g0 => by have := r.o2 (by simpa using g0); simp [this]
  o3 := fun g0 => by have := r.o3 (by simpa using g0); simp [this]
  o4 := fun g0 => by have := r.o4 (by simpa using g0); simp [this]
  o5 := fun g0 => by have := r.o5 (by simpa using g0); simp [this]
  o6 := fun g0 => by have := r.o6 (by simpa using g0); simp [this] }
theorem opB_12 {edges : List (Nat × Nat)} {goal e0 e1 i j : Nat} {que out : List Nat} {far : List (Nat × Nat)} {v1 : Nat} (L : Nat → Bool) (S : St) (r : R12 edges goal e0 e1 i j que out far v1 L S) (hL : L 12 = false) (k11 : L 11 = true) : aDo EE Tryz.f137.ntmps ops12 (ops12[12]'(by decide)) S (R12 edges goal e0 e1 i j que out far v1 (fun j => L j || j == 12)) := by
 have hat : At [(72, .fp [di (e0 : Int)])] [] [] S := ⟨⟨r.c11 k11, trivial⟩, trivial, trivial⟩
 obtain ⟨τ, H, rfl⟩ := hat.form
 conv => whnf
 exact {
  u0 := r.u0
  u1 := r.u1
  u4 := r.u4
  u5 := r.u5
  u7 := r.u7
  u8 := r.u8
  u10 := r.u10
  u23 := r.u23
  u24 := r.u24
  u25 := r.u25
  h4 := r.h4
  h5 := r.h5
  c0 := fun g0 => r.c0 (by simpa using g0)
  c1 := fun g0 => r.c1 (by simpa using g0)
  c2 := fun g0 => r.c2 (by simpa using g0)
  c3 := fun g0 => r.c3 (by simpa using g0)
  c4 := fun g0 => r.c4 (by simpa using g0)
  c5 := fun g0 => r.c5 (by simpa using g0)
  c6 := fun g0 => r.c6 (by simpa using g0)
  c7 := fun g0 => r.c7 (by simpa using g0)
  c8 := fun g0 => r.c8 (by simpa using g0)
  c9 := fun g0 g1 => r.c9 (by simpa using g0) (by simpa using g1)
  c10 := fun g0 => r.c10 (by simpa using g0)
  c11 := fun g0 => r.c11 (by simpa using g0)
  c12 := fun _ => rfl
  c13 := fun g0 g1 => r.c13 (by simpa using g0) (by simpa using g1)
  c14 := fun g0 => r.c14 (by simpa using g0)
  c15 := fun g0 => r.c15 (by simpa using g0)
  c16 := fun g0 => r.c16 (by simpa using g0)
  e13 := fun g0 g1 => r.e13 (by simpa using g0) (by simpa using g1)
  q6a := fun g0 => r.q6a (by simpa using g0)
  q6b := fun g0 => r.q6b (by simpa using g0)
  h13a := fun g0 => r.h13a (by simpa using g0)
  h13b := fun g0 => r.h13b (by simpa using g0)
  h14a := fun g0 => r.h14a (by simpa using g0)
  h14b := fun g0 g1 => r.h14b (by simpa using g0) (by simpa using g1)
  h14c := fun g0 => r.h14c (by simpa using g0)
  o1 := fun g0 => by have := r.o1 (by simpa using g0); simp [this]
  o2 := fun g0 => by have := r.o2 (by simpa using g0); simp [this]
  o3 := fun g0 => by have := r.o3 (by simpa using g0); simp [this]
  o4 := fun g0 => by have := r.o4 (by simpa using g0); simp [this]
  o5 := fun g0 => by have := r.o5 (by simpa using g0); simp [this]
  o6 := fun g0 => by have := r.o6 (by simpa using g0); simp [this] }
theorem opB_13 {edges : List (Nat × Nat)} {goal e0 e1 i j : Nat} {que out : List Nat} {far : List (Nat × Nat)} {v1 : Nat} (L : Nat → Bool) (S : St) (r : R12 edges goal e0 e1 i j que out far v1 L S) (hL : L 13 = false) (k12 : L 12 = true) : aDo EE Tryz.f137.ntmps ops12 (ops12[13]'(by decide)) S (R12 edges goal e0 e1 i j que out far v1 (fun j => L j || j == 13)) := by
 have hat : At [(73, i64 e0)] [] [] S := ⟨⟨r.c12 k12, trivial⟩, trivial, trivial⟩
 obtain ⟨τ, H, rfl⟩ := hat.form
 conv => whnf
 exact {
  u0 := (congrArg (scrP (isK (.n 74))) (r.u0)).trans rfl
  u1 := (congrArg (scrP (isK (.n 74))) (r.u1)).trans rfl
  u4 := (congrArg (scrP (isK (.n 74))) (r.u4)).trans rfl
  u5 := (congrArg (scrP (isK (.n 74))) (r.u5)).trans rfl
  u7 := (congrArg (scrP (isK (.n 74))) (r.u7)).trans rfl
  u8 := (congrArg (scrP (isK (.n 74))) (r.u8)).trans rfl
  u10 := (congrArg (scrP (isK (.n 74))) (r.u10)).trans rfl
  u23 := (congrArg (scrP (isK (.n 74))) (r.u23)).trans rfl
  u24 := (congrArg (scrP (isK (.n 74))) (r.u24)).trans rfl
  u25 := (congrArg (scrP (isK (.n 74))) (r.u25)).trans rfl
  h4 := (congrArg (Option.map (scrPO (isK (.n 74)))) (r.h4)).trans (congrArg (fun x => some (Ob.vs 168 x)) (arr_scr _ _))
  h5 := (congrArg (Option.map (scrPO (isK (.n 74)))) (r.h5)).trans (congrArg (fun x => some (Ob.vs 168 x)) (arr_scr _ _))
  c0 := fun g0 => (congrArg (scrP (isK (.n 74))) (r.c0 (by simpa using g0))).trans rfl
  c1 := fun g0 => (congrArg (scrP (isK (.n 74))) (r.c1 (by simpa using g0))).trans rfl
  c2 := fun g0 => (congrArg (scrP (isK (.n 74))) (r.c2 (by simpa using g0))).trans rfl
  c3 := fun g0 => (congrArg (scrP (isK (.n 74))) (r.c3 (by simpa using g0))).trans rfl
  c4 := fun g0 => (congrArg (scrP (isK (.n 74))) (r.c4 (by simpa using g0))).trans rfl
  c5 := fun g0 => (congrArg (scrP (isK (.n 74))) (r.c5 (by simpa using g0))).trans rfl
  c6 := fun g0 => (congrArg (scrP (isK (.n 74))) (r.c6 (by simpa using g0))).trans rfl
  c7 := fun g0 => (congrArg (scrP (isK (.n 74))) (r.c7 (by simpa using g0))).trans rfl
  c8 := fun g0 => (congrArg (scrP (isK (.n 74))) (r.c8 (by simpa using g0))).trans rfl
  c9 := fun g0 g1 => (congrArg (scrP (isK (.n 74))) (r.c9 (by simpa using g0) (by simpa using g1))).trans rfl
  c10 := fun g0 => (congrArg (scrP (isK (.n 74))) (r.c10 (by simpa using g0))).trans rfl
  c11 := fun g0 => (congrArg (scrP (isK (.n 74))) (r.c11 (by simpa using g0))).trans rfl
  c12 := fun g0 => (congrArg (scrP (isK (.n 74))) (r.c12 (by simpa using g0))).trans rfl
  c13 := fun _ _ => rfl
  c14 := fun g0 => (congrArg (scrP (isK (.n 74))) (r.c14 (by simpa using g0))).trans rfl
  c15 := fun g0 => (congrArg (scrP (isK (.n 74))) (r.c15 (by simpa using g0))).trans rfl
  c16 := fun g0 => (congrArg (scrP (isK (.n 74))) (r.c16 (by simpa using g0))).trans rfl
  e13 := fun _ _ => rfl
  q6a := fun g0 => (congrArg (scrP (isK (.n 74))) (r.q6a (by simpa using g0))).trans rfl
  q6b := fun g0 => (congrArg (scrP (isK (.n 74))) (r.q6b (by simpa using g0))).trans rfl
  h13a := fun g0 => (congrArg (Option.map (scrPO (isK (.n 74)))) (r.h13a (by simpa using g0))).trans rfl
  h13b := fun g0 => (congrArg (Option.map (scrPO (isK (.n 74)))) (r.h13b (by simpa using g0))).trans rfl
  h14a := fun g0 => (congrArg (Option.map (scrPO (isK (.n 74)))) (r.h14a (by simpa using g0))).trans rfl
  h14b := fun g0 g1 => (congrArg (Option.map (scrPO (isK (.n 74)))) (r.h14b (by simpa using g0) (by simpa using g1))).trans rfl
  h14c := fun g0 => (congrArg (Option.map (scrPO (isK (.n 74)))) (r.h14c (by simpa using g0))).trans rfl
  o1 := fun g0 => by have := r.o1 (by simpa using g0); simp [this]
  o2 := fun g0 => by have := r.o2 (by simpa using g0); simp [this]
  o3 := fun g0 => by have := r.o3 (by simpa using g0); simp [this]
  o4 := fun g0 => by have := r.o4 (by simpa using g0); simp [this]
  o5 := fun g0 => by have := r.o5 (by simpa using g0); simp [this]
  o6 := fun g0 => by have := r.o6 (by simpa using g0); simp [this] }
theorem opB_14 {edges : List (Nat × Nat)} {goal e0 e1 i j : Nat} {que out : List Nat} {far : List (Nat × Nat)} {v1 : Nat} (hq : que.length ≤ 1000) (L : Nat → Bool) (S : St) (r : R12 edges goal e0 e1 i j que out far v1 L S) (hL : L 14 = false) (k9 : L 9 = true) (k13 : L 13 = true) : aDo EE Tryz.f137.ntmps ops12 (ops12[14]'(by decide)) S (R12 edges goal e0 e1 i j que out far v1 (fun j => L j || j == 14)) := by
 have hat : At [(70, .ref (.n 13) 0 que.length), (74, .ref (.n 74) 0 1)] [(.n 13, .ds 3 1 (que.map encQ)), (.n 74, .ds 3 1 [[di (e0 : Int)]])] [] S := ⟨⟨r.c9 k9 hL, r.c13 k13 hL, trivial⟩, ⟨r.h13a hL, r.e13 k13 hL, trivial⟩, trivial⟩
 obtain ⟨τ, H, rfl⟩ := hat.form
 conv => whnf
 refine ⟨⟨rfl, by show (que.length + 1) * 8 ≤ _; omega, by show que.length + 1 ≤ _; omega⟩, ?_⟩
 conv => whnf
 exact {
  u0 := (congrArg (scrP (isK (.n 13))) (r.u0)).trans rfl
  u1 := (congrArg (scrP (isK (.n 13))) (r.u1)).trans rfl
  u4 := (congrArg (scrP (isK (.n 13))) (r.u4)).trans rfl
  u5 := (congrArg (scrP (isK (.n 13))) (r.u5)).trans rfl
  u7 := (congrArg (scrP (isK (.n 13))) (r.u7)).trans rfl
  u8 := (congrArg (scrP (isK (.n 13))) (r.u8)).trans rfl
  u10 := (congrArg (scrP (isK (.n 13))) (r.u10)).trans rfl
  u23 := (congrArg (scrP (isK (.n 13))) (r.u23)).trans rfl
  u24 := (congrArg (scrP (isK (.n 13))) (r.u24)).trans rfl
  u25 := (congrArg (scrP (isK (.n 13))) (r.u25)).trans rfl
  h4 := (congrArg (Option.map (scrPO (isK (.n 13)))) (r.h4)).trans (congrArg (fun x => some (Ob.vs 168 x)) (arr_scr _ _))
  h5 := (congrArg (Option.map (scrPO (isK (.n 13)))) (r.h5)).trans (congrArg (fun x => some (Ob.vs 168 x)) (arr_scr _ _))
  c0 := fun g0 => (congrArg (scrP (isK (.n 13))) (r.c0 (by simpa using g0))).trans rfl
  c1 := fun g0 => (congrArg (scrP (isK (.n 13))) (r.c1 (by simpa using g0))).trans rfl
  c2 := fun g0 => (congrArg (scrP (isK (.n 13))) (r.c2 (by simpa using g0))).trans rfl
  c3 := fun g0 => (congrArg (scrP (isK (.n 13))) (r.c3 (by simpa using g0))).trans rfl
  c4 := fun g0 => (congrArg (scrP (isK (.n 13))) (r.c4 (by simpa using g0))).trans rfl
  c5 := fun g0 => (congrArg (scrP (isK (.n 13))) (r.c5 (by simpa using g0))).trans rfl
  c6 := fun g0 => (congrArg (scrP (isK (.n 13))) (r.c6 (by simpa using g0))).trans rfl
  c7 := fun g0 => (congrArg (scrP (isK (.n 13))) (r.c7 (by simpa using g0))).trans rfl
  c8 := fun g0 => (congrArg (scrP (isK (.n 13))) (r.c8 (by simpa using g0))).trans rfl
  c9 := fun g0 g1 => absurd g1 (by simp)
  c10 := fun g0 => (congrArg (scrP (isK (.n 13))) (r.c10 (by simpa using g0))).trans rfl
  c11 := fun g0 => (congrArg (scrP (isK (.n 13))) (r.c11 (by simpa using g0))).trans rfl
  c12 := fun g0 => (congrArg (scrP (isK (.n 13))) (r.c12 (by simpa using g0))).trans rfl
  c13 := fun g0 g1 => absurd g1 (by simp)
  c14 := fun _ => rfl
  c15 := fun g0 => (congrArg (scrP (isK (.n 13))) (r.c15 (by simpa using g0))).trans rfl
  c16 := fun g0 => (congrArg (scrP (isK (.n 13))) (r.c16 (by simpa using g0))).trans rfl
  e13 := fun g0 g1 => absurd g1 (by simp)
  q6a := fun g0 => absurd g0 (by simp)
  q6b := fun g0 => absurd (r.o5 (by simpa using g0)) (by rw [hL]; decide)
  h13a := fun g0 => absurd g0 (by simp)
  h13b := fun _ => by
   show some (Ob.ds 3 1 ((que.map encQ).take que.length ++ [encQ e0])) = _
   rw [List.take_of_length_le (by simp)]
   simp
  h14a := fun g0 => (congrArg (Option.map (scrPO (isK (.n 13)))) (r.h14a (by simpa using g0))).trans rfl
  h14b := fun g0 g1 => (congrArg (Option.map (scrPO (isK (.n 13)))) (r.h14b (by simpa using g0) (by simpa using g1))).trans rfl
  h14c := fun g0 => (congrArg (Option.map (scrPO (isK (.n 13)))) (r.h14c (by simpa using g0))).trans rfl
  o1 := fun _ => by simp [k9]
  o2 := fun _ => by simp [k13]
  o3 := fun g0 => by have := r.o3 (by simpa using g0); simp [this]
  o4 := fun g0 => by have := r.o4 (by simpa using g0); simp [this]
  o5 := fun g0 => by have := r.o5 (by simpa using g0); simp [this]
  o6 := fun g0 => by have := r.o6 (by simpa using g0); simp [this] }
theorem opB_15 {edges : List (Nat × Nat)} {goal e0 e1 i j : Nat} {que out : List Nat} {far : List (Nat × Nat)} {v1 : Nat} (hab : (far.any fun p => p.1 == e0) = false) (L : Nat → Bool) (S : St) (r : R12 edges goal e0 e1 i j que out far v1 L S) (hL : L 15 = false) (k0 : L 0 = true) (k3 : L 3 = true) (k14 : L 14 = true) : aDo EE Tryz.f137.ntmps ops12 (ops12[15]'(by decide)) S (R12 edges goal e0 e1 i j que out far v1 (fun j => L j || j == 15)) := by
 have hat : At [(61, .mref (.n 14)), (64, i64 e0)] [(.n 14, .mp false (farM far))] [] S := ⟨⟨r.c0 k0, r.c3 k3, trivial⟩, ⟨r.h14a hL, trivial⟩, trivial⟩
 obtain ⟨τ, H, rfl⟩ := hat.form
 conv => whnf
 exact {
  u0 := r.u0
  u1 := r.u1
  u4 := r.u4
  u5 := r.u5
  u7 := r.u7
  u8 := r.u8
  u10 := r.u10
  u23 := r.u23
  u24 := r.u24
  u25 := r.u25
  h4 := r.h4
  h5 := r.h5
  c0 := fun g0 => r.c0 (by simpa using g0)
  c1 := fun g0 => r.c1 (by simpa using g0)
  c2 := fun g0 => r.c2 (by simpa using g0)
  c3 := fun g0 => r.c3 (by simpa using g0)
  c4 := fun g0 => r.c4 (by simpa using g0)
  c5 := fun g0 => r.c5 (by simpa using g0)
  c6 := fun g0 => r.c6 (by simpa using g0)
  c7 := fun g0 => r.c7 (by simpa using g0)
  c8 := fun g0 => r.c8 (by simpa using g0)
  c9 := fun g0 g1 => r.c9 (by simpa using g0) (by simpa using g1)
  c10 := fun g0 => r.c10 (by simpa using g0)
  c11 := fun g0 => r.c11 (by simpa using g0)
  c12 := fun g0 => r.c12 (by simpa using g0)
  c13 := fun g0 g1 => r.c13 (by simpa using g0) (by simpa using g1)
  c14 := fun g0 => r.c14 (by simpa using g0)
  c15 := fun _ => by show AV.tup [.junk, .d (.int .i64 (idxM (farM far) (e0 : Int) : Nat))] = _; rw [idxM_far hab]
  c16 := fun g0 => r.c16 (by simpa using g0)
  e13 := fun g0 g1 => r.e13 (by simpa using g0) (by simpa using g1)
  q6a := fun g0 => r.q6a (by simpa using g0)
  q6b := fun g0 => r.q6b (by simpa using g0)
  h13a := fun g0 => r.h13a (by simpa using g0)
  h13b := fun g0 => r.h13b (by simpa using g0)
  h14a := fun g0 => absurd g0 (by simp)
  h14b := fun _ _ => by show some (Ob.mp false (addM (farM far) (e0 : Int))) = _; rw [addM_far hab]
  h14c := fun g0 => absurd (r.o3 (by simpa using g0)) (by rw [hL]; decide)
  o1 := fun g0 => by have := r.o1 (by simpa using g0); simp [this]
  o2 := fun g0 => by have := r.o2 (by simpa using g0); simp [this]
  o3 := fun g0 => by have := r.o3 (by simpa using g0); simp [this]
  o4 := fun _ => by simp [k14]
  o5 := fun g0 => by have := r.o5 (by simpa using g0); simp [this]
  o6 := fun g0 => by have := r.o6 (by simpa using g0); simp [this] }
theorem opB_16 {edges : List (Nat × Nat)} {goal e0 e1 i j : Nat} {que out : List Nat} {far : List (Nat × Nat)} {v1 : Nat} (L : Nat → Bool) (S : St) (r : R12 edges goal e0 e1 i j que out far v1 L S) (hL : L 16 = false) (k15 : L 15 = true) : aDo EE Tryz.f137.ntmps ops12 (ops12[16]'(by decide)) S (R12 edges goal e0 e1 i j que out far v1 (fun j => L j || j == 16)) := by
 have hat : At [(76, .tup [.junk, i64 far.length])] [] [] S := ⟨⟨r.c15 k15, trivial⟩, trivial, trivial⟩
 obtain ⟨τ, H, rfl⟩ := hat.form
 conv => whnf
 exact {
  u0 := r.u0
  u1 := r.u1
  u4 := r.u4
  u5 := r.u5
  u7 := r.u7
  u8 := r.u8
  u10 := r.u10
  u23 := r.u23
  u24 := r.u24
  u25 := r.u25
  h4 := r.h4
  h5 := r.h5
  c0 := fun g0 => r.c0 (by simpa using g0)
  c1 := fun g0 => r.c1 (by simpa using g0)
  c2 := fun g0 => r.c2 (by simpa using g0)
  c3 := fun g0 => r.c3 (by simpa using g0)
  c4 := fun g0 => r.c4 (by simpa using g0)
  c5 := fun g0 => r.c5 (by simpa using g0)
  c6 := fun g0 => r.c6 (by simpa using g0)
  c7 := fun g0 => r.c7 (by simpa using g0)
  c8 := fun g0 => r.c8 (by simpa using g0)
  c9 := fun g0 g1 => r.c9 (by simpa using g0) (by simpa using g1)
  c10 := fun g0 => r.c10 (by simpa using g0)
  c11 := fun g0 => r.c11 (by simpa using g0)
  c12 := fun g0 => r.c12 (by simpa using g0)
  c13 := fun g0 g1 => r.c13 (by simpa using g0) (by simpa using g1)
  c14 := fun g0 => r.c14 (by simpa using g0)
  c15 := fun g0 => r.c15 (by simpa using g0)
  c16 := fun _ => rfl
  e13 := fun g0 g1 => r.e13 (by simpa using g0) (by simpa using g1)
  q6a := fun g0 => r.q6a (by simpa using g0)
  q6b := fun g0 => r.q6b (by simpa using g0)
  h13a := fun g0 => r.h13a (by simpa using g0)
  h13b := fun g0 => r.h13b (by simpa using g0)
  h14a := fun g0 => r.h14a (by simpa using g0)
  h14b := fun g0 g1 => r.h14b (by simpa using g0) (by simpa using g1)
  h14c := fun g0 => r.h14c (by simpa using g0)
  o1 := fun g0 => by have := r.o1 (by simpa using g0); simp [this]
  o2 := fun g0 => by have := r.o2 (by simpa using g0); simp [this]
  o3 := fun g0 => by have := r.o3 (by simpa using g0); simp [this]
  o4 := fun g0 => by have := r.o4 (by simpa using g0); simp [this]
  o5 := fun g0 => by have := r.o5 (by simpa using g0); simp [this]
  o6 := fun g0 => by have := r.o6 (by simpa using g0); simp [this] }
theorem opB_17 {edges : List (Nat × Nat)} {goal e0 e1 i j : Nat} {que out : List Nat} {far : List (Nat × Nat)} {v1 : Nat} (L : Nat → Bool) (S : St) (r : R12 edges goal e0 e1 i j que out far v1 L S) (hL : L 17 = false) (k0 : L 0 = true) (k8 : L 8 = true) (k15 : L 15 = true) (k16 : L 16 = true) : aDo EE Tryz.f137.ntmps ops12 (ops12[17]'(by decide)) S (R12 edges goal e0 e1 i j que out far v1 (fun j => L j || j == 17)) := by
 have hat : At [(61, .mref (.n 14)), (69, i64 v1), (77, i64 far.length)] [(.n 14, .mp false (farM far ++ [((e0 : Int), [])]))] [] S := ⟨⟨r.c0 k0, r.c8 k8, r.c16 k16, trivial⟩, ⟨r.h14b k15 hL, trivial⟩, trivial⟩
 obtain ⟨τ, H, rfl⟩ := hat.form
 conv => whnf
 refine ⟨⟨by omega, by simp [farM]; omega⟩, ?_⟩
 conv => whnf
 exact {
  u0 := r.u0
  u1 := r.u1
  u4 := r.u4
  u5 := r.u5
  u7 := r.u7
  u8 := r.u8
  u10 := r.u10
  u23 := r.u23
  u24 := r.u24
  u25 := r.u25
  h4 := r.h4
  h5 := r.h5
  c0 := fun g0 => r.c0 (by simpa using g0)
  c1 := fun g0 => r.c1 (by simpa using g0)
  c2 := fun g0 => r.c2 (by simpa using g0)
  c3 := fun g0 => r.c3 (by simpa using g0)
  c4 := fun g0 => r.c4 (by simpa using g0)
  c5 := fun g0 => r.c5 (by simpa using g0)
  c6 := fun g0 => r.c6 (by simpa using g0)
  c7 := fun g0 => r.c7 (by simpa using g0)
  c8 := fun g0 => r.c8 (by simpa using g0)
  c9 := fun g0 g1 => r.c9 (by simpa using g0) (by simpa using g1)
  c10 := fun g0 => r.c10 (by simpa using g0)
  c11 := fun g0 => r.c11 (by simpa using g0)
  c12 := fun g0 => r.c12 (by simpa using g0)
  c13 := fun g0 g1 => r.c13 (by simpa using g0) (by simpa using g1)
  c14 := fun g0 => r.c14 (by simpa using g0)
  c15 := fun g0 => r.c15 (by simpa using g0)
  c16 := fun g0 => r.c16 (by simpa using g0)
  e13 := fun g0 g1 => r.e13 (by simpa using g0) (by simpa using g1)
  q6a := fun g0 => r.q6a (by simpa using g0)
  q6b := fun g0 => r.q6b (by simpa using g0)
  h13a := fun g0 => r.h13a (by simpa using g0)
  h13b := fun g0 => r.h13b (by simpa using g0)
  h14a := fun g0 => absurd g0 (by simp [k15])
  h14b := fun g0 g1 => absurd g1 (by simp)
  h14c := fun _ => by show some (Ob.mp false (putM (farM far ++ [((e0 : Int), [])]) far.length [di (v1 : Int)])) = _; rw [putM_far]
  o1 := fun g0 => by have := r.o1 (by simpa using g0); simp [this]
  o2 := fun g0 => by have := r.o2 (by simpa using g0); simp [this]
  o3 := fun _ => by simp [k15]
  o4 := fun g0 => by have := r.o4 (by simpa using g0); simp [this]
  o5 := fun g0 => by have := r.o5 (by simpa using g0); simp [this]
  o6 := fun g0 => by have := r.o6 (by simpa using g0); simp [this] }
theorem opB_18 {edges : List (Nat × Nat)} {goal e0 e1 i j : Nat} {que out : List Nat} {far : List (Nat × Nat)} {v1 : Nat} (L : Nat → Bool) (S : St) (r : R12 edges goal e0 e1 i j que out far v1 L S) (hL : L 18 = false) (k14 : L 14 = true) (k17 : L 17 = true) : aDo EE Tryz.f137.ntmps ops12 (ops12[18]'(by decide)) S (R12 edges goal e0 e1 i j que out far v1 (fun j => L j || j == 18)) := by
 have hat : At [(75, .ref (.n 13) 0 (que.length + 1))] [] [] S := ⟨⟨r.c14 k14, trivial⟩, trivial, trivial⟩
 obtain ⟨τ, H, rfl⟩ := hat.form
 conv => whnf
 exact {
  u0 := r.u0
  u1 := r.u1
  u4 := r.u4
  u5 := r.u5
  u7 := r.u7
  u8 := r.u8
  u10 := r.u10
  u23 := r.u23
  u24 := r.u24
  u25 := r.u25
  h4 := r.h4
  h5 := r.h5
  c0 := fun g0 => r.c0 (by simpa using g0)
  c1 := fun g0 => r.c1 (by simpa using g0)
  c2 := fun g0 => r.c2 (by simpa using g0)
  c3 := fun g0 => r.c3 (by simpa using g0)
  c4 := fun g0 => r.c4 (by simpa using g0)
  c5 := fun g0 => r.c5 (by simpa using g0)
  c6 := fun g0 => r.c6 (by simpa using g0)
  c7 := fun g0 => r.c7 (by simpa using g0)
  c8 := fun g0 => r.c8 (by simpa using g0)
  c9 := fun g0 g1 => r.c9 (by simpa using g0) (by simpa using g1)
  c10 := fun g0 => r.c10 (by simpa using g0)
  c11 := fun g0 => r.c11 (by simpa using g0)
  c12 := fun g0 => r.c12 (by simpa using g0)
  c13 := fun g0 g1 => r.c13 (by simpa using g0) (by simpa using g1)
  c14 := fun g0 => r.c14 (by simpa using g0)
  c15 := fun g0 => r.c15 (by simpa using g0)
  c16 := fun g0 => r.c16 (by simpa using g0)
  e13 := fun g0 g1 => r.e13 (by simpa using g0) (by simpa using g1)
  q6a := fun g0 => absurd g0 (by simp [k14])
  q6b := fun _ => rfl
  h13a := fun g0 => r.h13a (by simpa using g0)
  h13b := fun g0 => r.h13b (by simpa using g0)
  h14a := fun g0 => r.h14a (by simpa using g0)
  h14b := fun g0 g1 => r.h14b (by simpa using g0) (by simpa using g1)
  h14c := fun g0 => r.h14c (by simpa using g0)
  o1 := fun g0 => by have := r.o1 (by simpa using g0); simp [this]
  o2 := fun g0 => by have := r.o2 (by simpa using g0); simp [this]
  o3 := fun g0 => by have := r.o3 (by simpa using g0); simp [this]
  o4 := fun g0 => by have := r.o4 (by simpa using g0); simp [this]
  o5 := fun _ => by simp [k14]
  o6 := fun _ => by simp [k17] }
theorem draw12 {edges : List (Nat × Nat)} {goal e0 e1 i j : Nat} {que out : List Nat} {far : List (Nat × Nat)} {v1 : Nat} (he : e0 < 100) (he0 : e0 < out.length) (hv1 : out.getD e0 0 = v1) (hq : que.length ≤ 1000) (hab : (far.any fun p => p.1 == e0) = false)
  (Q : AX → St → Prop) (S : St) (h : R12 edges goal e0 e1 i j que out far v1 (fun _ => false) S) (hQ : ∀ L S', (∀ i, i < 19 → L i = true) → R12 edges goal e0 e1 i j que out far v1 L S' → Q .normal S') : ADrawI EE Tryz.f137.ntmps ops12 Q S := by
 refine ⟨R12 edges goal e0 e1 i j que out far v1, h, ?_, fun L S' hL hS => hQ L S' hL hS, by kernel_rfl, trivial⟩
 intro n o ho L S hL hd hI
 match n, ho, hL with
 | 0, ho, hL =>
  obtain rfl : ops12[0]'(by decide) = o := Option.some.inj (show some (ops12[0]'(by decide)) = some o from ho)
  exact opB_0 L S hI hL
 | 1, ho, hL =>
  obtain rfl : ops12[1]'(by decide) = o := Option.some.inj (show some (ops12[1]'(by decide)) = some o from ho)
  exact opB_1 L S hI hL
 | 2, ho, hL =>
  obtain rfl : ops12[2]'(by decide) = o := Option.some.inj (show some (ops12[2]'(by decide)) = some o from ho)
  have k1 : L 1 = true := hd _ (Array.getElem_mem (i := 0) (by decide)) rfl
  exact opB_2 L S hI hL k1
 | 3, ho, hL =>
  obtain rfl : ops12[3]'(by decide) = o := Option.some.inj (show some (ops12[3]'(by decide)) = some o from ho)
  have k2 : L 2 = true := hd _ (Array.getElem_mem (i := 0) (by decide)) rfl
  exact opB_3 L S hI hL k2
 | 4, ho, hL =>
  obtain rfl : ops12[4]'(by decide) = o := Option.some.inj (show some (ops12[4]'(by decide)) = some o from ho)
  exact opB_4 L S hI hL
 | 5, ho, hL =>
  obtain rfl : ops12[5]'(by decide) = o := Option.some.inj (show some (ops12[5]'(by decide)) = some o from ho)
  have k4 : L 4 = true := hd _ (Array.getElem_mem (i := 0) (by decide)) rfl
  exact opB_5 L S hI hL k4
 | 6, ho, hL =>
  obtain rfl : ops12[6]'(by decide) = o := Option.some.inj (show some (ops12[6]'(by decide)) = some o from ho)
  have k5 : L 5 = true := hd _ (Array.getElem_mem (i := 0) (by decide)) rfl
  exact opB_6 L S hI hL k5
 | 7, ho, hL =>
  obtain rfl : ops12[7]'(by decide) = o := Option.some.inj (show some (ops12[7]'(by decide)) = some o from ho)
  have k6 : L 6 = true := hd _ (Array.getElem_mem (i := 0) (by decide)) rfl
  exact opB_7 he L S hI hL k6
 | 8, ho, hL =>
  obtain rfl : ops12[8]'(by decide) = o := Option.some.inj (show some (ops12[8]'(by decide)) = some o from ho)
  have k7 : L 7 = true := hd _ (Array.getElem_mem (i := 0) (by decide)) rfl
  exact opB_8 he0 hv1 L S hI hL k7
 | 9, ho, hL =>
  obtain rfl : ops12[9]'(by decide) = o := Option.some.inj (show some (ops12[9]'(by decide)) = some o from ho)
  exact opB_9 L S hI hL
 | 10, ho, hL =>
  obtain rfl : ops12[10]'(by decide) = o := Option.some.inj (show some (ops12[10]'(by decide)) = some o from ho)
  exact opB_10 L S hI hL
 | 11, ho, hL =>
  obtain rfl : ops12[11]'(by decide) = o := Option.some.inj (show some (ops12[11]'(by decide)) = some o from ho)
  have k10 : L 10 = true := hd _ (Array.getElem_mem (i := 0) (by decide)) rfl
  exact opB_11 L S hI hL k10
 | 12, ho, hL =>
  obtain rfl : ops12[12]'(by decide) = o := Option.some.inj (show some (ops12[12]'(by decide)) = some o from ho)
  have k11 : L 11 = true := hd _ (Array.getElem_mem (i := 0) (by decide)) rfl
  exact opB_12 L S hI hL k11
 | 13, ho, hL =>
  obtain rfl : ops12[13]'(by decide) = o := Option.some.inj (show some (ops12[13]'(by decide)) = some o from ho)
  have k12 : L 12 = true := hd _ (Array.getElem_mem (i := 0) (by decide)) rfl
  exact opB_13 L S hI hL k12
 | 14, ho, hL =>
  obtain rfl : ops12[14]'(by decide) = o := Option.some.inj (show some (ops12[14]'(by decide)) = some o from ho)
  have k9 : L 9 = true := hd _ (Array.getElem_mem (i := 0) (by decide)) rfl
  have k13 : L 13 = true := hd _ (Array.getElem_mem (i := 1) (by decide)) rfl
  exact opB_14 hq L S hI hL k9 k13
 | 15, ho, hL =>
  obtain rfl : ops12[15]'(by decide) = o := Option.some.inj (show some (ops12[15]'(by decide)) = some o from ho)
  have k0 : L 0 = true := hd _ (Array.getElem_mem (i := 0) (by decide)) rfl
  have k3 : L 3 = true := hd _ (Array.getElem_mem (i := 1) (by decide)) rfl
  have k14 : L 14 = true := hd _ (Array.getElem_mem (i := 2) (by decide)) rfl
  exact opB_15 hab L S hI hL k0 k3 k14
 | 16, ho, hL =>
  obtain rfl : ops12[16]'(by decide) = o := Option.some.inj (show some (ops12[16]'(by decide)) = some o from ho)
  have k15 : L 15 = true := hd _ (Array.getElem_mem (i := 0) (by decide)) rfl
  exact opB_16 L S hI hL k15
 | 17, ho, hL =>
  obtain rfl : ops12[17]'(by decide) = o := Option.some.inj (show some (ops12[17]'(by decide)) = some o from ho)
  have k0 : L 0 = true := hd _ (Array.getElem_mem (i := 0) (by decide)) rfl
  have k8 : L 8 = true := hd _ (Array.getElem_mem (i := 2) (by decide)) rfl
  have k15 : L 15 = true := hd _ (Array.getElem_mem (i := 3) (by decide)) rfl
  have k16 : L 16 = true := hd _ (Array.getElem_mem (i := 1) (by decide)) rfl
  exact opB_17 L S hI hL k0 k8 k15 k16
 | 18, ho, hL =>
  obtain rfl : ops12[18]'(by decide) = o := Option.some.inj (show some (ops12[18]'(by decide)) = some o from ho)
  have k14 : L 14 = true := hd _ (Array.getElem_mem (i := 0) (by decide)) rfl
  have k17 : L 17 = true := hd _ (Array.getElem_mem (i := 1) (by decide)) rfl
  exact opB_18 L S hI hL k14 k17
 |n + 19, ho, hL =>
  have h1 : n + 19 < ops12.size := (Array.getElem?_eq_some_iff.1 ho).1
  have h2 : ops12.size = 19 := by decide
  omega
end Ai
end
section
set_option maxRecDepth 100000
namespace Ai
open Go Go.Proofs Cyc
theorem backSteps_ok (edges : List (Nat × Nat)) (goal : Nat) (hl : edges.length ≤ 5) (he : ∀ e ∈ edges, e.1 < 100) (fin : BS) (hr : bsRun goal edges 7 0 (bs0 goal) = some fin) :
  CallsTo EE 137 [sl (edges.map encG), i64 goal] (· = agg (arr fin.out)) := by
 refine callsTo_of_AW (fn := Tryz.f137) Tryz.func137 rfl (by kernel_rfl) rfl ?_
 conv => whnf
 refine aloop (fun x : Nat × BS => [(0, sl (edges.map encG)), (1, i64 goal), (4, .ptr (.n 4) 0), (5, .ptr (.n 5) 0), (6, .ref (.n 13) 0 x.2.queue.length), (7, .mref (.n 14)), (8, i64 x.1)])
  (fun x => [(.n 4, .vs 168 ((arr (List.replicate 100 0)).map .d)), (.n 5, .vs 168 ((arr x.2.out).map .d)), (.n 13, .ds 3 1 (x.2.queue.map encQ)), (.n 14, .mp false (farM x.2.far))]) (fun x => 7 - x.1)
  (fun x => ∃ f m, f + x.1 = 7 ∧ bsRun goal edges f x.1 x.2 = some fin ∧ BSok goal x.2 m ∧ m ≤ 5 * x.1) (0, bs0 goal)
  Weak.refl ?_ ?_ ⟨7, 0, rfl, hr, bs0_ok goal, Nat.zero_le _⟩ ?_
 ·exact ⟨rfl, rfl, rfl, rfl, rfl, rfl, rfl, trivial⟩
 ·refine ⟨rfl, rfl, rfl, rfl, trivial⟩
 rintro ⟨i, st⟩ τ H ⟨f, m, hf, hrun, hok, hm⟩
 have hf : f + i = 7 := hf
 have hrun : bsRun goal edges f i st = some fin := hrun
 have hok : BSok goal st m := hok
 have hm : m ≤ 5 * i := hm
 cases f with
 |zero => cases hrun
 |succ f =>
 conv => whnf
 refine kbi (fun hi => ?_) (fun hi => ?_)
 ·have hi : i < st.queue.length := by simpa using hi
  unfold bsRun at hrun
  rw [if_pos hi] at hrun
  conv => whnf
  refine aloop (fun y : Nat × BS => [(0, sl (edges.map encG)), (1, i64 goal), (4, .ptr (.n 4) 0), (5, .ptr (.n 5) 0), (6, .ref (.n 13) 0 y.2.queue.length), (7, .mref (.n 14)), (8, i64 i), (23, sl (edges.map encG)), (24, i64 (edges.map encG).length), (25, i64 y.1)])
   (fun y => [(.n 4, .vs 168 ((arr (List.replicate 100 0)).map .d)), (.n 5, .vs 168 ((arr y.2.out).map .d)), (.n 13, .ds 3 1 (y.2.queue.map encQ)), (.n 14, .mp false (farM y.2.far))]) (fun y => edges.length - y.1)
   (fun y => y.1 ≤ edges.length ∧ y.2 = (edges.take y.1).foldl (bsE goal (st.queue.getD i 0)) st ∧ BSok goal y.2 (m + y.1) ∧ y.2.queue.getD i 0 = st.queue.getD i 0 ∧ i < y.2.queue.length) (0, st)
   Weak.refl ⟨rfl, rfl, rfl, rfl, rfl, rfl, rfl, rfl, rfl, rfl, trivial⟩ ⟨rfl, rfl, rfl, rfl, trivial⟩ ⟨Nat.zero_le _, rfl, hok, rfl, hi⟩ ?_
  rintro ⟨j, st'⟩ τ' H' ⟨hj, hst, hok', hcur, hiq⟩
  have hj : j ≤ edges.length := hj
  have hst : st' = (edges.take j).foldl (bsE goal (st.queue.getD i 0)) st := hst
  have hok' : BSok goal st' (m + j) := hok'
  have hcur : st'.queue.getD i 0 = st.queue.getD i 0 := hcur
  have hiq : i < st'.queue.length := hiq
  generalize hcd : st.queue.getD i 0 = cur at *
  conv => whnf
  refine kbi (fun hje => ?_) (fun hje => ?_)
  ·have hje : j < edges.length := by simpa using hje
   have hel := he _ (List.getElem_mem hje)
   conv => whnf
   refine ⟨encG edges[j], ⟨by omega, by simp [hje], rfl⟩, ?_⟩
   conv => whnf
   refine ⟨by kernel_rfl, ?_⟩
   conv => whnf
   refine ⟨[di edges[j].2], ⟨by decide, rfl, rfl⟩, ?_⟩
   conv => whnf
   refine ⟨⟨by omega, by show (i : Int) < st'.queue.length; omega⟩, ?_⟩
   conv => whnf
   have hq : (st'.queue.map encQ)[i]? = some (encQ (cur)) := by
    rw [List.getElem?_map, List.getElem?_eq_getElem hiq, ← hcur, List.getD_eq_getElem?_getD, List.getElem?_eq_getElem hiq]; rfl
   refine ⟨encQ (cur), ⟨by rw [Nat.zero_add]; exact hq, by show 0 + 1 ≤ 1; omega⟩, ?_⟩
   conv => whnf
   have hnext : (edges.take (j + 1)).foldl (bsE goal (cur)) st = bsE goal (cur) st' edges[j] := by
    rw [List.take_succ_eq_append_getElem hje, List.foldl_append, ← hst]; rfl
   refine kbi (fun h1 => ?_) (fun h1 => ?_)
   ·have h1 : edges[j].2 ≠ cur := by
     intro e
     simp [e] at h1
    have hE : bsE goal (cur) st' edges[j] = st' := by
     unfold bsE
     rw [if_pos (by rw [Bool.or_eq_true]; exact .inl (bne_iff_ne.2 h1))]
    conv => whnf
    refine ⟨(j + 1, st'), ⟨by show j + 1 ≤ edges.length; omega, by show st' = _; rw [hnext, hE], ?_, hcur, hiq⟩, by show edges.length - (j + 1) < edges.length - j; omega, ⟨rfl, rfl, rfl, rfl, rfl, rfl, rfl, rfl, rfl, ?_, trivial⟩, ⟨rfl, rfl, rfl, rfl, trivial⟩⟩
    ·exact ⟨hok'.len, fun p hp => Nat.le_trans (hok'.far p hp) (by show m + j ≤ m + (j + 1); omega), by show st'.queue.length ≤ m + (j + 1) + 1; have : st'.queue.length ≤ m + j + 1 := hok'.que; omega, hok'.key, hok'.pos, by show st'.far.length ≤ m + (j + 1) + 1; have : st'.far.length ≤ m + j + 1 := hok'.flen; omega⟩
    ·show AV.d (.int .i64 (IntKind.i64.wrap ((j : Int) + 1))) = i64 ((j + 1 : Nat) : Int)
     rw [wrap_id (by omega) (by omega)]
     rfl
   have h1 : edges[j].2 = cur := by
    have h2 : ¬ ((edges[j].2 : Int) != (cur : Int)) = true := h1
    simp only [bne_iff_ne, ne_eq, Classical.not_not] at h2
    omega
   conv => whnf
   refine ⟨[di edges[j].1], ⟨by decide, rfl, rfl⟩, ?_⟩
   conv => whnf
   refine ⟨⟨by omega, by show ((edges[j].1 : Nat) : Int) < 100; omega⟩, ?_⟩
   conv => whnf
   have hlt : edges[j].1 < st'.out.length := by rw [hok'.len]; exact hel
   split
   rotate_left 1
   ·rename_i hld
    exact absurd (hld.symm.trans (ldArr (out := st'.out) (k := edges[j].1) rfl rfl hlt)) (by simp)
   rename_i cs hld
   obtain rfl := Option.some.inj (hld.symm.trans (ldArr (out := st'.out) (k := edges[j].1) rfl rfl hlt))
   clear hld
   conv => whnf
   refine kbi (fun h2 => ?_) (fun h2 => ?_)
   ·have h2 : 0 < st'.out.getD edges[j].1 0 := by
     have h3 := of_decide_eq_true h2
     omega
    have hE : bsE goal cur st' edges[j] = st' := by
     unfold bsE
     rw [if_pos (by rw [Bool.or_eq_true]; exact .inr (decide_eq_true h2))]
    conv => whnf
    refine ⟨(j + 1, st'), ⟨by show j + 1 ≤ edges.length; omega, by show st' = _; rw [hnext, hE], ?_, hcur, hiq⟩, by show edges.length - (j + 1) < edges.length - j; omega, ⟨rfl, rfl, rfl, rfl, rfl, rfl, rfl, rfl, rfl, ?_, trivial⟩, ⟨rfl, rfl, rfl, rfl, trivial⟩⟩
    ·exact ⟨hok'.len, fun p hp => Nat.le_trans (hok'.far p hp) (by show m + j ≤ m + (j + 1); omega), by show st'.queue.length ≤ m + (j + 1) + 1; have : st'.queue.length ≤ m + j + 1 := hok'.que; omega, hok'.key, hok'.pos, by show st'.far.length ≤ m + (j + 1) + 1; have : st'.far.length ≤ m + j + 1 := hok'.flen; omega⟩
    ·show AV.d (.int .i64 (IntKind.i64.wrap ((j : Int) + 1))) = i64 ((j + 1 : Nat) : Int)
     rw [wrap_id (by omega) (by omega)]
     rfl
   have h2 : st'.out.getD edges[j].1 0 = 0 := by
    have h3 : ¬ ((st'.out.getD edges[j].1 0 : Nat) : Int) > 0 := fun e => h2 (decide_eq_true e)
    omega
   obtain ⟨v, hv⟩ := hok'.key cur (by rw [← hcur, List.getD_eq_getElem?_getD, List.getElem?_eq_getElem hiq]; exact List.getElem_mem hiq)
   have hgv : getF st'.far cur = v := by unfold getF; rw [hv]; rfl
   have hvm : v ≤ m + j := by rw [← hgv]; exact getF_le hok'
   conv => whnf
   refine .inr (.inl ⟨10, [], ?_⟩)
   conv => whnf
   refine ⟨[di edges[j].1], ⟨by decide, rfl, rfl⟩, ?_⟩
   conv => whnf
   refine ⟨⟨by omega, by show (i : Int) < st'.queue.length; omega⟩, ?_⟩
   conv => whnf
   refine ⟨encQ cur, ⟨by rw [Nat.zero_add]; exact hq, by show 0 + 1 ≤ 1; omega⟩, ?_⟩
   conv => whnf
   refine .inl ⟨di (v : Int), by rw [atM_far, hv]; rfl, ?_⟩
   conv => whnf
   refine ⟨by kernel_rfl, ?_⟩
   conv => whnf
   refine ⟨⟨by omega, by show ((edges[j].1 : Nat) : Int) < 100; omega⟩, ?_⟩
   conv => whnf
   split
   rotate_left 1
   ·rename_i hb
    exact absurd hb (by
     rw [arr_scr]
     have : Nat.ble (0 + edges[j].1 * 1 + 1) ((arr st'.out).map AV.d).length = true := by rw [Nat.ble_eq]; simp [arr]; omega
     exact fun e => by rw [show Nat.ble (0 + edges[j].1 * 1 + 1) ((arr st'.out).map AV.d).length = false from e] at this; cases this)
   conv => whnf
   have ew : IntKind.i64.wrap ((v : Int) + 1) = ((v + 1 : Nat) : Int) := by rw [wrap_id (by omega) (by omega)]; rfl
   refine ⟨[di edges[j].1], ⟨by decide, rfl, rfl⟩, ?_⟩
   conv => whnf
   refine kbi (fun hg => ?_) (fun hg => ?_)
   ·have hg : edges[j].1 ≠ goal := by
     have h3 : ((edges[j].1 : Int) != (goal : Int)) = true := hg
     simp only [bne_iff_ne, ne_eq] at h3
     omega
    have hab := absent hok' h2 hg
    have hE : bsE goal cur st' edges[j] = ⟨st'.out.set edges[j].1 (v + 1), st'.queue ++ [edges[j].1], st'.far ++ [(edges[j].1, v + 1)]⟩ := by
     unfold bsE
     rw [if_neg (by rw [Bool.or_eq_true, bne_iff_ne, decide_eq_true_eq]; omega), if_pos (by rw [bne_iff_ne]; exact hg), hgv, setF_new hab]
    have hql : st'.queue.length ≤ m + j + 1 := hok'.que
    have hok2 : BSok goal ⟨st'.out.set edges[j].1 (v + 1), st'.queue ++ [edges[j].1], st'.far ++ [(edges[j].1, v + 1)]⟩ (m + (j + 1)) := by rw [← hE]; exact bsE_ok hok' hel
    have hcur2 : (st'.queue ++ [edges[j].1]).getD i 0 = cur := by
     rw [← hcur, List.getD_eq_getElem?_getD, List.getElem?_append_left hiq, List.getD_eq_getElem?_getD]
    conv => whnf
    refine .inr (.inr (.inl (draw12 (edges := edges) (goal := goal) (e0 := edges[j].1) (e1 := edges[j].2) (i := i) (j := j) (que := st'.queue) (out := st'.out.set edges[j].1 (v + 1)) (far := st'.far) (v1 := v + 1) hel (by simpa using hlt) (by simp [List.getD_eq_getElem?_getD, hlt]) (by omega) hab _ _ ?_ ?_)))
    ·exact {
      u0 := rfl
      u1 := rfl
      u4 := rfl
      u5 := rfl
      u7 := rfl
      u8 := rfl
      u10 := rfl
      u23 := rfl
      u24 := rfl
      u25 := rfl
      h4 := congrArg (fun x => some (Ob.vs 168 x)) (arr_scr _ _)
      h5 := congrArg (fun x => some (Ob.vs 168 x)) (splice_arr (v := v + 1) (arr_scr _ _) hlt (congrArg (fun n => AV.d (.int .i64 n)) ew))
      c0 := fun h => by cases h
      c1 := fun h => by cases h
      c2 := fun h => by cases h
      c3 := fun h => by cases h
      c4 := fun h => by cases h
      c5 := fun h => by cases h
      c6 := fun h => by cases h
      c7 := fun h => by cases h
      c8 := fun h => by cases h
      c9 := fun h => by cases h
      c10 := fun h => by cases h
      c11 := fun h => by cases h
      c12 := fun h => by cases h
      c13 := fun h => by cases h
      c14 := fun h => by cases h
      c15 := fun h => by cases h
      c16 := fun h => by cases h
      e13 := fun h => by cases h
      q6a := fun _ => rfl
      q6b := fun h => by cases h
      h13a := fun _ => rfl
      h13b := fun h => by cases h
      h14a := fun _ => rfl
      h14b := fun h => by cases h
      h14c := fun h => by cases h
      o1 := fun h => by cases h
      o2 := fun h => by cases h
      o3 := fun h => by cases h
      o4 := fun h => by cases h
      o5 := fun h => by cases h
      o6 := fun h => by cases h }
    intro L S' hL r
    have hat : At [(0, sl (edges.map encG)), (1, i64 goal), (4, .ptr (.n 4) 0), (5, .ptr (.n 5) 0), (6, .ref (.n 13) 0 (st'.queue.length + 1)), (7, .mref (.n 14)), (8, i64 i), (23, sl (edges.map encG)), (24, i64 (edges.map encG).length), (25, i64 j)]
     [(.n 4, .vs 168 ((arr (List.replicate 100 0)).map .d)), (.n 5, .vs 168 ((arr (st'.out.set edges[j].1 (v + 1))).map .d)), (.n 13, .ds 3 1 ((st'.queue ++ [edges[j].1]).map encQ)), (.n 14, .mp false (farM (st'.far ++ [(edges[j].1, v + 1)])))] [] S' :=
     ⟨⟨r.u0, r.u1, r.u4, r.u5, r.q6b (hL 18 (by decide)), r.u7, r.u8, r.u23, r.u24, r.u25, trivial⟩, ⟨r.h4, r.h5, r.h13b (hL 14 (by decide)), r.h14c (hL 17 (by decide)), trivial⟩, trivial⟩
    obtain ⟨τ2, H2, rfl⟩ := hat.form
    clear r hat
    conv => whnf
    refine ⟨(j + 1, ⟨st'.out.set edges[j].1 (v + 1), st'.queue ++ [edges[j].1], st'.far ++ [(edges[j].1, v + 1)]⟩), ⟨by show j + 1 ≤ edges.length; omega, by show _ = List.foldl _ _ _; rw [hnext, hE], hok2, hcur2, by show i < (st'.queue ++ [edges[j].1]).length; simp; omega⟩, by show edges.length - (j + 1) < edges.length - j; omega, ⟨rfl, rfl, rfl, rfl, ?_, rfl, rfl, rfl, rfl, ?_, trivial⟩, ⟨rfl, rfl, rfl, rfl, trivial⟩⟩
    ·show AV.ref (.n 13) 0 (st'.queue.length + 1) = .ref (.n 13) 0 (st'.queue ++ [edges[j].1]).length
     rw [List.length_append]
     rfl
    ·show AV.d (.int .i64 (IntKind.i64.wrap ((j : Int) + 1))) = i64 ((j + 1 : Nat) : Int)
     rw [wrap_id (by omega) (by omega)]
     rfl
   ·have hg : edges[j].1 = goal := by
     have h3 : ¬ ((edges[j].1 : Int) != (goal : Int)) = true := hg
     simp only [bne_iff_ne, ne_eq, Classical.not_not] at h3
     omega
    have hE : bsE goal cur st' edges[j] = ⟨st'.out.set edges[j].1 (v + 1), st'.queue, st'.far⟩ := by
     unfold bsE
     rw [if_neg (by rw [Bool.or_eq_true, bne_iff_ne, decide_eq_true_eq]; omega), if_neg (by rw [bne_iff_ne]; omega), hgv]
    conv => whnf
    have hok2 : BSok goal ⟨st'.out.set edges[j].1 (v + 1), st'.queue, st'.far⟩ (m + (j + 1)) := by rw [← hE]; exact bsE_ok hok' hel
    refine ⟨(j + 1, ⟨st'.out.set edges[j].1 (v + 1), st'.queue, st'.far⟩), ⟨by show j + 1 ≤ edges.length; omega, by show _ = List.foldl _ _ _; rw [hnext, hE], hok2, hcur, hiq⟩, by show edges.length - (j + 1) < edges.length - j; omega, ⟨rfl, rfl, rfl, rfl, rfl, rfl, rfl, rfl, rfl, ?_, trivial⟩, ⟨?_, ?_, rfl, rfl, trivial⟩⟩
    ·show AV.d (.int .i64 (IntKind.i64.wrap ((j : Int) + 1))) = i64 ((j + 1 : Nat) : Int)
     rw [wrap_id (by omega) (by omega)]
     rfl
    ·exact congrArg (fun x => some (Ob.vs 168 x)) (arr_scr _ _)
    ·exact congrArg (fun x => some (Ob.vs 168 x)) (splice_arr (v := v + 1) (arr_scr _ _) hlt (congrArg (fun n => AV.d (.int .i64 n)) ew))
  ·have hje : edges.length ≤ j := by simpa using hje
   have hjj : j = edges.length := by omega
   subst hjj
   conv => whnf
   rw [List.take_length] at hst
   rw [← hst] at hrun
   refine ⟨(i + 1, st'), ⟨f, m + edges.length, by show f + (i + 1) = 7; omega, hrun, hok', by show m + edges.length ≤ 5 * (i + 1); omega⟩, by show 7 - (i + 1) < 7 - i; omega, ⟨rfl, rfl, rfl, rfl, rfl, rfl, ?_, trivial⟩, ⟨rfl, rfl, rfl, rfl, trivial⟩⟩
   show AV.d (.int .i64 (IntKind.i64.wrap ((i : Int) + 1))) = i64 ((i + 1 : Nat) : Int)
   rw [wrap_id (by omega) (by omega)]
   rfl
 ·have hi : ¬ i < st.queue.length := by simpa using hi
  unfold bsRun at hrun
  rw [if_neg hi] at hrun
  obtain rfl := Option.some.inj hrun
  obtain ⟨g, hg⟩ : ∃ g : Nat → Nat, st.out = (List.range 100).map g := ⟨fun i => st.out.getD i 0, by
   apply List.ext_getElem?
   intro k
   by_cases hk : k < 100
   ·have : k < st.out.length := by rw [hok.len]; exact hk
    rw [List.getElem?_map, List.getElem?_range hk, List.getElem?_eq_getElem this]
    simp [List.getD_eq_getElem?_getD, this]
   ·rw [List.getElem?_eq_none (by rw [hok.len]; omega), List.getElem?_eq_none (by simp; omega)]⟩
  obtain ⟨out, queue, far⟩ := st
  have hg : out = (List.range 100).map g := hg
  subst hg
  conv => whnf
  rfl
end Ai
end
section
set_option maxRecDepth 100000
namespace Ai
open Go Go.Proofs Cyc
theorem foldE_ok {goal cur : Nat} : ∀ (es : List (Nat × Nat)) (st : BS) (m : Nat), (∀ e ∈ es, e.1 < 100) → BSok goal st m → BSok goal (es.foldl (bsE goal cur) st) (m + es.length)
 | [], st, m, he, h => h
 |e :: es, st, m, he, h => by
  have := foldE_ok (cur := cur) es (bsE goal cur st e) (m + 1) (fun x hx => he x (List.mem_cons_of_mem _ hx)) (bsE_ok h (he e List.mem_cons_self))
  rw [List.foldl_cons, List.length_cons, show m + (es.length + 1) = m + 1 + es.length by omega]
  exact this
theorem bsRun_len {goal : Nat} {edges : List (Nat × Nat)} (he : ∀ e ∈ edges, e.1 < 100) : ∀ (f i m : Nat) (st fin : BS), BSok goal st m → bsRun goal edges f i st = some fin → fin.out.length = 100
 | 0, i, m, st, fin, h, hr => by cases hr
 |f + 1, i, m, st, fin, h, hr => by
  unfold bsRun at hr
  split at hr
  ·exact bsRun_len he f (i + 1) _ _ fin (foldE_ok edges st m he h) hr
  ·obtain rfl := Option.some.inj hr
   exact h.len
theorem foldE_out {goal cur : Nat} : ∀ (es : List (Nat × Nat)) (st : BS) (m : Nat), (∀ e ∈ es, e.1 < 100) → BSok goal st m → (∀ x ∈ st.out, x ≤ m) → ∀ x ∈ (es.foldl (bsE goal cur) st).out, x ≤ m + es.length
 | [], st, m, he, h, ho => ho
 |e :: es, st, m, he, h, ho => by
  have h1 : ∀ x ∈ (bsE goal cur st e).out, x ≤ m + 1 := by
   intro x hx
   unfold bsE at hx
   split at hx
   ·exact Nat.le_succ_of_le (ho x hx)
   ·split at hx
    ·rcases List.mem_or_eq_of_mem_set hx with h2 | h2
     ·exact Nat.le_succ_of_le (ho x h2)
     ·subst h2; exact Nat.succ_le_succ (getF_le h)
    ·rcases List.mem_or_eq_of_mem_set hx with h2 | h2
     ·exact Nat.le_succ_of_le (ho x h2)
     ·subst h2; exact Nat.succ_le_succ (getF_le h)
  have := foldE_out (cur := cur) es (bsE goal cur st e) (m + 1) (fun x hx => he x (List.mem_cons_of_mem _ hx)) (bsE_ok h (he e List.mem_cons_self)) h1
  rw [List.foldl_cons, List.length_cons, show m + (es.length + 1) = m + 1 + es.length by omega]
  exact this
theorem bsRun_out {goal : Nat} {edges : List (Nat × Nat)} (hl : edges.length ≤ 5) (he : ∀ e ∈ edges, e.1 < 100) : ∀ (f i m : Nat) (st fin : BS), BSok goal st m → (∀ x ∈ st.out, x ≤ m) → bsRun goal edges f i st = some fin → ∀ x ∈ fin.out, x ≤ m + 5 * f
 | 0, i, m, st, fin, h, ho, hr => by cases hr
 |f + 1, i, m, st, fin, h, ho, hr => by
  unfold bsRun at hr
  split at hr
  ·intro x hx
   have := bsRun_out hl he f (i + 1) _ _ fin (foldE_ok edges st m he h) (foldE_out edges st m he h ho) hr x hx
   omega
  ·obtain rfl := Option.some.inj hr
   intro x hx
   have := ho x hx
   omega
theorem range_form {l : List Nat} (h : l.length = 100) : ∃ g : Nat → Nat, l = (List.range 100).map g := ⟨fun i => l.getD i 0, by
 apply List.ext_getElem?
 intro k
 by_cases hk : k < 100
 ·have : k < l.length := by omega
  rw [List.getElem?_map, List.getElem?_range hk, List.getElem?_eq_getElem this]
  simp [List.getD_eq_getElem?_getD, this]
 ·rw [List.getElem?_eq_none (by omega), List.getElem?_eq_none (by simp; omega)]⟩
def cycOf (edges : List (Nat × Nat)) : List Nat := ((List.range 100).findSome? fun n => match cycI edges n with | some (x :: xs) => some (x :: xs) | _ => none).getD []
theorem cycOf_at {edges : List (Nat × Nat)} {n : Nat} {o : List Nat} (h : n < 100) (hno : ∀ k, k < n → cycI edges k = some []) (ho : cycI edges n = some o) (hne : o ≠ []) : cycOf edges = o := by
 unfold cycOf
 have hs : List.range 100 = (List.range 100).take n ++ n :: (List.range 100).drop (n + 1) := by
  have := (List.take_append_drop n (List.range 100)).symm
  rw [List.drop_eq_getElem_cons (by simp; omega), List.getElem_range] at this
  exact this
 have hf : (List.range 100).findSome? (fun n => match cycI edges n with | some (x :: xs) => some (x :: xs) | _ => none) = some o := by
  rw [List.findSome?_eq_some_iff]
  refine ⟨_, n, _, hs, ?_, fun x hx => ?_⟩
  ·rw [ho]
   cases o with
   |nil => exact absurd rfl hne
   |cons x xs => rfl
  ·obtain ⟨i, hi, rfl⟩ := List.mem_iff_getElem.1 hx
   have hi2 : i < n := by
    have := hi
    simp at this
    omega
   rw [List.getElem_take, List.getElem_range, hno i hi2]
 rw [hf]
 rfl
theorem cycleI_ok (edges : List (Nat × Nat)) (hl : edges.length ≤ 5) (he : ∀ e ∈ edges, e.1 < 100 ∧ e.2 < 100) (hr : ∀ n, n < 100 → (bsRun n edges 7 0 (bs0 n)).isSome = true) :
  CallsTo EE 98 [sl (edges.map encG)] (· = .tup [sl ((cycOf edges).map encQ), bv (!(cycOf edges).isEmpty)]) := by
 refine callsTo_of_AW (fn := Tryz.f98) Tryz.func98 rfl (by kernel_rfl) rfl ?_
 conv => whnf
 refine aloop (fun n : Nat => [(0, sl (edges.map encG)), (12, i64 n)]) (fun n => []) (fun n => 100 - n) (fun n => n ≤ 100 ∧ ∀ k, k < n → cycI edges k = some []) 0
  Weak.refl ⟨rfl, rfl, trivial⟩ trivial ⟨Nat.zero_le _, fun k hk => by omega⟩ ?_
 rintro n τ H ⟨hn, hno⟩
 conv => whnf
 refine kbi (fun h => ?_) (fun h => ?_)
 ·have h : n < 100 := by
   have := of_decide_eq_true h
   omega
  obtain ⟨fin, hfin⟩ := Option.isSome_iff_exists.1 (hr n h)
  have hlen := bsRun_len (fun e h => (he e h).1) 7 0 0 (bs0 n) fin (bs0_ok n) hfin
  have hcy : cycI edges n = if fin.out.getD n 0 = 0 then some [] else some (wayI edges fin.out n (fin.out.getD n 0 - 1) [n] n) := by
   unfold cycI; rw [hfin]
  conv => whnf
  refine ⟨_, backSteps_ok edges n hl (fun e h => (he e h).1) fin hfin, ?_⟩
  rintro r rfl
  obtain ⟨out, queue, far⟩ := fin
  have hlen : out.length = 100 := hlen
  obtain ⟨g, hg⟩ := range_form hlen
  subst hg
  conv => whnf
  have hnl : n < ((List.range 100).map g).length := by simp; omega
  refine ⟨⟨by omega, by show (n : Int) < 100; omega⟩, ?_⟩
  conv => whnf
  split
  rotate_left 1
  ·rename_i hld
   exact absurd (hld.symm.trans (ldArr (out := (List.range 100).map g) (k := n) rfl rfl hnl)) (by simp)
  rename_i cs hld
  obtain rfl := Option.some.inj (hld.symm.trans (ldArr (out := (List.range 100).map g) (k := n) rfl rfl hnl))
  clear hld
  have hcy : cycI edges n = if ((List.range 100).map g).getD n 0 = 0 then some [] else some (wayI edges ((List.range 100).map g) n (((List.range 100).map g).getD n 0 - 1) [n] n) := hcy
  generalize hfn : ((List.range 100).map g).getD n 0 = fn at *
  conv => whnf
  refine kbi (fun h0 => ?_) (fun h0 => ?_)
  ·have h0 : fn = 0 := by
    have h1 : ((fn : Int) == 0) = true := h0
    rw [beq_iff_eq] at h1
    omega
   rw [if_pos h0] at hcy
   conv => whnf
   refine ⟨n + 1, ⟨by omega, fun k hk => ?_⟩, by show 100 - (n + 1) < 100 - n; omega, ⟨rfl, ?_, trivial⟩, trivial⟩
   ·by_cases hkn : k = n
    ·rw [hkn]; exact hcy
    ·exact hno k (by omega)
   ·show AV.d (.int .i64 (IntKind.i64.wrap ((n : Int) + 1))) = i64 ((n + 1 : Nat) : Int)
    rw [wrap_id (by omega) (by omega)]
    rfl
  have h0 : fn ≠ 0 := by
   intro e
   subst e
   exact h0 rfl
  rw [if_neg h0] at hcy
  have hfb : fn ≤ 35 := by
   have := bsRun_out hl (fun e h => (he e h).1) 7 0 0 (bs0 n) _ (bs0_ok n) (by intro x hx; simp [bs0] at hx; omega) hfin fn (by
    rw [← hfn, List.getD_eq_getElem?_getD, List.getElem?_eq_getElem hnl]
    exact List.getElem_mem hnl)
   omega
  conv => whnf
  refine ⟨⟨by omega, by show (n : Int) < 100; omega⟩, ?_⟩
  conv => whnf
  split
  rotate_left 1
  ·rename_i hld
   exact absurd (hld.symm.trans (ldArr (out := (List.range 100).map g) (k := n) rfl rfl hnl)) (by simp)
  rename_i cs hld
  obtain rfl := Option.some.inj (hld.symm.trans (ldArr (out := (List.range 100).map g) (k := n) rfl rfl hnl))
  clear hld
  rw [hfn]
  conv => whnf
  have ew : IntKind.i64.wrap ((fn : Int) - 1) = ((fn - 1 : Nat) : Int) := by rw [wrap_id (by omega) (by omega)]; omega
  refine aloop (fun y : Nat × List Nat × Nat => [(0, sl (edges.map encG)), (4, i64 n), (5, .ptr (.n 5) 0), (6, .ref (.n 23) 0 y.2.1.length), (7, i64 y.2.2), (8, i64 y.1), (12, i64 n)])
   (fun y => [(.n 5, .vs 168 ((arr ((List.range 100).map g)).map .d)), (.n 23, .ds 3 1 (y.2.1.map encQ))]) (fun y => y.1)
   (fun y => wayI edges ((List.range 100).map g) n y.1 y.2.1 y.2.2 = wayI edges ((List.range 100).map g) n (fn - 1) [n] n ∧ y.1 + y.2.1.length = fn ∧ y.2.1.length ≥ 1) (fn - 1, [n], n)
   Weak.refl ?_ ?_ ⟨rfl, by show fn - 1 + 1 = fn; omega, Nat.le_refl _⟩ ?_
  ·refine ⟨rfl, rfl, rfl, rfl, rfl, ?_, rfl, trivial⟩
   show AV.d (.int .i64 (IntKind.i64.wrap ((fn : Int) - 1))) = i64 ((fn - 1 : Nat) : Int)
   rw [ew]
  ·exact ⟨rfl, rfl, trivial⟩
  rintro ⟨left, o, a⟩ τ2 H2 ⟨hw, hlo, ho1⟩
  have hw : wayI edges ((List.range 100).map g) n left o a = wayI edges ((List.range 100).map g) n (fn - 1) [n] n := hw
  have hlo : left + o.length = fn := hlo
  conv => whnf
  refine kbi (fun h5 => ?_) (fun h5 => ?_)
  ·have h5 : 0 < left := by
    have := of_decide_eq_true h5
    omega
   obtain ⟨l, rfl⟩ : ∃ l, left = l + 1 := ⟨left - 1, by omega⟩
   conv => whnf
   refine aloop (fun z : Nat × Nat => [(0, sl (edges.map encG)), (4, i64 n), (5, .ptr (.n 5) 0), (6, .ref (.n 23) 0 o.length), (7, i64 a), (8, i64 (l + 1 : Nat)), (9, i64 z.2), (12, i64 n), (33, sl (edges.map encG)), (34, i64 (edges.map encG).length), (35, i64 z.1)])
    (fun z => [(.n 5, .vs 168 ((arr ((List.range 100).map g)).map .d)), (.n 23, .ds 3 1 (o.map encQ))]) (fun z => edges.length - z.1)
    (fun z => z.1 ≤ edges.length ∧ z.2 = (edges.take z.1).foldl (fun nx e => if (e.1 == a && e.2 != n && ((List.range 100).map g).getD e.2 0 == l + 1) = true then min nx e.2 else nx) 100) (0, 100)
    Weak.refl ⟨rfl, rfl, rfl, rfl, rfl, rfl, rfl, rfl, rfl, rfl, rfl, trivial⟩ ⟨rfl, rfl, trivial⟩ ⟨Nat.zero_le _, rfl⟩ ?_
   rintro ⟨j, nx⟩ τ3 H3 ⟨hj, hnx⟩
   have hj : j ≤ edges.length := hj
   have hnx : nx = (edges.take j).foldl (fun nx e => if (e.1 == a && e.2 != n && ((List.range 100).map g).getD e.2 0 == l + 1) = true then min nx e.2 else nx) 100 := hnx
   conv => whnf
   refine kbi (fun h6 => ?_) (fun h6 => ?_)
   ·have hje : j < edges.length := by simpa using h6
    obtain ⟨he1, he2⟩ := he _ (List.getElem_mem hje)
    have hnext : (edges.take (j + 1)).foldl (fun nx e => if (e.1 == a && e.2 != n && ((List.range 100).map g).getD e.2 0 == l + 1) = true then min nx e.2 else nx) 100 = if (edges[j].1 == a && edges[j].2 != n && ((List.range 100).map g).getD edges[j].2 0 == l + 1) = true then min nx edges[j].2 else nx := by
     rw [List.take_succ_eq_append_getElem hje, List.foldl_append, ← hnx]; rfl
    conv => whnf
    refine ⟨encG edges[j], ⟨by omega, by simp [hje], rfl⟩, ?_⟩
    conv => whnf
    refine ⟨[di edges[j].1], ⟨by decide, rfl, rfl⟩, ?_⟩
    conv => whnf
    refine kbi (fun h7 => ?_) (fun h7 => ?_)
    ·have h7 : edges[j].1 = a := by
      have h8 : ((edges[j].1 : Int) == (a : Int)) = true := h7
      rw [beq_iff_eq] at h8
      omega
     conv => whnf
     refine ⟨[di edges[j].2], ⟨by decide, rfl, rfl⟩, ?_⟩
     conv => whnf
     refine kbi (fun h9 => ?_) (fun h9 => ?_)
     ·have h9 : edges[j].2 ≠ n := by
       have h8 : ((edges[j].2 : Int) != (n : Int)) = true := h9
       rw [bne_iff_ne] at h8
       omega
      conv => whnf
      refine ⟨[di edges[j].2], ⟨by decide, rfl, rfl⟩, ?_⟩
      conv => whnf
      have he2l : edges[j].2 < ((List.range 100).map g).length := by simp; omega
      refine ⟨⟨by omega, by show (edges[j].2 : Int) < 100; omega⟩, ?_⟩
      conv => whnf
      split
      rotate_left 1
      ·rename_i hld
       exact absurd (hld.symm.trans (ldArr (out := (List.range 100).map g) (k := edges[j].2) rfl rfl he2l)) (by simp)
      rename_i cs hld
      obtain rfl := Option.some.inj (hld.symm.trans (ldArr (out := (List.range 100).map g) (k := edges[j].2) rfl rfl he2l))
      clear hld
      conv => whnf
      refine kbi (fun h10 => ?_) (fun h10 => ?_)
      ·have h10 : ((List.range 100).map g).getD edges[j].2 0 = l + 1 := by
        have h8 : (((((List.range 100).map g).getD edges[j].2 0 : Nat) : Int) == ((l + 1 : Nat) : Int)) = true := h10
        rw [beq_iff_eq] at h8
        omega
       conv => whnf
       refine ⟨[di edges[j].2], ⟨by decide, rfl, rfl⟩, ?_⟩
       conv => whnf
       refine ⟨(j + 1, min nx edges[j].2), ⟨by show j + 1 ≤ edges.length; omega, by rw [hnext, if_pos (by simp only [Bool.and_eq_true, beq_iff_eq, bne_iff_ne]; exact ⟨⟨h7, h9⟩, h10⟩)]⟩, by show edges.length - (j + 1) < edges.length - j; omega, ⟨rfl, rfl, rfl, rfl, rfl, rfl, ?_, rfl, rfl, rfl, ?_, trivial⟩, ⟨rfl, rfl, trivial⟩⟩
       ·show AV.d (.int .i64 (if (edges[j].2 : Int) < (nx : Int) then (edges[j].2 : Int) else (nx : Int))) = i64 ((min nx edges[j].2 : Nat) : Int)
        by_cases hlt : edges[j].2 < nx
        ·rw [if_pos (by omega), Nat.min_eq_right (by omega)]
        ·rw [if_neg (by omega), Nat.min_eq_left (by omega)]
       ·show AV.d (.int .i64 (IntKind.i64.wrap ((j : Int) + 1))) = i64 ((j + 1 : Nat) : Int)
        rw [wrap_id (by omega) (by omega)]
        rfl
      ·have h10 : ((List.range 100).map g).getD edges[j].2 0 ≠ l + 1 := by
        intro e
        apply h10
        show (((((List.range 100).map g).getD edges[j].2 0 : Nat) : Int) == ((l + 1 : Nat) : Int)) = true
        rw [beq_iff_eq, e]
       conv => whnf
       refine ⟨(j + 1, nx), ⟨by show j + 1 ≤ edges.length; omega, by rw [hnext]; rw [if_neg (by simp only [Bool.and_eq_true, beq_iff_eq, bne_iff_ne]; rintro ⟨⟨q1, q2⟩, q3⟩; exact h10 q3)]⟩, by show edges.length - (j + 1) < edges.length - j; omega, ⟨rfl, rfl, rfl, rfl, rfl, rfl, rfl, rfl, rfl, rfl, ?_, trivial⟩, ⟨rfl, rfl, trivial⟩⟩
       show AV.d (.int .i64 (IntKind.i64.wrap ((j : Int) + 1))) = i64 ((j + 1 : Nat) : Int)
       rw [wrap_id (by omega) (by omega)]
       rfl
     ·have h9 : edges[j].2 = n := by
       have h8 : ¬ ((edges[j].2 : Int) != (n : Int)) = true := h9
       rw [bne_iff_ne, ne_eq, Classical.not_not] at h8
       omega
      conv => whnf
      refine ⟨(j + 1, nx), ⟨by show j + 1 ≤ edges.length; omega, by rw [hnext]; rw [if_neg (by simp only [Bool.and_eq_true, beq_iff_eq, bne_iff_ne]; rintro ⟨⟨q1, q2⟩, q3⟩; exact q2 h9)]⟩, by show edges.length - (j + 1) < edges.length - j; omega, ⟨rfl, rfl, rfl, rfl, rfl, rfl, rfl, rfl, rfl, rfl, ?_, trivial⟩, ⟨rfl, rfl, trivial⟩⟩
      show AV.d (.int .i64 (IntKind.i64.wrap ((j : Int) + 1))) = i64 ((j + 1 : Nat) : Int)
      rw [wrap_id (by omega) (by omega)]
      rfl
    ·have h7 : edges[j].1 ≠ a := by
      intro e
      apply h7
      show ((edges[j].1 : Int) == (a : Int)) = true
      rw [beq_iff_eq, e]
     conv => whnf
     refine ⟨(j + 1, nx), ⟨by show j + 1 ≤ edges.length; omega, by rw [hnext]; rw [if_neg (by simp only [Bool.and_eq_true, beq_iff_eq, bne_iff_ne]; rintro ⟨⟨q1, q2⟩, q3⟩; exact h7 q1)]⟩, by show edges.length - (j + 1) < edges.length - j; omega, ⟨rfl, rfl, rfl, rfl, rfl, rfl, rfl, rfl, rfl, rfl, ?_, trivial⟩, ⟨rfl, rfl, trivial⟩⟩
     show AV.d (.int .i64 (IntKind.i64.wrap ((j : Int) + 1))) = i64 ((j + 1 : Nat) : Int)
     rw [wrap_id (by omega) (by omega)]
     rfl
   ·have hje : edges.length ≤ j := by simpa using h6
    have hjj : j = edges.length := by omega
    rw [hjj, List.take_length] at hnx
    have hnx : nx = nextI edges ((List.range 100).map g) n a (l + 1) := hnx
    conv => whnf
    refine ⟨⟨rfl, by show (o.length + 1) * 8 ≤ _; omega, by show o.length + 1 ≤ _; omega⟩, ?_⟩
    conv => whnf
    refine ⟨(l, o ++ [nx], nx), ⟨by show wayI edges ((List.range 100).map g) n l (o ++ [nx]) nx = _; rw [← hw, hnx]; rfl, by show l + (o ++ [nx]).length = fn; simp; omega, by show (o ++ [nx]).length ≥ 1; simp⟩, by show l < l + 1; omega, ⟨rfl, rfl, rfl, ?_, rfl, ?_, rfl, trivial⟩, ⟨rfl, ?_, trivial⟩⟩
    ·show AV.ref (.n 23) 0 (o.length + 1) = .ref (.n 23) 0 (o ++ [nx]).length
     rw [List.length_append]; rfl
    ·show AV.d (.int .i64 (IntKind.i64.wrap (((l + 1 : Nat) : Int) - 1))) = i64 ((l : Nat) : Int)
     rw [wrap_id (by omega) (by omega)]
     congr 2
     omega
    ·show some (Ob.ds 3 1 ((o.map encQ).take o.length ++ [encQ nx])) = some (Ob.ds 3 1 ((o ++ [nx]).map encQ))
     rw [List.take_of_length_le (by simp)]
     simp
  ·have h5 : left = 0 := by
    have : ¬ (left : Int) > 0 := fun e => h5 (decide_eq_true e)
    omega
   subst h5
   conv => whnf
   refine .inl ?_
   conv => whnf
   have hoe : cycI edges n = some o := by rw [hcy, ← hw]; rfl
   rw [cycOf_at h hno hoe (by have : 1 ≤ o.length := ho1; intro e; rw [e] at this; simp at this)]
   have ho1 : 1 ≤ o.length := ho1
   show AV.tup [AV.d (.sl ((o.map encQ).take o.length)), bv true] = _
   rw [List.take_of_length_le (by simp)]
   cases o with
   |nil => simp at ho1
   |cons x xs => rfl
 ·have h : n = 100 := by
   have : ¬ (n : Int) < 100 := fun e => h (decide_eq_true e)
   omega
  subst h
  have h0 : cycOf edges = [] := by
   unfold cycOf
   have : (List.range 100).findSome? (fun n => match cycI edges n with | some (x :: xs) => some (x :: xs) | _ => none) = none := by
    rw [List.findSome?_eq_none_iff]
    intro k hk
    rw [hno k (by simpa using hk)]
   rw [this]; rfl
  conv => whnf
  rw [h0]
  refine .inl ?_
  conv => whnf
  rfl
end Ai
end
section
namespace Ai.Cyc
theorem fold_none {goal cur : Nat} : ∀ (es : List (Nat × Nat)) (st : BS), (∀ e ∈ es, e.2 ≠ cur) → es.foldl (bsE goal cur) st = st
 | [], st, h => rfl
 |e :: es, st, h => by
  have : bsE goal cur st e = st := by
   unfold bsE
   rw [if_pos (by rw [Bool.or_eq_true]; exact .inl (bne_iff_ne.2 (h e List.mem_cons_self)))]
  rw [List.foldl_cons, this]
  exact fold_none es st fun x hx => h x (List.mem_cons_of_mem _ hx)
theorem run_far {n : Nat} {edges : List (Nat × Nat)} (h : ∀ e ∈ edges, e.2 ≠ n) : bsRun n edges 7 0 (bs0 n) = some (bs0 n) := by
 unfold bsRun
 rw [if_pos (by simp [bs0])]
 rw [show (bs0 n).queue.getD 0 0 = n from rfl, fold_none edges _ h]
 unfold bsRun
 rw [if_neg (by simp [bs0])]
theorem cycI_far {n : Nat} {edges : List (Nat × Nat)} (h : ∀ e ∈ edges, e.2 ≠ n) : cycI edges n = some [] := by
 unfold cycI
 rw [run_far h]
 have : (bs0 n).out.getD n 0 = 0 := by
  simp only [bs0, List.getD_eq_getElem?_getD, List.getElem?_replicate]
  split <;> rfl
 show (if (bs0 n).out.getD n 0 = 0 then some [] else _) = _
 rw [if_pos this]
theorem cycS_far {n : Nat} {edges : List (Nat × Nat)} (h : ∀ e ∈ edges, e.1 ≠ n) : cycS edges n = some [] := by
 have hf : edges.find? (fun e => e.1 == n) = none := by
  rw [List.find?_eq_none]
  intro e he
  simpa using h e he
 unfold cycS wayS
 rw [if_pos (by simp)]
 have : (([[n]] : List (List Nat)).getD 0 []).getLastD 0 = n := rfl
 rw [this, hf]
 unfold wayS
 rw [if_neg (by simp)]
structure Graph (edges : List (Nat × Nat)) : Prop where
 g : ∃ a b c d e : Option Nat, (a ∈ opts ∧ b ∈ opts ∧ c ∈ opts ∧ d ∈ opts ∧ e ∈ opts) ∧ edges = ed 0 a ++ ed 1 b ++ ed 2 c ++ ed 3 d ++ ed 4 e
theorem ed_in {k : Nat} {o : Option Nat} (ho : o ∈ opts) (hk : k < 5) : ∀ e ∈ ed k o, e.1 < 5 ∧ e.2 < 5 := by
 intro e he
 simp only [opts, List.mem_cons, List.not_mem_nil, or_false] at ho
 rcases ho with rfl | rfl | rfl | rfl | rfl | rfl <;> simp [ed] at he <;> subst he <;> exact ⟨hk, by simp⟩
theorem Graph.small {edges : List (Nat × Nat)} (h : Graph edges) : ∀ e ∈ edges, e.1 < 5 ∧ e.2 < 5 := by
 obtain ⟨a, b, c, d, e, ⟨ha, hb, hc, hd, he⟩, rfl⟩ := h.g
 intro x hx
 simp only [List.mem_append] at hx
 rcases hx with (((hx | hx) | hx) | hx) | hx
 ·exact ed_in ha (by decide) x hx
 ·exact ed_in hb (by decide) x hx
 ·exact ed_in hc (by decide) x hx
 ·exact ed_in hd (by decide) x hx
 ·exact ed_in he (by decide) x hx
theorem ed_len (k : Nat) (o : Option Nat) : (ed k o).length ≤ 1 := by cases o <;> simp [ed]
theorem Graph.len {edges : List (Nat × Nat)} (h : Graph edges) : edges.length ≤ 5 := by
 obtain ⟨a, b, c, d, e, -, rfl⟩ := h.g
 simp only [List.length_append]
 have := ed_len 0 a; have := ed_len 1 b; have := ed_len 2 c; have := ed_len 3 d; have := ed_len 4 e
 omega
theorem Graph.same {edges : List (Nat × Nat)} (h : Graph edges) (n : Nat) : (cycI edges n).isSome = true ∧ cycI edges n = cycS edges n := by
 by_cases hn : n < 5
 ·obtain ⟨a, b, c, d, e, ⟨ha, hb, hc, hd, he⟩, rfl⟩ := h.g
  have := ok_all a b c d e ha hb hc hd he
  simp only [ok, List.all_eq_true, List.mem_range, Bool.and_eq_true, beq_iff_eq] at this
  exact this n hn
 ·have h1 : cycI edges n = some [] := cycI_far fun e he => by have := h.small e he; omega
  have h2 : cycS edges n = some [] := cycS_far fun e he => by have := h.small e he; omega
  rw [h1, h2]
  exact ⟨rfl, rfl⟩
theorem Graph.run {edges : List (Nat × Nat)} (h : Graph edges) (n : Nat) : (bsRun n edges 7 0 (bs0 n)).isSome = true := by
 have := (h.same n).1
 unfold cycI at this
 cases hr : bsRun n edges 7 0 (bs0 n) with
 |none => rw [hr] at this; cases this
 |some x => rfl
end Ai.Cyc
end
section
set_option maxRecDepth 100000
namespace Ai
open Go Go.Proofs Cyc
def cycSOf (edges : List (Nat × Nat)) : List Nat := ((List.range 100).findSome? fun n => match cycS edges n with | some (x :: xs) => some (x :: xs) | _ => none).getD []
theorem cyc_same {edges : List (Nat × Nat)} (h : Graph edges) : cycOf edges = cycSOf edges := by
 unfold cycOf cycSOf
 refine congrArg (fun f => ((List.range 100).findSome? f).getD []) (funext fun n => ?_)
 have e := (h.same n).2
 generalize cycI edges n = a at e ⊢
 subst e
 cases cycS edges n with
 |none => rfl
 |some l => cases l <;> rfl
theorem cycS_at {edges : List (Nat × Nat)} {n : Nat} {o : List Nat} (h : n < 100) (hno : ∀ k, k < n → cycS edges k = some []) (ho : cycS edges n = some o) (hne : o ≠ []) : cycSOf edges = o := by
 unfold cycSOf
 have hs : List.range 100 = (List.range 100).take n ++ n :: (List.range 100).drop (n + 1) := by
  have := (List.take_append_drop n (List.range 100)).symm
  rw [List.drop_eq_getElem_cons (by simp; omega), List.getElem_range] at this
  exact this
 have hf : (List.range 100).findSome? (fun n => match cycS edges n with | some (x :: xs) => some (x :: xs) | _ => none) = some o := by
  rw [List.findSome?_eq_some_iff]
  refine ⟨_, n, _, hs, ?_, fun x hx => ?_⟩
  ·rw [ho]
   cases o with
   |nil => exact absurd rfl hne
   |cons x xs => rfl
  ·obtain ⟨i, hi, rfl⟩ := List.mem_iff_getElem.1 hx
   have hi2 : i < n := by
    have := hi
    simp at this
    omega
   rw [List.getElem_take, List.getElem_range, hno i hi2]
 rw [hf]
 rfl
theorem l3Cycle_ok (edges : List (Nat × Nat)) (hG : Graph edges) (hW : ∀ n w, n < 100 → cycS edges n = some w → CallsTo EE 162 [sl (edges.map encG), i64 n, i64 n] (· = sl (w.map encQ))) :
  CallsTo EE 129 [sl (edges.map encG)] (· = sl ((cycSOf edges).map encQ)) := by
 refine callsTo_of_AW (fn := Tryz.f129) Tryz.func129 rfl (by kernel_rfl) rfl ?_
 conv => whnf
 refine aloop (fun n : Nat => [(0, sl (edges.map encG)), (3, i64 n)]) (fun n => []) (fun n => 100 - n) (fun n => n ≤ 100 ∧ ∀ k, k < n → cycS edges k = some []) 0
  Weak.refl ⟨rfl, rfl, trivial⟩ trivial ⟨Nat.zero_le _, fun k hk => by omega⟩ ?_
 rintro n τ H ⟨hn, hno⟩
 conv => whnf
 refine kbi (fun h => ?_) (fun h => ?_)
 ·have h : n < 100 := by
   have := of_decide_eq_true h
   omega
  obtain ⟨w, hw⟩ : ∃ w, cycS edges n = some w := by
   have := (hG.same n).1
   rw [(hG.same n).2] at this
   exact Option.isSome_iff_exists.1 this
  conv => whnf
  refine ⟨_, hW n w h hw, ?_⟩
  rintro r rfl
  conv => whnf
  refine kbi (fun h0 => ?_) (fun h0 => ?_)
  ·have h0 : 0 < w.length := by
    have := of_decide_eq_true h0
    simpa using this
   conv => whnf
   rw [cycS_at h hno hw (by intro e; rw [e] at h0; simp at h0)]
   try rfl
  ·have h0 : w = [] := by
    have h1 : ¬ ((w.map encQ).length : Int) > 0 := fun e => h0 (decide_eq_true e)
    have : w.length = 0 := by simp at h1; simpa using h1
    exact List.length_eq_zero_iff.1 this
   subst h0
   conv => whnf
   refine ⟨n + 1, ⟨by omega, fun k hk => ?_⟩, by show 100 - (n + 1) < 100 - n; omega, ⟨rfl, ?_, trivial⟩, trivial⟩
   ·by_cases hkn : k = n
    ·rw [hkn]; exact hw
    ·exact hno k (by omega)
   ·show AV.d (.int .i64 (IntKind.i64.wrap ((n : Int) + 1))) = i64 ((n + 1 : Nat) : Int)
    rw [wrap_id (by omega) (by omega)]
    rfl
 ·have h : n = 100 := by
   have : ¬ (n : Int) < 100 := fun e => h (decide_eq_true e)
   omega
  subst h
  have h0 : cycSOf edges = [] := by
   unfold cycSOf
   have : (List.range 100).findSome? (fun n => match cycS edges n with | some (x :: xs) => some (x :: xs) | _ => none) = none := by
    rw [List.findSome?_eq_none_iff]
    intro k hk
    rw [hno k (by simpa using hk)]
   rw [this]; rfl
  conv => whnf
  rw [h0]
  exact .inl rfl
end Ai
end
section
set_option maxRecDepth 100000
namespace Ai
open Go Go.Proofs
theorem dash_ok (l : List UInt8) : CallsTo EE 100 [sv l] (· = sv (if l = [] then [45] else l)) := by
 refine callsTo_of_AW (fn := Tryz.f100) Tryz.func100 rfl (by kernel_rfl) rfl ?_
 conv => whnf
 refine kbi (fun h => ?_) (fun h => ?_)
 ·have h : l = [] := by simpa using h
  conv => whnf
  rw [if_pos h]
  try rfl
 ·have h : ¬ l = [] := by simpa using h
  conv => whnf
  rw [if_neg h]
  try rfl
theorem joinNumbers_ok (xs : List Nat) (hl : xs.length ≤ 1000) (hx : ∀ x ∈ xs, x ≤ 1000000) (hlen : (Lib.join (xs.map fun x => Lib.itoa ((x : Nat) : Int)) [44]).length ≤ 140737488355328) :
  CallsTo EE 101 [sl (xs.map encQ)] (· = sv (Lib.join (xs.map fun x => Lib.itoa ((x : Nat) : Int)) [44])) := by
 refine callsTo_of_AW (fn := Tryz.f101) Tryz.func101 rfl (by kernel_rfl) rfl ?_
 conv => whnf
 refine aloop (fun k : Nat => [(0, sl (xs.map encQ)), (3, .ref (.n 6) 0 k), (7, sl (xs.map encQ)), (8, i64 (xs.map encQ).length), (9, i64 k)]) (fun k => [(.n 6, .ds 9 1 (((xs.take k).map fun x => Lib.itoa ((x : Nat) : Int)).map encStr))]) (fun k => xs.length - k) (fun k => k ≤ xs.length) 0
  Weak.refl ⟨rfl, rfl, rfl, rfl, rfl, trivial⟩ ⟨rfl, trivial⟩ (Nat.zero_le _) ?_
 intro k τ H hk
 have hk : k ≤ xs.length := hk
 conv => whnf
 refine kbi (fun h => ?_) (fun h => ?_)
 ·have hlt : k < xs.length := by simpa using h
  have hxk := hx _ (List.getElem_mem hlt)
  conv => whnf
  refine ⟨encQ xs[k], ⟨by omega, by simp [hlt], rfl⟩, ?_⟩
  conv => whnf
  refine ⟨_, Itoa_ok ((xs[k] : Nat) : Int) (by omega) (by omega), ?_⟩
  rintro r rfl
  conv => whnf
  refine ⟨⟨rfl, by show (k + 1) * 16 ≤ _; omega, by show k + 1 ≤ _; omega⟩, ?_⟩
  conv => whnf
  refine ⟨k + 1, by show k + 1 ≤ xs.length; omega, by show xs.length - (k + 1) < xs.length - k; omega, ⟨rfl, rfl, rfl, rfl, ?_, trivial⟩, ⟨?_, trivial⟩⟩
  ·show AV.d (.int .i64 (IntKind.i64.wrap ((k : Int) + 1))) = i64 ((k + 1 : Nat) : Int)
   rw [wrap_id (by omega) (by omega)]
   rfl
  ·show some (Ob.ds 9 1 ((((xs.take k).map fun x => Lib.itoa ((x : Nat) : Int)).map encStr).take k ++ [encStr (Lib.itoa ((xs[k] : Nat) : Int))])) = some (Ob.ds 9 1 (((xs.take (k + 1)).map fun x => Lib.itoa ((x : Nat) : Int)).map encStr))
   have e0 : (((xs.take k).map fun x => Lib.itoa ((x : Nat) : Int)).map encStr).take k = ((xs.take k).map fun x => Lib.itoa ((x : Nat) : Int)).map encStr := List.take_of_length_le (by simp; omega)
   rw [e0, List.take_succ_eq_append_getElem hlt, List.map_append, List.map_append]
   rfl
 ·have hge : xs.length ≤ k := by simpa using h
  have hkk : k = xs.length := by omega
  subst hkk
  conv => whnf
  have e : ((((xs.take xs.length).map fun x => Lib.itoa ((x : Nat) : Int)).map encStr).drop 0).take xs.length = (xs.map fun x => Lib.itoa ((x : Nat) : Int)).map encStr := by
   rw [List.drop_zero, List.take_length, List.take_of_length_le (by simp)]
  refine .inl ⟨_, Eq.mp (congrArg (fun x => CallsTo EE 139 [sl x, sv [44]] _) e.symm) (Join_ok (xs.map fun x => Lib.itoa ((x : Nat) : Int)) [44] (by simp; omega) hlen), ?_⟩
  rintro r rfl
  refine ⟨rfl, ?_⟩
  conv => whnf
  try rfl
end Ai
end
section
set_option maxRecDepth 100000
namespace Ai
open Go Go.Proofs Cyc
theorem l1Put0_ok (n : Int) : CallsTo EE 195 [sl [], i64 n] (· = .uq 3 1 [[di n]]) := by
 refine callsTo_of_AW (fn := Tryz.f195) Tryz.func195 rfl (by kernel_rfl) rfl ?_
 conv => whnf
 refine aloop (fun _ : Unit => [(0, sl []), (1, i64 n), (5, i64 0)]) (fun _ => []) (fun _ => 0) (fun _ => True) ()
  Weak.refl ⟨rfl, rfl, rfl, trivial⟩ trivial trivial ?_
 rintro ⟨⟩ τ H -
 conv => whnf
 refine kbi (fun h => absurd h (by decide)) (fun h => ?_)
 conv => whnf
 refine kbi (fun h2 => absurd h2 (by decide)) (fun h2 => ?_)
 conv => whnf
 refine ⟨⟨Int.le_refl _, Int.le_refl _, Int.le_refl _, fun c hc => (by cases hc)⟩, ?_⟩
 conv => whnf
 refine ⟨⟨rfl, by decide, by decide⟩, ?_⟩
 conv => whnf
 refine ⟨⟨rfl, by show (8 : Nat) ≤ _; decide, by show (1 : Nat) ≤ _; decide⟩, ?_⟩
 conv => whnf
 refine ⟨⟨Int.le_refl _, Int.le_refl _, Int.le_refl _, fun c hc => (by cases hc)⟩, ?_⟩
 conv => whnf
 refine ⟨⟨rfl, by show (8 : Nat) ≤ _; decide, by show (1 : Nat) ≤ _; decide⟩, ?_⟩
 conv => whnf
 try rfl
end Ai
end
section
set_option maxRecDepth 100000
namespace Ai
open Go Go.Proofs Cyc
def encW (w : List Nat) : List D := [.sl (w.map encQ)]
def OneEach (edges : List (Nat × Nat)) : Prop := ∀ i j (hi : i < edges.length) (hj : j < edges.length), edges[i].1 = edges[j].1 → i = j
def nxv : Option Nat → AV
 |none => .d .nil
 |some b => .d (.sl [[di (b : Int)]])
theorem l3Way_ok (edges : List (Nat × Nat)) (n : Nat) (w : List Nat) (hl : edges.length ≤ 5) (ho : OneEach edges) (hw : wayS edges n 8 0 [[n]] [] = some w) :
  CallsTo EE 162 [sl (edges.map encG), i64 n, i64 n] (· = sl (w.map encQ)) := by
 refine callsTo_of_AW (fn := Tryz.f162) Tryz.func162 rfl (by kernel_rfl) rfl ?_
 conv => whnf
 refine .inl ?_
 conv => whnf
 refine aloop (fun x : Nat × List (List Nat) × List Nat => [(0, sl (edges.map encG)), (1, i64 n), (2, i64 n), (6, .d .nil), (7, .ref (.n 18) 0 x.2.1.length), (8, .ref (.n 68) 0 x.2.2.length), (9, i64 x.1)])
  (fun x => [(.n 18, .ds 25 1 (x.2.1.map encW)), (.n 68, .ds 3 1 (x.2.2.map encQ))]) (fun x => 8 - x.1)
  (fun x => ∃ f, f + x.1 = 8 ∧ wayS edges n f x.1 x.2.1 x.2.2 = some w ∧ x.2.1.length ≤ x.1 + 1 ∧ (∀ v ∈ x.2.1, 1 ≤ v.length ∧ v.length ≤ x.1 + 1) ∧ x.2.2.length ≤ x.1) (0, [[n]], [])
  (weak_nil 8 (.n 68) 3 1 rfl) ?_ ?_ ⟨8, rfl, hw, by simp, by simp, by simp⟩ ?_
 ·exact ⟨rfl, rfl, rfl, rfl, rfl, rfl, rfl, trivial⟩
 ·exact ⟨rfl, rfl, trivial⟩
 rintro ⟨i, ways, seen⟩ τ H ⟨f, hf, hrun, hwl, hne, hsl⟩
 cases f with
 |zero => cases hrun
 |succ f =>
 have hf : f + 1 + i = 8 := hf
 have hrun : wayS edges n (f + 1) i ways seen = some w := hrun
 have hwl : ways.length ≤ i + 1 := hwl
 have hne : ∀ v ∈ ways, 1 ≤ v.length ∧ v.length ≤ i + 1 := hne
 have hsl : seen.length ≤ i := hsl
 conv => whnf
 refine kbi (fun hi => ?_) (fun hi => ?_)
 ·have hi : i < ways.length := by
   have := of_decide_eq_true hi
   simpa using this
  have hwi := hne _ (List.getElem_mem hi)
  have hgd : ways.getD i [] = ways[i] := by simp [List.getD_eq_getElem?_getD, hi]
  unfold wayS at hrun
  rw [if_pos hi, hgd] at hrun
  generalize hv : ways[i] = v at *
  have hvl : v.getLastD 0 = v.getD (v.length - 1) 0 := by
   rw [List.getLastD_eq_getLast?, List.getLast?_eq_getElem?, List.getD_eq_getElem?_getD]
  conv => whnf
  refine ⟨⟨by omega, by show (i : Int) < ways.length; omega⟩, ?_⟩
  conv => whnf
  refine ⟨encW v, ⟨by rw [Nat.zero_add]; show (ways.map encW)[i]? = _; rw [List.getElem?_map, List.getElem?_eq_getElem hi, hv]; rfl, by show 0 + 1 ≤ 1; omega⟩, ?_⟩
  conv => whnf
  have ewl : IntKind.i64.wrap ((v.length : Int) - 1) = ((v.length - 1 : Nat) : Int) := by rw [wrap_id (by omega) (by omega)]; omega
  generalize hlast : v.getLastD 0 = last at *
  refine aloop (fun y : Nat × Option Nat => [(0, sl (edges.map encG)), (1, i64 n), (2, i64 n), (6, .d .nil), (7, .ref (.n 18) 0 ways.length), (8, .ref (.n 68) 0 seen.length), (9, i64 i), (10, sl (v.map encQ)), (11, nxv y.2), (29, sl (edges.map encG)), (30, i64 (edges.map encG).length), (31, i64 y.1)])
   (fun y => [(.n 18, .ds 25 1 (ways.map encW)), (.n 68, .ds 3 1 (seen.map encQ))]) (fun y => edges.length - y.1)
   (fun y => y.1 ≤ edges.length ∧ y.2 = ((edges.take y.1).find? (fun e => e.1 == last)).map (·.2)) (0, none)
   Weak.refl ⟨rfl, rfl, rfl, rfl, rfl, rfl, rfl, rfl, rfl, rfl, rfl, rfl, trivial⟩ ⟨rfl, rfl, trivial⟩ ⟨Nat.zero_le _, rfl⟩ ?_
  rintro ⟨j, q⟩ τ2 H2 ⟨hj, hq⟩
  have hj : j ≤ edges.length := hj
  have hq : q = ((edges.take j).find? (fun e => e.1 == last)).map (·.2) := hq
  conv => whnf
  refine kbi (fun hje => ?_) (fun hje => ?_)
  ·have hje : j < edges.length := by simpa using hje
   have hnext : (edges.take (j + 1)).find? (fun e => e.1 == last) = ((edges.take j).find? (fun e => e.1 == last)).or (if edges[j].1 == last then some edges[j] else none) := by
    rw [List.take_succ_eq_append_getElem hje, List.find?_append]
    congr 1
    simp only [List.find?_cons]
    cases (edges[j].1 == last) <;> rfl
   conv => whnf
   refine ⟨encG edges[j], ⟨by omega, by simp [hje], rfl⟩, ?_⟩
   conv => whnf
   refine ⟨by kernel_rfl, ?_⟩
   conv => whnf
   refine ⟨[di edges[j].1], ⟨by decide, rfl, rfl⟩, ?_⟩
   conv => whnf
   refine ⟨encQ last, ⟨?_, ?_, rfl⟩, ?_⟩
   ·show (0 : Int) ≤ IntKind.i64.wrap (((v.map encQ).length : Int) - 1)
    rw [List.length_map, ewl]; omega
   ·show (v.map encQ)[(IntKind.i64.wrap (((v.map encQ).length : Int) - 1)).toNat]? = _
    rw [List.length_map, ewl, hvl, List.getElem?_map, List.getD_eq_getElem?_getD]
    show (v[v.length - 1]?).map encQ = _
    rw [List.getElem?_eq_getElem (by omega)]
    rfl
   conv => whnf
   refine kbi (fun h7 => ?_) (fun h7 => ?_)
   ·have h7 : edges[j].1 = last := by
     have h8 : ((edges[j].1 : Int) == (last : Int)) = true := h7
     rw [beq_iff_eq] at h8
     omega
    have hnone : (edges.take j).find? (fun e => e.1 == last) = none := by
     rw [List.find?_eq_none]
     intro e he
     obtain ⟨k, hk, rfl⟩ := List.mem_take_iff_getElem.1 he
     intro e2
     have e2 : edges[k].1 = last := by simpa using e2
     have := ho k j (by omega) hje (by rw [e2, h7])
     omega
    rw [hnone] at hq hnext
    have hq : q = none := hq
    subst hq
    conv => whnf
    refine ⟨[di edges[j].2], ⟨by decide, rfl, rfl⟩, ?_⟩
    conv => whnf
    refine ⟨_, l1Put0_ok (edges[j].2 : Int), ?_⟩
    rintro r rfl
    refine .inl ?_
    conv => whnf
    refine ⟨(j + 1, some edges[j].2), ⟨by show j + 1 ≤ edges.length; omega, by show some edges[j].2 = _; rw [hnext, h7]; simp⟩, by show edges.length - (j + 1) < edges.length - j; omega, ⟨rfl, rfl, rfl, rfl, rfl, rfl, rfl, rfl, rfl, rfl, rfl, ?_, trivial⟩, ⟨rfl, rfl, trivial⟩⟩
    show AV.d (.int .i64 (IntKind.i64.wrap ((j : Int) + 1))) = i64 ((j + 1 : Nat) : Int)
    rw [wrap_id (by omega) (by omega)]
    rfl
   ·have h7 : edges[j].1 ≠ last := by
     intro e
     apply h7
     show ((edges[j].1 : Int) == (last : Int)) = true
     rw [beq_iff_eq, e]
    conv => whnf
    refine ⟨(j + 1, q), ⟨by show j + 1 ≤ edges.length; omega, by show q = _; rw [hnext, hq]; simp [h7]⟩, by show edges.length - (j + 1) < edges.length - j; omega, ⟨rfl, rfl, rfl, rfl, rfl, rfl, rfl, rfl, rfl, rfl, rfl, ?_, trivial⟩, ⟨rfl, rfl, trivial⟩⟩
    show AV.d (.int .i64 (IntKind.i64.wrap ((j : Int) + 1))) = i64 ((j + 1 : Nat) : Int)
    rw [wrap_id (by omega) (by omega)]
    rfl
  ·have hje : edges.length ≤ j := by simpa using hje
   have hjj : j = edges.length := by omega
   rw [hjj, List.take_length] at hq
   cases hfd : edges.find? (fun e => e.1 == last) with
   |none =>
    rw [hfd] at hq hrun
    have hq : q = none := hq
    subst hq
    conv => whnf
    refine aloop (fun _ : Unit => [(0, sl (edges.map encG)), (1, i64 n), (2, i64 n), (6, .d .nil), (7, .ref (.n 18) 0 ways.length), (8, .ref (.n 68) 0 seen.length), (9, i64 i), (52, i64 0), (53, i64 0)])
     (fun _ => [(.n 18, .ds 25 1 (ways.map encW)), (.n 68, .ds 3 1 (seen.map encQ))]) (fun _ => 0) (fun _ => True) ()
     Weak.refl ⟨rfl, rfl, rfl, rfl, rfl, rfl, rfl, rfl, rfl, trivial⟩ ⟨rfl, rfl, trivial⟩ trivial ?_
    rintro ⟨⟩ τ3 H3 -
    conv => whnf
    refine kbi (fun h8 => absurd h8 (by decide)) (fun h8 => ?_)
    conv => whnf
    refine ⟨(i + 1, ways, seen), ⟨f, by show f + (i + 1) = 8; omega, hrun, by show ways.length ≤ i + 1 + 1; omega, fun v hv => ⟨(hne v hv).1, Nat.le_succ_of_le (hne v hv).2⟩, Nat.le_succ_of_le hsl⟩, by show 8 - (i + 1) < 8 - i; omega, ⟨rfl, rfl, rfl, rfl, rfl, rfl, ?_, trivial⟩, ⟨rfl, rfl, trivial⟩⟩
    show AV.d (.int .i64 (IntKind.i64.wrap ((i : Int) + 1))) = i64 ((i + 1 : Nat) : Int)
    rw [wrap_id (by omega) (by omega)]
    rfl
   |some e =>
    rw [hfd] at hq hrun
    have hq : q = some e.2 := hq
    subst hq
    conv => whnf
    have hrun : (if e.2 = n then some v else if seen.contains e.2 = true then wayS edges n f (i + 1) ways seen else wayS edges n f (i + 1) (ways ++ [v ++ [e.2]]) (seen ++ [e.2])) = some w := hrun
    refine aloop (fun z : Nat × List (List Nat) × List Nat => [(0, sl (edges.map encG)), (1, i64 n), (2, i64 n), (6, .d .nil), (7, .ref (.n 18) 0 z.2.1.length), (8, .ref (.n 68) 0 z.2.2.length), (9, i64 i), (10, sl (v.map encQ)), (51, .d (.sl [[di (e.2 : Int)]])), (52, i64 1), (53, i64 z.1)])
     (fun z => [(.n 18, .ds 25 1 (z.2.1.map encW)), (.n 68, .ds 3 1 (z.2.2.map encQ))]) (fun z => 1 - z.1)
     (fun z => (z.1 = 0 ∧ z.2.1 = ways ∧ z.2.2 = seen) ∨ (z.1 = 1 ∧ wayS edges n f (i + 1) z.2.1 z.2.2 = some w ∧ z.2.1.length ≤ i + 2 ∧ (∀ v ∈ z.2.1, 1 ≤ v.length ∧ v.length ≤ i + 2) ∧ z.2.2.length ≤ i + 1)) (0, ways, seen)
     Weak.refl ⟨rfl, rfl, rfl, rfl, rfl, rfl, rfl, rfl, rfl, rfl, rfl, trivial⟩ ⟨rfl, rfl, trivial⟩ (.inl ⟨rfl, rfl, rfl⟩) ?_
    rintro ⟨k, W, Sn⟩ τ3 H3 hz
    rcases hz with ⟨hk, hW, hS⟩ | ⟨hk, hrun2, hWl, hWn, hSl⟩
    ·obtain rfl : k = 0 := hk
     obtain rfl : W = ways := hW
     obtain rfl : Sn = seen := hS
     conv => whnf
     refine kbi (fun _ => ?_) (fun h8 => absurd (show decide ((0 : Int) < 1) = true from rfl) h8)
     conv => whnf
     refine ⟨[di (e.2 : Int)], ⟨Int.le_refl _, rfl, rfl⟩, ?_⟩
     conv => whnf
     refine kbi (fun h9 => ?_) (fun h9 => ?_)
     ·have h9 : e.2 = n := by
       have h8 : ((e.2 : Int) == (n : Int)) = true := h9
       rw [beq_iff_eq] at h8
       omega
      rw [if_pos h9] at hrun
      obtain rfl := Option.some.inj hrun
      conv => whnf
      try rfl
     have h9 : e.2 ≠ n := by
      intro q
      apply h9
      show ((e.2 : Int) == (n : Int)) = true
      rw [beq_iff_eq, q]
     rw [if_neg h9] at hrun
     conv => whnf
     have hsn : ((Sn.map encQ).drop 0).take Sn.length = (Sn.map fun x => ((x : Nat) : Int)).map encInt := by
      rw [List.drop_zero, List.take_of_length_le (by simp), List.map_map]; rfl
     refine .inl ⟨_, l1Has_at _ (Sn.map fun x => ((x : Nat) : Int)) (e.2 : Int) hsn (by simp; omega), ?_⟩
     rintro r rfl
     refine ⟨rfl, ?_⟩
     by_cases hc : e.2 ∈ Sn
     ·rw [if_pos (by simpa using hc)] at hrun
      simp only [bp, pb_t (show ((e.2 : Nat) : Int) ∈ Sn.map fun x => ((x : Nat) : Int) from List.mem_map.2 ⟨e.2, hc, rfl⟩)]
      conv => whnf
      refine ⟨(1, W, Sn), .inr ⟨rfl, hrun, by show W.length ≤ i + 2; omega, fun v hv => ⟨(hne v hv).1, Nat.le_succ_of_le (hne v hv).2⟩, by show Sn.length ≤ i + 1; omega⟩, by show 1 - 1 < 1 - 0; omega, ⟨rfl, rfl, rfl, rfl, rfl, rfl, rfl, rfl, rfl, rfl, rfl, trivial⟩, ⟨rfl, rfl, trivial⟩⟩
     ·rw [if_neg (by simpa using hc)] at hrun
      have hm2 : ¬ ((e.2 : Nat) : Int) ∈ Sn.map fun x => ((x : Nat) : Int) := by
       intro hm
       obtain ⟨x, hx, hx2⟩ := List.mem_map.1 hm
       have hxe : x = e.2 := by omega
       rw [hxe] at hx
       exact hc hx
      simp only [bp, pb_f hm2]
      conv => whnf
      refine ⟨⟨rfl, by show (Sn.length + 1) * 8 ≤ _; omega, by show Sn.length + 1 ≤ _; omega⟩, ?_⟩
      conv => whnf
      have hvq : v.map encQ = (v.map fun x => ((x : Nat) : Int)).map encInt := by rw [List.map_map]; rfl
      refine ⟨_, Eq.mp (congrArg (fun x => CallsTo EE 83 [sl x] _) hvq.symm) (l1Own_ok (v.map fun x => ((x : Nat) : Int)) (by simp; omega)), ?_⟩
      rintro r rfl
      rw [← hvq]
      refine .inr ⟨71, rfl, ?_⟩
      conv => whnf
      refine ⟨⟨rfl, by show ((v.map encQ).length + 1) * 8 ≤ _; simp; omega, by show (v.map encQ).length + 1 ≤ _; simp; omega⟩, ?_⟩
      conv => whnf
      refine .inl ?_
      conv => whnf
      have evw : (((v.map encQ).take (v.map encQ).length ++ [[di (e.2 : Int)]]).drop 0).take ((v.map encQ).length + 1) = (v ++ [e.2]).map encQ := by
       rw [List.take_length, List.drop_zero, List.take_of_length_le (by simp), List.map_append]; rfl
      refine ⟨⟨rfl, by show (W.length + 1) * 24 ≤ _; omega, by show W.length + 1 ≤ _; omega⟩, ?_⟩
      conv => whnf
      refine ⟨(1, W ++ [v ++ [e.2]], Sn ++ [e.2]), .inr ⟨rfl, hrun, by show (W ++ [v ++ [e.2]]).length ≤ i + 2; simp; omega, fun u hu => ?_, by show (Sn ++ [e.2]).length ≤ i + 1; simp; omega⟩, by show 1 - 1 < 1 - 0; omega, ⟨rfl, rfl, rfl, rfl, ?_, ?_, rfl, rfl, rfl, rfl, rfl, trivial⟩, ⟨?_, ?_, trivial⟩⟩
      ·rcases List.mem_append.1 hu with hu | hu
       ·exact ⟨(hne u hu).1, Nat.le_succ_of_le (hne u hu).2⟩
       ·simp only [List.mem_cons, List.not_mem_nil, or_false] at hu
        subst hu
        simp; omega
      ·show AV.ref (.n 18) 0 (W.length + 1) = .ref (.n 18) 0 (W ++ [v ++ [e.2]]).length
       rw [List.length_append]; rfl
      ·show AV.ref (.n 68) 0 (Sn.length + 1) = .ref (.n 68) 0 (Sn ++ [e.2]).length
       rw [List.length_append]; rfl
      ·show some (Ob.ds 25 1 ((W.map encW).take W.length ++ [[.sl ((((v.map encQ).take (v.map encQ).length ++ [[di (e.2 : Int)]]).drop 0).take ((v.map encQ).length + 1))]])) = some (Ob.ds 25 1 ((W ++ [v ++ [e.2]]).map encW))
       have e2 : (W ++ [v ++ [e.2]]).map encW = W.map encW ++ [encW (v ++ [e.2])] := by rw [List.map_append]; rfl
       rw [evw, List.take_of_length_le (by simp), e2]; rfl
      ·show some (Ob.ds 3 1 ((Sn.map encQ).take Sn.length ++ [[di (e.2 : Int)]])) = some (Ob.ds 3 1 ((Sn ++ [e.2]).map encQ))
       rw [List.take_of_length_le (by simp), List.map_append]; rfl
    ·obtain rfl : k = 1 := hk
     conv => whnf
     refine kbi (fun h8 => absurd h8 (show ¬ decide ((1 : Int) < 1) = true from by decide)) (fun h8 => ?_)
     conv => whnf
     refine ⟨(i + 1, W, Sn), ⟨f, by show f + (i + 1) = 8; omega, hrun2, hWl, hWn, hSl⟩, by show 8 - (i + 1) < 8 - i; omega, ⟨rfl, rfl, rfl, rfl, rfl, rfl, ?_, trivial⟩, ⟨rfl, rfl, trivial⟩⟩
     show AV.d (.int .i64 (IntKind.i64.wrap ((i : Int) + 1))) = i64 ((i + 1 : Nat) : Int)
     rw [wrap_id (by omega) (by omega)]
     rfl
 ·have hi : ¬ i < ways.length := by
   have := fun e => hi (decide_eq_true e)
   intro e
   apply this
   show (i : Int) < ways.length
   omega
  unfold wayS at hrun
  rw [if_neg hi] at hrun
  obtain rfl := Option.some.inj hrun
  conv => whnf
  exact .inl rfl
end Ai
end
section
set_option maxRecDepth 100000
namespace Ai
open Go Go.Proofs Cyc
theorem one_each {edges : List (Nat × Nat)} (h : Graph edges) : OneEach edges := by
 have hn : edges.Pairwise fun x y => x.1 ≠ y.1 := by
  obtain ⟨a, b, c, d, e, -, rfl⟩ := h.g
  cases a <;> cases b <;> cases c <;> cases d <;> cases e <;> simp [ed]
 rw [List.pairwise_iff_getElem] at hn
 intro i j hi hj e
 rcases Nat.lt_trichotomy i j with h1 | h1 | h1
 ·exact absurd e (hn i j hi hj h1)
 ·exact h1
 ·exact absurd e.symm (hn j i hj hi h1)
theorem l3CycleG_ok (edges : List (Nat × Nat)) (hG : Graph edges) : CallsTo EE 129 [sl (edges.map encG)] (· = sl ((cycSOf edges).map encQ)) :=
 l3Cycle_ok edges hG fun n w hn hw => l3Way_ok edges n w hG.len (one_each hG) hw
theorem cycleG_ok (edges : List (Nat × Nat)) (hG : Graph edges) : CallsTo EE 98 [sl (edges.map encG)] (· = .tup [sl ((cycSOf edges).map encQ), bv (!(cycSOf edges).isEmpty)]) := by
 rw [← cyc_same hG]
 exact cycleI_ok edges hG.len (fun e he => by have := hG.small e he; omega) fun n _ => hG.run n
end Ai
end
section
set_option maxRecDepth 100000
namespace Ai
open Go Go.Proofs Cyc
def OInv (s : StL) : Prop := ∀ x ∈ s.owner, -1 ≤ x ∧ x < s.ths.length
theorem oinv_put {s : StL} {k : Nat} {t : Th} (h : OInv s) : OInv (s.put k t) := by
 intro x hx
 have := h x hx
 simpa [StL.put] using this
theorem oinv_set {s : StL} {i : Nat} {v : Int} (h : OInv s) (hv : -1 ≤ v ∧ v < s.ths.length) : OInv { s with owner := s.owner.set i v } := by
 intro x hx
 rcases List.mem_or_eq_of_mem_set hx with e | e
 ·exact h x e
 ·subst e; exact hv
theorem oinv_do {s : StL} {k : Nat} {o : OpL} {e : Ev} (hk : k < s.ths.length) (h : OInv s) : OInv (doL s k o e).1 := by
 unfold doL
 simp only
 generalize s.ths.getD k th0 = t at *
 by_cases n1 : o.code = 1
 ·rw [if_pos n1]; exact oinv_put h
 rw [if_neg n1]
 by_cases n2 : o.code = 2
 ·rw [if_pos n2]; exact oinv_put h
 rw [if_neg n2]
 by_cases n3 : o.code = 3
 ·rw [if_pos n3]; exact oinv_put (s := { s with cells := _ }) h
 rw [if_neg n3]
 by_cases n10 : o.code = 10
 ·rw [if_pos n10]; exact oinv_put h
 rw [if_neg n10]
 by_cases n11 : o.code = 11
 ·rw [if_pos n11]; exact oinv_put h
 rw [if_neg n11]
 by_cases n12 : o.code = 12
 ·rw [if_pos n12]; exact oinv_put (oinv_set h ⟨by omega, by omega⟩)
 rw [if_neg n12]
 by_cases n13 : o.code = 13
 ·rw [if_pos n13]; exact oinv_put (oinv_set h ⟨by omega, by omega⟩)
 rw [if_neg n13]
 by_cases n14 : o.code = 14
 ·rw [if_pos n14]
  refine oinv_put (s := { s with ths := _ }) fun x hx => ?_
  have := h x hx
  refine ⟨this.1, ?_⟩
  show x < ((s.ths ++ [newTh o.a]).length : Int)
  simp; omega
 rw [if_neg n14]
 by_cases n15 : o.code = 15
 ·rw [if_pos n15]; exact oinv_put h
 rw [if_neg n15]
 by_cases n16 : o.code = 16
 ·rw [if_pos n16]; exact oinv_put (oinv_set h ⟨by omega, by omega⟩)
 rw [if_neg n16]
 by_cases n17 : o.code = 17
 ·rw [if_pos n17]
  cases wakeIx s.ths o.a with
  |none => exact oinv_put h
  |some j =>
   refine oinv_put (s := { s with ths := _ }) fun x hx => ?_
   have := h x hx
   refine ⟨this.1, ?_⟩
   show x < ((s.ths.modify j fun u => { u with st := 4 }).length : Int)
   simp; omega
 rw [if_neg n17]
 exact oinv_put h
theorem oinv_step {p : ProgL} {s : StL} {k : Nat} (hk : k < s.ths.length) (h : OInv s) : OInv (stepL p s k).1 := by
 unfold stepL
 simp only
 split
 ·exact oinv_put (oinv_set h ⟨by omega, by omega⟩)
 ·split
  ·exact oinv_put h
  ·split
   ·exact oinv_do hk h
   ·exact h
theorem oinv_new (p : ProgL) : OInv (newL p) := by
 intro x hx
 obtain ⟨_, rfl⟩ := List.mem_replicate.1 hx
 simp [newL]
end Ai
end
section
set_option maxRecDepth 100000
namespace Ai
open Go Go.Proofs Cyc
theorem owner_lt {s : StL} (h : OInv s) (h1 : 1 ≤ s.ths.length) (i : Nat) : s.owner.getD i 0 < s.ths.length := by
 rw [List.getD_eq_getElem?_getD]
 cases hg : s.owner[i]? with
 |none => show (0 : Int) < _; omega
 |some x => exact (h x (List.mem_of_getElem? hg)).2
theorem blocks_lt {p : ProgL} {s : StL} (h : OInv s) (h1 : 1 ≤ s.ths.length) (t : Th) : blocksOf p s t < s.ths.length := by
 unfold blocksOf
 split
 ·exact owner_lt h h1 _
 ·split
  ·omega
  ·split
   ·split
    ·exact owner_lt h h1 _
    ·split
     ·split
      ·rename_i k hk
       split
       ·omega
       ·exact (joins_range idxRange hk).2
      ·omega
     ·omega
   ·omega
end Ai
end
section
set_option maxRecDepth 100000
namespace Ai
open Go Go.Proofs Cyc
noncomputable def edgesN (p : ProgL) (s : StL) : List (Nat × Nat) := (edgesL p s).map fun e => (e.1, e.2.toNat)
theorem edges_nn {p : ProgL} {s : StL} : ∀ e ∈ edgesL p s, 0 ≤ e.2 := by
 intro e he
 obtain ⟨k, hk, rfl⟩ := List.mem_map.1 he
 simpa using (List.mem_filter.1 hk).2
theorem edges_enc (p : ProgL) (s : StL) : (edgesL p s).map encE = (edgesN p s).map encG := by
 unfold edgesN
 rw [List.map_map]
 refine List.map_congr_left fun e he => ?_
 have := edges_nn e he
 show [D.sl [[di e.1], [di e.2]]] = [D.sl [[di e.1], [di ((e.2.toNat : Nat) : Int)]]]
 rw [Int.toNat_of_nonneg this]
noncomputable def waitO (p : ProgL) (s : StL) (k : Nat) : Option Nat := if 0 ≤ blocksOf p s (s.ths.getD k th0) then some (blocksOf p s (s.ths.getD k th0)).toNat else none
theorem wait_ed (p : ProgL) (s : StL) (k : Nat) : ((if 0 ≤ blocksOf p s (s.ths.getD k th0) then [(k, blocksOf p s (s.ths.getD k th0))] else []).map fun e : Nat × Int => (e.1, e.2.toNat)) = ed k (waitO p s k) := by
 unfold waitO
 split <;> rfl
theorem opts_lt {o : Option Nat} (h : ∀ b, o = some b → b < 5) : o ∈ opts := by
 cases o with
 |none => simp [opts]
 |some b =>
  have := h b rfl
  have : b = 0 ∨ b = 1 ∨ b = 2 ∨ b = 3 ∨ b = 4 := by omega
  rcases this with rfl | rfl | rfl | rfl | rfl <;> simp [opts]
theorem edges_graph {p : ProgL} {s : StL} (h : OInv s) (h1 : 1 ≤ s.ths.length) (h5 : s.ths.length ≤ 5) : Graph (edgesN p s) := by
 have hw : ∀ k, waitO p s k ∈ opts := fun k => opts_lt fun b hb => by
  unfold waitO at hb
  split at hb
  ·rename_i h0
   have := blocks_lt (p := p) h h1 (s.ths.getD k th0)
   simp only [Option.some.injEq] at hb
   omega
  ·cases hb
 have hn : (none : Option Nat) ∈ opts := by simp [opts]
 have e0 : edgesTo p s 0 = [] := rfl
 unfold edgesN edgesL
 have : s.ths.length = 1 ∨ s.ths.length = 2 ∨ s.ths.length = 3 ∨ s.ths.length = 4 ∨ s.ths.length = 5 := by omega
 rcases this with e | e | e | e | e <;> rw [e]
 ·exact ⟨_, none, none, none, none, ⟨hw 0, hn, hn, hn, hn⟩, by rw [edgesTo_succ, e0, List.map_append, wait_ed]; simp [ed]⟩
 ·exact ⟨_, _, none, none, none, ⟨hw 0, hw 1, hn, hn, hn⟩, by rw [edgesTo_succ, edgesTo_succ, e0, List.map_append, List.map_append, wait_ed, wait_ed]; simp [ed]⟩
 ·exact ⟨_, _, _, none, none, ⟨hw 0, hw 1, hw 2, hn, hn⟩, by rw [edgesTo_succ, edgesTo_succ, edgesTo_succ, e0, List.map_append, List.map_append, List.map_append, wait_ed, wait_ed, wait_ed]; simp [ed]⟩
 ·exact ⟨_, _, _, _, none, ⟨hw 0, hw 1, hw 2, hw 3, hn⟩, by rw [edgesTo_succ, edgesTo_succ, edgesTo_succ, edgesTo_succ, e0, List.map_append, List.map_append, List.map_append, List.map_append, wait_ed, wait_ed, wait_ed, wait_ed]; simp [ed]⟩
 ·exact ⟨_, _, _, _, _, ⟨hw 0, hw 1, hw 2, hw 3, hw 4⟩, by rw [edgesTo_succ, edgesTo_succ, edgesTo_succ, edgesTo_succ, edgesTo_succ, e0, List.map_append, List.map_append, List.map_append, List.map_append, List.map_append, wait_ed, wait_ed, wait_ed, wait_ed, wait_ed]; simp⟩
end Ai
end
section
namespace Ai
open Go Go.RowKit
section
variable {E : Env} {N : Nat} {A : Fr} {w0 w w' : World} {m m' : Own} {s s' s1 : St} {a : Act}
def plainOf : AV → Option AV
 | .uq _ _ els => some (.d (.sl els))
 | .ownF _ _ => none
 |r => some r
theorem io_of_calls {g : FuncId} {xs : List AV} {R : AV → Prop} (h : CallsTo E g xs R) : IOCall E g xs (fun _ => none) (fun r H1 => (∃ r0, R r0 ∧ (plainOf r0 = none ∨ plainOf r0 = some r)) ∧ H1 = fun _ => none) := by
 intro w0 A m w vs hH hl hrel
 have hI : E.I w := E.Imono _ _ hH.inv hH.below
 have hA : ∀ b, w.heap.size ≤ b → A b := fun b hb => by
  rcases hH.hA b (Nat.le_trans hH.below.size hb) with h | h
  ·exact h
  ·have := (hH.fr b h).1; omega
 refine (h w A vs hI ⟨hl, fun i a v ha hv => ?_⟩).mono ?_
 ·refine (hrel i a v ha hv).mono (fun b hb => ⟨⟨hb.1, hb.2.2⟩, rfl⟩) ⟨fun o e cs h => (absurd (show (none : Option Ob) = some _ from h) (by simp)), fun o e sz els h => (absurd (show (none : Option Ob) = some _ from h) (by simp)), fun o e sz rows h => (absurd (show (none : Option Ob) = some _ from h) (by simp)), fun o ag ps h => (absurd (show (none : Option Ob) = some _ from h) (by simp))⟩
 ·rintro v w' ⟨r0, hr, hb, hv⟩
  have hb0 : Below w0.heap.size w0 w' := hH.below.trans (hb.mono hH.below.size)
  have hH' : HRel E A w0 m (fun _ => none) w' := ⟨hb0, hH.inv, fun o ob h => (by cases h), fun o o' p p' h => absurd rfl h, hH.hA, fun b hx => by
   obtain ⟨h1, h2, h3⟩ := hH.fr b hx
   exact ⟨Nat.lt_of_lt_of_le h1 hb.size, h2, by rw [hb.block b h1]; exact h3⟩, fun n hn h => absurd rfl h⟩
  have hok : ∀ x, (x < w'.heap.size ∧ (A x ∨ w.heap.size ≤ x)) → okB A (fun _ => none) m w' x := fun x hx => ⟨hx.1, fun o ho => absurd rfl ho, hx.2.elim id (hA x)⟩
  have plain : VRel w' (fun x => x < w'.heap.size ∧ (A x ∨ w.heap.size ≤ x)) noM noH r0 v → plainOf r0 = some r0 → ∃ r H1 m1, ((∃ r0, R r0 ∧ (plainOf r0 = none ∨ plainOf r0 = some r)) ∧ H1 = fun _ => none) ∧ HRel E A w0 m1 H1 w' ∧ VRel w' (okB A H1 m1 w') m1 H1 r v :=
   fun h hp => ⟨r0, _, m, ⟨⟨r0, hr, .inr hp⟩, rfl⟩, hH', h.lift hok⟩
  unfold RRel at hv
  cases r0 with
  |uq e sz els =>
   simp only [RRok] at hv
   refine ⟨.d (.sl els), _, m, ⟨⟨_, hr, .inr rfl⟩, rfl⟩, hH', ?_⟩
   rcases hv with ⟨rfl, rfl⟩ | ⟨b, full, cur, rfl, hbb, hcur, hle, hmax, hsz, hc⟩
   ·exact .d _ _ (.sl0 _ _)
   ·refine .d _ _ (.sl els sz b 0 full (fun q => (cur[q]?).getD undef) (hok b ⟨(Array.getElem?_eq_some_iff.1 hcur).1, .inr hbb⟩) hle (fun j c hj => ⟨(hc j c hj).1, fun i d hi => ?_⟩) (fun j c hj i d hi => ?_))
    ·obtain ⟨u, hu, _⟩ := (hc j c hj).2 i d hi
     simp [World.cell?, hcur, hu]
    ·obtain ⟨u, hu, hr⟩ := (hc j c hj).2 i d hi
     rw [hu]
     exact hr.mono fun x hx => ⟨hok x hx.1, rfl⟩
  |ownF f cs => exact ⟨.junk, _, m, ⟨⟨_, hr, .inl rfl⟩, rfl⟩, hH', .junk _⟩
  | _ => exact plain hv rfl
end
end Ai
end
section
set_option maxRecDepth 100000
namespace Ai
open Go Go.Proofs Cyc
theorem signOf_stuck (p : ProgL) (s : StL) (c : Int) (tr : List Ev) (tk : List Int) (hp : p.wf) (hs : s.small) (hv : ∀ t ∈ s.ths, t.seen p s) (hG : Graph (edgesN p s)) (hc : c = 3) (hj1 : (cycSOf (edgesN p s)).length ≤ 1000) (hj2 : ∀ x ∈ cycSOf (edgesN p s), x ≤ 1000000) (hj3 : (Lib.join ((cycSOf (edgesN p s)).map fun x => Lib.itoa ((x : Nat) : Int)) [44]).length ≤ 140737488355328) :
  CallsTo EE 59 [agg (encProg p), agg (encRun c tr tk s)] (· = sv ([115, 116, 117, 99, 107, 32] ++ (if Lib.join ((cycSOf (edgesN p s)).map fun x => Lib.itoa ((x : Nat) : Int)) [44] = [] then [45] else Lib.join ((cycSOf (edgesN p s)).map fun x => Lib.itoa ((x : Nat) : Int)) [44]))) := by
 refine callsTo_of_AW (fn := Tryz.f59) Tryz.func59 rfl (by kernel_rfl) rfl ?_
 subst hc
 conv => whnf
 refine kbi (fun h => absurd h (by decide)) (fun _ => ?_)
 conv => whnf
 refine kbi (fun h => absurd h (by decide)) (fun _ => ?_)
 conv => whnf
 refine kbi (fun _ => ?_) (fun h => absurd rfl h)
 conv => whnf
 refine .inr (.inr (.inr (.inl ⟨_, 99, [], weak_frz (isK (.n 3)), rfl, 999, 99, fun _ => false, _, io_of_calls (waitsForI_ok toIndexI p s hp hs hv), rfl, ?_⟩)))
 rintro r H1 ⟨⟨r0, rfl, hr⟩, rfl⟩
 have hr : r = sl ((edgesL p s).map encE) := by
  rcases hr with hr | hr
  ·cases hr
  ·exact (Option.some.inj hr).symm
 subst hr
 refine ⟨fun _ _ => rfl, fun n hn => (by cases hn), ?_⟩
 conv => whnf
 rw [edges_enc]
 refine ⟨_, cycleG_ok (edgesN p s) hG, ?_⟩
 rintro r rfl
 conv => whnf
 refine ⟨_, joinNumbers_ok (cycSOf (edgesN p s)) hj1 hj2 hj3, ?_⟩
 rintro r rfl
 conv => whnf
 refine ⟨_, dash_ok _, ?_⟩
 rintro r rfl
 conv => whnf
 refine ⟨?_, ?_⟩
 ·show 6 + (if Lib.join ((cycSOf (edgesN p s)).map fun x => Lib.itoa ((x : Nat) : Int)) [44] = [] then [45] else Lib.join ((cycSOf (edgesN p s)).map fun x => Lib.itoa ((x : Nat) : Int)) [44]).length ≤ _
  split
  ·show 6 + 1 ≤ _; omega
  ·omega
 conv => whnf
 try rfl
end Ai
end
section
set_option maxRecDepth 100000
namespace Ai
open Go Go.Proofs Cyc
theorem signOf_done (p : ProgL) (s : StL) (tr : List Ev) (tk : List Int) : CallsTo EE 59 [agg (encProg p), agg (encRun 1 tr tk s)] (· = sv [100, 111, 110, 101]) := by
 refine callsTo_of_AW (fn := Tryz.f59) Tryz.func59 rfl (by kernel_rfl) rfl ?_
 conv => whnf
 refine kbi (fun _ => ?_) (fun h => absurd rfl h)
 conv => whnf
 try rfl
theorem signOf_budget (p : ProgL) (s : StL) (tr : List Ev) (tk : List Int) : CallsTo EE 59 [agg (encProg p), agg (encRun 4 tr tk s)] (· = sv [98, 117, 100, 103, 101, 116]) := by
 refine callsTo_of_AW (fn := Tryz.f59) Tryz.func59 rfl (by kernel_rfl) rfl ?_
 conv => whnf
 refine kbi (fun h => absurd h (by decide)) (fun _ => ?_)
 conv => whnf
 refine kbi (fun _ => ?_) (fun h => absurd rfl h)
 conv => whnf
 try rfl
end Ai
end
