import Derived.Test.YtmcammamjbfkfaaGreatDoorFLib
set_option maxHeartbeats 1000000
set_option linter.unusedVariables false
set_option maxRecDepth 100000
namespace Ai
open Go Go.Proofs Go.Shelf

theorem uq_of_owns {w w' : World} {A : Nat → Prop} {e : TypeId} {v : Value} {xs : List Int} (h : w'.ownsRow w.heap.size e 1 v xs.length (xs.map (Value.int .i64))) : RRel w w' A (.uq e 1 (xs.map encInt)) v := by
  obtain ⟨h1, h2⟩ := h
  rcases h2 with ⟨rfl, h0⟩ | ⟨g, cap, cur, rfl, hg, hcur, hn, hm, hsz, ht⟩
  · left
    have : xs = [] := List.eq_nil_of_length_eq_zero h0
    subst this
    exact ⟨rfl, rfl⟩
  · right
    refine ⟨g, cap, cur, by simp, hg, hcur, by simpa using hn, hm, hsz, fun j c hj => ?_⟩
    rw [List.getElem?_map, Option.map_eq_some_iff] at hj
    obtain ⟨x, hx, rfl⟩ := hj
    refine ⟨rfl, fun i d hi => ?_⟩
    match i, hi with
    | 0, hi =>
      simp only [encInt, List.getElem?_cons_zero, Option.some.injEq] at hi
      subst hi
      have hjl : j < xs.length := (List.getElem?_eq_some_iff.1 hx).1
      refine ⟨.int .i64 x, ?_, .int _ _⟩
      have h3 : (cur.toList.take (xs.length * 1))[j]? = some (Value.int .i64 x) := by rw [ht, List.getElem?_map, hx]; rfl
      rw [List.getElem?_take_of_lt (by omega)] at h3
      simpa using h3
    | i + 1, hi => simp [encInt] at hi
theorem clone_fin {w : World} {A : Nat → Prop} {vs : Array Value} {xs : List Int} (hC : Calls Tryz.prog 84 vs w fun e w' => ∃ v', e = .returned v' ∧ w'.ownsRow w.heap.size 3 1 v' xs.length (xs.map (Value.int .i64)) ∧ v' ≠ .slice none 0 0 ∧ RowKit.Below w.heap.size w w') :
    Calls Tryz.prog 84 vs w fun e w'' => ∃ v, e = .returned v ∧ ∃ r, r = .uq 3 1 (xs.map encInt) ∧ RowKit.Below w.heap.size w w'' ∧ RRel w w'' A r v := by
  refine Calls.mono hC ?_
  rintro e w' ⟨v, rfl, ho, _, hb⟩
  exact ⟨_, rfl, _, rfl, hb, uq_of_owns ho⟩
theorem Clone_ok (xs : List Int) (hx : xs.length ≤ 1048576) : CallsTo EE 84 [sl (xs.map encInt)] (· = .uq 3 1 (xs.map encInt)) := by
  intro w A vs hI hA
  obtain ⟨v, rfl, hv⟩ := one_arg hA
  cases hv with
  | d _ _ hd =>
    unfold Invokes
    rw [show Sem.run EE.P (callFunc 84 #[v]) w = _ from ent84 _ w]
    rcases row1 (d := D.int .i64) (xs := xs) hd with ⟨rfl, a, cap, rfl⟩ | ⟨b, off, cap, us, rfl, hok, hcap, hc⟩
    · cases a with
      | none =>
        have hC := Any.slices_Clone_int_nil Tryz.laysClone 0 cap w
        refine Calls.mono (show Calls Tryz.prog 84 _ _ _ from hC) ?_
        rintro e w' ⟨rfl, rfl⟩
        exact ⟨_, rfl, _, rfl, RowKit.Below.refl _ _, .inl ⟨rfl, rfl⟩⟩
      | some ad =>
        have hC := Any.slices_Clone_int_zero Tryz.laysClone ad cap w
        exact clone_fin (xs := []) hC
    · have hcells : ∀ j, j < xs.length → w.cell? ⟨b, off + j, none⟩ = some (.int .i64 (xs.getD j 0)) := by
        intro j hj
        obtain ⟨g1, g2⟩ := hc j xs[j] (List.getElem?_eq_getElem hj)
        rw [g1, intInv g2]
        simp [List.getD_eq_getElem?_getD, List.getElem?_eq_getElem hj]
      have hC := Any.slices_Clone_int Tryz.laysClone b off xs.length cap xs w (Nat.le_refl _) (by omega) hcells
      rw [List.take_of_length_le (Nat.le_refl _)] at hC
      exact clone_fin hC
end Ai
