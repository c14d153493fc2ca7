import Derived.Test.YtmcammamjbfkfaaGreatDoorF0
set_option maxHeartbeats 1000000
set_option linter.unusedVariables false
set_option maxRecDepth 100000
namespace Ai
open Go Go.Proofs

/-! ### the model's side -/
def InR (n lo hi : Int) : Prop := lo ≤ n ∧ n ≤ hi
theorem l1In_ok (n lo hi : Int) : CallsTo EE 46 [i64 n, i64 lo, i64 hi] (· = bp (InR n lo hi)) := by
  refine callsTo_of_AW (fn := Tryz.f46) Tryz.func46 rfl (by kernel_rfl) rfl ?_
  conv => whnf
  repeat' (refine kbi (fun h => ?_) (fun h => ?_) <;> first | contradiction | conv => whnf)
  all_goals simp only [decide_eq_true_eq] at *
  all_goals first | exact bpt (by unfold InR; omega) | exact bpf (by unfold InR; omega)
def PairL.good (x : PairL) : Prop := InR x.cell 0 99 ∧ InR x.one 0 999 ∧ InR x.two 0 999
theorem l11Pair_ok (x : PairL) : CallsTo EE 79 [agg (encPair x)] (· = bp x.good) := by
  refine callsTo_of_AW (fn := Tryz.f79) Tryz.func79 rfl (by kernel_rfl) rfl ?_
  conv => whnf
  repeat' (refine ocase (l1In_ok _ _ _) (fun h => ?_) (fun h => ?_) <;> first | contradiction | conv => whnf)
  all_goals first | exact bpt (by unfold PairL.good; simp_all) | exact bpf (by unfold PairL.good; simp_all)
theorem l1Has_ok (xs : List Int) (n : Int) (hx : xs.length ≤ 1048576) : CallsTo EE 77 [sl (xs.map encInt), i64 n] (· = bp (n ∈ xs)) := by
  refine callsTo_of_AW (fn := Tryz.f77) Tryz.func77 rfl (by kernel_rfl) rfl ?_
  conv => whnf
  refine aloop (fun k : Nat => [(1, i64 n), (7, sl (xs.map encInt)), (8, i64 (xs.map encInt).length), (9, i64 k)]) (fun k => []) (fun k => xs.length - k) (fun k => k ≤ xs.length ∧ ∀ x ∈ xs.take k, x ≠ n) 0 .refl ⟨rfl, rfl, rfl, rfl, trivial⟩ trivial ⟨Nat.zero_le _, tk_zero⟩ ?_
  rintro k τ H ⟨hk, ih⟩
  conv => whnf
  refine kbi (fun h => ?_) (fun h => ?_)
  · have hlt := lt_map h
    conv => whnf
    refine ⟨encInt xs[k], map_get encInt hlt rfl, ?_⟩
    conv => whnf
    refine kbi (fun h => ?_) (fun h => ?_)
    · conv => whnf
      refine bpt ?_
      simp at h
      exact h ▸ List.getElem_mem hlt
    · conv => whnf
      simp at h
      exact ⟨k + 1, ⟨by omega, tk_step ih hlt h⟩, by show xs.length - (k + 1) < xs.length - k; omega, ⟨rfl, rfl, rfl, next_i64 hlt (by omega), trivial⟩, trivial⟩
  · conv => whnf
    refine bpf fun hm => ?_
    exact tk_end ih (by simp at h; omega) n hm rfl
def AllIn (xs : List Int) (lo hi : Int) : Prop := ∀ x ∈ xs, InR x lo hi
theorem l1All_ok (xs : List Int) (lo hi : Int) (hx : xs.length ≤ 1048576) : CallsTo EE 66 [sl (xs.map encInt), i64 lo, i64 hi] (· = bp (AllIn xs lo hi)) := by
  refine callsTo_of_AW (fn := Tryz.f66) Tryz.func66 rfl (by kernel_rfl) rfl ?_
  conv => whnf
  refine aloop (fun k : Nat => [(1, i64 lo), (2, i64 hi), (9, sl (xs.map encInt)), (10, i64 (xs.map encInt).length), (11, i64 k)]) (fun k => []) (fun k => xs.length - k) (fun k => k ≤ xs.length ∧ ∀ x ∈ xs.take k, InR x lo hi) 0 .refl ⟨rfl, rfl, rfl, rfl, rfl, trivial⟩ trivial ⟨Nat.zero_le _, tk_zero⟩ ?_
  rintro k τ H ⟨hk, ih⟩
  conv => whnf
  refine kbi (fun h => ?_) (fun h => ?_)
  · have hlt := lt_map h
    conv => whnf
    refine ⟨encInt xs[k], map_get encInt hlt rfl, ?_⟩
    conv => whnf
    refine ocase (l1In_ok _ _ _) (fun h => ?_) (fun h => ?_)
    · conv => whnf
      exact ⟨k + 1, ⟨by omega, tk_step ih hlt h⟩, by show xs.length - (k + 1) < xs.length - k; omega, ⟨rfl, rfl, rfl, rfl, next_i64 hlt (by omega), trivial⟩, trivial⟩
    · conv => whnf
      exact bpf fun hm => h (hm _ (List.getElem_mem hlt))
  · conv => whnf
    exact bpt (tk_end ih (by simp at h; omega))
/-- rising, within bounds -/
def Rise (xs : List Int) (lo hi : Int) : Prop := ∀ (i : Nat) (h : i < xs.length), InR xs[i] lo hi ∧ ∀ (j : Nat) (hj : j + 1 = i), xs[j] < xs[i]
theorem l1Rising_ok (xs : List Int) (lo hi : Int) (hx : xs.length ≤ 1048576) : CallsTo EE 78 [sl (xs.map encInt), i64 lo, i64 hi] (· = bp (Rise xs lo hi)) := by
  refine callsTo_of_AW (fn := Tryz.f78) Tryz.func78 rfl (by kernel_rfl) rfl ?_
  conv => whnf
  refine aloop (fun k : Nat => [(0, sl (xs.map encInt)), (1, i64 lo), (2, i64 hi), (9, sl (xs.map encInt)), (10, i64 (xs.map encInt).length), (11, i64 k)]) (fun k => []) (fun k => xs.length - k) (fun k => k ≤ xs.length ∧ ∀ (i : Nat) (h : i < xs.length), i < k → InR xs[i] lo hi ∧ ∀ (j : Nat) (hj : j + 1 = i), xs[j] < xs[i]) 0 .refl ⟨rfl, rfl, rfl, rfl, rfl, rfl, trivial⟩ trivial ⟨Nat.zero_le _, by omega⟩ ?_
  rintro k τ H ⟨hk, ih⟩
  conv => whnf
  refine kbi (fun h => ?_) (fun h => ?_)
  · have hlt := lt_map h
    conv => whnf
    refine ⟨encInt xs[k], map_get encInt hlt rfl, ?_⟩
    conv => whnf
    refine ocase (l1In_ok _ _ _) (fun h => ?_) (fun h => ?_)
    · conv => whnf
      refine kbi (fun h2 => ?_) (fun h2 => ?_)
      · simp at h2
        conv => whnf
        have hlt2 : k - 1 < xs.length := by omega
        have e : IntKind.i64.wrap ((k : Int) - 1) = ((k - 1 : Nat) : Int) := by rw [wrap_id (by omega) (by omega)]; omega
        refine ⟨encInt xs[k - 1], ?_, ?_⟩
        · rw [e]; exact map_get encInt hlt2 rfl
        conv => whnf
        refine kbi (fun h3 => ?_) (fun h3 => ?_)
        · conv => whnf
          refine bpf fun hm => ?_
          have := (hm k hlt).2 (k - 1) (by omega)
          simp at h3
          omega
        · simp at h3
          conv => whnf
          refine ⟨k + 1, ⟨by omega, fun i hi hik => ?_⟩, by show xs.length - (k + 1) < xs.length - k; omega, ⟨rfl, rfl, rfl, rfl, rfl, next_i64 hlt (by omega), trivial⟩, trivial⟩
          rcases Nat.lt_or_ge i k with h' | h'
          · exact ih i hi h'
          · have : i = k := by omega
            subst this
            refine ⟨h, fun j hj => ?_⟩
            have : j = i - 1 := by omega
            subst this
            exact h3
      · simp at h2
        conv => whnf
        refine ⟨k + 1, ⟨by omega, fun i hi hik => ?_⟩, by show xs.length - (k + 1) < xs.length - k; omega, ⟨rfl, rfl, rfl, rfl, rfl, next_i64 hlt (by omega), trivial⟩, trivial⟩
        rcases Nat.lt_or_ge i k with h' | h'
        · exact ih i hi h'
        · have : i = k := by omega
          subst this
          exact ⟨h, fun j hj => by omega⟩
    · conv => whnf
      exact bpf fun hm => h (hm k hlt).1
  · conv => whnf
    refine bpt fun i hi => ih i hi ?_
    simp at h; omega
end Ai
