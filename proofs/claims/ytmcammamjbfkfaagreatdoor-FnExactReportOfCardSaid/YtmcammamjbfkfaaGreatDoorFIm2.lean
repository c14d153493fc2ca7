import Derived.Test.YtmcammamjbfkfaaGreatDoorFRis
set_option maxHeartbeats 1000000
set_option linter.unusedVariables false
set_option maxRecDepth 100000
namespace Ai
open Go Go.Proofs

theorem isRising_ok (xs : List Int) (hi : Int) (hx : xs.length ≤ 1048576) : CallsTo EE 85 [sl (xs.map encInt), i64 hi] (· = bp (Rise xs 0 hi)) := by
  refine callsTo_of_AW (fn := Tryz.f85) Tryz.func85 rfl (by kernel_rfl) rfl ?_
  conv => whnf
  refine aloop (fun k : Nat => [(0, sl (xs.map encInt)), (1, i64 hi), (7, sl (xs.map encInt)), (8, i64 (xs.map encInt).length), (9, i64 k)]) (fun k => []) (fun k => xs.length - k) (fun k => k ≤ xs.length ∧ ∀ (i : Nat) (h : i < xs.length), i < k → InR xs[i] 0 hi ∧ ∀ (j : Nat) (hj : j + 1 = i), xs[j] < xs[i]) 0 .refl ⟨rfl, rfl, rfl, rfl, rfl, trivial⟩ trivial ⟨Nat.zero_le _, by omega⟩ ?_
  rintro k τ H ⟨hk, ih⟩
  conv => whnf
  refine kbi (fun h => ?_) (fun h => ?_)
  · have hlt := lt_map h
    conv => whnf
    refine ⟨encInt xs[k], map_get encInt hlt rfl, ?_⟩
    conv => whnf
    refine ocase (in_ok _ _ _) (fun h => ?_) (fun h => ?_)
    · conv => whnf
      refine kbi (fun h2 => ?_) (fun h2 => ?_)
      · simp at h2
        conv => whnf
        have hlt2 : k - 1 < xs.length := by omega
        have e : IntKind.i64.wrap ((k : Int) - 1) = ((k - 1 : Nat) : Int) := by rw [wrap_id (by omega) (by omega)]; omega
        refine ⟨encInt xs[k - 1], ?_, ?_⟩
        · rw [e]; exact map_get encInt hlt2 rfl
        conv => whnf
        refine kbi (fun h3 => ?_) (fun h3 => ?_)
        · conv => whnf
          refine bpf fun hm => ?_
          have := (hm k hlt).2 (k - 1) (by omega)
          simp at h3
          omega
        · simp at h3
          conv => whnf
          refine ⟨k + 1, ⟨by omega, fun i hi hik => ?_⟩, by show xs.length - (k + 1) < xs.length - k; omega, ⟨rfl, rfl, rfl, rfl, next_i64 hlt (by omega), trivial⟩, trivial⟩
          rcases Nat.lt_or_ge i k with h' | h'
          · exact ih i hi h'
          · have : i = k := by omega
            subst this
            refine ⟨h, fun j hj => ?_⟩
            have : j = i - 1 := by omega
            subst this
            exact h3
      · simp at h2
        conv => whnf
        refine ⟨k + 1, ⟨by omega, fun i hi hik => ?_⟩, by show xs.length - (k + 1) < xs.length - k; omega, ⟨rfl, rfl, rfl, rfl, next_i64 hlt (by omega), trivial⟩, trivial⟩
        rcases Nat.lt_or_ge i k with h' | h'
        · exact ih i hi h'
        · have : i = k := by omega
          subst this
          exact ⟨h, fun j hj => by omega⟩
    · conv => whnf
      exact bpf fun hm => h (hm k hlt).1
  · conv => whnf
    refine bpt fun i hi => ih i hi ?_
    simp at h; omega
def PctL.goodI (s : PctL) : Prop := s.ranks.length = 5 ∧ (Lib.compact (sorted s.ranks)).length = 5 ∧ Rise (Lib.compact (sorted s.ranks)) 0 4 ∧ s.changes.length ≤ 4 ∧ Rise s.changes 0 199
theorem GoodPctI_ok (s : PctL) (hs : s.ranks.length ≤ 1048576 ∧ s.changes.length ≤ 1048576) : CallsTo EE 54 [agg (encPct s)] (· = bp s.goodI) := by
  have hcl : (Lib.compact (sorted s.ranks)).length ≤ 1048576 := Nat.le_trans (compact_le _) (by rw [sorted_len]; exact hs.1)
  refine callsTo_of_AW (fn := Tryz.f54) Tryz.func54 rfl (by kernel_rfl) rfl ?_
  conv => whnf
  refine ⟨_, Clone_ok _ hs.1, ?_⟩
  rintro r rfl
  refine .inr ⟨6, rfl, ?_⟩
  conv => whnf
  refine .inr ⟨6, 3, 1, s.ranks.map encInt, _, rfl, rfl, rfl, rising_takes s.ranks hs.1, ?_⟩
  rintro r rfl
  conv => whnf
  refine kbi (fun h1 => ?_) (fun h1 => ?_)
  rotate_left
  · conv => whnf
    refine bpf fun hm => h1 ?_
    have := hm.1
    simp [this]
  conv => whnf
  refine kbi (fun h2 => ?_) (fun h2 => ?_)
  rotate_left
  · conv => whnf
    refine bpf fun hm => h2 ?_
    have := hm.2.1
    simp [this]
  conv => whnf
  refine ocase (isRising_ok _ 4 hcl) (fun h3 => ?_) (fun h3 => ?_)
  rotate_left
  · conv => whnf
    exact bpf fun hm => h3 hm.2.2.1
  conv => whnf
  refine kbi (fun h4 => ?_) (fun h4 => ?_)
  rotate_left
  · conv => whnf
    refine bpf fun hm => ?_
    have := hm.2.2.2.1
    simp at h4
    omega
  conv => whnf
  refine ocase (isRising_ok _ 199 hs.2) (fun h5 => ?_) (fun h5 => ?_)
  rotate_left
  · conv => whnf
    exact bpf fun hm => h5 hm.2.2.2.2
  conv => whnf
  simp at h1 h2 h4
  exact bpt ⟨by omega, by omega, h3, by omega, h5⟩
end Ai
