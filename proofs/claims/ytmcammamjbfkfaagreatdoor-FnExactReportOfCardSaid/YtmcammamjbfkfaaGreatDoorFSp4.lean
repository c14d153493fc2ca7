import Derived.Test.YtmcammamjbfkfaaGreatDoorFSp3
import Derived.Lib.Join
set_option maxHeartbeats 1000000
set_option linter.unusedVariables false
set_option maxRecDepth 100000
namespace Ai
open Go Go.Proofs

/-! ### finds -/
def FindsR (xs : List FoundL) : Prop := ∀ (i : Nat) (h : i < xs.length), Picks xs[i].picks ∧ ∀ x ∈ xs.take i, x.sign ≠ xs[i].sign
theorem l13Finds_ok (xs : List FoundL) (hx : xs.length ≤ 1048576 ∧ ∀ x ∈ xs, x.picks.length ≤ 1048576) : CallsTo EE 45 [sl (xs.map encFound)] (· = bp (FindsR xs)) := by
  refine callsTo_of_AW (fn := Tryz.f45) Tryz.func45 rfl (by kernel_rfl) rfl ?_
  conv => whnf
  refine aloop (fun k : Nat => [(0, sl (xs.map encFound)), (7, sl (xs.map encFound)), (8, i64 (xs.map encFound).length), (9, i64 k)]) (fun k => []) (fun k => xs.length - k) (fun k => k ≤ xs.length ∧ ∀ (i : Nat) (h : i < xs.length), i < k → Picks xs[i].picks ∧ ∀ x ∈ xs.take i, x.sign ≠ xs[i].sign) 0 .refl ⟨rfl, rfl, rfl, rfl, trivial⟩ trivial ⟨Nat.zero_le _, by omega⟩ ?_
  rintro k τ H ⟨hk, ih⟩
  conv => whnf
  refine kbi (fun h => ?_) (fun h => ?_)
  · have hlt := lt_map h
    conv => whnf
    refine ⟨encFound xs[k], map_get encFound hlt rfl, ?_⟩
    conv => whnf
    refine ocase (l4Picks_ok _ (hx.2 _ (List.getElem_mem hlt))) (fun h1 => ?_) (fun h1 => ?_)
    rotate_left
    · conv => whnf
      exact bpf fun hm => h1 (hm k hlt).1
    conv => whnf
    refine ⟨⟨by omega, by omega, by simp; omega, ?_⟩, ?_⟩
    · intro c hc
      simp only [List.mem_map] at hc
      obtain ⟨x, _, rfl⟩ := hc
      rfl
    conv => whnf
    rw [sl_take xs encFound k]
    have hl : (xs.take k).length = k := by simp; omega
    refine aloop (fun j : Nat => [(0, sl (xs.map encFound)), (7, sl (xs.map encFound)), (8, i64 (xs.map encFound).length), (9, i64 k), (4, .ptr 4 0), (20, sl ((xs.take k).map encFound)), (21, i64 ((xs.take k).map encFound).length), (22, i64 j)]) (fun j => [(4, .vs 63 ((encFound xs[k]).map .d))]) (fun j => (xs.take k).length - j) (fun j => j ≤ (xs.take k).length ∧ ∀ x ∈ (xs.take k).take j, x.sign ≠ xs[k].sign) 0 .refl ⟨rfl, rfl, rfl, rfl, rfl, rfl, rfl, rfl, trivial⟩ ⟨rfl, trivial⟩ ⟨Nat.zero_le _, tk_zero (xs := xs.take k)⟩ ?_
    rintro j τ2 H2 ⟨hj, ih2⟩
    conv => whnf
    refine kbi (fun h5 => ?_) (fun h5 => ?_)
    · have hlt2 := lt_map h5
      conv => whnf
      refine ⟨encFound (xs.take k)[j], map_get encFound hlt2 rfl, ?_⟩
      conv => whnf
      refine kbi (fun h6 => ?_) (fun h6 => ?_)
      · conv => whnf
        refine bpf fun hm => ?_
        simp at h6
        refine (hm k hlt).2 (xs.take k)[j] (List.getElem_mem hlt2) ?_
        simp [h6]
      · simp at h6
        conv => whnf
        exact ⟨j + 1, ⟨by omega, tk_step ih2 hlt2 (by simp; exact fun e => h6 e.symm)⟩, by show (xs.take k).length - (j + 1) < (xs.take k).length - j; omega, ⟨rfl, rfl, rfl, rfl, rfl, rfl, rfl, next_i64 hlt2 (by omega), trivial⟩, ⟨rfl, trivial⟩⟩
    · have hge2 : (xs.take k).length ≤ j := by simpa using h5
      have hall := tk_end ih2 hge2
      conv => whnf
      refine ⟨k + 1, ⟨by omega, fun i hi hik => ?_⟩, by show xs.length - (k + 1) < xs.length - k; omega, ⟨rfl, rfl, rfl, next_i64 hlt (by omega), trivial⟩, trivial⟩
      rcases Nat.lt_or_ge i k with h' | h'
      · exact ih i hi h'
      · have : i = k := by omega
        subst this
        exact ⟨h1, hall⟩
  · have hge : xs.length ≤ k := by simpa using h
    conv => whnf
    exact bpt fun i hi => ih i hi (by omega)
def HuntL.goodS (h : HuntL) : Prop := (∀ s ∈ h.kept, s.goodS) ∧ h.p.goodS ∧ h.kept.length ≤ 30 ∧ PairsR h.cov ∧ FindsR h.finds ∧ InR h.tried 0 60
theorem GoodHuntS_ok (x : HuntL) (hs : x.small) (hv : x.p.flt) : CallsTo EE 20 [agg (encHunt x)] (· = bp x.goodS) := by
  obtain ⟨s1, s2, s3, s4⟩ := hs
  refine callsTo_of_AW (fn := Tryz.f20) Tryz.func20 rfl (by kernel_rfl) rfl ?_
  conv => whnf
  refine aloop (fun k : Nat => [(1, .ptr 1 0), (6, sl (x.kept.map encPct)), (7, i64 (x.kept.map encPct).length), (8, i64 k)]) (fun k => [(1, .vs 40 ((encHunt x).map .d))]) (fun k => x.kept.length - k) (fun k => k ≤ x.kept.length ∧ ∀ r ∈ x.kept.take k, r.goodS) 0 .refl ⟨rfl, rfl, rfl, rfl, trivial⟩ ⟨rfl, trivial⟩ ⟨Nat.zero_le _, tk_zero⟩ ?_
  rintro k τ H ⟨hk, ih⟩
  conv => whnf
  refine kbi (fun h => ?_) (fun h => ?_)
  · have hlt := lt_map h
    conv => whnf
    refine ⟨encPct x.kept[k], map_get encPct hlt rfl, ?_⟩
    conv => whnf
    refine ocase (GoodPctS_ok _ (s2.2 _ (List.getElem_mem hlt))) (fun h1 => ?_) (fun h1 => ?_)
    · conv => whnf
      exact ⟨k + 1, ⟨by omega, tk_step ih hlt h1⟩, by show x.kept.length - (k + 1) < x.kept.length - k; omega, ⟨rfl, rfl, rfl, next_i64 hlt (by omega), trivial⟩, ⟨rfl, trivial⟩⟩
    · conv => whnf
      exact bpf fun hm => h1 (hm.1 _ (List.getElem_mem hlt))
  · have hge : x.kept.length ≤ k := by simpa using h
    have hall := tk_end ih hge
    conv => whnf
    refine ocase (GoodProgS_ok x.p s1 hv) (fun h1 => ?_) (fun h1 => ?_)
    rotate_left
    · conv => whnf
      exact bpf fun hm => h1 hm.2.1
    conv => whnf
    refine kbi (fun h2 => ?_) (fun h2 => ?_)
    rotate_left
    · conv => whnf
      refine bpf fun hm => ?_
      have := hm.2.2.1
      simp at h2
      omega
    simp at h2
    conv => whnf
    refine ocase (l11Rising_ok x.cov s3) (fun h3 => ?_) (fun h3 => ?_)
    rotate_left
    · conv => whnf
      exact bpf fun hm => h3 hm.2.2.2.1
    conv => whnf
    refine ocase (l13Finds_ok x.finds s4) (fun h4 => ?_) (fun h4 => ?_)
    rotate_left
    · conv => whnf
      exact bpf fun hm => h4 hm.2.2.2.2.1
    conv => whnf
    refine ocase (l1In_ok _ _ _) (fun h5 => ?_) (fun h5 => ?_)
    rotate_left
    · conv => whnf
      exact bpf fun hm => h5 hm.2.2.2.2.2
    conv => whnf
    exact bpt ⟨hall, h1, by omega, h3, h4, h5⟩
end Ai
