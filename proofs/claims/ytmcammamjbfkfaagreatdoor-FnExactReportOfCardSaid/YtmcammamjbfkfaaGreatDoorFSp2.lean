import Derived.Test.YtmcammamjbfkfaaGreatDoorFTo
import Derived.Test.YtmcammamjbfkfaaGreatDoorFSp
set_option maxHeartbeats 1000000
set_option linter.unusedVariables false
set_option maxRecDepth 100000
namespace Ai
open Go Go.Proofs

theorem sl_take {α : Type} (xs : List α) (enc : α → List D) (k : Nat) : ((xs.map enc).drop (0 : Int).toNat).take ((k : Int).toNat - (0 : Int).toNat) = (xs.take k).map enc := by simp [List.map_take]
theorem l1Has_at (ys : List (List D)) (xs : List Int) (n : Int) (hy : ys = xs.map encInt) (hx : xs.length ≤ 1048576) : CallsTo EE 77 [sl ys, i64 n] (· = bp (n ∈ xs)) := hy ▸ l1Has_ok xs n hx
def PctL.goodS (s : PctL) : Prop := s.ranks.length = 5 ∧ AllIn s.ranks 0 4 ∧ (∀ (k : Nat) (h : k < s.ranks.length), s.ranks[k] ∉ s.ranks.take k) ∧ s.changes.length ≤ 4 ∧ Rise s.changes 0 199
theorem GoodPctS_ok (s : PctL) (hs : s.ranks.length ≤ 1048576 ∧ s.changes.length ≤ 1048576) : CallsTo EE 43 [agg (encPct s)] (· = bp s.goodS) := by
  refine callsTo_of_AW (fn := Tryz.f43) Tryz.func43 rfl (by kernel_rfl) rfl ?_
  conv => whnf
  refine kbi (fun h => ?_) (fun h => ?_)
  · conv => whnf
    refine bpf fun hm => ?_
    have := hm.1
    simp [this] at h
  simp at h
  conv => whnf
  refine ocase (l1All_ok s.ranks 0 4 hs.1) (fun h2 => ?_) (fun h2 => ?_)
  rotate_left
  · conv => whnf
    exact bpf fun hm => h2 hm.2.1
  conv => whnf
  refine aloop (fun k : Nat => [(1, .ptr 1 0), (16, sl (s.ranks.map encInt)), (17, i64 (s.ranks.map encInt).length), (18, i64 k)]) (fun k => [(1, .vs 80 ((encPct s).map .d))]) (fun k => s.ranks.length - k) (fun k => k ≤ s.ranks.length ∧ ∀ (i : Nat) (h : i < s.ranks.length), i < k → s.ranks[i] ∉ s.ranks.take i) 0 .refl ⟨rfl, rfl, rfl, rfl, trivial⟩ ⟨rfl, trivial⟩ ⟨Nat.zero_le _, by omega⟩ ?_
  rintro k τ H ⟨hk, ih⟩
  conv => whnf
  refine kbi (fun h => ?_) (fun h => ?_)
  · have hlt := lt_map h
    conv => whnf
    refine ⟨encInt s.ranks[k], map_get encInt hlt rfl, ?_⟩
    conv => whnf
    refine ⟨⟨by omega, by omega, by simp; omega, ?_⟩, ?_⟩
    · intro c hc
      simp only [List.mem_map] at hc
      obtain ⟨x, _, rfl⟩ := hc
      rfl
    conv => whnf
    refine ocase (l1Has_at _ (s.ranks.take k) _ (sl_take _ _ _) (by simp; omega)) (fun h3 => ?_) (fun h3 => ?_)
    · conv => whnf
      exact bpf fun hm => hm.2.2.1 k hlt h3
    · conv => whnf
      refine ⟨k + 1, ⟨by omega, fun i hi hik => ?_⟩, by show s.ranks.length - (k + 1) < s.ranks.length - k; omega, ⟨rfl, rfl, rfl, next_i64 hlt (by omega), trivial⟩, ⟨rfl, trivial⟩⟩
      rcases Nat.lt_or_ge i k with h' | h'
      · exact ih i hi h'
      · have : i = k := by omega
        subst this
        exact h3
  · have hge : s.ranks.length ≤ k := by simpa using h
    conv => whnf
    have hnd : ∀ (k : Nat) (h : k < s.ranks.length), s.ranks[k] ∉ s.ranks.take k := fun i hi => ih i hi (by omega)
    refine kbi (fun h4 => ?_) (fun h4 => ?_)
    · simp at h4
      conv => whnf
      refine ocase (l1Rising_ok s.changes 0 199 hs.2) (fun h5 => ?_) (fun h5 => ?_)
      · conv => whnf
        exact bpt ⟨by omega, h2, hnd, by omega, h5⟩
      · conv => whnf
        exact bpf fun hm => h5 hm.2.2.2.2
    · simp at h4
      conv => whnf
      exact bpf fun hm => by have := hm.2.2.2.1; omega
def PairL.key (x : PairL) : Int := x.cell * 1000000 + x.one * 1000 + x.two
theorem l11Key_ok (x : PairL) (h : x.good) : CallsTo EE 80 [agg (encPair x)] (· = i64 x.key) := by
  obtain ⟨h1, h2, h3⟩ := h
  unfold InR at h1 h2 h3
  refine callsTo_of_AW (fn := Tryz.f80) Tryz.func80 rfl (by kernel_rfl) rfl ?_
  conv => whnf
  rw [wrap_id (n := x.cell * 1000000) (by omega) (by omega), wrap_id (n := x.one * 1000) (by omega) (by omega), wrap_id (n := x.cell * 1000000 + x.one * 1000) (by omega) (by omega), wrap_id (by omega) (by omega)]
  rfl
def PairsR (xs : List PairL) : Prop := (∀ (i : Nat) (h : i < xs.length), xs[i].good ∧ ∀ (j : Nat) (hj : j + 1 = i), xs[j].key < xs[i].key) ∧ xs.length ≤ 200
theorem l11Rising_ok (xs : List PairL) (hx : xs.length ≤ 1048576) : CallsTo EE 44 [sl (xs.map encPair)] (· = bp (PairsR xs)) := by
  refine callsTo_of_AW (fn := Tryz.f44) Tryz.func44 rfl (by kernel_rfl) rfl ?_
  conv => whnf
  refine aloop (fun k : Nat => [(0, sl (xs.map encPair)), (5, sl (xs.map encPair)), (6, i64 (xs.map encPair).length), (7, i64 k)]) (fun k => []) (fun k => xs.length - k) (fun k => k ≤ xs.length ∧ ∀ (i : Nat) (h : i < xs.length), i < k → xs[i].good ∧ ∀ (j : Nat) (hj : j + 1 = i), xs[j].key < xs[i].key) 0 .refl ⟨rfl, rfl, rfl, rfl, trivial⟩ trivial ⟨Nat.zero_le _, by omega⟩ ?_
  rintro k τ H ⟨hk, ih⟩
  conv => whnf
  refine kbi (fun h => ?_) (fun h => ?_)
  · have hlt := lt_map h
    conv => whnf
    refine ⟨encPair xs[k], map_get encPair hlt rfl, ?_⟩
    conv => whnf
    refine ⟨by kernel_rfl, ?_⟩
    conv => whnf
    refine qcase (l11Pair_ok _) (fun h => ?_) (fun h => ?_)
    · conv => whnf
      refine kbi (fun h2 => ?_) (fun h2 => ?_)
      · simp at h2
        conv => whnf
        have hlt2 : k - 1 < xs.length := by omega
        have e : IntKind.i64.wrap ((k : Int) - 1) = ((k - 1 : Nat) : Int) := by rw [wrap_id (by omega) (by omega)]; omega
        refine ⟨encPair xs[k - 1], ?_, ?_⟩
        · rw [e]; exact map_get encPair hlt2 rfl
        conv => whnf
        refine ⟨_, l11Key_ok _ (ih (k - 1) hlt2 (by omega)).1, ?_⟩
        conv => whnf
        refine ⟨_, l11Key_ok _ h, ?_⟩
        conv => whnf
        refine kbi (fun h3 => ?_) (fun h3 => ?_)
        · conv => whnf
          refine bpf fun hm => ?_
          have := (hm.1 k hlt).2 (k - 1) (by omega)
          simp at h3
          omega
        · simp at h3
          conv => whnf
          refine ⟨k + 1, ⟨by omega, fun i hi hik => ?_⟩, by show xs.length - (k + 1) < xs.length - k; omega, ⟨rfl, rfl, rfl, next_i64 hlt (by omega), trivial⟩, trivial⟩
          rcases Nat.lt_or_ge i k with h' | h'
          · exact ih i hi h'
          · have : i = k := by omega
            subst this
            refine ⟨h, fun j hj => ?_⟩
            have : j = i - 1 := by omega
            subst this
            exact h3
      · simp at h2
        conv => whnf
        refine ⟨k + 1, ⟨by omega, fun i hi hik => ?_⟩, by show xs.length - (k + 1) < xs.length - k; omega, ⟨rfl, rfl, rfl, next_i64 hlt (by omega), trivial⟩, trivial⟩
        rcases Nat.lt_or_ge i k with h' | h'
        · exact ih i hi h'
        · have : i = k := by omega
          subst this
          exact ⟨h, fun j hj => by omega⟩
    · conv => whnf
      exact bpf fun hm => h (hm.1 k hlt).1
  · have hge : xs.length ≤ k := by simpa using h
    conv => whnf
    refine kbi (fun h4 => ?_) (fun h4 => ?_)
    · simp at h4
      conv => whnf
      exact bpt ⟨fun i hi => ih i hi (by omega), by omega⟩
    · simp at h4
      conv => whnf
      exact bpf fun hm => by have := hm.2; omega
def Picks (xs : List Int) : Prop := xs.length ≤ 200 ∧ AllIn xs 0 999
theorem l4Picks_ok (xs : List Int) (hx : xs.length ≤ 1048576) : CallsTo EE 81 [sl (xs.map encInt)] (· = bp (Picks xs)) := by
  refine callsTo_of_AW (fn := Tryz.f81) Tryz.func81 rfl (by kernel_rfl) rfl ?_
  conv => whnf
  refine kbi (fun h4 => ?_) (fun h4 => ?_)
  · simp at h4
    conv => whnf
    refine ocase (l1All_ok xs 0 999 hx) (fun h5 => ?_) (fun h5 => ?_)
    · conv => whnf
      exact bpt ⟨by omega, h5⟩
    · conv => whnf
      exact bpf fun hm => h5 hm.2
  · simp at h4
    conv => whnf
    exact bpf fun hm => by have := hm.1; omega
end Ai
