import Derived.Test.YtmcammamjbfkfaaGreatDoorFLaw
set_option maxHeartbeats 1000000
set_option linter.unusedVariables false
set_option maxRecDepth 100000
namespace Ai
open Go Go.Proofs

/-- each differs from the one ahead of it -/
def Apart (t : List Int) : Prop := ∀ (i : Nat) (h : i < t.length) (j : Nat) (hj : j + 1 = i), t[i] ≠ t[j]
theorem keeps_iff (t : List Int) (i : Nat) (h : i < t.length) : Lib.keeps t.toArray i = true ↔ ∀ (j : Nat) (hj : j + 1 = i), t[i] ≠ t[j] := by
  unfold Lib.keeps
  rw [decide_eq_true_eq]
  constructor
  · rintro h1 j hj
    have h2 : i ≠ 0 := by omega
    have h3 := h1.resolve_left h2
    have e : i - 1 = j := by omega
    rw [e, getElem!_pos _ i (by simpa using h), getElem!_pos _ j (by simp; omega)] at h3
    simpa using h3
  · intro h1
    by_cases h0 : i = 0
    · exact .inl h0
    · right
      rw [getElem!_pos _ i (by simpa using h), getElem!_pos _ (i - 1) (by simp; omega)]
      have := h1 (i - 1) (by omega)
      simpa using this
theorem compact_all (t : List Int) (h : Apart t) : Lib.compact t = t := by
  unfold Lib.compact
  rw [Lib.compactUpTo_all _ _ fun j hj => (keeps_iff t j hj).2 fun k hk => h j hj k hk]
  have := Lib.range_map_get t.toArray
  simpa using this
theorem apart_of (t : List Int) (h : (Lib.compact t).length = t.length) : Apart t := by
  unfold Lib.compact Lib.compactUpTo at h
  rw [List.length_map] at h
  have h2 : ((List.range t.length).filter (Lib.keeps t.toArray)).length = (List.range t.length).length := by simpa using h
  have h3 := List.length_filter_eq_length_iff.1 h2
  intro i hi j hj
  exact (keeps_iff t i hi).1 (h3 i (by simpa using hi)) j hj
theorem pct_same (s : PctL) : s.goodS ↔ s.goodI := by
  have hp := sorted_perm s.ranks
  have hs := sorted_pair s.ranks
  have hl := sorted_len s.ranks
  constructor
  · rintro ⟨h1, h2, h3, h4, h5⟩
    have hnd : s.ranks.Nodup := by
      rw [List.nodup_iff_pairwise_ne, List.pairwise_iff_getElem]
      intro i j hi hj hij he
      refine h3 j hj ?_
      rw [← he]
      exact List.mem_take_iff_getElem.2 ⟨i, by omega, rfl⟩
    have hnd2 : (sorted s.ranks).Nodup := hp.nodup_iff.2 hnd
    have hap : Apart (sorted s.ranks) := by
      intro i hi j hj he
      have := (List.pairwise_iff_getElem.1 (List.nodup_iff_pairwise_ne.1 hnd2)) j i (by omega) hi (by omega)
      exact this he.symm
    refine ⟨h1, by rw [compact_all _ hap, hl]; exact h1, ?_, h4, h5⟩
    rw [compact_all _ hap]
    intro i hi
    refine ⟨h2 _ (hp.mem_iff.1 (List.getElem_mem hi)), fun j hj => ?_⟩
    have h6 := (List.pairwise_iff_getElem.1 hs) j i (by omega) hi (by omega)
    have h7 := hap i hi j hj
    omega
  · rintro ⟨h1, h2, h3, h4, h5⟩
    have hap := apart_of (sorted s.ranks) (by rw [h2, hl, h1])
    rw [compact_all _ hap] at h3
    have hlt : ∀ (n i : Nat) (hi : i < (sorted s.ranks).length) (hj : i + n + 1 < (sorted s.ranks).length), (sorted s.ranks)[i] < (sorted s.ranks)[i + n + 1] := by
      intro n
      induction n with
      | zero => intro i hi hj; exact (h3 (i + 1) hj).2 i rfl
      | succ n ih =>
        intro i hi hj
        have h8 := ih i hi (by omega)
        have h9 := (h3 (i + (n + 1) + 1) hj).2 (i + n + 1) (by omega)
        omega
    have hnd2 : (sorted s.ranks).Nodup := by
      rw [List.nodup_iff_pairwise_ne, List.pairwise_iff_getElem]
      intro i j hi hj hij
      have h10 := hlt (j - i - 1) i hi (by omega)
      have e : i + (j - i - 1) + 1 = j := by omega
      simp only [e] at h10
      omega
    have hnd : s.ranks.Nodup := hp.nodup_iff.1 hnd2
    refine ⟨h1, ?_, ?_, h4, h5⟩
    · intro x hx
      obtain ⟨i, hi, rfl⟩ := List.getElem_of_mem (hp.mem_iff.2 hx)
      exact (h3 i hi).1
    · intro k hk hm
      obtain ⟨i, hi, he⟩ := List.mem_take_iff_getElem.1 hm
      have := (List.pairwise_iff_getElem.1 (List.nodup_iff_pairwise_ne.1 hnd)) i k (by omega) hk (by omega)
      exact this he
theorem hunt_same (x : HuntL) : x.goodS ↔ x.goodI := by
  unfold HuntL.goodS HuntL.goodI
  rw [prog_same x.p]
  exact and_congr_left fun _ => ⟨fun h s hs => (pct_same s).1 (h s hs), fun h s hs => (pct_same s).2 (h s hs)⟩
theorem size_le {α : Type} (f : α → Nat) (xs : List α) (n : Nat) (h : sizeSS f xs ≤ n) : xs.length ≤ n ∧ ∀ x ∈ xs, f x ≤ n := by
  unfold sizeSS at h
  refine ⟨by omega, fun x hx => ?_⟩
  have : f x ≤ (xs.map f).sum := by
    clear h
    induction xs with
    | nil => cases hx
    | cons y ys ih =>
      simp only [List.map_cons, List.sum_cons]
      rcases List.mem_cons.1 hx with h1 | h1
      · subst h1; omega
      · have := ih h1; omega
  omega
/-- THE LAW. -/
theorem law_ok (x : HuntL) (hw : x.wf) (hv : x.p.flt) : CallsTo EE 3 [agg (encHunt x)] (· = bv true) := by
  refine callsTo_of_AW (fn := Tryz.f3) Tryz.func3 rfl (by kernel_rfl) rfl ?_
  conv => whnf
  refine ⟨_, szHunt_ok x 1048576 (by omega) (by omega) hw, ?_⟩
  rintro r ⟨n, rfl, hn1, hn2, hn3⟩
  conv => whnf
  refine kbi (fun h => ?_) (fun h => ?_)
  · conv => whnf
  have hsz : x.size ≤ 1048576 := by
    have := hn3 (by simp at h; omega)
    simp at h
    omega
  unfold HuntL.size ProgL.size at hsz
  have z1 := size_le List.length x.p.rs 1048576 (by omega)
  have z2 := size_le PctL.size x.kept 1048576 (by omega)
  have z3 := size_le FoundL.size x.finds 1048576 (by omega)
  have hsm : x.small := ⟨z1, ⟨z2.1, fun s hs => by have := z2.2 s hs; unfold PctL.size at this; omega⟩, by omega, z3.1, fun f hf => by have := z3.2 f hf; unfold FoundL.size at this; omega⟩
  have htx : x.texts := ⟨z3.1, fun f hf => by have := z3.2 f hf; unfold FoundL.size at this; omega⟩
  conv => whnf
  refine ⟨_, toHunt_ok x hsm, ?_⟩
  rintro r rfl
  conv => whnf
  refine ⟨_, ReportOfS_ok x hsm hv htx, ?_⟩
  rintro r hr
  rcases hr with ⟨hg, rfl⟩ | ⟨hg, rfl⟩
  · conv => whnf
    refine ⟨_, toHunt_ok x hsm, ?_⟩
    rintro r rfl
    conv => whnf
    refine ⟨_, ReportOfI_ok x hsm htx (hunt_same x).2, ?_⟩
    rintro r hr
    rcases hr with ⟨hg2, rfl⟩ | ⟨hg2, rfl⟩
    rotate_left
    · exact absurd ((hunt_same x).1 hg) hg2
    conv => whnf
    refine kbi (fun h2 => by simp at h2) (fun _ => ?_)
    conv => whnf
    refine kbi (fun h2 => by simp at h2) (fun _ => ?_)
    conv => whnf
    refine ⟨by kernel_rfl, ?_⟩
    conv => whnf
    refine ⟨_, toHunt_ok x hsm, ?_⟩
    conv => whnf
    refine ⟨_, eqHunt_ok x hsm, ?_⟩
    conv => whnf
  · conv => whnf
    refine ⟨_, toHunt_ok x hsm, ?_⟩
    rintro r rfl
    conv => whnf
    refine ⟨_, ReportOfI_ok x hsm htx (hunt_same x).2, ?_⟩
    rintro r hr
    rcases hr with ⟨hg2, rfl⟩ | ⟨hg2, rfl⟩
    · exact absurd ((hunt_same x).2 hg2) hg
    conv => whnf
    refine kbi (fun h2 => by simp at h2) (fun _ => ?_)
    conv => whnf
    refine kbi (fun h2 => by simp at h2) (fun _ => ?_)
    conv => whnf
    refine ⟨by kernel_rfl, ?_⟩
    conv => whnf
    refine ⟨_, toHunt_ok x hsm, ?_⟩
    conv => whnf
    refine ⟨_, eqHunt_ok x hsm, ?_⟩
    conv => whnf
end Ai
