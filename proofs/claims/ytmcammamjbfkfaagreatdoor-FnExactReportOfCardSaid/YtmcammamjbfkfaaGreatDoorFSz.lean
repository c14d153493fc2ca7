import Derived.Test.YtmcammamjbfkfaaGreatDoorF0
set_option maxHeartbeats 1000000
set_option linter.unusedVariables false
set_option maxRecDepth 100000
namespace Ai
open Go Go.Proofs

theorem szOpS_ok (xs : List (List D)) (left : Int) (h0 : 0 ≤ left) (h1 : left ≤ 1048576) (hx : xs.length ≤ 9223372036854775807) :
    CallsTo EE 64 [sl xs, i64 left] (szR left xs.length) := by
  refine callsTo_of_AW (fn := Tryz.f64) Tryz.func64 rfl (by kernel_rfl) rfl ?_
  conv => whnf
  rw [wrap_id (by omega) (by omega)]
  refine ⟨fun h => ?_, fun h => ?_⟩
  · conv => whnf
    exact ⟨-1, rfl, by omega, by omega, by omega⟩
  · conv => whnf
    simp at h
    exact ⟨_, rfl, by omega, by omega, by omega⟩
theorem szIntS_ok (xs : List (List D)) (left : Int) (h0 : 0 ≤ left) (h1 : left ≤ 1048576) (hx : xs.length ≤ 9223372036854775807) :
    CallsTo EE 76 [sl xs, i64 left] (szR left xs.length) := by
  refine callsTo_of_AW (fn := Tryz.f76) Tryz.func76 rfl (by kernel_rfl) rfl ?_
  conv => whnf
  rw [wrap_id (by omega) (by omega)]
  refine ⟨fun h => ?_, fun h => ?_⟩
  · conv => whnf
    exact ⟨-1, rfl, by omega, by omega, by omega⟩
  · conv => whnf
    simp at h
    exact ⟨_, rfl, by omega, by omega, by omega⟩
theorem szPairS_ok (xs : List (List D)) (left : Int) (h0 : 0 ≤ left) (h1 : left ≤ 1048576) (hx : xs.length ≤ 9223372036854775807) :
    CallsTo EE 18 [sl xs, i64 left] (szR left xs.length) := by
  refine callsTo_of_AW (fn := Tryz.f18) Tryz.func18 rfl (by kernel_rfl) rfl ?_
  conv => whnf
  rw [wrap_id (by omega) (by omega)]
  refine ⟨fun h => ?_, fun h => ?_⟩
  · conv => whnf
    exact ⟨-1, rfl, by omega, by omega, by omega⟩
  · conv => whnf
    simp at h
    exact ⟨_, rfl, by omega, by omega, by omega⟩
theorem szOpSS_ok (xs : List (List OpL)) (left : Int) (h0 : 0 ≤ left) (h1 : left ≤ 1048576) (hx : xs.length ≤ 9223372036854775807) (hx2 : ∀ x ∈ xs, x.length ≤ 9223372036854775807) :
    CallsTo EE 32 [sl (xs.map encRow), i64 left] (szR left (sizeSS List.length xs)) := by
  refine callsTo_of_AW (fn := Tryz.f32) Tryz.func32 rfl (by kernel_rfl) rfl ?_
  conv => whnf
  rw [wrap_id (by simp; omega) (by simp; omega), List.length_map]
  refine ⟨fun h => ?_, fun h => ?_⟩
  · conv => whnf
    exact ⟨-1, rfl, by omega, by omega, by omega⟩
  · simp at h
    conv => whnf
    refine aloop (fun x : Nat × Int => [(0, sl (xs.map encRow)), (5, i64 x.1), (1, i64 x.2)]) (fun _ => []) (fun x => xs.length - x.1)
      (fun x => x.1 ≤ xs.length ∧ 0 ≤ x.2 ∧ (xs.length : Int) + ((xs.map List.length).take x.1).sum + x.2 ≤ left) (0, left - xs.length) .refl ⟨rfl, rfl, rfl, trivial⟩ trivial ⟨by omega, by omega, by simp; omega⟩ ?_
    rintro ⟨k, l⟩ τ H ⟨hk, hl, hs⟩
    dsimp only at hk hl hs
    conv => whnf
    refine ⟨fun h => ?_, fun h => ?_⟩
    · have hlt := lt_map h
      conv => whnf
      refine ⟨encRow xs[k], map_get encRow hlt rfl, ?_⟩
      conv => whnf
      refine ⟨_, szOpS_ok _ l hl (by omega) (by simpa using hx2 _ (List.getElem_mem hlt)), ?_⟩
      rintro r ⟨n, rfl, hn1, hn2, hn3⟩
      conv => whnf
      refine ⟨fun h => ?_, fun h => ?_⟩
      · conv => whnf
        exact ⟨-1, rfl, by omega, by omega, by omega⟩
      · simp at h
        conv => whnf
        refine ⟨(k + 1, n), ⟨by omega, by omega, ?_⟩, by show xs.length - (k + 1) < xs.length - k; omega, ⟨rfl, next_i64 hlt hx, rfl, trivial⟩, trivial⟩
        have hm : k < (xs.map List.length).length := by simpa using hlt
        rw [sum_take_succ _ _ hm]
        have := hn3 h
        simp at this ⊢
        omega
    · have hge := ge_map h
      conv => whnf
      have hkk : k = xs.length := by omega
      subst hkk
      refine ⟨_, rfl, by omega, ?_, ?_⟩
      · omega
      · intro _
        simp only [sizeSS]
        rw [List.take_of_length_le (by simp)] at hs
        simp at hs ⊢
        omega
theorem szPct_ok (s : PctL) (left : Int) (h0 : 0 ≤ left) (h1 : left ≤ 1048576) (hs : s.wf) : CallsTo EE 41 [agg (encPct s), i64 left] (szR left s.size) := by
  refine callsTo_of_AW (fn := Tryz.f41) Tryz.func41 rfl (by kernel_rfl) rfl ?_
  conv => whnf
  refine ⟨_, szIntS_ok _ left h0 h1 (by simpa using hs.1), ?_⟩
  rintro r ⟨n, rfl, hn1, hn2, hn3⟩
  conv => whnf
  refine ⟨fun h => ?_, fun h => ?_⟩
  · conv => whnf
    exact ⟨-1, rfl, by omega, by omega, by omega⟩
  · simp at h
    conv => whnf
    refine ⟨_, szIntS_ok _ n (by omega) (by omega) (by simpa using hs.2), ?_⟩
    rintro r ⟨n2, rfl, hm1, hm2, hm3⟩
    conv => whnf
    refine ⟨fun h => ?_, fun h => ?_⟩
    · conv => whnf
      exact ⟨-1, rfl, by omega, by omega, by omega⟩
    · simp at h
      conv => whnf
      refine ⟨_, rfl, by omega, by omega, fun _ => ?_⟩
      have e1 := hn3 (by omega)
      have e2 := hm3 (by omega)
      simp only [List.length_map] at e1 e2
      simp only [PctL.size]
      omega
theorem szFound_ok (s : FoundL) (left : Int) (h0 : 0 ≤ left) (h1 : left ≤ 1048576) (hs : s.wf) : CallsTo EE 42 [agg (encFound s), i64 left] (szR left s.size) := by
  have hs1 := hs.1
  refine callsTo_of_AW (fn := Tryz.f42) Tryz.func42 rfl (by kernel_rfl) rfl ?_
  conv => whnf
  rw [wrap_id (by omega) (by omega)]
  refine ⟨fun h => ?_, fun h => ?_⟩
  · conv => whnf
    exact ⟨-1, rfl, by omega, by omega, by omega⟩
  · simp at h
    conv => whnf
    refine ⟨_, szIntS_ok _ _ (by omega) (by omega) (by simpa using hs.2), ?_⟩
    rintro r ⟨n2, rfl, hm1, hm2, hm3⟩
    conv => whnf
    refine ⟨fun h => ?_, fun h => ?_⟩
    · conv => whnf
      exact ⟨-1, rfl, by omega, by omega, by omega⟩
    · simp at h
      conv => whnf
      refine ⟨_, rfl, by omega, by omega, fun _ => ?_⟩
      have e2 := hm3 (by omega)
      simp only [List.length_map] at e2
      simp only [FoundL.size]
      omega
theorem szPctS_ok (xs : List PctL) (left : Int) (h0 : 0 ≤ left) (h1 : left ≤ 1048576) (hx : xs.length ≤ 9223372036854775807) (hx2 : ∀ x ∈ xs, x.wf) :
    CallsTo EE 17 [sl (xs.map encPct), i64 left] (szR left (sizeSS PctL.size xs)) := by
  refine callsTo_of_AW (fn := Tryz.f17) Tryz.func17 rfl (by kernel_rfl) rfl ?_
  conv => whnf
  rw [wrap_id (by simp; omega) (by simp; omega), List.length_map]
  refine ⟨fun h => ?_, fun h => ?_⟩
  · conv => whnf
    exact ⟨-1, rfl, by omega, by omega, by omega⟩
  · simp at h
    conv => whnf
    refine aloop (fun x : Nat × Int => [(0, sl (xs.map encPct)), (5, i64 x.1), (1, i64 x.2)]) (fun _ => []) (fun x => xs.length - x.1)
      (fun x => x.1 ≤ xs.length ∧ 0 ≤ x.2 ∧ (xs.length : Int) + ((xs.map PctL.size).take x.1).sum + x.2 ≤ left) (0, left - xs.length) .refl ⟨rfl, rfl, rfl, trivial⟩ trivial ⟨by omega, by omega, by simp; omega⟩ ?_
    rintro ⟨k, l⟩ τ H ⟨hk, hl, hs⟩
    dsimp only at hk hl hs
    conv => whnf
    refine ⟨fun h => ?_, fun h => ?_⟩
    · have hlt := lt_map h
      conv => whnf
      refine ⟨encPct xs[k], map_get encPct hlt rfl, ?_⟩
      conv => whnf
      refine ⟨_, szPct_ok _ l hl (by omega) (hx2 _ (List.getElem_mem hlt)), ?_⟩
      rintro r ⟨n, rfl, hn1, hn2, hn3⟩
      conv => whnf
      refine ⟨fun h => ?_, fun h => ?_⟩
      · conv => whnf
        exact ⟨-1, rfl, by omega, by omega, by omega⟩
      · simp at h
        conv => whnf
        refine ⟨(k + 1, n), ⟨by omega, by omega, ?_⟩, by show xs.length - (k + 1) < xs.length - k; omega, ⟨rfl, next_i64 hlt hx, rfl, trivial⟩, trivial⟩
        have hm : k < (xs.map PctL.size).length := by simpa using hlt
        rw [sum_take_succ _ _ hm]
        have := hn3 h
        simp at this ⊢
        omega
    · have hge := ge_map h
      conv => whnf
      have hkk : k = xs.length := by omega
      subst hkk
      refine ⟨_, rfl, by omega, ?_, ?_⟩
      · omega
      · intro _
        simp only [sizeSS]
        rw [List.take_of_length_le (by simp)] at hs
        simp at hs ⊢
        omega
theorem szFoundS_ok (xs : List FoundL) (left : Int) (h0 : 0 ≤ left) (h1 : left ≤ 1048576) (hx : xs.length ≤ 9223372036854775807) (hx2 : ∀ x ∈ xs, x.wf) :
    CallsTo EE 19 [sl (xs.map encFound), i64 left] (szR left (sizeSS FoundL.size xs)) := by
  refine callsTo_of_AW (fn := Tryz.f19) Tryz.func19 rfl (by kernel_rfl) rfl ?_
  conv => whnf
  rw [wrap_id (by simp; omega) (by simp; omega), List.length_map]
  refine ⟨fun h => ?_, fun h => ?_⟩
  · conv => whnf
    exact ⟨-1, rfl, by omega, by omega, by omega⟩
  · simp at h
    conv => whnf
    refine aloop (fun x : Nat × Int => [(0, sl (xs.map encFound)), (5, i64 x.1), (1, i64 x.2)]) (fun _ => []) (fun x => xs.length - x.1)
      (fun x => x.1 ≤ xs.length ∧ 0 ≤ x.2 ∧ (xs.length : Int) + ((xs.map FoundL.size).take x.1).sum + x.2 ≤ left) (0, left - xs.length) .refl ⟨rfl, rfl, rfl, trivial⟩ trivial ⟨by omega, by omega, by simp; omega⟩ ?_
    rintro ⟨k, l⟩ τ H ⟨hk, hl, hs⟩
    dsimp only at hk hl hs
    conv => whnf
    refine ⟨fun h => ?_, fun h => ?_⟩
    · have hlt := lt_map h
      conv => whnf
      refine ⟨encFound xs[k], map_get encFound hlt rfl, ?_⟩
      conv => whnf
      refine ⟨_, szFound_ok _ l hl (by omega) (hx2 _ (List.getElem_mem hlt)), ?_⟩
      rintro r ⟨n, rfl, hn1, hn2, hn3⟩
      conv => whnf
      refine ⟨fun h => ?_, fun h => ?_⟩
      · conv => whnf
        exact ⟨-1, rfl, by omega, by omega, by omega⟩
      · simp at h
        conv => whnf
        refine ⟨(k + 1, n), ⟨by omega, by omega, ?_⟩, by show xs.length - (k + 1) < xs.length - k; omega, ⟨rfl, next_i64 hlt hx, rfl, trivial⟩, trivial⟩
        have hm : k < (xs.map FoundL.size).length := by simpa using hlt
        rw [sum_take_succ _ _ hm]
        have := hn3 h
        simp at this ⊢
        omega
    · have hge := ge_map h
      conv => whnf
      have hkk : k = xs.length := by omega
      subst hkk
      refine ⟨_, rfl, by omega, ?_, ?_⟩
      · omega
      · intro _
        simp only [sizeSS]
        rw [List.take_of_length_le (by simp)] at hs
        simp at hs ⊢
        omega
theorem szProg_ok (p : ProgL) (left : Int) (h0 : 0 ≤ left) (h1 : left ≤ 1048576) (hs : p.wf) : CallsTo EE 10 [agg (encProg p), i64 left] (szR left p.size) := by
  refine callsTo_of_AW (fn := Tryz.f10) Tryz.func10 rfl (by kernel_rfl) rfl ?_
  conv => whnf
  refine ⟨_, szOpSS_ok _ left h0 h1 hs.1 hs.2, ?_⟩
  rintro r ⟨n, rfl, hn1, hn2, hn3⟩
  conv => whnf
  refine ⟨fun h => ?_, fun h => ?_⟩
  · conv => whnf
    exact ⟨-1, rfl, by omega, by omega, by omega⟩
  · simp at h
    conv => whnf
    exact ⟨_, rfl, by omega, by omega, hn3⟩
theorem szHunt_ok (p : HuntL) (left : Int) (h0 : 0 ≤ left) (h1 : left ≤ 1048576) (hs : p.wf) : CallsTo EE 5 [agg (encHunt p), i64 left] (szR left p.size) := by
  obtain ⟨w1, w2, w3, w4, w5, w6⟩ := hs
  refine callsTo_of_AW (fn := Tryz.f5) Tryz.func5 rfl (by kernel_rfl) rfl ?_
  conv => whnf
  refine ⟨_, szProg_ok p.p left h0 h1 w1, ?_⟩
  rintro r ⟨n, rfl, hn1, hn2, hn3⟩
  conv => whnf
  refine ⟨fun h => ?_, fun h => ?_⟩
  · conv => whnf
    exact ⟨-1, rfl, by omega, by omega, by omega⟩
  simp at h
  conv => whnf
  refine ⟨_, szPctS_ok _ n (by omega) (by omega) w2 w3, ?_⟩
  rintro r ⟨n2, rfl, hm1, hm2, hm3⟩
  conv => whnf
  refine ⟨fun h => ?_, fun h => ?_⟩
  · conv => whnf
    exact ⟨-1, rfl, by omega, by omega, by omega⟩
  simp at h
  conv => whnf
  refine ⟨_, szPairS_ok _ n2 (by omega) (by omega) (by simpa using w4), ?_⟩
  rintro r ⟨n3, rfl, hk1, hk2, hk3⟩
  conv => whnf
  refine ⟨fun h => ?_, fun h => ?_⟩
  · conv => whnf
    exact ⟨-1, rfl, by omega, by omega, by omega⟩
  simp at h
  conv => whnf
  refine ⟨_, szFoundS_ok _ n3 (by omega) (by omega) w5 w6, ?_⟩
  rintro r ⟨n4, rfl, hj1, hj2, hj3⟩
  conv => whnf
  refine ⟨fun h => ?_, fun h => ?_⟩
  · conv => whnf
    exact ⟨-1, rfl, by omega, by omega, by omega⟩
  simp at h
  conv => whnf
  refine ⟨_, rfl, by omega, by omega, fun _ => ?_⟩
  have e1 := hn3 (by omega)
  have e2 := hm3 (by omega)
  have e3 := hk3 (by omega)
  have e4 := hj3 (by omega)
  simp only [List.length_map] at e3
  simp only [HuntL.size]
  omega
end Ai
