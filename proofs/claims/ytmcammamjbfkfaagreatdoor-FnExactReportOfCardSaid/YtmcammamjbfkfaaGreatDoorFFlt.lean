import Derived.Test.YtmcammamjbfkfaaGreatDoorF0
set_option maxHeartbeats 1000000
set_option linter.unusedVariables false
set_option maxRecDepth 100000
namespace Ai
open Go Go.Proofs Ieee

theorem read_zero : double.read 0 = .number false 0 double.leastPlace := by decide
theorem order_zero {v : Nat} (hv : v < 18446744073709551616) (h : double.order v 0 = some .eq) : v = 0 ∨ v = 9223372036854775808 := by
  unfold Format.order at h
  rw [read_zero] at h
  unfold Format.read at h
  have e1 : double.signWeight = 9223372036854775808 := by decide
  have e2 : double.binade = 4503599627370496 := by decide
  rw [e1, e2] at h
  simp only at h
  split at h
  · simp only [Datum.order, Option.some.injEq] at h
    have hb : (Min.min double.leastPlace double.leastPlace) = double.leastPlace := by decide
    rw [hb, Int.sub_self] at h
    have h2 := Std.LawfulEqCmp.eq_of_compare h
    simp only [signed] at h2
    have hs : v % 9223372036854775808 = 0 := by
      split at h2
      · simp at h2; omega
      · simp at h2; omega
    omega
  · split at h
    · simp only [Datum.order, Option.some.injEq] at h
      have h2 := Std.LawfulEqCmp.eq_of_compare h
      simp only [signed] at h2
      exfalso
      split at h2
      · simp [Nat.shiftLeft_eq] at h2
        rcases Int.mul_eq_zero.1 h2 with h3 | h3
        · omega
        · exact absurd h3 (Int.ne_of_gt (Int.pow_pos (by decide)))
      · simp [Nat.shiftLeft_eq] at h2
        rcases Int.mul_eq_zero.1 h2 with h3 | h3
        · omega
        · exact absurd h3 (Int.ne_of_gt (Int.pow_pos (by decide)))
    · split at h
      · simp only [Datum.order, Option.some.injEq] at h
        split at h <;> cases h
      · cases h
theorem nan_ne (v : Nat) : fcmp .neq v v = isNan v := by
  unfold fcmp isNan Format.order
  simp only
  cases h : double.read v with
  | nan s f => rfl
  | infinity s => cases s <;> rfl
  | number s m e => simp [Datum.order, Datum.isNaN, Std.ReflCmp.compare_self]
/-- of one sign -/
def Minus (x : Nat) : Prop := fcmp .lss x 0 = true ∨ (fcmp .eql x 0 = true ∧ fcmp .lss (fop .quo 4607182418800017408 x) 0 = true)
theorem l1Nan_ok (x : Nat) : CallsTo EE 153 [.d (.flt x)] (· = bp (isNan x = true)) := by
  refine callsTo_of_AW (fn := Tryz.f153) Tryz.func153 rfl (by kernel_rfl) rfl ?_
  conv => whnf
  refine kbi (fun h => ?_) (fun h => ?_)
  · conv => whnf
    exact bpt (by rw [← nan_ne]; exact h)
  · conv => whnf
    exact bpf (by rw [← nan_ne]; exact h)
theorem IsMinus_ok (x : Nat) : CallsTo EE 154 [.d (.flt x)] (· = bp (Minus x)) := by
  refine callsTo_of_AW (fn := Tryz.f154) Tryz.func154 rfl (by kernel_rfl) rfl ?_
  conv => whnf
  repeat' (refine kbi (fun h => ?_) (fun h => ?_) <;> first | contradiction | conv => whnf)
  · exact bpt (.inl h)
  · rename_i h1 h2
    exact bpt (.inr ⟨h2, h⟩)
  · rename_i h1 h2
    exact bpf (fun hm => hm.elim (fun a => h1 a) fun a => h a.2)
  · rename_i h1
    exact bpf (fun hm => hm.elim (fun a => h1 a) fun a => h a.1)
theorem zero_iff {v : Nat} (hv : v < 18446744073709551616) (hn : ¬ isNan v = true) : (fcmp .eql v 0 = true ∧ (Minus v ↔ Minus 0)) ↔ v = 0 := by
  constructor
  · rintro ⟨h1, h2⟩
    have h3 : double.order v 0 = some .eq := by simpa [fcmp] using h1
    rcases order_zero hv h3 with h4 | h4
    · exact h4
    · subst h4
      exfalso
      have m1 : Minus 9223372036854775808 := .inr ⟨by decide, by decide⟩
      have m0 : ¬ Minus 0 := by unfold Minus; decide
      exact m0 (h2.1 m1)
  · rintro rfl
    exact ⟨by decide, Iff.rfl⟩
theorem l1SameNum0_ok (v : Nat) (hv : v < 18446744073709551616) : CallsTo EE 123 [.d (.flt v), .d (.flt 0)] (· = bp (v = 0)) := by
  refine callsTo_of_AW (fn := Tryz.f123) Tryz.func123 rfl (by kernel_rfl) rfl ?_
  conv => whnf
  refine ocase (l1Nan_ok v) (fun h => ?_) (fun h => ?_)
  · conv => whnf
    refine ocase (l1Nan_ok v) (fun h2 => ?_) (fun h2 => ?_)
    · conv => whnf
      refine ocase (l1Nan_ok 0) (fun h3 => ?_) (fun h3 => ?_)
      · exact absurd h3 (by decide)
      · conv => whnf
        exact bpf fun e => h3 (e ▸ h)
    · exact absurd h h2
  · conv => whnf
    refine ocase (l1Nan_ok 0) (fun h3 => ?_) (fun h3 => ?_)
    · exact absurd h3 (by decide)
    · conv => whnf
      refine kbi (fun h4 => ?_) (fun h4 => ?_)
      · conv => whnf
        refine ocase (IsMinus_ok v) (fun h5 => ?_) (fun h5 => ?_)
        · conv => whnf
          refine ocase (IsMinus_ok 0) (fun h6 => ?_) (fun h6 => ?_)
          · exact absurd h6 (by unfold Minus; decide)
          · conv => whnf
            refine kbi (fun h7 => ?_) (fun h7 => ?_)
            · exact absurd h7 (by decide)
            · conv => whnf
              exact bpf fun e => by subst e; exact h6 h5
        · conv => whnf
          refine ocase (IsMinus_ok 0) (fun h6 => ?_) (fun h6 => ?_)
          · exact absurd h6 (by unfold Minus; decide)
          · conv => whnf
            refine kbi (fun h7 => ?_) (fun h7 => ?_)
            · conv => whnf
              exact bpt ((zero_iff hv h).1 ⟨h4, ⟨fun a => absurd a h5, fun a => absurd a h6⟩⟩)
            · exact absurd (by decide) h7
      · conv => whnf
        exact bpf fun e => h4 (by subst e; decide)
end Ai
