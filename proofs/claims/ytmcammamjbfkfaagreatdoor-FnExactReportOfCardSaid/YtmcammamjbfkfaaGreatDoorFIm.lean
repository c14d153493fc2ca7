import Derived.Test.YtmcammamjbfkfaaGreatDoorFSp5
set_option maxHeartbeats 1000000
set_option linter.unusedVariables false
set_option maxRecDepth 100000
namespace Ai
open Go Go.Proofs

/-! ### the program's side -/
theorem in_ok (n lo hi : Int) : CallsTo EE 56 [i64 n, i64 lo, i64 hi] (· = bp (InR n lo hi)) := by
  refine callsTo_of_AW (fn := Tryz.f56) Tryz.func56 rfl (by kernel_rfl) rfl ?_
  conv => whnf
  repeat' (refine kbi (fun h => ?_) (fun h => ?_) <;> first | contradiction | conv => whnf)
  all_goals simp only [decide_eq_true_eq] at *
  all_goals first | exact bpt (by unfold InR; omega) | exact bpf (by unfold InR; omega)
def nCount (c : Int) : Int := if c = 2 ∨ c = 3 ∨ c = 10 ∨ c = 11 ∨ c = 12 ∨ c = 13 ∨ c = 14 ∨ c = 17 then 1 else if c = 16 then 2 else 0
theorem names_ok (o : OpL) : CallsTo EE 133 [agg (encOp o)] (· = i64 (nCount o.code)) := by
  refine callsTo_of_AW (fn := Tryz.f133) Tryz.func133 rfl (by kernel_rfl) rfl ?_
  conv => whnf
  repeat' (refine kbi (fun h => ?_) (fun h => ?_) <;> first | contradiction | conv => whnf)
  all_goals simp only [beq_iff_eq] at *
  all_goals refine i64_eq ?_
  all_goals unfold nCount
  all_goals first | rw [if_pos (by omega)] | rw [if_neg (by omega), if_pos (by omega)] | rw [if_neg (by omega), if_neg (by omega)]
theorem IsNaN_ok (x : Nat) : CallsTo EE 161 [.d (.flt x)] (· = bp (isNan x = true)) := by
  refine callsTo_of_AW (fn := Tryz.f161) Tryz.func161 rfl (by kernel_rfl) rfl ?_
  conv => whnf
  refine kbi (fun h => ?_) (fun h => ?_)
  · conv => whnf
    exact bpt (by rw [← nan_ne]; exact h)
  · conv => whnf
    exact bpf (by rw [← nan_ne]; exact h)
theorem bits_run (b : Nat) (w : World) : (callFunc 162 #[.float .f64 b]).run Tryz.prog w = .ok (.value (.int .u64 b)) w := by
  kernel_rfl
theorem Float64bits_ok (x : Nat) : CallsTo EE 162 [.d (.flt x)] (fun r => ∃ b : Nat, r = .d (.int .u64 b) ∧ canon b = x) := by
  intro w A vs hI hA
  obtain ⟨hl, hr⟩ := hA
  have h1 : vs.size = 1 := hl.symm
  obtain ⟨v, hv⟩ : ∃ v, vs = #[v] := ⟨vs[0], by apply Array.ext (by simp [h1]); intro i h2 h3; simp at h3; subst h3; rfl⟩
  subst hv
  have := hr 0 _ v rfl rfl
  cases this with
  | d _ _ hd => cases hd with
    | flt b =>
      unfold Invokes
      rw [show Sem.run EE.P (callFunc 162 #[Value.float .f64 b]) w = _ from bits_run b w]
      exact ⟨_, ⟨b, rfl, rfl⟩, RowKit.Below.refl _ _, .d _ _ (.int _ _)⟩
theorem canon_zero {b : Nat} (h : canon b = 0) : b = 0 := by
  unfold canon at h
  cases hn : isNan b with
  | true => rw [hn] at h; exact absurd (show nanC = 0 from h) (by decide)
  | false => rw [hn] at h; exact h
theorem bits_eq {v b c : Nat} (hb : canon b = v) (hc : canon c = 0) (h : ((b : Int) == (c : Int)) = true) : v = 0 := by
  have h1 : b = c := by
    have h2 : (b : Int) = c := by simpa using h
    omega
  rw [← hb, h1, hc]
theorem bits_ne {v b c : Nat} (hb : canon b = v) (hc : canon c = 0) (h : ¬ ((b : Int) == (c : Int)) = true) : ¬ v = 0 := by
  intro e
  subst e
  have h1 := canon_zero hb
  have h2 := canon_zero hc
  subst h1; subst h2
  exact h (by decide)
theorem SameNum0_ok (v : Nat) : CallsTo EE 134 [.d (.flt v), .d (.flt 0)] (· = bp (v = 0)) := by
  refine callsTo_of_AW (fn := Tryz.f134) Tryz.func134 rfl (by kernel_rfl) rfl ?_
  conv => whnf
  refine ocase (IsNaN_ok v) (fun h => ?_) (fun h => ?_)
  · conv => whnf
    refine ocase (IsNaN_ok 0) (fun h3 => ?_) (fun h3 => ?_)
    · exact absurd h3 (by decide)
    · conv => whnf
      refine ⟨_, Float64bits_ok v, ?_⟩
      rintro r ⟨b, rfl, hb⟩
      conv => whnf
      refine ⟨_, Float64bits_ok 0, ?_⟩
      rintro r ⟨c, rfl, hc⟩
      conv => whnf
      refine kbi (fun h4 => ?_) (fun h4 => ?_)
      · conv => whnf
        exact bpt (bits_eq hb hc h4)
      · conv => whnf
        exact bpf (bits_ne hb hc h4)
  · conv => whnf
    refine ⟨_, Float64bits_ok v, ?_⟩
    rintro r ⟨b, rfl, hb⟩
    conv => whnf
    refine ⟨_, Float64bits_ok 0, ?_⟩
    rintro r ⟨c, rfl, hc⟩
    conv => whnf
    refine kbi (fun h4 => ?_) (fun h4 => ?_)
    · conv => whnf
      exact bpt (bits_eq hb hc h4)
    · conv => whnf
      exact bpf (bits_ne hb hc h4)
def OpL.fitsI (o : OpL) : Prop := InR o.code 1 17 ∧ (0 < nCount o.code ∨ o.a = 0) ∧ (1 < nCount o.code ∨ o.b = 0) ∧ (o.code = 1 ∨ o.v = 0)
theorem fits_ok (o : OpL) : CallsTo EE 104 [agg (encOp o)] (· = bp o.fitsI) := by
  refine callsTo_of_AW (fn := Tryz.f104) Tryz.func104 rfl (by kernel_rfl) rfl ?_
  conv => whnf
  refine ⟨_, names_ok o, ?_⟩
  rintro r rfl
  conv => whnf
  repeat' first
    | (refine kbi (fun h => ?_) (fun h => ?_) <;> first | contradiction | conv => whnf)
    | (refine ocase (in_ok _ _ _) (fun h => ?_) (fun h => ?_) <;> first | contradiction | conv => whnf)
    | (refine ocase (SameNum0_ok _) (fun h => ?_) (fun h => ?_) <;> first | contradiction | conv => whnf)
  all_goals try simp only [decide_eq_true_eq, beq_iff_eq, gt_iff_lt] at *
  all_goals first
    | (refine bpt ?_; unfold OpL.fitsI; simp_all; done)
    | (refine bpf ?_; unfold OpL.fitsI; simp_all; done)
    | (refine bpf fun hm => ?_
       obtain ⟨b1, b2, b3, b4⟩ := hm
       rcases b2 with b2 | b2 <;> rcases b3 with b3 | b3 <;> rcases b4 with b4 | b4 <;> first | omega | contradiction)
def OpL.atI (p : ProgL) (many : Int) (o : OpL) : Prop := ((o.code = 2 ∨ o.code = 3) → InR o.a 0 (p.cells - 1)) ∧ ((o.code = 10 ∨ o.code = 11) → InR o.a 0 many) ∧ ((o.code = 12 ∨ o.code = 13) → InR o.a 0 (p.locks - 1)) ∧ (o.code = 14 → InR o.a 0 (p.rs.length - 1)) ∧ (o.code = 16 → InR o.a 0 (p.conds - 1) ∧ InR o.b 0 (p.locks - 1)) ∧ (o.code = 17 → InR o.a 0 (p.conds - 1))
def OpL.goodI (p : ProgL) (long : Int) (o : OpL) : Prop := o.fitsI ∧ o.atI p long
theorem isGood_ok (p : ProgL) (hp : p.headS) (long : Int) (o : OpL) : CallsTo EE 72 [agg (encProg p), agg (encOp o), i64 long] (· = bp (o.goodI p long)) := by
  obtain ⟨a1, a2, a3, a4⟩ := hp
  unfold InR at a1 a2 a3 a4
  have e1 : IntKind.i64.wrap (p.cells - 1) = p.cells - 1 := wrap_id (by omega) (by omega)
  have e2 : IntKind.i64.wrap (p.locks - 1) = p.locks - 1 := wrap_id (by omega) (by omega)
  have e3 : IntKind.i64.wrap (p.conds - 1) = p.conds - 1 := wrap_id (by omega) (by omega)
  have e4 : IntKind.i64.wrap (((p.rs.map encRow).length : Int) - 1) = (p.rs.length : Int) - 1 := by rw [List.length_map]; exact wrap_id (by omega) (by omega)
  refine callsTo_of_AW (fn := Tryz.f72) Tryz.func72 rfl (by kernel_rfl) rfl ?_
  conv => whnf
  refine ocase (fits_ok o) (fun h0 => ?_) (fun h0 => ?_)
  rotate_left
  · conv => whnf
    exact bpf fun hm => h0 hm.1
  conv => whnf
  repeat' first
    | (refine kbi (fun h => ?_) (fun h => ?_) <;> first | contradiction | conv => whnf)
    | (refine ocase (in_ok _ _ _) (fun h => ?_) (fun h => ?_) <;> first | contradiction | conv => whnf)
  all_goals simp only [beq_iff_eq, e1, e2, e3, e4] at *
  all_goals first
    | exact bpt ⟨h0, by unfold OpL.atI; refine ⟨?_, ?_, ?_, ?_, ?_, ?_⟩ <;> intros <;> first | assumption | omega | exact ⟨by assumption, by assumption⟩⟩
    | exact bpf fun hm => by
        obtain ⟨_, a1, a2, a3, a4, a5, a6⟩ := hm
        first
          | exact absurd (a1 (by omega)) (by assumption)
          | exact absurd (a2 (by omega)) (by assumption)
          | exact absurd (a3 (by omega)) (by assumption)
          | exact absurd (a4 (by omega)) (by assumption)
          | exact absurd (a5 (by omega)).1 (by assumption)
          | exact absurd (a5 (by omega)).2 (by assumption)
          | exact absurd (a6 (by omega)) (by assumption)
end Ai
