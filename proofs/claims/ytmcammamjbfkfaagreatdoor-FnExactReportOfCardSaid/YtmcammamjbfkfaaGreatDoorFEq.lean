import Derived.Test.YtmcammamjbfkfaaGreatDoorFTo
set_option maxHeartbeats 1000000
set_option linter.unusedVariables false
set_option maxRecDepth 100000
namespace Ai
open Go Go.Proofs

theorem ne_self_int (n : Int) (h : (n != n) = true) : False := by simp at h
theorem eq_self_int (n : Int) (h : (n == n) = false) : False := by simp at h

theorem eqIntS_ok (xs : List Int) (hx : xs.length ≤ 1048576) : CallsTo EE 16 [sl (xs.map encInt), sl (xs.map encInt)] (· = bv true) := by
  refine callsTo_of_AW (fn := Tryz.f16) Tryz.func16 rfl (by kernel_rfl) rfl ?_
  conv => whnf
  refine ⟨fun h => (ne_self_int _ h).elim, fun _ => ?_⟩
  conv => whnf
  refine aloop (fun k : Nat => [(0, sl (xs.map encInt)), (1, sl (xs.map encInt)), (5, i64 k)]) (fun k => []) (fun k => xs.length - k) (fun k => k ≤ xs.length) 0 .refl ⟨rfl, rfl, rfl, trivial⟩ trivial (Nat.zero_le _) ?_
  intro k τ H hk
  conv => whnf
  refine ⟨fun h => ?_, fun h => ?_⟩
  · have hlt := lt_map h
    conv => whnf
    refine ⟨by kernel_rfl, ?_⟩
    conv => whnf
    refine ⟨encInt xs[k], map_get encInt hlt rfl, ?_⟩
    conv => whnf
    refine ⟨encInt xs[k], map_get encInt hlt rfl, ?_⟩
    conv => whnf
    refine ⟨fun h => (ne_self_int _ h).elim, fun _ => ?_⟩
    conv => whnf
    refine ⟨k + 1, by omega, by show xs.length - (k + 1) < xs.length - k; omega, ⟨rfl, rfl, next_i64 hlt (by omega), trivial⟩, trivial⟩
  · conv => whnf
theorem sameFloat_ok (x : Nat) : CallsTo EE 142 [.d (.flt x), .d (.flt x)] (· = bv true) := by
  refine callsTo_of_AW (fn := Tryz.f142) Tryz.func142 rfl (by kernel_rfl) rfl ?_
  conv => whnf
  repeat' (refine kbi (fun h => ?_) (fun h => ?_) <;> first | contradiction | conv => whnf)
  all_goals simp [fcmp_ne] at *
  all_goals simp_all
theorem eqOp_ok (x : OpL) : CallsTo EE 109 [agg (encOp x), agg (encOp x)] (· = bv true) := by
  refine callsTo_of_AW (fn := Tryz.f109) Tryz.func109 rfl (by kernel_rfl) rfl ?_
  conv => whnf
  refine ⟨fun h => (ne_self_int _ h).elim, fun _ => ?_⟩
  conv => whnf
  refine ⟨fun h => (ne_self_int _ h).elim, fun _ => ?_⟩
  conv => whnf
  refine ⟨fun h => (ne_self_int _ h).elim, fun _ => ?_⟩
  conv => whnf
  refine ⟨_, sameFloat_ok x.v, ?_⟩
  rintro r rfl
  conv => whnf
theorem eqPair_ok (x : PairL) : CallsTo EE 62 [agg (encPair x), agg (encPair x)] (· = bv true) := by
  refine callsTo_of_AW (fn := Tryz.f62) Tryz.func62 rfl (by kernel_rfl) rfl ?_
  conv => whnf
  refine ⟨fun h => (ne_self_int _ h).elim, fun _ => ?_⟩
  conv => whnf
  refine ⟨fun h => (ne_self_int _ h).elim, fun _ => ?_⟩
  conv => whnf
  refine ⟨fun h => (ne_self_int _ h).elim, fun _ => ?_⟩
  conv => whnf
theorem eqPct_ok (x : PctL) (h : x.ranks.length ≤ 1048576 ∧ x.changes.length ≤ 1048576) : CallsTo EE 61 [agg (encPct x), agg (encPct x)] (· = bv true) := by
  refine callsTo_of_AW (fn := Tryz.f61) Tryz.func61 rfl (by kernel_rfl) rfl ?_
  conv => whnf
  refine ⟨_, eqIntS_ok _ h.1, ?_⟩
  rintro r rfl
  conv => whnf
  refine ⟨_, eqIntS_ok _ h.2, ?_⟩
  rintro r rfl
  conv => whnf
theorem eqFound_ok (x : FoundL) (h : x.picks.length ≤ 1048576) : CallsTo EE 63 [agg (encFound x), agg (encFound x)] (· = bv true) := by
  refine callsTo_of_AW (fn := Tryz.f63) Tryz.func63 rfl (by kernel_rfl) rfl ?_
  conv => whnf
  refine ⟨fun h => (by simp at h), fun _ => ?_⟩
  conv => whnf
  refine ⟨_, eqIntS_ok _ h, ?_⟩
  rintro r rfl
  conv => whnf

theorem eqOpS_ok (xs : List OpL) (hx : xs.length ≤ 1048576) : CallsTo EE 75 [sl (xs.map encOp), sl (xs.map encOp)] (· = bv true) := by
  refine callsTo_of_AW (fn := Tryz.f75) Tryz.func75 rfl (by kernel_rfl) rfl ?_
  conv => whnf
  refine ⟨fun h => (ne_self_int _ h).elim, fun _ => ?_⟩
  conv => whnf
  refine aloop (fun k : Nat => [(0, sl (xs.map encOp)), (1, sl (xs.map encOp)), (5, i64 k)]) (fun k => []) (fun k => xs.length - k) (fun k => k ≤ xs.length) 0 .refl ⟨rfl, rfl, rfl, trivial⟩ trivial (Nat.zero_le _) ?_
  intro k τ H hk
  conv => whnf
  refine ⟨fun h => ?_, fun h => ?_⟩
  · have hlt := lt_map h
    conv => whnf
    refine ⟨by kernel_rfl, ?_⟩
    conv => whnf
    refine ⟨encOp xs[k], map_get encOp hlt rfl, ?_⟩
    conv => whnf
    refine ⟨encOp xs[k], map_get encOp hlt rfl, ?_⟩
    conv => whnf
    refine ⟨_, eqOp_ok xs[k], ?_⟩
    conv => whnf
    refine ⟨k + 1, by omega, by show xs.length - (k + 1) < xs.length - k; omega, ⟨rfl, rfl, next_i64 hlt (by omega), trivial⟩, trivial⟩
  · conv => whnf
theorem eqOpSS_ok (xs : List (List OpL)) (hx : xs.length ≤ 1048576) (hx2 : ∀ x ∈ xs, x.length ≤ 1048576) : CallsTo EE 40 [sl (xs.map encRow), sl (xs.map encRow)] (· = bv true) := by
  refine callsTo_of_AW (fn := Tryz.f40) Tryz.func40 rfl (by kernel_rfl) rfl ?_
  conv => whnf
  refine ⟨fun h => (ne_self_int _ h).elim, fun _ => ?_⟩
  conv => whnf
  refine aloop (fun k : Nat => [(0, sl (xs.map encRow)), (1, sl (xs.map encRow)), (5, i64 k)]) (fun k => []) (fun k => xs.length - k) (fun k => k ≤ xs.length) 0 .refl ⟨rfl, rfl, rfl, trivial⟩ trivial (Nat.zero_le _) ?_
  intro k τ H hk
  conv => whnf
  refine ⟨fun h => ?_, fun h => ?_⟩
  · have hlt := lt_map h
    conv => whnf
    refine ⟨by kernel_rfl, ?_⟩
    conv => whnf
    refine ⟨encRow xs[k], map_get encRow hlt rfl, ?_⟩
    conv => whnf
    refine ⟨encRow xs[k], map_get encRow hlt rfl, ?_⟩
    conv => whnf
    refine ⟨_, eqOpS_ok xs[k] (hx2 _ (List.getElem_mem hlt)), ?_⟩
    conv => whnf
    refine ⟨k + 1, by omega, by show xs.length - (k + 1) < xs.length - k; omega, ⟨rfl, rfl, next_i64 hlt (by omega), trivial⟩, trivial⟩
  · conv => whnf
theorem eqPctS_ok (xs : List PctL) (hx : xs.length ≤ 1048576) (hx2 : ∀ x ∈ xs, x.ranks.length ≤ 1048576 ∧ x.changes.length ≤ 1048576) : CallsTo EE 29 [sl (xs.map encPct), sl (xs.map encPct)] (· = bv true) := by
  refine callsTo_of_AW (fn := Tryz.f29) Tryz.func29 rfl (by kernel_rfl) rfl ?_
  conv => whnf
  refine ⟨fun h => (ne_self_int _ h).elim, fun _ => ?_⟩
  conv => whnf
  refine aloop (fun k : Nat => [(0, sl (xs.map encPct)), (1, sl (xs.map encPct)), (5, i64 k)]) (fun k => []) (fun k => xs.length - k) (fun k => k ≤ xs.length) 0 .refl ⟨rfl, rfl, rfl, trivial⟩ trivial (Nat.zero_le _) ?_
  intro k τ H hk
  conv => whnf
  refine ⟨fun h => ?_, fun h => ?_⟩
  · have hlt := lt_map h
    conv => whnf
    refine ⟨by kernel_rfl, ?_⟩
    conv => whnf
    refine ⟨encPct xs[k], map_get encPct hlt rfl, ?_⟩
    conv => whnf
    refine ⟨encPct xs[k], map_get encPct hlt rfl, ?_⟩
    conv => whnf
    refine ⟨_, eqPct_ok xs[k] (hx2 _ (List.getElem_mem hlt)), ?_⟩
    conv => whnf
    refine ⟨k + 1, by omega, by show xs.length - (k + 1) < xs.length - k; omega, ⟨rfl, rfl, next_i64 hlt (by omega), trivial⟩, trivial⟩
  · conv => whnf
theorem eqPairS_ok (xs : List PairL) (hx : xs.length ≤ 1048576) : CallsTo EE 30 [sl (xs.map encPair), sl (xs.map encPair)] (· = bv true) := by
  refine callsTo_of_AW (fn := Tryz.f30) Tryz.func30 rfl (by kernel_rfl) rfl ?_
  conv => whnf
  refine ⟨fun h => (ne_self_int _ h).elim, fun _ => ?_⟩
  conv => whnf
  refine aloop (fun k : Nat => [(0, sl (xs.map encPair)), (1, sl (xs.map encPair)), (5, i64 k)]) (fun k => []) (fun k => xs.length - k) (fun k => k ≤ xs.length) 0 .refl ⟨rfl, rfl, rfl, trivial⟩ trivial (Nat.zero_le _) ?_
  intro k τ H hk
  conv => whnf
  refine ⟨fun h => ?_, fun h => ?_⟩
  · have hlt := lt_map h
    conv => whnf
    refine ⟨by kernel_rfl, ?_⟩
    conv => whnf
    refine ⟨encPair xs[k], map_get encPair hlt rfl, ?_⟩
    conv => whnf
    refine ⟨encPair xs[k], map_get encPair hlt rfl, ?_⟩
    conv => whnf
    refine ⟨_, eqPair_ok xs[k], ?_⟩
    conv => whnf
    refine ⟨k + 1, by omega, by show xs.length - (k + 1) < xs.length - k; omega, ⟨rfl, rfl, next_i64 hlt (by omega), trivial⟩, trivial⟩
  · conv => whnf
theorem eqFoundS_ok (xs : List FoundL) (hx : xs.length ≤ 1048576) (hx2 : ∀ x ∈ xs, x.picks.length ≤ 1048576) : CallsTo EE 31 [sl (xs.map encFound), sl (xs.map encFound)] (· = bv true) := by
  refine callsTo_of_AW (fn := Tryz.f31) Tryz.func31 rfl (by kernel_rfl) rfl ?_
  conv => whnf
  refine ⟨fun h => (ne_self_int _ h).elim, fun _ => ?_⟩
  conv => whnf
  refine aloop (fun k : Nat => [(0, sl (xs.map encFound)), (1, sl (xs.map encFound)), (5, i64 k)]) (fun k => []) (fun k => xs.length - k) (fun k => k ≤ xs.length) 0 .refl ⟨rfl, rfl, rfl, trivial⟩ trivial (Nat.zero_le _) ?_
  intro k τ H hk
  conv => whnf
  refine ⟨fun h => ?_, fun h => ?_⟩
  · have hlt := lt_map h
    conv => whnf
    refine ⟨by kernel_rfl, ?_⟩
    conv => whnf
    refine ⟨encFound xs[k], map_get encFound hlt rfl, ?_⟩
    conv => whnf
    refine ⟨encFound xs[k], map_get encFound hlt rfl, ?_⟩
    conv => whnf
    refine ⟨_, eqFound_ok xs[k] (hx2 _ (List.getElem_mem hlt)), ?_⟩
    conv => whnf
    refine ⟨k + 1, by omega, by show xs.length - (k + 1) < xs.length - k; omega, ⟨rfl, rfl, next_i64 hlt (by omega), trivial⟩, trivial⟩
  · conv => whnf
theorem eqProg_ok (p : ProgL) (h : p.rs.length ≤ 1048576 ∧ ∀ x ∈ p.rs, x.length ≤ 1048576) : CallsTo EE 15 [agg (encProg p), agg (encProg p)] (· = bv true) := by
  refine callsTo_of_AW (fn := Tryz.f15) Tryz.func15 rfl (by kernel_rfl) rfl ?_
  conv => whnf
  refine ⟨fun h => (ne_self_int _ h).elim, fun _ => ?_⟩
  conv => whnf
  refine ⟨fun h => (ne_self_int _ h).elim, fun _ => ?_⟩
  conv => whnf
  refine ⟨fun h => (ne_self_int _ h).elim, fun _ => ?_⟩
  conv => whnf
  refine ⟨_, eqOpSS_ok _ h.1 h.2, ?_⟩
  rintro r rfl
  conv => whnf
theorem eqHunt_ok (h : HuntL) (hs : h.small) : CallsTo EE 9 [agg (encHunt h), agg (encHunt h)] (· = bv true) := by
  obtain ⟨h1, h2, h3, h4⟩ := hs
  refine callsTo_of_AW (fn := Tryz.f9) Tryz.func9 rfl (by kernel_rfl) rfl ?_
  conv => whnf
  refine ⟨_, eqProg_ok h.p h1, ?_⟩
  rintro r rfl
  conv => whnf
  refine ⟨_, eqPctS_ok _ h2.1 h2.2, ?_⟩
  rintro r rfl
  conv => whnf
  refine ⟨_, eqPairS_ok _ h3, ?_⟩
  rintro r rfl
  conv => whnf
  refine ⟨_, eqFoundS_ok _ h4.1 h4.2, ?_⟩
  rintro r rfl
  conv => whnf
  refine ⟨fun h => (ne_self_int _ h).elim, fun _ => ?_⟩
  conv => whnf

end Ai
