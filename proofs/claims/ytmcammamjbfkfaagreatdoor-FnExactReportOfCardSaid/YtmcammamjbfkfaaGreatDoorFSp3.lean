import Derived.Test.YtmcammamjbfkfaaGreatDoorFSp2
import Derived.Test.YtmcammamjbfkfaaGreatDoorFFlt
set_option maxHeartbeats 1000000
set_option linter.unusedVariables false
set_option maxRecDepth 100000
namespace Ai
open Go Go.Proofs

/-- how many of A and B an op names -/
def nameOne (c : Int) : Prop := c = 2 ∨ c = 3 ∨ c = 10 ∨ c = 11 ∨ c = 12 ∨ c = 13 ∨ c = 14 ∨ c = 17
def usesOf (c : Int) : List UInt8 := if c = 1 then [118] else if c = 2 ∨ c = 3 ∨ c = 10 ∨ c = 11 ∨ c = 12 ∨ c = 13 ∨ c = 14 ∨ c = 17 then [97] else if c = 16 then [97, 98] else []
theorem l2Uses_ok (c : Int) : CallsTo EE 122 [i64 c] (· = sv (usesOf c)) := by
  refine callsTo_of_AW (fn := Tryz.f122) Tryz.func122 rfl (by kernel_rfl) rfl ?_
  conv => whnf
  repeat' (refine kbi (fun h => ?_) (fun h => ?_) <;> first | contradiction | conv => whnf)
  all_goals simp only [beq_iff_eq] at *
  all_goals subst_vars
  all_goals first | rfl | (simp [usesOf, sv, *]; done)
def OpL.plainS (o : OpL) : Prop := InR o.code 1 17 ∧ InR o.a 0 999 ∧ InR o.b 0 999 ∧ (o.code = 1 ∨ o.v = 0) ∧ (nameOne o.code ∨ o.code = 16 ∨ o.a = 0) ∧ (o.code = 16 ∨ o.b = 0)
theorem u1 (c : Int) : usesOf c = [118] ↔ c = 1 := by
  unfold usesOf; split
  · simp [*]
  · split
    · simp [*]
    · split <;> simp [*]
theorem u2 (c : Int) : usesOf c = [97] ↔ nameOne c := by
  unfold usesOf nameOne; split
  · rename_i h; subst h; simp
  · split
    · simp [*]
    · split <;> simp [*]
theorem u3 (c : Int) : usesOf c = [97, 98] ↔ c = 16 := by
  unfold usesOf; split
  · rename_i h; subst h; simp
  · split
    · rename_i h; constructor
      · intro h2; simp at h2
      · intro h2; omega
    · split <;> simp [*]
theorem l2Plain_ok (o : OpL) (hv : o.v < 18446744073709551616) : CallsTo EE 96 [agg (encOp o)] (· = bp o.plainS) := by
  refine callsTo_of_AW (fn := Tryz.f96) Tryz.func96 rfl (by kernel_rfl) rfl ?_
  conv => whnf
  refine ⟨_, l2Uses_ok _, ?_⟩
  rintro r rfl
  conv => whnf
  repeat' first
    | (refine kbi (fun h => ?_) (fun h => ?_) <;> first | contradiction | conv => whnf)
    | (refine ocase (l1In_ok _ _ _) (fun h => ?_) (fun h => ?_) <;> first | contradiction | conv => whnf)
    | (refine ocase (l1SameNum0_ok _ hv) (fun h => ?_) (fun h => ?_) <;> first | contradiction | conv => whnf)
  all_goals try simp only [u1, u2, u3, beq_iff_eq] at *
  all_goals first | exact bpt (by unfold OpL.plainS; simp_all) | exact bpf (by unfold OpL.plainS; simp_all)
def OpL.atS (p : ProgL) (long : Int) (o : OpL) : Prop := ((o.code = 2 ∨ o.code = 3) → o.a < p.cells) ∧ ((o.code = 10 ∨ o.code = 11) → o.a ≤ long) ∧ ((o.code = 12 ∨ o.code = 13) → o.a < p.locks) ∧ (o.code = 14 → o.a < p.rs.length) ∧ (o.code = 16 → o.a < p.conds ∧ o.b < p.locks) ∧ (o.code = 17 → o.a < p.conds)
def OpL.goodS (p : ProgL) (long : Int) (o : OpL) : Prop := o.plainS ∧ o.atS p long
theorem l2Op_ok (p : ProgL) (long : Int) (o : OpL) (hv : o.v < 18446744073709551616) : CallsTo EE 65 [agg (encProg p), i64 long, agg (encOp o)] (· = bp (o.goodS p long)) := by
  refine callsTo_of_AW (fn := Tryz.f65) Tryz.func65 rfl (by kernel_rfl) rfl ?_
  conv => whnf
  refine ocase (l2Plain_ok o hv) (fun h0 => ?_) (fun h0 => ?_)
  rotate_left
  · conv => whnf
    exact bpf fun hm => h0 hm.1
  conv => whnf
  repeat' (refine kbi (fun h => ?_) (fun h => ?_) <;> first | contradiction | conv => whnf)
  all_goals simp only [beq_iff_eq, decide_eq_true_eq, List.length_map] at *
  all_goals first
    | exact bpt ⟨h0, by unfold OpL.atS; refine ⟨?_, ?_, ?_, ?_, ?_, ?_⟩ <;> intros <;> omega⟩
    | exact bpf fun hm => by
        obtain ⟨_, a1, a2, a3, a4, a5, a6⟩ := hm
        omega
def ProgL.headS (p : ProgL) : Prop := InR p.cells 0 4 ∧ InR p.locks 0 4 ∧ InR p.conds 0 2 ∧ InR p.rs.length 1 4
def ProgL.goodS (p : ProgL) : Prop := p.headS ∧ ∀ r ∈ p.rs, (∀ o ∈ r, o.goodS p r.length) ∧ r.length ≤ 24
def ProgL.flt (p : ProgL) : Prop := ∀ r ∈ p.rs, ∀ o ∈ r, o.v < 18446744073709551616
theorem GoodProgS_ok (p : ProgL) (hs : p.rs.length ≤ 1048576 ∧ ∀ x ∈ p.rs, x.length ≤ 1048576) (hv : p.flt) : CallsTo EE 33 [agg (encProg p)] (· = bp p.goodS) := by
  refine callsTo_of_AW (fn := Tryz.f33) Tryz.func33 rfl (by kernel_rfl) rfl ?_
  conv => whnf
  refine ocase (l1In_ok _ _ _) (fun h1 => ?_) (fun h1 => ?_)
  rotate_left
  · conv => whnf
    exact bpf fun hm => h1 hm.1.1
  conv => whnf
  refine ocase (l1In_ok _ _ _) (fun h2 => ?_) (fun h2 => ?_)
  rotate_left
  · conv => whnf
    exact bpf fun hm => h2 hm.1.2.1
  conv => whnf
  refine ocase (l1In_ok _ _ _) (fun h3 => ?_) (fun h3 => ?_)
  rotate_left
  · conv => whnf
    exact bpf fun hm => h3 hm.1.2.2.1
  conv => whnf
  refine ocase (l1In_ok _ _ _) (fun h4 => ?_) (fun h4 => ?_)
  rotate_left
  · conv => whnf
    exact bpf fun hm => h4 (by simpa using hm.1.2.2.2)
  have hh : p.headS := ⟨h1, h2, h3, by simpa using h4⟩
  conv => whnf
  refine aloop (fun k : Nat => [(1, .ptr 1 0), (31, sl (p.rs.map encRow)), (32, i64 (p.rs.map encRow).length), (33, i64 k)]) (fun k => [(1, .vs 35 ((encProg p).map .d))]) (fun k => p.rs.length - k) (fun k => k ≤ p.rs.length ∧ ∀ r ∈ p.rs.take k, (∀ o ∈ r, o.goodS p r.length) ∧ r.length ≤ 24) 0 .refl ⟨rfl, rfl, rfl, rfl, trivial⟩ ⟨rfl, trivial⟩ ⟨Nat.zero_le _, tk_zero⟩ ?_
  rintro k τ H ⟨hk, ih⟩
  conv => whnf
  refine kbi (fun h => ?_) (fun h => ?_)
  · have hlt := lt_map h
    conv => whnf
    refine ⟨encRow p.rs[k], map_get encRow hlt rfl, ?_⟩
    conv => whnf
    have hrl := hs.2 _ (List.getElem_mem hlt)
    refine aloop (fun j : Nat => [(1, .ptr 1 0), (31, sl (p.rs.map encRow)), (32, i64 (p.rs.map encRow).length), (33, i64 k), (4, sl (p.rs[k].map encOp)), (37, sl (p.rs[k].map encOp)), (38, i64 (p.rs[k].map encOp).length), (39, i64 j)]) (fun j => [(1, .vs 35 ((encProg p).map .d))]) (fun j => p.rs[k].length - j) (fun j => j ≤ p.rs[k].length ∧ ∀ o ∈ p.rs[k].take j, o.goodS p p.rs[k].length) 0 .refl ⟨rfl, rfl, rfl, rfl, rfl, rfl, rfl, rfl, trivial⟩ ⟨rfl, trivial⟩ ⟨Nat.zero_le _, tk_zero (xs := p.rs[k])⟩ ?_
    rintro j τ2 H2 ⟨hj, ih2⟩
    conv => whnf
    refine kbi (fun h5 => ?_) (fun h5 => ?_)
    · have hlt2 := lt_map h5
      conv => whnf
      refine ⟨encOp p.rs[k][j], map_get encOp hlt2 rfl, ?_⟩
      conv => whnf
      have hop : CallsTo EE 65 [agg (encProg p), i64 (p.rs[k].map encOp).length, agg (encOp p.rs[k][j])] (· = bp (p.rs[k][j].goodS p p.rs[k].length)) := by
        rw [List.length_map]
        exact l2Op_ok p _ _ (hv _ (List.getElem_mem hlt) _ (List.getElem_mem hlt2))
      refine ocase hop (fun h6 => ?_) (fun h6 => ?_)
      · conv => whnf
        exact ⟨j + 1, ⟨by omega, tk_step ih2 hlt2 h6⟩, by show p.rs[k].length - (j + 1) < p.rs[k].length - j; omega, ⟨rfl, rfl, rfl, rfl, rfl, rfl, rfl, next_i64 hlt2 (by omega), trivial⟩, ⟨rfl, trivial⟩⟩
      · conv => whnf
        exact bpf fun hm => h6 ((hm.2 _ (List.getElem_mem hlt)).1 _ (List.getElem_mem hlt2))
    · have hge2 : p.rs[k].length ≤ j := by simpa using h5
      have hall := tk_end ih2 hge2
      conv => whnf
      refine kbi (fun h7 => ?_) (fun h7 => ?_)
      · conv => whnf
        refine bpf fun hm => ?_
        have := (hm.2 _ (List.getElem_mem hlt)).2
        simp at h7
        omega
      · conv => whnf
        simp at h7
        exact ⟨k + 1, ⟨by omega, tk_step ih hlt ⟨hall, by omega⟩⟩, by show p.rs.length - (k + 1) < p.rs.length - k; omega, ⟨rfl, rfl, rfl, next_i64 hlt (by omega), trivial⟩, ⟨rfl, trivial⟩⟩
  · have hge : p.rs.length ≤ k := by simpa using h
    conv => whnf
    exact bpt ⟨hh, tk_end ih hge⟩
end Ai
