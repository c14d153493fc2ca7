import Derived.Test.YtmcammamjbfkfaaGreatDoorFIm2
set_option maxHeartbeats 1000000
set_option linter.unusedVariables false
set_option maxRecDepth 100000
namespace Ai
open Go Go.Proofs

theorem indexOp_ok (xs : List OpL) (hx : xs.length ≤ 1048576) (g : FuncId) (c1 c2 : List D) (P : OpL → Prop) (hc : ∀ x ∈ xs, CallsTo EE g ([agg (encOp x)] ++ [.fp c1, .fp c2]) (· = bp (P x))) :
    CallsTo EE 103 [sl (xs.map encOp), .fn g [.fp c1, .fp c2]] (fun r => ∃ n : Int, r = i64 n ∧ (0 ≤ n ↔ ∃ x ∈ xs, P x)) := by
  refine callsTo_of_AW (fn := Tryz.f103) Tryz.func103 rfl (by kernel_rfl) rfl ?_
  conv => whnf
  refine aloop (fun k : Nat => [(0, sl (xs.map encOp)), (1, .fn g [.fp c1, .fp c2]), (6, sl (xs.map encOp)), (7, i64 (xs.map encOp).length), (8, i64 k)]) (fun k => []) (fun k => xs.length - k) (fun k => k ≤ xs.length ∧ ∀ x ∈ xs.take k, ¬ P x) 0 .refl ⟨rfl, rfl, rfl, rfl, rfl, trivial⟩ trivial ⟨Nat.zero_le _, tk_zero⟩ ?_
  rintro k τ H ⟨hk, ih⟩
  conv => whnf
  refine kbi (fun h => ?_) (fun h => ?_)
  · have hlt := lt_map h
    conv => whnf
    refine ⟨encOp xs[k], map_get encOp hlt rfl, ?_⟩
    conv => whnf
    refine ocase (hc _ (List.getElem_mem hlt)) (fun h1 => ?_) (fun h1 => ?_)
    · conv => whnf
      exact ⟨_, rfl, fun _ => ⟨_, List.getElem_mem hlt, h1⟩, fun _ => by omega⟩
    · conv => whnf
      exact ⟨k + 1, ⟨by omega, tk_step ih hlt h1⟩, by show xs.length - (k + 1) < xs.length - k; omega, ⟨rfl, rfl, rfl, rfl, next_i64 hlt (by omega), trivial⟩, trivial⟩
  · have hge : xs.length ≤ k := by simpa using h
    have hall := tk_end ih hge
    conv => whnf
    exact ⟨_, rfl, fun h => absurd h (by decide), fun ⟨x, hx, hp⟩ => absurd hp (hall x hx)⟩
theorem containsOp_ok (xs : List OpL) (hx : xs.length ≤ 1048576) (g : FuncId) (c1 c2 : List D) (P : OpL → Prop) (hc : ∀ x ∈ xs, CallsTo EE g ([agg (encOp x)] ++ [.fp c1, .fp c2]) (· = bp (P x))) :
    CallsTo EE 70 [sl (xs.map encOp), .fn g [.fp c1, .fp c2]] (· = bp (∃ x ∈ xs, P x)) := by
  refine callsTo_of_AW (fn := Tryz.f70) Tryz.func70 rfl (by kernel_rfl) rfl ?_
  conv => whnf
  refine ⟨_, indexOp_ok xs hx g c1 c2 P hc, ?_⟩
  rintro r ⟨n, rfl, hn⟩
  conv => whnf
  refine kbi (fun h => ?_) (fun h => ?_)
  · conv => whnf
    exact bpt (hn.1 (by simpa using h))
  · conv => whnf
    exact bpf fun hm => h (by simpa using hn.2 hm)
theorem indexPct_ok (xs : List PctL) (hx : xs.length ≤ 1048576) (g : FuncId)  (P : PctL → Prop) (hc : ∀ x ∈ xs, CallsTo EE g ([agg (encPct x)] ++ []) (· = bp (P x))) :
    CallsTo EE 82 [sl (xs.map encPct), .fn g []] (fun r => ∃ n : Int, r = i64 n ∧ (0 ≤ n ↔ ∃ x ∈ xs, P x)) := by
  refine callsTo_of_AW (fn := Tryz.f82) Tryz.func82 rfl (by kernel_rfl) rfl ?_
  conv => whnf
  refine aloop (fun k : Nat => [(0, sl (xs.map encPct)), (1, .fn g []), (6, sl (xs.map encPct)), (7, i64 (xs.map encPct).length), (8, i64 k)]) (fun k => []) (fun k => xs.length - k) (fun k => k ≤ xs.length ∧ ∀ x ∈ xs.take k, ¬ P x) 0 .refl ⟨rfl, rfl, rfl, rfl, rfl, trivial⟩ trivial ⟨Nat.zero_le _, tk_zero⟩ ?_
  rintro k τ H ⟨hk, ih⟩
  conv => whnf
  refine kbi (fun h => ?_) (fun h => ?_)
  · have hlt := lt_map h
    conv => whnf
    refine ⟨encPct xs[k], map_get encPct hlt rfl, ?_⟩
    conv => whnf
    refine ocase (hc _ (List.getElem_mem hlt)) (fun h1 => ?_) (fun h1 => ?_)
    · conv => whnf
      exact ⟨_, rfl, fun _ => ⟨_, List.getElem_mem hlt, h1⟩, fun _ => by omega⟩
    · conv => whnf
      exact ⟨k + 1, ⟨by omega, tk_step ih hlt h1⟩, by show xs.length - (k + 1) < xs.length - k; omega, ⟨rfl, rfl, rfl, rfl, next_i64 hlt (by omega), trivial⟩, trivial⟩
  · have hge : xs.length ≤ k := by simpa using h
    have hall := tk_end ih hge
    conv => whnf
    exact ⟨_, rfl, fun h => absurd h (by decide), fun ⟨x, hx, hp⟩ => absurd hp (hall x hx)⟩
theorem containsPct_ok (xs : List PctL) (hx : xs.length ≤ 1048576) (g : FuncId)  (P : PctL → Prop) (hc : ∀ x ∈ xs, CallsTo EE g ([agg (encPct x)] ++ []) (· = bp (P x))) :
    CallsTo EE 52 [sl (xs.map encPct), .fn g []] (· = bp (∃ x ∈ xs, P x)) := by
  refine callsTo_of_AW (fn := Tryz.f52) Tryz.func52 rfl (by kernel_rfl) rfl ?_
  conv => whnf
  refine ⟨_, indexPct_ok xs hx g  P hc, ?_⟩
  rintro r ⟨n, rfl, hn⟩
  conv => whnf
  refine kbi (fun h => ?_) (fun h => ?_)
  · conv => whnf
    exact bpt (hn.1 (by simpa using h))
  · conv => whnf
    exact bpf fun hm => h (by simpa using hn.2 hm)
theorem indexFound_ok (xs : List FoundL) (hx : xs.length ≤ 1048576) (g : FuncId) (c1 : List D) (P : FoundL → Prop) (hc : ∀ x ∈ xs, CallsTo EE g ([agg (encFound x)] ++ [.fp c1]) (· = bp (P x))) :
    CallsTo EE 114 [sl (xs.map encFound), .fn g [.fp c1]] (fun r => ∃ n : Int, r = i64 n ∧ (0 ≤ n ↔ ∃ x ∈ xs, P x)) := by
  refine callsTo_of_AW (fn := Tryz.f114) Tryz.func114 rfl (by kernel_rfl) rfl ?_
  conv => whnf
  refine aloop (fun k : Nat => [(0, sl (xs.map encFound)), (1, .fn g [.fp c1]), (6, sl (xs.map encFound)), (7, i64 (xs.map encFound).length), (8, i64 k)]) (fun k => []) (fun k => xs.length - k) (fun k => k ≤ xs.length ∧ ∀ x ∈ xs.take k, ¬ P x) 0 .refl ⟨rfl, rfl, rfl, rfl, rfl, trivial⟩ trivial ⟨Nat.zero_le _, tk_zero⟩ ?_
  rintro k τ H ⟨hk, ih⟩
  conv => whnf
  refine kbi (fun h => ?_) (fun h => ?_)
  · have hlt := lt_map h
    conv => whnf
    refine ⟨encFound xs[k], map_get encFound hlt rfl, ?_⟩
    conv => whnf
    refine ocase (hc _ (List.getElem_mem hlt)) (fun h1 => ?_) (fun h1 => ?_)
    · conv => whnf
      exact ⟨_, rfl, fun _ => ⟨_, List.getElem_mem hlt, h1⟩, fun _ => by omega⟩
    · conv => whnf
      exact ⟨k + 1, ⟨by omega, tk_step ih hlt h1⟩, by show xs.length - (k + 1) < xs.length - k; omega, ⟨rfl, rfl, rfl, rfl, next_i64 hlt (by omega), trivial⟩, trivial⟩
  · have hge : xs.length ≤ k := by simpa using h
    have hall := tk_end ih hge
    conv => whnf
    exact ⟨_, rfl, fun h => absurd h (by decide), fun ⟨x, hx, hp⟩ => absurd hp (hall x hx)⟩
theorem containsFound_ok (xs : List FoundL) (hx : xs.length ≤ 1048576) (g : FuncId) (c1 : List D) (P : FoundL → Prop) (hc : ∀ x ∈ xs, CallsTo EE g ([agg (encFound x)] ++ [.fp c1]) (· = bp (P x))) :
    CallsTo EE 88 [sl (xs.map encFound), .fn g [.fp c1]] (· = bp (∃ x ∈ xs, P x)) := by
  refine callsTo_of_AW (fn := Tryz.f88) Tryz.func88 rfl (by kernel_rfl) rfl ?_
  conv => whnf
  refine ⟨_, indexFound_ok xs hx g c1 P hc, ?_⟩
  rintro r ⟨n, rfl, hn⟩
  conv => whnf
  refine kbi (fun h => ?_) (fun h => ?_)
  · conv => whnf
    exact bpt (hn.1 (by simpa using h))
  · conv => whnf
    exact bpf fun hm => h (by simpa using hn.2 hm)
theorem indexInt_ok (xs : List Int) (hx : xs.length ≤ 1048576) (g : FuncId)  (P : Int → Prop) (hc : ∀ x ∈ xs, CallsTo EE g ([i64 x] ++ []) (· = bp (P x))) :
    CallsTo EE 115 [sl (xs.map encInt), .fn g []] (fun r => ∃ n : Int, r = i64 n ∧ (0 ≤ n ↔ ∃ x ∈ xs, P x)) := by
  refine callsTo_of_AW (fn := Tryz.f115) Tryz.func115 rfl (by kernel_rfl) rfl ?_
  conv => whnf
  refine aloop (fun k : Nat => [(0, sl (xs.map encInt)), (1, .fn g []), (6, sl (xs.map encInt)), (7, i64 (xs.map encInt).length), (8, i64 k)]) (fun k => []) (fun k => xs.length - k) (fun k => k ≤ xs.length ∧ ∀ x ∈ xs.take k, ¬ P x) 0 .refl ⟨rfl, rfl, rfl, rfl, rfl, trivial⟩ trivial ⟨Nat.zero_le _, tk_zero⟩ ?_
  rintro k τ H ⟨hk, ih⟩
  conv => whnf
  refine kbi (fun h => ?_) (fun h => ?_)
  · have hlt := lt_map h
    conv => whnf
    refine ⟨encInt xs[k], map_get encInt hlt rfl, ?_⟩
    conv => whnf
    refine ocase (hc _ (List.getElem_mem hlt)) (fun h1 => ?_) (fun h1 => ?_)
    · conv => whnf
      exact ⟨_, rfl, fun _ => ⟨_, List.getElem_mem hlt, h1⟩, fun _ => by omega⟩
    · conv => whnf
      exact ⟨k + 1, ⟨by omega, tk_step ih hlt h1⟩, by show xs.length - (k + 1) < xs.length - k; omega, ⟨rfl, rfl, rfl, rfl, next_i64 hlt (by omega), trivial⟩, trivial⟩
  · have hge : xs.length ≤ k := by simpa using h
    have hall := tk_end ih hge
    conv => whnf
    exact ⟨_, rfl, fun h => absurd h (by decide), fun ⟨x, hx, hp⟩ => absurd hp (hall x hx)⟩
theorem containsInt_ok (xs : List Int) (hx : xs.length ≤ 1048576) (g : FuncId)  (P : Int → Prop) (hc : ∀ x ∈ xs, CallsTo EE g ([i64 x] ++ []) (· = bp (P x))) :
    CallsTo EE 90 [sl (xs.map encInt), .fn g []] (· = bp (∃ x ∈ xs, P x)) := by
  refine callsTo_of_AW (fn := Tryz.f90) Tryz.func90 rfl (by kernel_rfl) rfl ?_
  conv => whnf
  refine ⟨_, indexInt_ok xs hx g  P hc, ?_⟩
  rintro r ⟨n, rfl, hn⟩
  conv => whnf
  refine kbi (fun h => ?_) (fun h => ?_)
  · conv => whnf
    exact bpt (hn.1 (by simpa using h))
  · conv => whnf
    exact bpf fun hm => h (by simpa using hn.2 hm)
theorem goodProg1_ok (p : ProgL) (hp : p.headS) (r : List OpL) (o : OpL) : CallsTo EE 71 ([agg (encOp o)] ++ [.fp (encProg p), .fp (encRow r)]) (· = bp (¬ o.goodI p r.length)) := by
  refine callsTo_of_AW (fn := Tryz.f71) Tryz.func71 rfl (by kernel_rfl) rfl ?_
  conv => whnf
  have hop : CallsTo EE 72 [agg (encProg p), agg (encOp o), i64 (r.map encOp).length] (· = bp (o.goodI p r.length)) := by
    rw [List.length_map]
    exact isGood_ok p hp _ o
  refine ocase hop (fun h => ?_) (fun h => ?_)
  · conv => whnf
    exact bpf fun hm => hm h
  · conv => whnf
    exact bpt h
def ProgL.goodI (p : ProgL) : Prop := p.headS ∧ ∀ r ∈ p.rs, r.length ≤ 24 ∧ ∀ o ∈ r, o.goodI p r.length
theorem GoodProgI_ok (p : ProgL) (hs : p.rs.length ≤ 1048576 ∧ ∀ x ∈ p.rs, x.length ≤ 1048576) : CallsTo EE 37 [agg (encProg p)] (· = bp p.goodI) := by
  refine callsTo_of_AW (fn := Tryz.f37) Tryz.func37 rfl (by kernel_rfl) rfl ?_
  conv => whnf
  refine ocase (in_ok _ _ _) (fun h1 => ?_) (fun h1 => ?_)
  rotate_left
  · conv => whnf
    exact bpf fun hm => h1 hm.1.1
  conv => whnf
  refine ocase (in_ok _ _ _) (fun h2 => ?_) (fun h2 => ?_)
  rotate_left
  · conv => whnf
    exact bpf fun hm => h2 hm.1.2.1
  conv => whnf
  refine ocase (in_ok _ _ _) (fun h3 => ?_) (fun h3 => ?_)
  rotate_left
  · conv => whnf
    exact bpf fun hm => h3 hm.1.2.2.1
  conv => whnf
  refine ocase (in_ok _ _ _) (fun h4 => ?_) (fun h4 => ?_)
  rotate_left
  · conv => whnf
    exact bpf fun hm => h4 (by simpa using hm.1.2.2.2)
  have hh : p.headS := ⟨h1, h2, h3, by simpa using h4⟩
  conv => whnf
  refine aloop (fun k : Nat => [(1, .ptr 1 0), (29, sl (p.rs.map encRow)), (30, i64 (p.rs.map encRow).length), (31, i64 k)]) (fun k => [(1, .vs 35 ((encProg p).map .d))]) (fun k => p.rs.length - k) (fun k => k ≤ p.rs.length ∧ ∀ r ∈ p.rs.take k, r.length ≤ 24 ∧ ∀ o ∈ r, o.goodI p r.length) 0 .refl ⟨rfl, rfl, rfl, rfl, trivial⟩ ⟨rfl, trivial⟩ ⟨Nat.zero_le _, tk_zero⟩ ?_
  rintro k τ H ⟨hk, ih⟩
  conv => whnf
  refine kbi (fun h => ?_) (fun h => ?_)
  · have hlt := lt_map h
    conv => whnf
    refine ⟨encRow p.rs[k], map_get encRow hlt rfl, ?_⟩
    conv => whnf
    have hrl := hs.2 _ (List.getElem_mem hlt)
    refine kbi (fun h5 => ?_) (fun h5 => ?_)
    · conv => whnf
      refine bpf fun hm => ?_
      have := (hm.2 _ (List.getElem_mem hlt)).1
      simp at h5
      omega
    · conv => whnf
      have hcf := containsOp_ok p.rs[k] hrl 71 (encProg p) (encRow p.rs[k]) (fun o => ¬ o.goodI p p.rs[k].length) (fun o _ => goodProg1_ok p hh p.rs[k] o)
      refine .inl (fcase hcf (fun h6 => ?_) (fun h6 => ?_))
      · conv => whnf
        refine bpf fun hm => ?_
        obtain ⟨o, ho, hb⟩ := h6
        exact hb ((hm.2 _ (List.getElem_mem hlt)).2 o ho)
      · conv => whnf
        simp at h5
        refine ⟨k + 1, ⟨by omega, tk_step ih hlt ⟨by omega, fun o ho => ?_⟩⟩, by show p.rs.length - (k + 1) < p.rs.length - k; omega, ⟨rfl, rfl, rfl, next_i64 hlt (by omega), trivial⟩, ⟨rfl, trivial⟩⟩
        exact Classical.byContradiction fun hb => h6 ⟨o, ho, hb⟩
  · have hge : p.rs.length ≤ k := by simpa using h
    conv => whnf
    exact bpt ⟨hh, tk_end ih hge⟩
theorem goodHunt1_ok (s : PctL) (hs : s.ranks.length ≤ 1048576 ∧ s.changes.length ≤ 1048576) : CallsTo EE 53 ([agg (encPct s)] ++ []) (· = bp (¬ s.goodI)) := by
  refine callsTo_of_AW (fn := Tryz.f53) Tryz.func53 rfl (by kernel_rfl) rfl ?_
  conv => whnf
  refine ocase (GoodPctI_ok s hs) (fun h => ?_) (fun h => ?_)
  · conv => whnf
    exact bpf fun hm => hm h
  · conv => whnf
    exact bpt h
theorem arePicks1_ok (n : Int) : CallsTo EE 91 ([i64 n] ++ []) (· = bp (¬ InR n 0 999)) := by
  refine callsTo_of_AW (fn := Tryz.f91) Tryz.func91 rfl (by kernel_rfl) rfl ?_
  conv => whnf
  refine ocase (in_ok _ _ _) (fun h => ?_) (fun h => ?_)
  · conv => whnf
    exact bpf fun hm => hm h
  · conv => whnf
    exact bpt h
theorem hasSign1_ok (f : FoundL) (t : List UInt8) : CallsTo EE 89 ([agg (encFound f)] ++ [.fp [.str t]]) (· = bp (f.sign = t)) := by
  refine callsTo_of_AW (fn := Tryz.f89) Tryz.func89 rfl (by kernel_rfl) rfl ?_
  conv => whnf
  refine kbi (fun h => ?_) (fun h => ?_)
  · conv => whnf
    exact bpt (by simpa using h)
  · conv => whnf
    exact bpf (by simpa using h)
end Ai
