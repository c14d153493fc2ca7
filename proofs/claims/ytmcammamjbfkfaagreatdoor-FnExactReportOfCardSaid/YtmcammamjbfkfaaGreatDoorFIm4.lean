import Derived.Test.YtmcammamjbfkfaaGreatDoorFIm3
set_option maxHeartbeats 1000000
set_option linter.unusedVariables false
set_option maxRecDepth 100000
namespace Ai
open Go Go.Proofs

theorem isNaNInt_ok (n : Int) : CallsTo EE 145 [i64 n] (· = bp False) := by
  refine callsTo_of_AW (fn := Tryz.f145) Tryz.func145 rfl (by kernel_rfl) rfl ?_
  conv => whnf
  refine kbi (fun h => by simp at h) (fun h => ?_)
  conv => whnf
  exact bpf id
def cmpI (a b : Int) : Int := if a < b then -1 else if a > b then 1 else 0
theorem Compare_ok (a b : Int) : CallsTo EE 113 [i64 a, i64 b] (· = i64 (cmpI a b)) := by
  refine callsTo_of_AW (fn := Tryz.f113) Tryz.func113 rfl (by kernel_rfl) rfl ?_
  conv => whnf
  refine ocase (isNaNInt_ok _) (fun h => h.elim) (fun _ => ?_)
  conv => whnf
  refine ocase (isNaNInt_ok _) (fun h => h.elim) (fun _ => ?_)
  conv => whnf
  refine kbi (fun h => ?_) (fun h => ?_)
  · conv => whnf
    simp at h
    exact i64_eq (by simp [cmpI, h])
  · simp at h
    conv => whnf
    refine kbi (fun h2 => ?_) (fun h2 => ?_)
    · conv => whnf
      simp at h2
      exact i64_eq (by rw [cmpI, if_neg (by omega), if_pos (by omega)])
    · conv => whnf
      simp at h2
      exact i64_eq (by rw [cmpI, if_neg (by omega), if_neg (by omega)])
def orOf : List Int → Int
  | [] => 0
  | x :: r => if x = 0 then orOf r else x
theorem orOf_at (l : List Int) (k : Nat) (h : k < l.length) (h0 : ∀ x ∈ l.take k, x = 0) (hk : ¬ l[k] = 0) : orOf l = l[k] := by
  induction l generalizing k with
  | nil => simp at h
  | cons x r ih =>
    cases k with
    | zero => simp at hk; simp [orOf, hk]
    | succ k =>
      have hx : x = 0 := h0 x (by simp)
      simp only [orOf, if_pos hx, List.getElem_cons_succ]
      exact ih k (by simpa using h) (fun y hy => h0 y (by simp [hy])) (by simpa using hk)
theorem orOf_none (l : List Int) (h0 : ∀ x ∈ l, x = 0) : orOf l = 0 := by
  induction l with
  | nil => rfl
  | cons x r ih => simp only [orOf, if_pos (h0 x (by simp))]; exact ih fun y hy => h0 y (by simp [hy])
theorem Or_ok (xs : List Int) (hx : xs.length ≤ 1048576) : CallsTo EE 112 [sl (xs.map encInt)] (· = i64 (orOf xs)) := by
  refine callsTo_of_AW (fn := Tryz.f112) Tryz.func112 rfl (by kernel_rfl) rfl ?_
  conv => whnf
  refine aloop (fun k : Nat => [(3, i64 0), (6, sl (xs.map encInt)), (7, i64 (xs.map encInt).length), (8, i64 k)]) (fun k => []) (fun k => xs.length - k) (fun k => k ≤ xs.length ∧ ∀ x ∈ xs.take k, x = 0) 0 .refl ⟨rfl, rfl, rfl, rfl, trivial⟩ trivial ⟨Nat.zero_le _, tk_zero⟩ ?_
  rintro k τ H ⟨hk, ih⟩
  conv => whnf
  refine kbi (fun h => ?_) (fun h => ?_)
  · have hlt := lt_map h
    conv => whnf
    refine ⟨encInt xs[k], map_get encInt hlt rfl, ?_⟩
    conv => whnf
    refine kbi (fun h2 => ?_) (fun h2 => ?_)
    · conv => whnf
      simp at h2
      exact i64_eq (orOf_at xs k hlt ih h2).symm
    · simp at h2
      conv => whnf
      exact ⟨k + 1, ⟨by omega, tk_step ih hlt h2⟩, by show xs.length - (k + 1) < xs.length - k; omega, ⟨rfl, rfl, rfl, next_i64 hlt (by omega), trivial⟩, trivial⟩
  · have hge : xs.length ≤ k := by simpa using h
    conv => whnf
    exact i64_eq (orOf_none xs (tk_end ih hge)).symm
def ordL (x y : PairL) : Int := orOf [cmpI x.cell y.cell, cmpI x.one y.one, cmpI x.two y.two]
theorem order_ok (x y : PairL) : CallsTo EE 87 [agg (encPair x), agg (encPair y)] (· = i64 (ordL x y)) := by
  refine callsTo_of_AW (fn := Tryz.f87) Tryz.func87 rfl (by kernel_rfl) rfl ?_
  conv => whnf
  refine ⟨by kernel_rfl, ?_⟩
  conv => whnf
  refine ⟨_, Compare_ok _ _, ?_⟩
  conv => whnf
  refine ⟨_, Compare_ok _ _, ?_⟩
  conv => whnf
  refine ⟨_, Compare_ok _ _, ?_⟩
  conv => whnf
  refine ⟨_, Or_ok [cmpI x.cell y.cell, cmpI x.one y.one, cmpI x.two y.two] (by simp), ?_⟩
  conv => whnf
  rfl
theorem ord_lt (x y : PairL) (hx : x.good) (hy : y.good) : ¬ (0 ≤ ordL x y) ↔ x.key < y.key := by
  obtain ⟨a1, a2, a3⟩ := hx
  obtain ⟨b1, b2, b3⟩ := hy
  unfold InR at a1 a2 a3 b1 b2 b3
  unfold ordL PairL.key
  simp only [orOf, cmpI]
  split <;> rename_i h1 <;> split <;> rename_i h2 <;> (try split) <;> (try split) <;> (try split) <;> (try split) <;> (try split) <;> omega
theorem pairGood_ok (x : PairL) : CallsTo EE 86 [agg (encPair x)] (· = bp x.good) := by
  refine callsTo_of_AW (fn := Tryz.f86) Tryz.func86 rfl (by kernel_rfl) rfl ?_
  conv => whnf
  repeat' (refine ocase (in_ok _ _ _) (fun h => ?_) (fun h => ?_) <;> first | contradiction | conv => whnf)
  all_goals first | exact bpt (by unfold PairL.good; simp_all) | exact bpf (by unfold PairL.good; simp_all)
theorem areRising_ok (xs : List PairL) (hx : xs.length ≤ 1048576) : CallsTo EE 55 [sl (xs.map encPair)] (· = bp (PairsR xs)) := by
  refine callsTo_of_AW (fn := Tryz.f55) Tryz.func55 rfl (by kernel_rfl) rfl ?_
  conv => whnf
  refine aloop (fun k : Nat => [(0, sl (xs.map encPair)), (5, sl (xs.map encPair)), (6, i64 (xs.map encPair).length), (7, i64 k)]) (fun k => []) (fun k => xs.length - k) (fun k => k ≤ xs.length ∧ ∀ (i : Nat) (h : i < xs.length), i < k → xs[i].good ∧ ∀ (j : Nat) (hj : j + 1 = i), xs[j].key < xs[i].key) 0 .refl ⟨rfl, rfl, rfl, rfl, trivial⟩ trivial ⟨Nat.zero_le _, by omega⟩ ?_
  rintro k τ H ⟨hk, ih⟩
  conv => whnf
  refine kbi (fun h => ?_) (fun h => ?_)
  · have hlt := lt_map h
    conv => whnf
    refine ⟨encPair xs[k], map_get encPair hlt rfl, ?_⟩
    conv => whnf
    refine ⟨by kernel_rfl, ?_⟩
    conv => whnf
    refine qcase (pairGood_ok _) (fun h => ?_) (fun h => ?_)
    · conv => whnf
      refine kbi (fun h2 => ?_) (fun h2 => ?_)
      · simp at h2
        conv => whnf
        have hlt2 : k - 1 < xs.length := by omega
        have e : IntKind.i64.wrap ((k : Int) - 1) = ((k - 1 : Nat) : Int) := by rw [wrap_id (by omega) (by omega)]; omega
        refine ⟨encPair xs[k - 1], ?_, ?_⟩
        · rw [e]; exact map_get encPair hlt2 rfl
        conv => whnf
        refine ⟨_, order_ok _ _, ?_⟩
        conv => whnf
        have hol := ord_lt xs[k - 1] xs[k] (ih (k - 1) hlt2 (by omega)).1 h
        refine kbi (fun h3 => ?_) (fun h3 => ?_)
        · conv => whnf
          refine bpf fun hm => ?_
          have := (hm.1 k hlt).2 (k - 1) (by omega)
          exact hol.2 this (by simpa using h3)
        · have h4 := hol.1 (by simpa using h3)
          conv => whnf
          refine ⟨k + 1, ⟨by omega, fun i hi hik => ?_⟩, by show xs.length - (k + 1) < xs.length - k; omega, ⟨rfl, rfl, rfl, next_i64 hlt (by omega), trivial⟩, trivial⟩
          rcases Nat.lt_or_ge i k with h' | h'
          · exact ih i hi h'
          · have : i = k := by omega
            subst this
            refine ⟨h, fun j hj => ?_⟩
            have : j = i - 1 := by omega
            subst this
            exact h4
      · simp at h2
        conv => whnf
        refine ⟨k + 1, ⟨by omega, fun i hi hik => ?_⟩, by show xs.length - (k + 1) < xs.length - k; omega, ⟨rfl, rfl, rfl, next_i64 hlt (by omega), trivial⟩, trivial⟩
        rcases Nat.lt_or_ge i k with h' | h'
        · exact ih i hi h'
        · have : i = k := by omega
          subst this
          exact ⟨h, fun j hj => by omega⟩
    · conv => whnf
      exact bpf fun hm => h (hm.1 k hlt).1
  · have hge : xs.length ≤ k := by simpa using h
    conv => whnf
    refine kbi (fun h4 => ?_) (fun h4 => ?_)
    · simp at h4
      conv => whnf
      exact bpt ⟨fun i hi => ih i hi (by omega), by omega⟩
    · simp at h4
      conv => whnf
      exact bpf fun hm => by have := hm.2; omega
theorem hasSign_at (ys : List (List D)) (xs : List FoundL) (t : List UInt8) (hy : ys = xs.map encFound) (hx : xs.length ≤ 1048576) : CallsTo EE 57 [sl ys, sv t] (· = bp (∃ f ∈ xs, f.sign = t)) := by
  subst hy
  refine callsTo_of_AW (fn := Tryz.f57) Tryz.func57 rfl (by kernel_rfl) rfl ?_
  conv => whnf
  refine .inl (fcase (containsFound_ok xs hx 89 [.str t] (fun f => f.sign = t) (fun f _ => hasSign1_ok f t)) (fun h => ?_) (fun h => ?_))
  · conv => whnf
    exact bpt h
  · conv => whnf
    exact bpf h
theorem arePicks_ok (xs : List Int) (hx : xs.length ≤ 1048576) : CallsTo EE 58 [sl (xs.map encInt), i64 200] (· = bp (Picks xs)) := by
  refine callsTo_of_AW (fn := Tryz.f58) Tryz.func58 rfl (by kernel_rfl) rfl ?_
  conv => whnf
  refine kbi (fun h => ?_) (fun h => ?_)
  · simp at h
    conv => whnf
    refine ocase (containsInt_ok xs hx 91 (fun n => ¬ InR n 0 999) (fun n _ => arePicks1_ok n)) (fun h2 => ?_) (fun h2 => ?_)
    · conv => whnf
      refine bpf fun hm => ?_
      obtain ⟨x, hx1, hx2⟩ := h2
      exact hx2 (hm.2 x hx1)
    · conv => whnf
      refine bpt ⟨by omega, fun x hx1 => ?_⟩
      exact Classical.byContradiction fun hb => h2 ⟨x, hx1, hb⟩
  · simp at h
    conv => whnf
    exact bpf fun hm => by have := hm.1; omega
theorem dash_ok (s : List UInt8) : CallsTo EE 27 [sv s] (· = sv (dashT s)) := by
  refine callsTo_of_AW (fn := Tryz.f27) Tryz.func27 rfl (by kernel_rfl) rfl ?_
  conv => whnf
  refine kbi (fun h => ?_) (fun h => ?_)
  · have h3 : s = [] := by simpa using h
    conv => whnf
    rw [dashT, if_pos h3]
  · have h3 : ¬ s = [] := by simpa using h
    conv => whnf
    rw [dashT, if_neg h3]
end Ai
