import Derived.Test.YtmcammamjbfkfaaGreatDoorFSp4
set_option maxHeartbeats 1000000
set_option linter.unusedVariables false
set_option maxRecDepth 100000
namespace Ai
open Go Go.Proofs

/-! ### texts -/
theorem digits_len (u n : Nat) (hn : 1 ≤ n) (h : u < 10 ^ n) : (Lib.decDigits u).length ≤ n := by
  induction n generalizing u with
  | zero => omega
  | succ n ih =>
    by_cases hu : u < 10
    · rw [Lib.decDigits, dif_pos hu]; simp
    · rw [Lib.decDigits, dif_neg hu]
      have : 1 ≤ n := by
        rcases Nat.eq_zero_or_pos n with h0 | h0
        · subst h0; simp at h; omega
        · exact h0
      have := ih (u / 10) this (by rw [Nat.pow_succ] at h; omega)
      simp; omega
theorem byte_digit (n : Nat) (h : n < 10) : UInt8.ofNat (IntKind.u8.wrap (48 + (n : Int))).toNat = UInt8.ofNat (48 + n) := by
  have : IntKind.u8.wrap (48 + (n : Int)) = ((48 + n : Nat) : Int) := by
    rw [IntKind.wrap_u8]; omega
  rw [this]; rfl
theorem l1Num_nat : ∀ (n : Nat), n ≤ 9223372036854775807 → CallsTo EE 47 [i64 n] (· = sv (Lib.decDigits n)) := by
  intro n
  induction n using Nat.strongRecOn with
  | _ n ih =>
    intro hn
    refine callsTo_of_AW (fn := Tryz.f47) Tryz.func47 rfl (by kernel_rfl) rfl ?_
    conv => whnf
    refine kbi (fun h => ?_) (fun h => ?_)
    · have hlt : n < 10 := by simp at h; omega
      conv => whnf
      refine ⟨[48 + (n : Int)].map fun m => IntKind.u8.wrap m, ?_, ?_⟩
      · rw [wrap_id (by omega) (by omega)]; rfl
      conv => whnf
      rw [Lib.decDigits, dif_pos hlt]
      exact congrArg (fun b => sv [b]) (byte_digit n hlt)
    · have hge : 10 ≤ n := by simp at h; omega
      conv => whnf
      refine ⟨by kernel_rfl, ?_⟩
      conv => whnf
      refine ⟨by omega, ?_⟩
      conv => whnf
      have e1 : IntKind.i64.wrap ((n : Int).tdiv 10) = ((n / 10 : Nat) : Int) := by
        rw [wrap_id]
        · rw [Int.tdiv_eq_ediv_of_nonneg (by omega)]; omega
        · rw [Int.tdiv_eq_ediv_of_nonneg (by omega)]; omega
        · rw [Int.tdiv_eq_ediv_of_nonneg (by omega)]; omega
      have hc := ih (n / 10) (by omega) (by omega)
      rw [← e1] at hc
      refine ⟨_, hc, ?_⟩
      conv => whnf
      refine ⟨by omega, ?_⟩
      conv => whnf
      have e2 : (n : Int).tmod 10 = ((n % 10 : Nat) : Int) := by rw [Int.tmod_eq_emod_of_nonneg (by omega)]; omega
      refine ⟨[48 + ((n % 10 : Nat) : Int)].map fun m => IntKind.u8.wrap m, ?_, ?_⟩
      · rw [e2, wrap_id (by omega) (by omega)]; rfl
      conv => whnf
      refine ⟨?_, ?_⟩
      · have := digits_len (n / 10) 19 (by omega) (by omega)
        simp; omega
      conv => whnf
      conv => rhs; rw [Lib.decDigits, dif_neg (by omega)]
      exact congrArg (fun b => sv (Lib.decDigits (n / 10) ++ [b])) (byte_digit (n % 10) (by omega))
theorem l1Num_ok (n : Int) (h0 : 0 ≤ n) (h1 : n ≤ 9223372036854775807) : CallsTo EE 47 [i64 n] (· = sv (Lib.decDigits n.toNat)) := by
  have := l1Num_nat n.toNat (by omega)
  rwa [Int.toNat_of_nonneg h0] at this
/-- numbers with commas between -/
def txt (xs : List Int) : List UInt8 := Lib.join (xs.map fun n => Lib.decDigits n.toNat) [44]
theorem joinTail_snoc (sep x : List UInt8) (r : List (List UInt8)) : Lib.joinTail sep (r ++ [x]) = Lib.joinTail sep r ++ (sep ++ x) := by simp [Lib.joinTail]
theorem txt_nil : txt [] = [] := rfl
theorem txt_zero (xs : List Int) : txt (xs.take 0) = [] := rfl
theorem txt_one (xs : List Int) (h : 0 < xs.length) : txt (xs.take (0 + 1)) = Lib.decDigits (xs[0]).toNat := by
  rw [List.take_add_one, List.getElem?_eq_getElem h]
  simp [txt, Lib.join_one]
theorem txt_next (xs : List Int) (k : Nat) (h : k < xs.length) (hk : 0 < k) : txt (xs.take (k + 1)) = txt (xs.take k) ++ [44] ++ Lib.decDigits (xs[k]).toNat := by
  rw [List.take_add_one, List.getElem?_eq_getElem h]
  generalize xs[k] = x
  cases xs with
  | nil => simp at h
  | cons y ys =>
    obtain ⟨j, rfl⟩ : ∃ j, k = j + 1 := ⟨k - 1, by omega⟩
    simp only [txt, List.take_succ_cons, List.map_append, List.map_cons, List.cons_append, Lib.join_cons, Option.toList, List.map_nil]
    rw [joinTail_snoc]
    simp
theorem txt_len (xs : List Int) (hp : ∀ x ∈ xs, InR x 0 999) : ∀ k, k ≤ xs.length → (txt (xs.take k)).length ≤ 4 * k := by
  intro k
  induction k with
  | zero => intro _; simp [txt_nil]
  | succ k ih =>
    intro hk
    have hlt : k < xs.length := by omega
    have := ih (by omega)
    have hd : (Lib.decDigits (xs[k]).toNat).length ≤ 3 := digits_len _ 3 (by omega) (by have := hp _ (List.getElem_mem hlt); unfold InR at this; omega)
    rcases Nat.eq_zero_or_pos k with h0 | h0
    · subst h0; rw [txt_one _ hlt]; omega
    · rw [txt_next _ _ hlt h0]; simp; omega
theorem l4List_ok (xs : List Int) (hp : Picks xs) : CallsTo EE 48 [sl (xs.map encInt)] (· = sv (txt xs)) := by
  have hx := hp.1
  refine callsTo_of_AW (fn := Tryz.f48) Tryz.func48 rfl (by kernel_rfl) rfl ?_
  conv => whnf
  refine aloop (fun k : Nat => [(3, sv (txt (xs.take k))), (6, sl (xs.map encInt)), (7, i64 (xs.map encInt).length), (8, i64 k)]) (fun k => []) (fun k => xs.length - k) (fun k => k ≤ xs.length) 0 .refl ⟨rfl, rfl, rfl, rfl, trivial⟩ trivial (Nat.zero_le _) ?_
  rintro k τ H hk
  conv => whnf
  refine kbi (fun h => ?_) (fun h => ?_)
  · have hlt := lt_map h
    have hr := hp.2 _ (List.getElem_mem hlt)
    unfold InR at hr
    have htl := txt_len xs hp.2 k hk
    have hd : (Lib.decDigits (xs[k]).toNat).length ≤ 3 := digits_len _ 3 (by omega) (by omega)
    conv => whnf
    refine ⟨encInt xs[k], map_get encInt hlt rfl, ?_⟩
    conv => whnf
    refine kbi (fun h2 => ?_) (fun h2 => ?_)
    · simp at h2
      conv => whnf
      refine ⟨?_, ?_⟩
      · simp; omega
      conv => whnf
      refine ⟨_, l1Num_ok _ hr.1 (by omega), ?_⟩
      rintro r rfl
      conv => whnf
      refine ⟨?_, ?_⟩
      · simp; omega
      conv => whnf
      refine ⟨k + 1, by omega, by show xs.length - (k + 1) < xs.length - k; omega, ⟨?_, rfl, rfl, next_i64 hlt (by omega), trivial⟩, trivial⟩
      exact congrArg sv (txt_next xs k hlt (by omega)).symm
    · simp at h2
      subst h2
      conv => whnf
      refine ⟨_, l1Num_ok _ hr.1 (by omega), ?_⟩
      rintro r rfl
      conv => whnf
      refine ⟨?_, ?_⟩
      · simp [txt_nil]; omega
      conv => whnf
      refine ⟨1, by omega, by show xs.length - 1 < xs.length - 0; omega, ⟨?_, rfl, rfl, next_i64 hlt (by omega), trivial⟩, trivial⟩
      exact congrArg sv (txt_one xs hlt).symm
  · have hge : xs.length ≤ k := by simpa using h
    conv => whnf
    rw [List.take_of_length_le hge]
def dashT (s : List UInt8) : List UInt8 := if s = [] then [45] else s
def lineT (f : FoundL) : List UInt8 := f.sign ++ [32, 58, 32] ++ dashT (txt f.picks) ++ [10]
def headT (h : HuntL) : List UInt8 := [116, 114, 105, 101, 100, 32] ++ Lib.decDigits h.tried.toNat ++ [32] ++ Lib.decDigits h.kept.length ++ [32] ++ Lib.decDigits h.cov.length ++ [10]
def repT (h : HuntL) (k : Nat) : List UInt8 := headT h ++ ((h.finds.take k).map lineT).flatten
theorem repT_next (h : HuntL) (k : Nat) (hk : k < h.finds.length) : repT h (k + 1) = repT h k ++ lineT h.finds[k] := by
  unfold repT
  rw [List.take_add_one, List.getElem?_eq_getElem hk]
  simp only [List.map_append, List.flatten_append, Option.toList, List.map_cons, List.map_nil, List.flatten_cons, List.flatten_nil, List.append_nil, List.append_assoc]
def HuntL.texts (h : HuntL) : Prop := h.finds.length ≤ 1048576 ∧ ∀ f ∈ h.finds, f.sign.length ≤ 1048576
theorem dash_len (s : List UInt8) (n : Nat) (h : s.length ≤ n) (hn : 1 ≤ n) : (dashT s).length ≤ n := by
  unfold dashT
  split
  · simp; omega
  · exact h
theorem line_len (f : FoundL) (hp : Picks f.picks) (hs : f.sign.length ≤ 1048576) : (lineT f).length ≤ 1049400 := by
  have h1 := txt_len f.picks hp.2 f.picks.length (Nat.le_refl _)
  rw [List.take_of_length_le (Nat.le_refl _)] at h1
  have h2 := dash_len (txt f.picks) 800 (by have := hp.1; omega) (by omega)
  simp [lineT]; omega
theorem head_len (h : HuntL) (ht : InR h.tried 0 60) (hk : h.kept.length ≤ 30) (hc : h.cov.length ≤ 200) : (headT h).length ≤ 30 := by
  unfold InR at ht
  have h1 := digits_len h.tried.toNat 2 (by omega) (by omega)
  have h2 := digits_len h.kept.length 2 (by omega) (by omega)
  have h3 := digits_len h.cov.length 3 (by omega) (by omega)
  simp [headT]; omega
theorem rep_len (h : HuntL) (hg : h.goodS) (ht : h.texts) : ∀ k, k ≤ h.finds.length → (repT h k).length ≤ 30 + k * 1049400 := by
  intro k
  induction k with
  | zero =>
    intro _
    have := head_len h hg.2.2.2.2.2 hg.2.2.1 hg.2.2.2.1.2
    simp [repT]; omega
  | succ k ih =>
    intro hk
    have := ih (by omega)
    have hlt : k < h.finds.length := by omega
    have := line_len h.finds[k] (hg.2.2.2.2.1 k hlt).1 (ht.2 _ (List.getElem_mem hlt))
    rw [repT_next h k hlt]; simp; omega
theorem l13Report_ok (x : HuntL) (hg : x.goodS) (ht : x.texts) : CallsTo EE 21 [agg (encHunt x)] (· = sv (repT x x.finds.length)) := by
  obtain ⟨g1, g2, g3, g4, g5, g6⟩ := hg
  have hl0 := head_len x g6 g3 g4.2
  have hlr := rep_len x ⟨g1, g2, g3, g4, g5, g6⟩ ht
  have hd1 := digits_len x.tried.toNat 2 (by omega) (by unfold InR at g6; omega)
  have hd2 := digits_len x.kept.length 2 (by omega) (by omega)
  have hd3 := digits_len x.cov.length 3 (by omega) (by have := g4.2; omega)
  unfold InR at g6
  refine callsTo_of_AW (fn := Tryz.f21) Tryz.func21 rfl (by kernel_rfl) rfl ?_
  conv => whnf
  refine ⟨by kernel_rfl, ?_⟩
  conv => whnf
  refine ⟨_, l1Num_ok _ g6.1 (by omega), ?_⟩
  conv => whnf
  refine ⟨by simp; omega, ?_⟩
  conv => whnf
  refine ⟨by simp; omega, ?_⟩
  conv => whnf
  have c1 : CallsTo EE 47 [i64 (x.kept.map encPct).length] (· = sv (Lib.decDigits x.kept.length)) := by
    rw [List.length_map]; exact l1Num_nat _ (by omega)
  refine ⟨_, c1, ?_⟩
  conv => whnf
  refine ⟨by simp; omega, ?_⟩
  conv => whnf
  refine ⟨by simp; omega, ?_⟩
  conv => whnf
  have c2 : CallsTo EE 47 [i64 (x.cov.map encPair).length] (· = sv (Lib.decDigits x.cov.length)) := by
    rw [List.length_map]; exact l1Num_nat _ (by have := g4.2; omega)
  refine ⟨_, c2, ?_⟩
  conv => whnf
  refine ⟨by simp; omega, ?_⟩
  conv => whnf
  refine ⟨by simp; omega, ?_⟩
  conv => whnf
  refine aloop (fun k : Nat => [(1, .ptr 1 0), (3, sv (repT x k)), (25, sl (x.finds.map encFound)), (26, i64 (x.finds.map encFound).length), (27, i64 k)]) (fun k => [(1, .vs 40 ((encHunt x).map .d))]) (fun k => x.finds.length - k) (fun k => k ≤ x.finds.length) 0 .refl ⟨rfl, ?_, rfl, rfl, rfl, trivial⟩ ⟨rfl, trivial⟩ (Nat.zero_le _) ?_
  · refine congrArg sv ?_
    simp [repT, headT]
  rintro k τ H hk
  conv => whnf
  refine kbi (fun h => ?_) (fun h => ?_)
  · have hlt := lt_map h
    have hpk := (g5 k hlt).1
    have hsl := ht.2 _ (List.getElem_mem hlt)
    have hll := line_len x.finds[k] hpk hsl
    have hrk := hlr k hk
    have hkm : k * 1049400 ≤ 1048576 * 1049400 := Nat.mul_le_mul_right _ (by have := ht.1; omega)
    have htl := txt_len x.finds[k].picks hpk.2 _ (Nat.le_refl _)
    rw [List.take_of_length_le (Nat.le_refl _)] at htl
    have hpl := hpk.1
    conv => whnf
    refine ⟨encFound x.finds[k], map_get encFound hlt rfl, ?_⟩
    conv => whnf
    refine ⟨_, l4List_ok _ hpk, ?_⟩
    rintro r rfl
    conv => whnf
    refine kbi (fun h2 => ?_) (fun h2 => ?_)
    · have h3 : txt x.finds[k].picks = [] := by simpa using h2
      conv => whnf
      refine ⟨by simp; omega, ?_⟩
      conv => whnf
      refine ⟨by simp; omega, ?_⟩
      conv => whnf
      refine ⟨by simp; omega, ?_⟩
      conv => whnf
      refine ⟨by simp; omega, ?_⟩
      conv => whnf
      refine ⟨k + 1, by omega, by show x.finds.length - (k + 1) < x.finds.length - k; omega, ⟨rfl, ?_, rfl, rfl, next_i64 hlt (by have := ht.1; omega), trivial⟩, ⟨rfl, trivial⟩⟩
      refine congrArg sv ?_
      rw [repT_next x k hlt, lineT, dashT, if_pos h3]
    · have h3 : ¬ txt x.finds[k].picks = [] := by simpa using h2
      conv => whnf
      refine ⟨by simp; omega, ?_⟩
      conv => whnf
      refine ⟨by simp; omega, ?_⟩
      conv => whnf
      refine ⟨by simp; omega, ?_⟩
      conv => whnf
      refine ⟨by simp; omega, ?_⟩
      conv => whnf
      refine ⟨k + 1, by omega, by show x.finds.length - (k + 1) < x.finds.length - k; omega, ⟨rfl, ?_, rfl, rfl, next_i64 hlt (by have := ht.1; omega), trivial⟩, ⟨rfl, trivial⟩⟩
      refine congrArg sv ?_
      rw [repT_next x k hlt, lineT, dashT, if_neg h3]
  · have hge : x.finds.length ≤ k := by simpa using h
    have hkk : k = x.finds.length := by omega
    subst hkk
    conv => whnf
theorem ReportOfS_ok (x : HuntL) (hs : x.small) (hv : x.p.flt) (ht : x.texts) : CallsTo EE 6 [agg (encHunt x)] (fun r => (x.goodS ∧ r = .tup [sv (repT x x.finds.length), bv true]) ∨ (¬ x.goodS ∧ r = .tup [sv [], bv false])) := by
  refine callsTo_of_AW (fn := Tryz.f6) Tryz.func6 rfl (by kernel_rfl) rfl ?_
  conv => whnf
  refine ocase (GoodHuntS_ok x hs hv) (fun h => ?_) (fun h => ?_)
  · conv => whnf
    refine ⟨_, l13Report_ok x h ht, ?_⟩
    rintro r rfl
    conv => whnf
    exact .inl ⟨h, rfl⟩
  · conv => whnf
    exact .inr ⟨h, rfl⟩
end Ai
