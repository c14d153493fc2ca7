import Derived.Test.YtmcammamjbfkfaaGreatDoorFIm4
set_option maxHeartbeats 1000000
set_option linter.unusedVariables false
set_option maxRecDepth 100000
namespace Ai
open Go Go.Proofs

def HuntL.goodI (h : HuntL) : Prop := (∀ s ∈ h.kept, s.goodI) ∧ h.p.goodI ∧ h.kept.length ≤ 30 ∧ PairsR h.cov ∧ FindsR h.finds ∧ InR h.tried 0 60
theorem GoodHuntI_ok (x : HuntL) (hs : x.small) : CallsTo EE 25 [agg (encHunt x)] (· = bp x.goodI) := by
  obtain ⟨s1, s2, s3, s4⟩ := hs
  refine callsTo_of_AW (fn := Tryz.f25) Tryz.func25 rfl (by kernel_rfl) rfl ?_
  conv => whnf
  refine ocase (GoodProgI_ok x.p s1) (fun h1 => ?_) (fun h1 => ?_)
  rotate_left
  · conv => whnf
    exact bpf fun hm => h1 hm.2.1
  conv => whnf
  refine kbi (fun h2 => ?_) (fun h2 => ?_)
  · conv => whnf
    refine bpf fun hm => ?_
    have := hm.2.2.1
    simp at h2
    omega
  simp at h2
  conv => whnf
  refine ocase (containsPct_ok x.kept s2.1 53 (fun s => ¬ s.goodI) (fun s hsm => goodHunt1_ok s (s2.2 s hsm))) (fun h3 => ?_) (fun h3 => ?_)
  · conv => whnf
    refine bpf fun hm => ?_
    obtain ⟨s, hs1, hs2⟩ := h3
    exact hs2 (hm.1 s hs1)
  have hk : ∀ s ∈ x.kept, s.goodI := fun s hs => Classical.byContradiction fun hb => h3 ⟨s, hs, hb⟩
  conv => whnf
  refine ocase (areRising_ok x.cov s3) (fun h4 => ?_) (fun h4 => ?_)
  rotate_left
  · conv => whnf
    exact bpf fun hm => h4 hm.2.2.2.1
  conv => whnf
  refine ocase (in_ok _ _ _) (fun h5 => ?_) (fun h5 => ?_)
  rotate_left
  · conv => whnf
    exact bpf fun hm => h5 hm.2.2.2.2.2
  conv => whnf
  refine aloop (fun k : Nat => [(1, .ptr 1 0), (33, sl (x.finds.map encFound)), (34, i64 (x.finds.map encFound).length), (35, i64 k)]) (fun k => [(1, .vs 40 ((encHunt x).map .d))]) (fun k => x.finds.length - k) (fun k => k ≤ x.finds.length ∧ ∀ (i : Nat) (h : i < x.finds.length), i < k → Picks x.finds[i].picks ∧ ∀ f ∈ x.finds.take i, f.sign ≠ x.finds[i].sign) 0 .refl ⟨rfl, rfl, rfl, rfl, trivial⟩ ⟨rfl, trivial⟩ ⟨Nat.zero_le _, by omega⟩ ?_
  rintro k τ H ⟨hk2, ih⟩
  conv => whnf
  refine kbi (fun h => ?_) (fun h => ?_)
  · have hlt := lt_map h
    conv => whnf
    refine ⟨encFound x.finds[k], map_get encFound hlt rfl, ?_⟩
    conv => whnf
    refine ⟨by kernel_rfl, ?_⟩
    conv => whnf
    refine ⟨⟨by omega, by omega, by simp; omega, ?_⟩, ?_⟩
    · intro c hc
      simp only [List.mem_map] at hc
      obtain ⟨y, _, rfl⟩ := hc
      rfl
    conv => whnf
    refine qcase (hasSign_at _ (x.finds.take k) x.finds[k].sign (sl_take _ _ _) (by simp; omega)) (fun h6 => ?_) (fun h6 => ?_)
    · conv => whnf
      refine bpf fun hm => ?_
      obtain ⟨f, hf1, hf2⟩ := h6
      exact (hm.2.2.2.2.1 k hlt).2 f hf1 hf2
    · conv => whnf
      refine qcase (arePicks_ok _ (s4.2 _ (List.getElem_mem hlt))) (fun h7 => ?_) (fun h7 => ?_)
      · conv => whnf
        refine ⟨k + 1, ⟨by omega, fun i hi hik => ?_⟩, by show x.finds.length - (k + 1) < x.finds.length - k; omega, ⟨rfl, rfl, rfl, next_i64 hlt (by omega), trivial⟩, ⟨rfl, trivial⟩⟩
        rcases Nat.lt_or_ge i k with h' | h'
        · exact ih i hi h'
        · have : i = k := by omega
          subst this
          exact ⟨h7, fun f hf1 hf2 => h6 ⟨f, hf1, hf2⟩⟩
      · conv => whnf
        exact bpf fun hm => h7 (hm.2.2.2.2.1 k hlt).1
  · have hge : x.finds.length ≤ k := by simpa using h
    conv => whnf
    exact bpt ⟨hk, h1, by omega, h4, fun i hi => ih i hi (by omega), h5⟩
theorem Join_at (ys : List (List D)) (xs : List (List UInt8)) (sep : List UInt8) (hy : ys = xs.map encStr) (hN : xs.length ≤ 1048576) (hlen : (Lib.join xs sep).length ≤ 140737488355328) : CallsTo EE 60 [sl ys, sv sep] (· = sv (Lib.join xs sep)) := hy ▸ Join_ok xs sep hN hlen
def encNum (n : Int) : List D := [.str (Lib.itoa n)]
theorem itoa_nat {n : Int} (h : 0 ≤ n) : Lib.itoa n = Lib.decDigits n.toNat := by unfold Lib.itoa; rw [if_neg (by omega)]
theorem txt_itoa (xs : List Int) (hp : Picks xs) : Lib.join (xs.map Lib.itoa) [44] = txt xs := by
  unfold txt
  congr 1
  refine List.map_congr_left fun n hn => itoa_nat ?_
  have := hp.2 n hn
  unfold InR at this
  omega
theorem joinNumbers_ok (xs : List Int) (hp : Picks xs) : CallsTo EE 28 [sl (xs.map encInt)] (· = sv (txt xs)) := by
  have hx := hp.1
  have htl := txt_len xs hp.2 _ (Nat.le_refl _)
  rw [List.take_of_length_le (Nat.le_refl _)] at htl
  refine callsTo_of_AW (fn := Tryz.f28) Tryz.func28 rfl (by kernel_rfl) rfl ?_
  conv => whnf
  refine aloop (fun k : Nat => [(3, .ref 6 0 k), (7, sl (xs.map encInt)), (8, i64 (xs.map encInt).length), (9, i64 k)]) (fun k => [(6, .ds 9 1 ((xs.take k).map encNum))]) (fun k => xs.length - k) (fun k => k ≤ xs.length) 0 .refl ⟨rfl, rfl, rfl, rfl, trivial⟩ ⟨rfl, trivial⟩ (Nat.zero_le _) ?_
  rintro k τ H hk
  conv => whnf
  refine kbi (fun h => ?_) (fun h => ?_)
  · have hlt := lt_map h
    have hr := hp.2 _ (List.getElem_mem hlt)
    unfold InR at hr
    conv => whnf
    refine ⟨encInt xs[k], map_get encInt hlt rfl, ?_⟩
    conv => whnf
    refine ⟨_, Itoa_ok _ (by omega) (by omega), ?_⟩
    rintro r rfl
    conv => whnf
    refine ⟨⟨by rfl, ?_, ?_⟩, ?_⟩
    · show (k + 1) * 16 ≤ _
      omega
    · show k + 1 ≤ _
      omega
    conv => whnf
    refine ⟨k + 1, by omega, by show xs.length - (k + 1) < xs.length - k; omega, ⟨rfl, rfl, rfl, next_i64 hlt (by omega), trivial⟩, ⟨?_, trivial⟩⟩
    refine congrArg (fun l => some (Ob.ds 9 1 l)) ?_
    have e : xs.take (k + 1) = xs.take k ++ [xs[k]] := by rw [List.take_add_one, List.getElem?_eq_getElem hlt]; rfl
    rw [e, List.map_append, List.take_of_length_le (by simp; omega)]
    rfl
  · have hge : xs.length ≤ k := by simpa using h
    have hkk : k = xs.length := by omega
    subst hkk
    conv => whnf
    refine .inl ⟨_, Join_at _ (xs.map Lib.itoa) [44] ?_ (by simp; omega) (by rw [txt_itoa xs hp]; omega), ?_⟩
    · rw [List.drop_zero, List.take_of_length_le (Nat.le_refl _), List.take_of_length_le (by simp), List.map_map]
      rfl
    rintro r rfl
    refine ⟨rfl, ?_⟩
    conv => whnf
    rw [txt_itoa xs hp]
theorem ItoaN_ok (n : Int) (h0 : 0 ≤ n) (h1 : n ≤ 9223372036854775807) : CallsTo EE 26 [i64 n] (· = sv (Lib.decDigits n.toNat)) := by
  have := Itoa_ok n (by omega) h1
  rwa [itoa_nat h0] at this
theorem ReportOfI_ok (x : HuntL) (hs : x.small) (ht : x.texts) (hsame : x.goodI → x.goodS) : CallsTo EE 8 [agg (encHunt x)] (fun r => (x.goodI ∧ r = .tup [sv (repT x x.finds.length), bv true]) ∨ (¬ x.goodI ∧ r = .tup [sv [], bv false])) := by
  refine callsTo_of_AW (fn := Tryz.f8) Tryz.func8 rfl (by kernel_rfl) rfl ?_
  conv => whnf
  refine ocase (GoodHuntI_ok x hs) (fun h => ?_) (fun h => ?_)
  rotate_left
  · conv => whnf
    exact .inr ⟨h, rfl⟩
  obtain ⟨g1, g2, g3, g4, g5, g6⟩ := hsame h
  have hl0 := head_len x g6 g3 g4.2
  have hlr := rep_len x ⟨g1, g2, g3, g4, g5, g6⟩ ht
  have hd1 := digits_len x.tried.toNat 2 (by omega) (by unfold InR at g6; omega)
  have hd2 := digits_len x.kept.length 2 (by omega) (by omega)
  have hd3 := digits_len x.cov.length 3 (by omega) (by have := g4.2; omega)
  unfold InR at g6
  conv => whnf
  refine ⟨by kernel_rfl, ?_⟩
  conv => whnf
  refine ⟨_, ItoaN_ok _ g6.1 (by omega), ?_⟩
  conv => whnf
  refine ⟨by simp; omega, ?_⟩
  conv => whnf
  refine ⟨by simp; omega, ?_⟩
  conv => whnf
  have c1 : CallsTo EE 26 [i64 (x.kept.map encPct).length] (· = sv (Lib.decDigits x.kept.length)) := by
    rw [List.length_map]
    have := ItoaN_ok (x.kept.length : Int) (by omega) (by omega)
    simpa using this
  refine ⟨_, c1, ?_⟩
  conv => whnf
  refine ⟨by simp; omega, ?_⟩
  conv => whnf
  refine ⟨by simp; omega, ?_⟩
  conv => whnf
  have c2 : CallsTo EE 26 [i64 (x.cov.map encPair).length] (· = sv (Lib.decDigits x.cov.length)) := by
    rw [List.length_map]
    have := ItoaN_ok (x.cov.length : Int) (by omega) (by have := g4.2; omega)
    simpa using this
  refine ⟨_, c2, ?_⟩
  conv => whnf
  refine ⟨by simp; omega, ?_⟩
  conv => whnf
  refine ⟨by simp; omega, ?_⟩
  conv => whnf
  refine aloop (fun k : Nat => [(1, .ptr 1 0), (4, sv (repT x k)), (28, sl (x.finds.map encFound)), (29, i64 (x.finds.map encFound).length), (30, i64 k)]) (fun k => [(1, .vs 40 ((encHunt x).map .d))]) (fun k => x.finds.length - k) (fun k => k ≤ x.finds.length) 0 .refl ⟨rfl, ?_, rfl, rfl, rfl, trivial⟩ ⟨rfl, trivial⟩ (Nat.zero_le _) ?_
  · refine congrArg sv ?_
    simp [repT, headT]
  rintro k τ H hk
  conv => whnf
  refine kbi (fun h2 => ?_) (fun h2 => ?_)
  · have hlt := lt_map h2
    have hpk := (g5 k hlt).1
    have hsl := ht.2 _ (List.getElem_mem hlt)
    have hll := line_len x.finds[k] hpk hsl
    have hrk := hlr k hk
    have hkm : k * 1049400 ≤ 1048576 * 1049400 := Nat.mul_le_mul_right _ (by have := ht.1; omega)
    have htl := txt_len x.finds[k].picks hpk.2 _ (Nat.le_refl _)
    rw [List.take_of_length_le (Nat.le_refl _)] at htl
    have hdl := dash_len (txt x.finds[k].picks) 801 (by have := hpk.1; omega) (by omega)
    have hpl := hpk.1
    conv => whnf
    refine ⟨encFound x.finds[k], map_get encFound hlt rfl, ?_⟩
    conv => whnf
    refine ⟨by kernel_rfl, ?_⟩
    conv => whnf
    refine ⟨by simp; omega, ?_⟩
    conv => whnf
    refine ⟨_, joinNumbers_ok _ hpk, ?_⟩
    conv => whnf
    refine ⟨_, dash_ok _, ?_⟩
    conv => whnf
    refine ⟨by simp; omega, ?_⟩
    conv => whnf
    refine ⟨by simp; omega, ?_⟩
    conv => whnf
    refine ⟨by simp; omega, ?_⟩
    conv => whnf
    refine ⟨k + 1, by omega, by show x.finds.length - (k + 1) < x.finds.length - k; omega, ⟨rfl, ?_, rfl, rfl, next_i64 hlt (by have := ht.1; omega), trivial⟩, ⟨rfl, trivial⟩⟩
    refine congrArg sv ?_
    rw [repT_next x k hlt, lineT]
  · have hge : x.finds.length ≤ k := by simpa using h2
    have hkk : k = x.finds.length := by omega
    subst hkk
    conv => whnf
    exact .inl ⟨h, rfl⟩
end Ai
