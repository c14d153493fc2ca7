import Derived.Test.YtmcammamjbfkfaaGreatDoorFLaw2
import Derived.ChangeArms
import Derived.Deep.Slices
set_option maxHeartbeats 1000000
set_option linter.unusedVariables false
set_option maxRecDepth 100000
namespace Ai
open Go Go.Proofs Go.Deep

/-! ### what an argument reads as -/
def Fits (w : World) (ds : List D) (cs : List Value) : Prop := ds.length = cs.length ∧ ∀ (i : Nat) (d : D) (u : Value), ds[i]? = some d → cs[i]? = some u → RepD w (fun b => b < w.heap.size ∧ True) d u
section
variable {H : Type} {enc' : TypeId × Value → H} {w : World} {sp : Nat → Bool} {held : Bool}
theorem list_of {α : Type} {p : Nat → α → Prop} : ∀ n, (∀ i, i < n → ∃ a, p i a) → ∃ xs : List α, xs.length = n ∧ ∀ (i : Nat) (a : α), xs[i]? = some a → p i a
  | 0, _ => ⟨[], rfl, by simp⟩
  | n + 1, h => by
    obtain ⟨xs, hl, hx⟩ := list_of n fun i hi => h i (by omega)
    obtain ⟨a, ha⟩ := h n (by omega)
    refine ⟨xs ++ [a], by simp [hl], fun i b hb => ?_⟩
    rcases Nat.lt_or_ge i n with h1 | h1
    · rw [List.getElem?_append_left (by omega)] at hb
      exact hx i b hb
    · rw [List.getElem?_append_right (by omega)] at hb
      have : i = n := by
        have := (List.getElem?_eq_some_iff.1 hb).1
        simp at this
        omega
      subst this
      rw [hl, Nat.sub_self] at hb
      simp at hb
      subst hb
      exact ha
theorem spot_none {a : Addr} {v : Value} (h : w.cell? a = some v) : a = ⟨a.block, a.off, none⟩ := by
  obtain ⟨b, off, s⟩ := a
  cases s with
  | none => rfl
  | some s =>
    simp only [World.cell?] at h
    split at h <;> simp at h
theorem add_none (b off k : Nat) : (⟨b, off, none⟩ : Addr).add k = ⟨b, off + k, none⟩ := by
  unfold Addr.add
  split
  · rename_i h; subst h; rfl
  · rfl
theorem rd_slice {α : Type} {t e : TypeId} (ht : Tryz.prog.underlying t = some (.slice e)) (sz : Nat) (hsz : Tryz.prog.cellsOf e = sz) (h0 : 0 < sz) (enc : α → List D) (wf : α → Prop)
    (hel : ∀ n cs x, DataW.trod enc' Tryz.prog w 0 sp held n e cs = some x → ∃ a, wf a ∧ Fits w (enc a) cs) {fuel : Nat} {cs : List Value} {x : DataW H × List MemPlace}
    (h : DataW.trod enc' Tryz.prog w 0 sp held fuel t cs = some x) : ∃ xs : List α, (∀ a ∈ xs, wf a) ∧ xs.length ≤ 9223372036854775807 ∧ Fits w [.sl (xs.map enc)] cs := by
  rcases open_slice ht h with ⟨rfl, _⟩ | ⟨a, len, cap, m, n, Dd, Pl, rfl, hb, hl, hm, hmm, hx, hall⟩
  · refine ⟨[], by simp, by simp, rfl, fun i d u hd hu => ?_⟩
    match i, hd, hu with
    | 0, hd, hu => simp at hd hu; subst hd; subst hu; exact .sl0 _ _
    | i + 1, hd, hu => simp at hd
  · have hlm : len ≤ m := by rw [hmm]; split <;> omega
    obtain ⟨xs, hxl, hxs⟩ := list_of (α := α) (p := fun i y => wf y ∧ ∃ cs', w.cells? 0 (a.add (i * sz)) sz = some cs' ∧ Fits w (enc y) cs') len fun i hi => by
      obtain ⟨cs', h1, h2⟩ := hall i (by omega)
      obtain ⟨y, hy1, hy2⟩ := hel _ _ _ h2
      rw [hsz] at h1
      exact ⟨y, hy1, cs', h1, hy2⟩
    have hmx : maxLen = 9223372036854775807 := rfl
    refine ⟨xs, fun y hy => ?_, by omega, rfl, fun i d u hd hu => ?_⟩
    · obtain ⟨i, hi⟩ := List.getElem?_of_mem hy
      exact (hxs i y hi).1
    match i, hd, hu with
    | i + 1, hd, hu => simp at hd
    | 0, hd, hu =>
      simp at hd hu
      subst hd; subst hu
      cases xs with
      | nil =>
        simp at hxl
        subst hxl
        exact .sl0 _ _
      | cons y0 ys =>
        have hA : a = ⟨a.block, a.off, none⟩ := by
          obtain ⟨_, cs', hc, hf1, hf2⟩ := hxs 0 y0 rfl
          obtain ⟨_, hcl, hcc⟩ := World.cells?_some hc
          have h9 := hcc 0 h0
          have h10 : cs'[0]? = some cs'[0] := List.getElem?_eq_getElem (by omega)
          rw [h10] at h9
          have e : (a.add (0 * sz)).add 0 = a := by simp [Addr.add]
          rw [e] at h9
          exact spot_none h9
        obtain ⟨b, off, spt⟩ := a
        have hsp : spt = none := by simpa using hA
        subst hsp
        clear hA
        have cellAt : ∀ (j : Nat) (y : α), (y0 :: ys)[j]? = some y → (enc y).length = sz ∧ ∀ (q : Nat) (d : D), (enc y)[q]? = some d → ∃ u, w.cell? ⟨b, off + (j * sz + q), none⟩ = some u ∧ RepD w (fun b => b < w.heap.size ∧ True) d u := by
          intro j y hj
          obtain ⟨_, cs', hc, hf1, hf2⟩ := hxs j y hj
          obtain ⟨_, hcl, hcc⟩ := World.cells?_some hc
          refine ⟨by omega, fun q d hq => ?_⟩
          have hql : q < sz := by have := (List.getElem?_eq_some_iff.1 hq).1; omega
          have hq2 : cs'[q]? = some cs'[q] := List.getElem?_eq_getElem (by omega)
          have h9 := hcc q hql
          rw [add_none, add_none, hq2, Nat.add_assoc] at h9
          exact ⟨cs'[q], h9, hf2 q d _ hq hq2⟩
        have hlt : b < w.heap.size := by
          obtain ⟨g1, g2⟩ := cellAt 0 y0 rfl
          have h00 : 0 < (enc y0).length := by omega
          obtain ⟨u, hu, _⟩ := g2 0 _ (List.getElem?_eq_getElem h00)
          exact rowLt hu
        have := RepD.sl (w := w) (ok := fun b => b < w.heap.size ∧ True) ((y0 :: ys).map enc) sz b off cap (fun q => (w.cell? ⟨b, off + q, none⟩).getD undef) ⟨hlt, trivial⟩ (by rw [List.length_map, hxl]; exact hl)
          (fun j c hj => by
            rw [List.getElem?_map, Option.map_eq_some_iff] at hj
            obtain ⟨y, hy, rfl⟩ := hj
            obtain ⟨g1, g2⟩ := cellAt j y hy
            refine ⟨g1, fun q d hq => ?_⟩
            obtain ⟨u, hu, _⟩ := g2 q d hq
            rw [hu]; rfl)
          (fun j c hj q d hq => by
            rw [List.getElem?_map, Option.map_eq_some_iff] at hj
            obtain ⟨y, hy, rfl⟩ := hj
            obtain ⟨g1, g2⟩ := cellAt j y hy
            obtain ⟨u, hu, hr⟩ := g2 q d hq
            rw [hu]; exact hr)
        rw [List.length_map, hxl] at this
        exact this
theorem rd_int {n : Nat} {cs : List Value} {x : DataW H × List MemPlace} (h : DataW.trod enc' Tryz.prog w 0 sp held n 3 cs = some x) : ∃ k : Int, Fits w [di k] cs := by
  obtain ⟨k, rfl, _, _⟩ := DataW.trod_int Tryz.underlying3 h
  refine ⟨k, rfl, fun i d u hd hu => ?_⟩
  match i, hd, hu with
  | 0, hd, hu => simp at hd hu; subst hd; subst hu; exact .int _ _
  | i + 1, hd, hu => simp at hd
theorem rd_str {n : Nat} {cs : List Value} {x : DataW H × List MemPlace} (h : DataW.trod enc' Tryz.prog w 0 sp held n 9 cs = some x) : ∃ s : List UInt8, s.length ≤ 9223372036854775807 ∧ Fits w [.str s] cs := by
  obtain ⟨s, rfl, _, hs⟩ := DataW.trod_string Tryz.underlying9 h
  refine ⟨s.data.toList, ?_, rfl, fun i d u hd hu => ?_⟩
  · have : maxLen = 9223372036854775807 := rfl
    have h2 : s.data.toList.length = s.size := rfl
    omega
  match i, hd, hu with
  | 0, hd, hu => simp at hd hu; subst hd; subst hu; exact .str _
  | i + 1, hd, hu => simp at hd
theorem rd_flt {n : Nat} {cs : List Value} {x : DataW H × List MemPlace} (h : DataW.trod enc' Tryz.prog w 0 sp held n 102 cs = some x) : ∃ v : Nat, v < 18446744073709551616 ∧ Fits w [.flt v] cs := by
  cases n with
  | zero => simp [DataW.trod] at h
  | succ n =>
    unfold DataW.trod at h
    rw [Tryz.underlying102] at h
    split at h <;> simp_all
    rename_i kk b e2
    obtain ⟨⟨e1, hb⟩, _⟩ := h
    subst e2
    have hb0 : (Lit.float FloatKind.f64 b).wf = true := hb
    refine ⟨canon b, ?_, rfl, fun i d u hd hu => ?_⟩
    · have hb2 : b < 18446744073709551616 := by simpa [Lit.wf] using hb0
      unfold canon nanC
      cases isNan b <;> simp <;> omega
    match i, hd, hu with
    | 0, hd, hu => simp at hd hu; subst hd; subst hu; exact .flt _
    | i + 1, hd, hu => simp at hd
/-- a struct's cells, field by field -/
theorem fits_app {ds ds2 : List D} {cs : List Value} {k : Nat} (h1 : Fits w ds (cs.take k)) (hk : ds.length = k) (h2 : Fits w ds2 (cs.drop k)) (hc : k ≤ cs.length) : Fits w (ds ++ ds2) cs := by
  refine ⟨by have := h2.1; simp at this ⊢; omega, fun i d u hd hu => ?_⟩
  rcases Nat.lt_or_ge i k with h | h
  · rw [List.getElem?_append_left (by omega)] at hd
    exact h1.2 i d u hd (by rw [List.getElem?_take_of_lt h]; exact hu)
  · rw [List.getElem?_append_right (by omega)] at hd
    exact h2.2 (i - k) d u (by rw [hk] at hd; exact hd) (by rw [List.getElem?_drop]; rw [show k + (i - k) = i by omega]; exact hu)
theorem fits_cons {d : D} {ds : List D} {cs : List Value} {k : Nat} (h1 : Fits w [d] ((cs.drop k).take 1)) (h2 : Fits w ds (cs.drop (k + 1))) : Fits w (d :: ds) (cs.drop k) := by
  have hl : 1 ≤ (cs.drop k).length := by
    have := h1.1
    simp at this ⊢
    omega
  refine fits_app (ds := [d]) (k := 1) h1 rfl ?_ hl
  rw [List.drop_drop]
  exact h2
theorem fits_nil {cs : List Value} {k : Nat} (h : cs.length = k) : Fits w [] (cs.drop k) := ⟨by simp [h], by simp⟩
def OpL.fl (o : OpL) : Prop := o.v < 18446744073709551616
theorem rd_op {n : Nat} {cs : List Value} {x : DataW H × List MemPlace} (h : DataW.trod enc' Tryz.prog w 0 sp held n 152 cs = some x) : ∃ o : OpL, o.fl ∧ Fits w (encOp o) cs := by
  obtain ⟨xs, m, _, _, hcl, hxl, hf⟩ := DataW.trod_struct Tryz.underlying152 h
  have c3 : Tryz.prog.cellsOf 3 = 1 := by kernel_rfl
  have c102 : Tryz.prog.cellsOf 102 = 1 := by kernel_rfl
  have c152 : Tryz.prog.cellsOf 152 = 4 := by kernel_rfl
  have hxl4 : xs.length = 4 := hxl
  have g0 : DataW.trod enc' Tryz.prog w 0 sp held m 3 ((cs.drop 0).take (Tryz.prog.cellsOf 3)) = xs[0]? := hf 0 _ rfl
  have g1 : DataW.trod enc' Tryz.prog w 0 sp held m 3 ((cs.drop 1).take (Tryz.prog.cellsOf 3)) = xs[1]? := hf 1 _ rfl
  have g2 : DataW.trod enc' Tryz.prog w 0 sp held m 3 ((cs.drop 2).take (Tryz.prog.cellsOf 3)) = xs[2]? := hf 2 _ rfl
  have g3 : DataW.trod enc' Tryz.prog w 0 sp held m 102 ((cs.drop 3).take (Tryz.prog.cellsOf 102)) = xs[3]? := hf 3 _ rfl
  simp only [c3, c102] at g0 g1 g2 g3
  rw [List.getElem?_eq_getElem (by omega)] at g0 g1 g2 g3
  obtain ⟨k0, f0⟩ := rd_int g0
  obtain ⟨k1, f1⟩ := rd_int g1
  obtain ⟨k2, f2⟩ := rd_int g2
  obtain ⟨v, hv, f3⟩ := rd_flt g3
  exact ⟨⟨k0, k1, k2, v⟩, hv, fits_cons (k := 0) f0 (fits_cons (k := 1) f1 (fits_cons (k := 2) f2 (fits_cons (k := 3) f3 (fits_nil (by omega)))))⟩
theorem rd_pair {n : Nat} {cs : List Value} {x : DataW H × List MemPlace} (h : DataW.trod enc' Tryz.prog w 0 sp held n 89 cs = some x) : ∃ o : PairL, True ∧ Fits w (encPair o) cs := by
  obtain ⟨xs, m, _, _, hcl, hxl, hf⟩ := DataW.trod_struct Tryz.underlying89 h
  have c3 : Tryz.prog.cellsOf 3 = 1 := by kernel_rfl
  have c89 : Tryz.prog.cellsOf 89 = 3 := by kernel_rfl
  have hxl4 : xs.length = 3 := hxl
  have g0 : DataW.trod enc' Tryz.prog w 0 sp held m 3 ((cs.drop 0).take (Tryz.prog.cellsOf 3)) = xs[0]? := hf 0 _ rfl
  have g1 : DataW.trod enc' Tryz.prog w 0 sp held m 3 ((cs.drop 1).take (Tryz.prog.cellsOf 3)) = xs[1]? := hf 1 _ rfl
  have g2 : DataW.trod enc' Tryz.prog w 0 sp held m 3 ((cs.drop 2).take (Tryz.prog.cellsOf 3)) = xs[2]? := hf 2 _ rfl
  simp only [c3] at g0 g1 g2
  rw [List.getElem?_eq_getElem (by omega)] at g0 g1 g2
  obtain ⟨k0, f0⟩ := rd_int g0
  obtain ⟨k1, f1⟩ := rd_int g1
  obtain ⟨k2, f2⟩ := rd_int g2
  exact ⟨⟨k0, k1, k2⟩, trivial, fits_cons (k := 0) f0 (fits_cons (k := 1) f1 (fits_cons (k := 2) f2 (fits_nil (by omega))))⟩
theorem c3 : Tryz.prog.cellsOf 3 = 1 := by kernel_rfl
theorem rd_ints {n : Nat} {cs : List Value} {x : DataW H × List MemPlace} (h : DataW.trod enc' Tryz.prog w 0 sp held n 44 cs = some x) : ∃ l : List Int, l.length ≤ 9223372036854775807 ∧ Fits w [.sl (l.map encInt)] cs := by
  obtain ⟨xs, _, hl, hf⟩ := rd_slice (α := Int) Tryz.underlying44 1 c3 (by omega) encInt (fun _ => True) (fun n cs x h => let ⟨k, hk⟩ := rd_int h; ⟨k, trivial, hk⟩) h
  exact ⟨xs, hl, hf⟩
theorem rd_row {n : Nat} {cs : List Value} {x : DataW H × List MemPlace} (h : DataW.trod enc' Tryz.prog w 0 sp held n 100 cs = some x) : ∃ l : List OpL, (l.length ≤ 9223372036854775807 ∧ ∀ o ∈ l, o.fl) ∧ Fits w (encRow l) cs := by
  obtain ⟨xs, hw, hl, hf⟩ := rd_slice (α := OpL) Tryz.underlying100 4 (by kernel_rfl) (by omega) encOp OpL.fl (fun n cs x h => rd_op h) h
  exact ⟨xs, ⟨hl, hw⟩, hf⟩
theorem rd_rows {n : Nat} {cs : List Value} {x : DataW H × List MemPlace} (h : DataW.trod enc' Tryz.prog w 0 sp held n 22 cs = some x) : ∃ l : List (List OpL), (l.length ≤ 9223372036854775807 ∧ ∀ r ∈ l, r.length ≤ 9223372036854775807 ∧ ∀ o ∈ r, o.fl) ∧ Fits w [.sl (l.map encRow)] cs := by
  obtain ⟨xs, hw, hl, hf⟩ := rd_slice (α := List OpL) Tryz.underlying22 1 (by kernel_rfl) (by omega) encRow (fun r => r.length ≤ 9223372036854775807 ∧ ∀ o ∈ r, o.fl) (fun n cs x h => rd_row h) h
  exact ⟨xs, ⟨hl, hw⟩, hf⟩
theorem rd_pct {n : Nat} {cs : List Value} {x : DataW H × List MemPlace} (h : DataW.trod enc' Tryz.prog w 0 sp held n 77 cs = some x) : ∃ o : PctL, o.wf ∧ Fits w (encPct o) cs := by
  obtain ⟨xs, m, _, _, hcl, hxl, hf⟩ := DataW.trod_struct Tryz.underlying77 h
  have c44 : Tryz.prog.cellsOf 44 = 1 := by kernel_rfl
  have c77 : Tryz.prog.cellsOf 77 = 2 := by kernel_rfl
  have hxl4 : xs.length = 2 := hxl
  have g0 : DataW.trod enc' Tryz.prog w 0 sp held m 44 ((cs.drop 0).take (Tryz.prog.cellsOf 44)) = xs[0]? := hf 0 _ rfl
  have g1 : DataW.trod enc' Tryz.prog w 0 sp held m 44 ((cs.drop 1).take (Tryz.prog.cellsOf 44)) = xs[1]? := hf 1 _ rfl
  simp only [c44] at g0 g1
  rw [List.getElem?_eq_getElem (by omega)] at g0 g1
  obtain ⟨k0, w0, f0⟩ := rd_ints g0
  obtain ⟨k1, w1, f1⟩ := rd_ints g1
  exact ⟨⟨k0, k1⟩, ⟨w0, w1⟩, fits_cons (k := 0) f0 (fits_cons (k := 1) f1 (fits_nil (by omega)))⟩
theorem rd_found {n : Nat} {cs : List Value} {x : DataW H × List MemPlace} (h : DataW.trod enc' Tryz.prog w 0 sp held n 79 cs = some x) : ∃ o : FoundL, o.wf ∧ Fits w (encFound o) cs := by
  obtain ⟨xs, m, _, _, hcl, hxl, hf⟩ := DataW.trod_struct Tryz.underlying79 h
  have c44 : Tryz.prog.cellsOf 44 = 1 := by kernel_rfl
  have c9 : Tryz.prog.cellsOf 9 = 1 := by kernel_rfl
  have c79 : Tryz.prog.cellsOf 79 = 2 := by kernel_rfl
  have hxl4 : xs.length = 2 := hxl
  have g0 : DataW.trod enc' Tryz.prog w 0 sp held m 9 ((cs.drop 0).take (Tryz.prog.cellsOf 9)) = xs[0]? := hf 0 _ rfl
  have g1 : DataW.trod enc' Tryz.prog w 0 sp held m 44 ((cs.drop 1).take (Tryz.prog.cellsOf 44)) = xs[1]? := hf 1 _ rfl
  simp only [c44, c9] at g0 g1
  rw [List.getElem?_eq_getElem (by omega)] at g0 g1
  obtain ⟨k0, w0, f0⟩ := rd_str g0
  obtain ⟨k1, w1, f1⟩ := rd_ints g1
  exact ⟨⟨k0, k1⟩, ⟨w0, w1⟩, fits_cons (k := 0) f0 (fits_cons (k := 1) f1 (fits_nil (by omega)))⟩
theorem rd_prog {n : Nat} {cs : List Value} {x : DataW H × List MemPlace} (h : DataW.trod enc' Tryz.prog w 0 sp held n 24 cs = some x) : ∃ p : ProgL, (p.wf ∧ p.flt) ∧ Fits w (encProg p) cs := by
  obtain ⟨xs, m, _, _, hcl, hxl, hf⟩ := DataW.trod_struct Tryz.underlying24 h
  have c22 : Tryz.prog.cellsOf 22 = 1 := by kernel_rfl
  have c24 : Tryz.prog.cellsOf 24 = 4 := by kernel_rfl
  have hxl4 : xs.length = 4 := hxl
  have g0 : DataW.trod enc' Tryz.prog w 0 sp held m 3 ((cs.drop 0).take (Tryz.prog.cellsOf 3)) = xs[0]? := hf 0 _ rfl
  have g1 : DataW.trod enc' Tryz.prog w 0 sp held m 3 ((cs.drop 1).take (Tryz.prog.cellsOf 3)) = xs[1]? := hf 1 _ rfl
  have g2 : DataW.trod enc' Tryz.prog w 0 sp held m 3 ((cs.drop 2).take (Tryz.prog.cellsOf 3)) = xs[2]? := hf 2 _ rfl
  have g3 : DataW.trod enc' Tryz.prog w 0 sp held m 22 ((cs.drop 3).take (Tryz.prog.cellsOf 22)) = xs[3]? := hf 3 _ rfl
  simp only [c3, c22] at g0 g1 g2 g3
  rw [List.getElem?_eq_getElem (by omega)] at g0 g1 g2 g3
  obtain ⟨k0, f0⟩ := rd_int g0
  obtain ⟨k1, f1⟩ := rd_int g1
  obtain ⟨k2, f2⟩ := rd_int g2
  obtain ⟨v, ⟨hv1, hv2⟩, f3⟩ := rd_rows g3
  exact ⟨⟨k0, k1, k2, v⟩, ⟨⟨hv1, fun r hr => (hv2 r hr).1⟩, fun r hr => (hv2 r hr).2⟩, fits_cons (k := 0) f0 (fits_cons (k := 1) f1 (fits_cons (k := 2) f2 (fits_cons (k := 3) f3 (fits_nil (by omega)))))⟩
theorem rd_hunt {n : Nat} {cs : List Value} {x : DataW H × List MemPlace} (h : DataW.trod enc' Tryz.prog w 0 sp held n 29 cs = some x) : ∃ p : HuntL, (p.wf ∧ p.p.flt) ∧ Fits w (encHunt p) cs := by
  obtain ⟨xs, m, _, _, hcl, hxl, hf⟩ := DataW.trod_struct Tryz.underlying29 h
  have c24 : Tryz.prog.cellsOf 24 = 4 := by kernel_rfl
  have c25 : Tryz.prog.cellsOf 25 = 1 := by kernel_rfl
  have c26 : Tryz.prog.cellsOf 26 = 1 := by kernel_rfl
  have c27 : Tryz.prog.cellsOf 27 = 1 := by kernel_rfl
  have c29 : Tryz.prog.cellsOf 29 = 8 := by kernel_rfl
  have hxl4 : xs.length = 5 := hxl
  have g0 : DataW.trod enc' Tryz.prog w 0 sp held m 24 ((cs.drop 0).take (Tryz.prog.cellsOf 24)) = xs[0]? := hf 0 _ rfl
  have g1 : DataW.trod enc' Tryz.prog w 0 sp held m 25 ((cs.drop 4).take (Tryz.prog.cellsOf 25)) = xs[1]? := hf 1 _ rfl
  have g2 : DataW.trod enc' Tryz.prog w 0 sp held m 26 ((cs.drop 5).take (Tryz.prog.cellsOf 26)) = xs[2]? := hf 2 _ rfl
  have g3 : DataW.trod enc' Tryz.prog w 0 sp held m 27 ((cs.drop 6).take (Tryz.prog.cellsOf 27)) = xs[3]? := hf 3 _ rfl
  have g4 : DataW.trod enc' Tryz.prog w 0 sp held m 3 ((cs.drop 7).take (Tryz.prog.cellsOf 3)) = xs[4]? := hf 4 _ rfl
  simp only [c3, c24, c25, c26, c27] at g0 g1 g2 g3 g4
  rw [List.getElem?_eq_getElem (by omega)] at g0 g1 g2 g3 g4
  obtain ⟨p, ⟨p1, p2⟩, f0⟩ := rd_prog g0
  obtain ⟨kept, w1, l1, f1⟩ := rd_slice (α := PctL) Tryz.underlying25 2 (by kernel_rfl) (by omega) encPct PctL.wf (fun n cs x h => rd_pct h) g1
  obtain ⟨cov, w2, l2, f2⟩ := rd_slice (α := PairL) Tryz.underlying26 3 (by kernel_rfl) (by omega) encPair (fun _ => True) (fun n cs x h => rd_pair h) g2
  obtain ⟨finds, w3, l3, f3⟩ := rd_slice (α := FoundL) Tryz.underlying27 2 (by kernel_rfl) (by omega) encFound FoundL.wf (fun n cs x h => rd_found h) g3
  obtain ⟨tried, f4⟩ := rd_int g4
  refine ⟨⟨p, kept, cov, finds, tried⟩, ⟨⟨p1, l1, w1, l2, l3, w3⟩, p2⟩, ?_⟩
  have hcl8 : cs.length = 8 := by omega
  exact fits_app (ds := encProg p) (k := 4) (by simpa using f0) rfl (fits_cons (k := 4) f1 (fits_cons (k := 5) f2 (fits_cons (k := 6) f3 (fits_cons (k := 7) f4 (fits_nil hcl8))))) (by omega)
end
end Ai
