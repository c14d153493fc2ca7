import Derived.Test.YtmcammamjbfkfaaGreatDoorFLay
import Derived.Test.YtmcammamjbfkfaaGreatDoorFIm
set_option maxHeartbeats 1000000
set_option linter.unusedVariables false
set_option maxRecDepth 100000
namespace Ai
open Go Go.Proofs Go.Shelf

theorem ent26 : ∀ args w, (callFunc 26 args).run Tryz.prog w = .ok (.enter 26 args) w := enters_of Tryz.func26 (by kernel_rfl) rfl
theorem ent60 : ∀ args w, (callFunc 60 args).run Tryz.prog w = .ok (.enter 60 args) w := enters_of Tryz.func60 (by kernel_rfl) rfl
theorem ent84 : ∀ args w, (callFunc 84 args).run Tryz.prog w = .ok (.enter 84 args) w := enters_of Tryz.func84 (by kernel_rfl) rfl
theorem ent83 : ∀ args w, (callFunc 83 args).run Tryz.prog w = .ok (.enter 83 args) w := enters_of Tryz.func83 (by kernel_rfl) rfl
theorem below_grow (w : World) (k : Nat) (os : Array Obj) : RowKit.Below w.heap.size w (Sort.grow (w.drewN k) os) := by
  refine ⟨?_, ?_, ?_, ?_, fun q hq => ?_⟩
  · rfl
  · rfl
  · rfl
  · simp [Sort.grow, World.drewN]
  · show (w.heap ++ os)[q]? = w.heap[q]?
    exact Array.getElem?_append_left hq
theorem one_arg {w : World} {A : Nat → Prop} {x : AV} {vs : Array Value} (h : ARel w A [x] vs) : ∃ v, vs = #[v] ∧ VRel w (fun x => x < w.heap.size ∧ A x) (fun _ => none) (fun _ => none) x v := by
  obtain ⟨hl, hr⟩ := h
  have h1 : vs.size = 1 := hl.symm
  refine ⟨vs[0], ?_, hr 0 x _ rfl (by simp [h1])⟩
  apply Array.ext (by simp [h1])
  intro i h2 h3
  simp at h3
  subst h3
  rfl
theorem two_args {w : World} {A : Nat → Prop} {x y : AV} {vs : Array Value} (h : ARel w A [x, y] vs) : ∃ v u, vs = #[v, u] ∧ VRel w (fun x => x < w.heap.size ∧ A x) (fun _ => none) (fun _ => none) x v ∧ VRel w (fun x => x < w.heap.size ∧ A x) (fun _ => none) (fun _ => none) y u := by
  obtain ⟨hl, hr⟩ := h
  have h1 : vs.size = 2 := hl.symm
  refine ⟨vs[0], vs[1], ?_, hr 0 x _ rfl (by simp [h1]), hr 1 y _ rfl (by simp [h1])⟩
  apply Array.ext (by simp [h1])
  intro i h2 h3
  simp at h3
  match i, h3 with
  | 0, _ => rfl
  | 1, _ => rfl
theorem strRel {w : World} {ok : Nat → Prop} {m : Own} {H : Nat → Option Ob} (l : List UInt8) : VRel w ok m H (sv l) (.string ⟨l.toArray⟩) := by
  have := RepD.str (w := w) (ok := ok) ⟨l.toArray⟩
  exact .d _ _ (by simpa using this)
theorem strInv {w : World} {ok : Nat → Prop} {l : List UInt8} {v : Value} (h : RepD w ok (.str l) v) : v = .string ⟨l.toArray⟩ := by
  cases h with
  | str s => simp
theorem intInv {w : World} {ok : Nat → Prop} {n : Int} {k : IntKind} {v : Value} (h : RepD w ok (.int k n) v) : v = .int k n := by cases h; rfl
theorem Itoa_ok (n : Int) (h0 : -9223372036854775808 ≤ n) (h1 : n ≤ 9223372036854775807) : CallsTo EE 26 [i64 n] (· = sv (Lib.itoa n)) := by
  intro w A vs hI hA
  obtain ⟨v, rfl, hv⟩ := one_arg hA
  cases hv with
  | d _ _ hd =>
    have := intInv hd
    subst this
    unfold Invokes
    rw [show Sem.run EE.P (callFunc 26 #[Value.int .i64 n]) w = _ from ent26 _ w]
    refine Calls.mono (show Calls Tryz.prog 26 _ _ _ from Any.strconv_Itoa Tryz.laysItoa n h0 h1 w hI) ?_
    rintro e w' ⟨rfl, k, os, rfl⟩
    exact ⟨_, rfl, _, rfl, below_grow w k os, strRel _⟩
/-- a row of one cell an element -/
theorem row1 {α : Type} {w : World} {ok : Nat → Prop} {xs : List α} {d : α → D} {v : Value} (h : RepD w ok (.sl (xs.map fun x => [d x])) v) :
    (xs = [] ∧ ∃ a cap, v = .slice a 0 cap) ∨ ∃ (b off cap : Nat) (us : Nat → Value), v = .slice (some ⟨b, off, none⟩) xs.length cap ∧ ok b ∧ xs.length ≤ cap ∧ ∀ (j : Nat) (x : α), xs[j]? = some x → w.cell? ⟨b, off + j, none⟩ = some (us j) ∧ RepD w ok (d x) (us j) := by
  generalize he : xs.map (fun x => [d x]) = els at h
  cases h with
  | sl0 a cap =>
    left
    cases xs with
    | nil => exact ⟨rfl, a, cap, rfl⟩
    | cons x xs => simp at he
  | sl _ sz b off cap us hok hlc hc hr =>
    subst he
    right
    cases xs with
    | nil => exact ⟨b, off, cap, us, rfl, hok, by simp, by simp⟩
    | cons x0 xs =>
      have hsz : sz = 1 := by
        have := (hc 0 [d x0] rfl).1
        simpa using this.symm
      subst hsz
      refine ⟨b, off, cap, us, by simp, hok, by simpa using hlc, fun j x hj => ?_⟩
      have hj2 : ((x0 :: xs).map fun x => [d x])[j]? = some [d x] := by rw [List.getElem?_map, hj]; rfl
      have h1 := (hc j _ hj2).2 0 (d x) rfl
      have h2 := hr j _ hj2 0 (d x) rfl
      simp only [Nat.mul_one, Nat.add_zero] at h1 h2
      exact ⟨h1, h2⟩
theorem rowLt {w : World} {b off : Nat} {v : Value} (h : w.cell? ⟨b, off, none⟩ = some v) : b < w.heap.size := by
  rcases Nat.lt_or_ge b w.heap.size with h1 | h1
  · exact h1
  · rw [World.cell?, Array.getElem?_eq_none h1] at h; cases h
def encStr (s : List UInt8) : List D := [.str s]
theorem join_fin {w : World} {A : Nat → Prop} {vs : Array Value} {l : List UInt8} (hC : Calls Tryz.prog 60 vs w fun e w' => e = .returned (.string ⟨l.toArray⟩) ∧ RowKit.Below w.heap.size w w') :
    Calls Tryz.prog 60 vs w fun e w'' => ∃ v, e = .returned v ∧ ∃ r, r = sv l ∧ RowKit.Below w.heap.size w w'' ∧ RRel w w'' A r v := by
  refine Calls.mono hC ?_
  rintro e w' ⟨rfl, hb⟩
  exact ⟨_, rfl, _, rfl, hb, strRel l⟩
theorem Join_ok (xs : List (List UInt8)) (sep : List UInt8) (hN : xs.length ≤ 1048576) (hlen : (Lib.join xs sep).length ≤ 140737488355328) : CallsTo EE 60 [sl (xs.map encStr), sv sep] (· = sv (Lib.join xs sep)) := by
  intro w A vs hI hA
  obtain ⟨v, u, rfl, hv, hu⟩ := two_args hA
  cases hu with
  | d _ _ hd2 =>
    have := strInv hd2
    subst this
    cases hv with
    | d _ _ hd =>
      unfold Invokes
      rw [show Sem.run EE.P (callFunc 60 #[v, Value.string ⟨sep.toArray⟩]) w = _ from ent60 _ w]
      have emp : ∀ (a : Option Addr) (c : Nat), Calls Tryz.prog 60 #[.slice a 0 c, .string ⟨sep.toArray⟩] w fun e w'' => ∃ v, e = .returned v ∧ ∃ r, r = sv (Lib.join [] sep) ∧ RowKit.Below w.heap.size w w'' ∧ RRel w w'' A r v := by
        intro a c
        refine Calls.mono (show Calls Tryz.prog 60 _ _ _ from Any.strings_Join_none Tryz.laysJoin Tryz.extraJoin a c ⟨sep.toArray⟩ w) ?_
        rintro e w' ⟨rfl, rfl⟩
        exact ⟨_, rfl, _, rfl, RowKit.Below.refl _ _, strRel []⟩
      rcases row1 (d := D.str) (xs := xs) hd with ⟨rfl, a, cap, rfl⟩ | ⟨b, off, cap, us, rfl, hok, hcap, hc⟩
      · exact emp a cap
      · have h1 : xs.length = (xs.map fun s => (⟨s.toArray⟩ : ByteArray)).length := by simp
        have h2 : (xs.map fun s => (⟨s.toArray⟩ : ByteArray)).map (·.data.toList) = xs := by
          rw [List.map_map]
          conv => rhs; rw [← List.map_id xs]
          exact List.map_congr_left fun s _ => by simp
        have h3 : Lib.join ((xs.map fun s => (⟨s.toArray⟩ : ByteArray)).map (·.data.toList)) (⟨sep.toArray⟩ : ByteArray).data.toList = Lib.join xs sep := by rw [h2]
        have hcells : ∀ (j : Nat) (x : ByteArray), (xs.map fun s => (⟨s.toArray⟩ : ByteArray))[j]? = some x → w.cell? ⟨b, off + j, none⟩ = some (.string x) := by
          intro j x hj
          rw [List.getElem?_map, Option.map_eq_some_iff] at hj
          obtain ⟨s, hs, rfl⟩ := hj
          obtain ⟨g1, g2⟩ := hc j s hs
          rw [g1, strInv g2]
        have hC := Any.strings_Join Tryz.laysJoin Tryz.extraJoin b off cap (xs.map fun s => (⟨s.toArray⟩ : ByteArray)) ⟨sep.toArray⟩ w hcells hok.1 (by rw [← h1]; omega) (by rw [← h1]; exact hcap) (by rw [h3]; exact hlen)
        rw [h3, ← h1] at hC
        exact join_fin hC
end Ai
