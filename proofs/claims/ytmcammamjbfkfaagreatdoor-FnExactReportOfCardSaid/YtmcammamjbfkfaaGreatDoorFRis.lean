import Derived.Test.YtmcammamjbfkfaaGreatDoorFLib2
import Derived.WalkKit
set_option maxHeartbeats 1000000
set_option linter.unusedVariables false
set_option maxRecDepth 100000
namespace Ai
open Go Go.Proofs Go.Shelf Go.Sort Go.RowKit

def sorted (zs : List Int) : List Int := zs.mergeSort fun x y => decide (x ≤ y)
theorem sorted_len (zs : List Int) : (sorted zs).length = zs.length := by simp [sorted]
set_option maxHeartbeats 1000000 in
theorem rising_calls (b cap : Nat) (zs : List Int) (w : World) (hH : Holds (Value.int .i64) w b 0 zs.toArray) (hb : b < w.heap.size) (hsz : zs.length ≤ 1048576) (hcap : zs.length ≤ cap) :
    Calls Tryz.prog 83 #[.slice (some ⟨b, 0, none⟩) zs.length cap] w fun e w' => e = .returned (.slice (some ⟨b, 0, none⟩) (Lib.compact (sorted zs)).length cap) ∧
      ∃ n m os q, w' = putRow (Value.int .i64) (Sort.ahead (grow (putRow (Value.int .i64) (Sort.ahead (w.drewN m) n) b 0 (sorted zs).toArray) os) q) b 0 (Lib.compact (sorted zs) ++ List.replicate ((sorted zs).length - (Lib.compact (sorted zs)).length) 0).toArray := by
  have hS : ∀ m, Calls Tryz.prog 110 #[.slice (some ⟨b, 0, none⟩) zs.length cap] (w.drewN m) fun e w' =>
      e = .returned (.tuple #[]) ∧ ∃ n os, w' = grow (putRow (Value.int .i64) (Sort.ahead (w.drewN m) n) b 0 (sorted zs).toArray) os := fun m => Any.slices_Sort_int Tryz.laysSort b 0 cap zs (w.drewN m) hH hb (by omega)
  have hC : ∀ m n os, Calls Tryz.prog 111 #[.slice (some ⟨b, 0, none⟩) zs.length cap] (grow (putRow (Value.int .i64) (Sort.ahead (w.drewN m) n) b 0 (sorted zs).toArray) os) fun e w' =>
      e = .returned (.slice (some ⟨b, 0, none⟩) (Lib.compact (sorted zs)).length cap) ∧ ∃ q, w' = putRow (Value.int .i64) (Sort.ahead (grow (putRow (Value.int .i64) (Sort.ahead (w.drewN m) n) b 0 (sorted zs).toArray) os) q) b 0 (Lib.compact (sorted zs) ++ List.replicate ((sorted zs).length - (Lib.compact (sorted zs)).length) 0).toArray := by
    intro m n os
    have h1 : Holds (Value.int .i64) (grow (putRow (Value.int .i64) (Sort.ahead (w.drewN m) n) b 0 (sorted zs).toArray) os) b 0 (sorted zs).toArray :=
      holds_grow _ _ _ _ _ _ (by simpa [Sort.ahead, World.drewN] using hb) (holds_putRow _ _ _ _ zs.toArray _ hH (by simp [sorted_len]))
    have h2 := Any.slices_Compact_int Tryz.laysCompact b 0 cap (sorted zs) _ h1 (by rw [sorted_len]; omega) (by rw [sorted_len]; omega)
    rw [sorted_len] at h2
    rw [sorted_len]
    exact h2
  clear hH
  have e110 : ∀ args w, (callFunc 110 args).run Tryz.prog w = .ok (.enter 110 args) w := enters_of Tryz.func110 (by kernel_rfl) rfl
  have e111 : ∀ args w, (callFunc 111 args).run Tryz.prog w = .ok (.enter 111 args) w := enters_of Tryz.func111 (by kernel_rfl) rfl
  go_enter Tryz.func83, Tryz.ntmps83
  go_wp2_with (first
    | (go_at_call 110; refine (hS 0).mono ?_; rintro e w' ⟨rfl, n, os, rfl⟩)
    | (go_at_call 111; refine (hC 0 _ _).mono ?_; rintro e w' ⟨rfl, q, rfl⟩))
  go_ret
  exact ⟨rfl, _, 0, _, _, rfl⟩
theorem compact_le (l : List Int) : (Lib.compact l).length ≤ l.length := by
  unfold Lib.compact Lib.compactUpTo
  rw [List.length_map]
  refine Nat.le_trans (List.length_filter_le _ _) ?_
  simp
set_option maxHeartbeats 1000000 in
theorem rising_nil (w : World) : Calls Tryz.prog 83 #[.slice none 0 0] w fun e w' => e = .returned (.slice none 0 0) ∧ w' = w := by
  have hS : Calls Tryz.prog 110 #[.slice none 0 0] w fun e w' => e = .returned (.tuple #[]) ∧ w' = w := Any.slices_Sort_int_none Tryz.laysSort none 0 w
  have hC : Calls Tryz.prog 111 #[.slice none 0 0] w fun e w' => e = .returned (.slice none 0 0) ∧ w' = w := Any.slices_Compact_int_empty Tryz.laysCompact none 0 w
  have e110 : ∀ args w, (callFunc 110 args).run Tryz.prog w = .ok (.enter 110 args) w := enters_of Tryz.func110 (by kernel_rfl) rfl
  have e111 : ∀ args w, (callFunc 111 args).run Tryz.prog w = .ok (.enter 111 args) w := enters_of Tryz.func111 (by kernel_rfl) rfl
  go_enter Tryz.func83, Tryz.ntmps83
  go_wp2_with (first
    | (go_at_call 110; refine hS.mono ?_; rintro e w' ⟨rfl, rfl⟩)
    | (go_at_call 111; refine hC.mono ?_; rintro e w' ⟨rfl, rfl⟩))
  go_ret
  exact ⟨rfl, rfl⟩
theorem putRow_heap (enc : Int → Value) (w : World) (b off : Nat) (d : Array Int) (k : Nat) (h : k ≠ b) : (putRow enc w b off d).heap[k]? = w.heap[k]? := by
  simp only [putRow, mapBlock, Array.getElem?_modify]
  rw [if_neg (fun e => h e.symm)]
theorem rising_post (b cap : Nat) (zs : List Int) (w : World) (hH : Holds (Value.int .i64) w b 0 zs.toArray) (hb : b < w.heap.size) (hsz : zs.length ≤ 1048576) (hcap : zs.length ≤ cap) :
    Calls Tryz.prog 83 #[.slice (some ⟨b, 0, none⟩) zs.length cap] w fun e w' => e = .returned (.slice (some ⟨b, 0, none⟩) (Lib.compact (sorted zs)).length cap) ∧ BelowBut b w w' ∧
      ∀ (j : Nat) (x : Int), (Lib.compact (sorted zs))[j]? = some x → w'.cell? ⟨b, 0 + j, none⟩ = some (.int .i64 x) := by
  refine Calls.mono (rising_calls b cap zs w hH hb hsz hcap) ?_
  rintro e w' ⟨he, n, m, os, q, hw⟩
  refine ⟨he, ⟨?_, ?_, ?_, ?_, ?_⟩, ?_⟩
  · rw [hw]; rfl
  · rw [hw]; rfl
  · rw [hw]; rfl
  · rw [hw, size_putRow]
    simp [Sort.ahead, grow, World.drewN]
  · intro k hk hkb
    rw [hw, putRow_heap _ _ _ _ _ _ hkb]
    show ((putRow (Value.int .i64) (Sort.ahead (w.drewN m) n) b 0 (sorted zs).toArray).heap ++ os)[k]? = _
    rw [Array.getElem?_append_left (by simpa [Sort.ahead, World.drewN] using hk), putRow_heap _ _ _ _ _ _ hkb]
    rfl
  · intro j x hx
    have hsz2 : ((Lib.compact (sorted zs) ++ List.replicate ((sorted zs).length - (Lib.compact (sorted zs)).length) 0).toArray).size = (sorted zs).toArray.size := by
      have := compact_le (sorted zs)
      simp; omega
    have hH1 : Holds (Value.int .i64) (Sort.ahead (grow (putRow (Value.int .i64) (Sort.ahead (w.drewN m) n) b 0 (sorted zs).toArray) os) q) b 0 (sorted zs).toArray :=
      holds_ahead _ _ _ _ _ _ (holds_grow _ _ _ _ _ _ (by simpa [Sort.ahead, World.drewN] using hb) (holds_putRow _ _ _ _ zs.toArray _ hH (by simp [sorted_len])))
    have hH2 := holds_putRow (Value.int .i64) _ b 0 _ _ hH1 hsz2
    rw [← hw] at hH2
    have hjl : j < (Lib.compact (sorted zs)).length := (List.getElem?_eq_some_iff.1 hx).1
    have h3 := (hH2 j (by rw [List.size_toArray, List.length_append]; omega)).1
    rw [h3, getElem!_pos _ j (by rw [List.size_toArray, List.length_append]; omega)]
    rw [List.getElem_toArray, List.getElem_append_left hjl]
    rw [List.getElem?_eq_getElem hjl] at hx
    injection hx with hx
    rw [hx]
theorem rising_takes (zs : List Int) (hsz : zs.length ≤ 1048576) : TakesTo EE 83 3 1 (zs.map encInt) (· = sl ((Lib.compact (sorted zs)).map encInt)) := by
  constructor
  · intro w A b full cur hI hcur hle hmax hcs hc
    have hb : b < w.heap.size := (Array.getElem?_eq_some_iff.1 hcur).1
    have hle2 : zs.length ≤ full := by simpa using hle
    have hH : Holds (Value.int .i64) w b 0 zs.toArray := by
      intro j hj
      have hj2 : j < zs.length := by simpa using hj
      have hg : (zs.map encInt)[j]? = some (encInt zs[j]) := by simp [hj2]
      obtain ⟨u, hu, hr⟩ := (hc j _ hg).2 0 (di zs[j]) rfl
      have := intInv hr
      subst this
      rw [Nat.mul_one, Nat.add_zero] at hu
      constructor
      · simp only [World.cell?, hcur, Nat.zero_add, hu]
        simp [hj2]
      · simp [World.frozen?, hcur]
    have hC := rising_post b full zs w hH hb hsz hle2
    unfold Invokes
    rw [List.length_map, show Sem.run EE.P (callFunc 83 _) w = _ from ent83 _ w]
    refine Calls.mono (show Calls Tryz.prog 83 _ _ _ from hC) ?_
    rintro e w' ⟨rfl, hbut, hcells⟩
    refine ⟨_, rfl, _, rfl, hbut, .d _ _ ?_⟩
    have hlen2 : (Lib.compact (sorted zs)).length ≤ full := Nat.le_trans (compact_le _) (by rw [sorted_len]; exact hle2)
    generalize Lib.compact (sorted zs) = l at *
    have := RepD.sl (w := w') (ok := fun x => x < w'.heap.size ∧ (A x ∨ x = b ∨ w.heap.size ≤ x)) (l.map encInt) 1 b 0 full (fun j => .int .i64 (l.getD j 0)) ⟨Nat.lt_of_lt_of_le hb hbut.size, .inr (.inl rfl)⟩ (by simpa using hlen2)
      (fun j c hj => by
        rw [List.getElem?_map, Option.map_eq_some_iff] at hj
        obtain ⟨x, hx, rfl⟩ := hj
        refine ⟨rfl, fun i d hi => ?_⟩
        match i, hi with
        | 0, hi =>
          have h3 := hcells j x hx
          rw [Nat.mul_one, Nat.add_zero, h3, List.getD_eq_getElem?_getD, hx]
          rfl
        | i + 1, hi => simp [encInt] at hi) (fun j c hj i d hi => by
        rw [List.getElem?_map, Option.map_eq_some_iff] at hj
        obtain ⟨x, hx, rfl⟩ := hj
        match i, hi with
        | 0, hi =>
          simp only [encInt, List.getElem?_cons_zero, Option.some.injEq] at hi
          subst hi
          rw [Nat.mul_one, Nat.add_zero, List.getD_eq_getElem?_getD, hx]
          exact .int _ _
        | i + 1, hi => simp [encInt] at hi)
    rw [List.length_map] at this
    exact this
  · intro he w A hI
    have hz : zs = [] := by simpa using he
    subst hz
    unfold Invokes
    rw [show Sem.run EE.P (callFunc 83 _) w = _ from ent83 _ w]
    refine Calls.mono (show Calls Tryz.prog 83 _ _ _ from rising_nil w) ?_
    rintro e w' ⟨rfl, rfl⟩
    have e0 : Lib.compact (sorted []) = [] := by simp [sorted, Lib.compact, Lib.compactUpTo]
    rw [e0]
    exact ⟨_, rfl, _, rfl, RowKit.Below.refl _ _, .d _ _ (.sl0 _ _)⟩
end Ai
