import Derived.Test.YtmcammamjbfkfaaGreatDoorFIm5
import Derived.Test.YtmcammamjbfkfaaGreatDoorFSz
import Derived.Test.YtmcammamjbfkfaaGreatDoorFEq
set_option maxHeartbeats 1000000
set_option linter.unusedVariables false
set_option maxRecDepth 100000
namespace Ai
open Go Go.Proofs

theorem op_same (p : ProgL) (hp : p.headS) (n : Nat) (hn : n ≤ 24) (o : OpL) : o.goodS p n ↔ o.goodI p n := by
  obtain ⟨a1, a2, a3, a4⟩ := hp
  unfold InR at a1 a2 a3 a4
  have hc : (0 < nCount o.code ↔ (nameOne o.code ∨ o.code = 16)) ∧ (1 < nCount o.code ↔ o.code = 16) := by
    unfold nCount nameOne
    split
    · omega
    · split <;> omega
  unfold OpL.goodS OpL.goodI OpL.plainS OpL.fitsI OpL.atS OpL.atI InR
  rw [hc.1, hc.2]
  unfold nameOne
  constructor
  · rintro ⟨⟨b1, b2, b3, b4, b5, b6⟩, c1, c2, c3, c4, c5, c6⟩
    refine ⟨⟨b1, ?_, b6, b4⟩, ?_, ?_, ?_, ?_, ?_, ?_⟩ <;> omega
  · rintro ⟨⟨b1, b2, b3, b4⟩, c1, c2, c3, c4, c5, c6⟩
    refine ⟨⟨b1, ?_, ?_, b4, ?_, b3⟩, ?_, ?_, ?_, ?_, ?_, ?_⟩ <;> omega
theorem prog_same (p : ProgL) : p.goodS ↔ p.goodI := by
  constructor
  · rintro ⟨h1, h2⟩
    exact ⟨h1, fun r hr => ⟨(h2 r hr).2, fun o ho => (op_same p h1 _ (h2 r hr).2 o).1 ((h2 r hr).1 o ho)⟩⟩
  · rintro ⟨h1, h2⟩
    exact ⟨h1, fun r hr => ⟨fun o ho => (op_same p h1 _ (h2 r hr).1 o).2 ((h2 r hr).2 o ho), (h2 r hr).1⟩⟩
theorem sorted_pair (l : List Int) : (sorted l).Pairwise (· ≤ ·) := by
  have := List.pairwise_mergeSort (le := fun x y : Int => decide (x ≤ y)) (fun a b c h1 h2 => by simp at *; omega) (fun a b => by simp; omega) l
  exact this.imp (by simp)
theorem sorted_perm (l : List Int) : (sorted l).Perm l := List.mergeSort_perm l _
end Ai
