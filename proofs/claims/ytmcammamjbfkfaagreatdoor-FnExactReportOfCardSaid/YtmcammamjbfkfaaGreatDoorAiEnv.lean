import Derived.Test.YtmcammamjbfkfaaGreatDoorAiTy
import Derived.Lib.LaidTab
import Derived.Shelf.Strconv.Itoa3
import Derived.IntWalk
set_option maxHeartbeats 1000000
set_option linter.unusedVariables false
namespace Ai
open Go Go.Proofs

theorem var_mono {P : Program} {name : String} {cs : Array Value} {w w' : World} (h : w.var? P name = some cs) (hb : RowKit.Below w.heap.size w w') : w'.var? P name = some cs := by
  unfold World.var? at *
  cases hg : P.globalNamed name with
  | none => rw [hg] at h; exact h
  | some g =>
    rw [hg] at h
    simp only [Option.bind_some] at h ⊢
    cases hh : w.heap[g]? with
    | none => rw [hh] at h; cases h
    | some ob =>
      have hlt : g < w.heap.size := (Array.getElem?_eq_some_iff.1 hh).1
      rw [hb.block g hlt, hh]
      rw [hh] at h
      exact h
def IT (w : World) : Prop := Lib.TabIs Tryz.prog w "internal/strconv.uint64pow10" .u64 Lib.pow10Tab
theorem IT_mono (w w' : World) (h : IT w) (hb : RowKit.Below w.heap.size w w') : IT w' := var_mono h hb
noncomputable abbrev EE : Env := ⟨Tryz.prog, tyF, tyF_ok, by kernel_rfl, IT, IT_mono⟩

abbrev i64 (n : Int) : AV := .d (.int .i64 n)
abbrev bv (b : Bool) : AV := .d (.bool b)
abbrev sv (s : List UInt8) : AV := .d (.str s)
abbrev sl (els : List (List D)) : AV := .d (.sl els)
abbrev di (n : Int) : D := .int .i64 n
/-- one number a cell -/
def ints (l : List Int) : List (List D) := l.map fun n => [di n]

theorem wrap_id {n : Int} (h1 : -9223372036854775808 ≤ n) (h2 : n ≤ 9223372036854775807) : IntKind.i64.wrap n = n := by rw [IntKind.wrap_i64]; omega
end Ai
