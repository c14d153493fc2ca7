/-
  No cell of these rows narrows 'for every input' (looked for: loops, veiled, ifaces, maps, wideKeys, modest, calm, conditions, laid).
  DERIVED. THE GIVEN ROWS OF THIS SEAT. 6 by the template 'for every input the law returns true; each argument reads behind the call as it read before'; 0 by the template 'total and deterministic' (their statements: YtbfdknfodpcdnaaGreatTotals.lean).
  GIVEN WITH THE SEED: the statements are not yours to turn. If you find one false, say at which input.
  Laid BY PROGRAM, IN A SANDBOX (cutbox-rows.mjs): the forced cells as the released guide's own fill.sh prints them over the translation c1d270d2c245c0d9… (all of the seat's roots in one cut). By AI agents, Wed Nov 11 2026. No macro, syntax, notation, axiom, sorry.
-/
import Derived.Test.YtbfdknfodpcdnaaGreatChecked
import GoSem.Claim
import GoSem.ClaimJoined
import GoSem.ClaimMapViews
import Derived.JoinedTies
import Derived.KernelRfl
namespace Go.Proofs.YtbfdknfodpcdnaaGreat
/- THE CELL 'sum', in the pinned program and in every row, IS THE sha256 OF THE DUMP (.gsa) THAT YtbfdknfodpcdnaaGreatProg.lean LOADS. Nothing in Lean hashes anything: it is a label: what it is worth is what the hold of that sum in a sandbox is worth. -/
noncomputable def Tryz.pinned : Pinned := { name := "ytbfdknfodpcdnaagreat", sum := "c1d270d2c245c0d9f8ee69905826a20d774c8ff9e9c86a69eef890b300c8ad5e", checked := Tryz.checked }
namespace Rows
def none {H : Type} : Left H := { results := [], args := [] }

/-- 'laws.FnExactCutAfter': WHATEVER THE INPUT: true; the input reads as it did. -/
def fnExactCutAfterSpec : ChangeSpec := { name := "fnExactCutAfter", fn := fun _ => fun
  | [d1, d2, d3] => { results := [.lit (.bool true)], args := [d1, d2, d3] }
  | _ => none }
def fnExactCutAfterRow : OpenClaim := { program := "ytbfdknfodpcdnaagreat", sum := "c1d270d2c245c0d9f8ee69905826a20d774c8ff9e9c86a69eef890b300c8ad5e", func := "loop.example/g00696/laws.FnExactCutAfter", spec := "fnExactCutAfter", inPlace := ["math.Float64bits", "math.Float64frombits", "math.archTrunc"], unfollowed := true, recurses := true, apart := false }
def FnExactCutAfterSaid : Prop := fnExactCutAfterRow.holds Tryz.pinned (OpenSpec.ofChange fnExactCutAfterSpec)

/-- ITS FALSE NEIGHBOUR: 'it returns false'. Refute it at one input. -/
def fnExactCutAfterWrong : ChangeSpec := { name := "fnExactCutAfter", fn := fun _ => fun
  | [d1, d2, d3] => { results := [.lit (.bool false)], args := [d1, d2, d3] }
  | _ => none }
def FnExactCutAfterWrongFalsely : Prop := fnExactCutAfterRow.holds Tryz.pinned (OpenSpec.ofChange fnExactCutAfterWrong)

/-- 'laws.FnExactSwapAt': WHATEVER THE INPUT: true; the input reads as it did. -/
def fnExactSwapAtSpec : ChangeSpec := { name := "fnExactSwapAt", fn := fun _ => fun
  | [d1, d2, d3] => { results := [.lit (.bool true)], args := [d1, d2, d3] }
  | _ => none }
def fnExactSwapAtRow : OpenClaim := { program := "ytbfdknfodpcdnaagreat", sum := "c1d270d2c245c0d9f8ee69905826a20d774c8ff9e9c86a69eef890b300c8ad5e", func := "loop.example/g00696/laws.FnExactSwapAt", spec := "fnExactSwapAt", inPlace := ["math.Float64bits", "math.Float64frombits", "math.archTrunc"], unfollowed := true, recurses := true, apart := false }
def FnExactSwapAtSaid : Prop := fnExactSwapAtRow.holds Tryz.pinned (OpenSpec.ofChange fnExactSwapAtSpec)

/-- ITS FALSE NEIGHBOUR: 'it returns false'. Refute it at one input. -/
def fnExactSwapAtWrong : ChangeSpec := { name := "fnExactSwapAt", fn := fun _ => fun
  | [d1, d2, d3] => { results := [.lit (.bool false)], args := [d1, d2, d3] }
  | _ => none }
def FnExactSwapAtWrongFalsely : Prop := fnExactSwapAtRow.holds Tryz.pinned (OpenSpec.ofChange fnExactSwapAtWrong)

/-- 'laws.FnExactFormsOf': WHATEVER THE INPUT: true; the input reads as it did. -/
def fnExactFormsOfSpec : ChangeSpec := { name := "fnExactFormsOf", fn := fun _ => fun
  | [d1, d2] => { results := [.lit (.bool true)], args := [d1, d2] }
  | _ => none }
def fnExactFormsOfRow : OpenClaim := { program := "ytbfdknfodpcdnaagreat", sum := "c1d270d2c245c0d9f8ee69905826a20d774c8ff9e9c86a69eef890b300c8ad5e", func := "loop.example/g00696/laws.FnExactFormsOf", spec := "fnExactFormsOf", inPlace := ["math.Float64bits", "math.Float64frombits", "math.archTrunc"], unfollowed := true, recurses := true, apart := false }
def FnExactFormsOfSaid : Prop := fnExactFormsOfRow.holds Tryz.pinned (OpenSpec.ofChange fnExactFormsOfSpec)

/-- ITS FALSE NEIGHBOUR: 'it returns false'. Refute it at one input. -/
def fnExactFormsOfWrong : ChangeSpec := { name := "fnExactFormsOf", fn := fun _ => fun
  | [d1, d2] => { results := [.lit (.bool false)], args := [d1, d2] }
  | _ => none }
def FnExactFormsOfWrongFalsely : Prop := fnExactFormsOfRow.holds Tryz.pinned (OpenSpec.ofChange fnExactFormsOfWrong)

/-- 'laws.FnExactPairsIn': WHATEVER THE INPUT: true; the input reads as it did. -/
def fnExactPairsInSpec : ChangeSpec := { name := "fnExactPairsIn", fn := fun _ => fun
  | [d1, d2] => { results := [.lit (.bool true)], args := [d1, d2] }
  | _ => none }
def fnExactPairsInRow : OpenClaim := { program := "ytbfdknfodpcdnaagreat", sum := "c1d270d2c245c0d9f8ee69905826a20d774c8ff9e9c86a69eef890b300c8ad5e", func := "loop.example/g00696/laws.FnExactPairsIn", spec := "fnExactPairsIn", inPlace := ["math.Float64bits", "math.Float64frombits", "math.archTrunc"], unfollowed := true, recurses := true, apart := false }
def FnExactPairsInSaid : Prop := fnExactPairsInRow.holds Tryz.pinned (OpenSpec.ofChange fnExactPairsInSpec)

/-- ITS FALSE NEIGHBOUR: 'it returns false'. Refute it at one input. -/
def fnExactPairsInWrong : ChangeSpec := { name := "fnExactPairsIn", fn := fun _ => fun
  | [d1, d2] => { results := [.lit (.bool false)], args := [d1, d2] }
  | _ => none }
def FnExactPairsInWrongFalsely : Prop := fnExactPairsInRow.holds Tryz.pinned (OpenSpec.ofChange fnExactPairsInWrong)

/-- 'laws.FnExactAllOrders': WHATEVER THE INPUT: true; the input reads as it did. -/
def fnExactAllOrdersSpec : ChangeSpec := { name := "fnExactAllOrders", fn := fun _ => fun
  | [d1, d2] => { results := [.lit (.bool true)], args := [d1, d2] }
  | _ => none }
def fnExactAllOrdersRow : OpenClaim := { program := "ytbfdknfodpcdnaagreat", sum := "c1d270d2c245c0d9f8ee69905826a20d774c8ff9e9c86a69eef890b300c8ad5e", func := "loop.example/g00696/laws.FnExactAllOrders", spec := "fnExactAllOrders", inPlace := ["math.Float64bits", "math.Float64frombits", "math.archTrunc"], unfollowed := true, recurses := true, apart := false }
def FnExactAllOrdersSaid : Prop := fnExactAllOrdersRow.holds Tryz.pinned (OpenSpec.ofChange fnExactAllOrdersSpec)

/-- ITS FALSE NEIGHBOUR: 'it returns false'. Refute it at one input. -/
def fnExactAllOrdersWrong : ChangeSpec := { name := "fnExactAllOrders", fn := fun _ => fun
  | [d1, d2] => { results := [.lit (.bool false)], args := [d1, d2] }
  | _ => none }
def FnExactAllOrdersWrongFalsely : Prop := fnExactAllOrdersRow.holds Tryz.pinned (OpenSpec.ofChange fnExactAllOrdersWrong)

/-- 'laws.FnExactMayHold': WHATEVER THE INPUT: true; the input reads as it did. -/
def fnExactMayHoldSpec : ChangeSpec := { name := "fnExactMayHold", fn := fun _ => fun
  | [d1, d2, d3, d4] => { results := [.lit (.bool true)], args := [d1, d2, d3, d4] }
  | _ => none }
def fnExactMayHoldRow : OpenClaim := { program := "ytbfdknfodpcdnaagreat", sum := "c1d270d2c245c0d9f8ee69905826a20d774c8ff9e9c86a69eef890b300c8ad5e", func := "loop.example/g00696/laws.FnExactMayHold", spec := "fnExactMayHold", inPlace := ["math.Float64bits", "math.Float64frombits", "math.archTrunc"], unfollowed := true, recurses := true, apart := false }
def FnExactMayHoldSaid : Prop := fnExactMayHoldRow.holds Tryz.pinned (OpenSpec.ofChange fnExactMayHoldSpec)

/-- ITS FALSE NEIGHBOUR: 'it returns false'. Refute it at one input. -/
def fnExactMayHoldWrong : ChangeSpec := { name := "fnExactMayHold", fn := fun _ => fun
  | [d1, d2, d3, d4] => { results := [.lit (.bool false)], args := [d1, d2, d3, d4] }
  | _ => none }
def FnExactMayHoldWrongFalsely : Prop := fnExactMayHoldRow.holds Tryz.pinned (OpenSpec.ofChange fnExactMayHoldWrong)

/- THE SECOND FORM. 'bulk': how many values and letters a reading holds, each counted each time it is reached (what is shared counts as often as it is met; a slice's spare places count too). A statement '..UptoSaid' is the law's where the arguments, and the package variables that the reading takes, are together of bulk at most 1048576: NARROWER than '..Said'. Prove '..Said' where nothing that the law and all that it calls make is longer than what came in: it says more and counts as full. Else prove '..UptoSaid'. A law counts once. -/
mutual
def uptoBulk {H : Type} : DataW H → Nat
  | .lit (.string bytes) => bytes.length + 1
  | .lit _ => 1
  | .nil => 1
  | .ptr d => uptoBulk d + 1
  | .slice elems spare => uptoBulkAll elems + uptoBulkAll spare + 1
  | .agg parts => uptoBulkAll parts + 1
  | .iface _ d => uptoBulk d + 1
  | .map entries => uptoBulkEntries entries + 1
  | .held _ => 1
def uptoBulkAll {H : Type} : List (DataW H) → Nat
  | [] => 0
  | d :: r => uptoBulk d + uptoBulkAll r
def uptoBulkEntries {H : Type} : List (Lit × DataW H) → Nat
  | [] => 0
  | x :: r => uptoBulkEntry x + uptoBulkEntries r
def uptoBulkEntry {H : Type} : Lit × DataW H → Nat
  | (.string bytes, d) => bytes.length + uptoBulk d + 1
  | (_, d) => uptoBulk d + 1
 end
def uptoSmall : (H : Type) → List (DataW H) → Bool := fun _ ds => decide (uptoBulkAll ds ≤ 1048576)
def OpenSpec.upto (s : _root_.Go.ChangeSpec) : _root_.Go.OpenSpec := { _root_.Go.OpenSpec.ofChange s with cond := some uptoSmall }

/-- 'laws.FnExactCutAfter', WHERE WHAT IT READS IS OF BULK AT MOST 1048576: true; the input reads as it did. -/
def fnExactCutAfterUptoRow : OpenClaim := { program := "ytbfdknfodpcdnaagreat", sum := "c1d270d2c245c0d9f8ee69905826a20d774c8ff9e9c86a69eef890b300c8ad5e", func := "loop.example/g00696/laws.FnExactCutAfter", spec := "fnExactCutAfter", inPlace := ["math.Float64bits", "math.Float64frombits", "math.archTrunc"], unfollowed := true, recurses := true, apart := false, narrowed := true }
def FnExactCutAfterUptoSaid : Prop := fnExactCutAfterUptoRow.holds Tryz.pinned (OpenSpec.upto fnExactCutAfterSpec)

/-- 'laws.FnExactSwapAt', WHERE WHAT IT READS IS OF BULK AT MOST 1048576: true; the input reads as it did. -/
def fnExactSwapAtUptoRow : OpenClaim := { program := "ytbfdknfodpcdnaagreat", sum := "c1d270d2c245c0d9f8ee69905826a20d774c8ff9e9c86a69eef890b300c8ad5e", func := "loop.example/g00696/laws.FnExactSwapAt", spec := "fnExactSwapAt", inPlace := ["math.Float64bits", "math.Float64frombits", "math.archTrunc"], unfollowed := true, recurses := true, apart := false, narrowed := true }
def FnExactSwapAtUptoSaid : Prop := fnExactSwapAtUptoRow.holds Tryz.pinned (OpenSpec.upto fnExactSwapAtSpec)

/-- 'laws.FnExactFormsOf', WHERE WHAT IT READS IS OF BULK AT MOST 1048576: true; the input reads as it did. -/
def fnExactFormsOfUptoRow : OpenClaim := { program := "ytbfdknfodpcdnaagreat", sum := "c1d270d2c245c0d9f8ee69905826a20d774c8ff9e9c86a69eef890b300c8ad5e", func := "loop.example/g00696/laws.FnExactFormsOf", spec := "fnExactFormsOf", inPlace := ["math.Float64bits", "math.Float64frombits", "math.archTrunc"], unfollowed := true, recurses := true, apart := false, narrowed := true }
def FnExactFormsOfUptoSaid : Prop := fnExactFormsOfUptoRow.holds Tryz.pinned (OpenSpec.upto fnExactFormsOfSpec)

/-- 'laws.FnExactPairsIn', WHERE WHAT IT READS IS OF BULK AT MOST 1048576: true; the input reads as it did. -/
def fnExactPairsInUptoRow : OpenClaim := { program := "ytbfdknfodpcdnaagreat", sum := "c1d270d2c245c0d9f8ee69905826a20d774c8ff9e9c86a69eef890b300c8ad5e", func := "loop.example/g00696/laws.FnExactPairsIn", spec := "fnExactPairsIn", inPlace := ["math.Float64bits", "math.Float64frombits", "math.archTrunc"], unfollowed := true, recurses := true, apart := false, narrowed := true }
def FnExactPairsInUptoSaid : Prop := fnExactPairsInUptoRow.holds Tryz.pinned (OpenSpec.upto fnExactPairsInSpec)

/-- 'laws.FnExactAllOrders', WHERE WHAT IT READS IS OF BULK AT MOST 1048576: true; the input reads as it did. -/
def fnExactAllOrdersUptoRow : OpenClaim := { program := "ytbfdknfodpcdnaagreat", sum := "c1d270d2c245c0d9f8ee69905826a20d774c8ff9e9c86a69eef890b300c8ad5e", func := "loop.example/g00696/laws.FnExactAllOrders", spec := "fnExactAllOrders", inPlace := ["math.Float64bits", "math.Float64frombits", "math.archTrunc"], unfollowed := true, recurses := true, apart := false, narrowed := true }
def FnExactAllOrdersUptoSaid : Prop := fnExactAllOrdersUptoRow.holds Tryz.pinned (OpenSpec.upto fnExactAllOrdersSpec)

/-- 'laws.FnExactMayHold', WHERE WHAT IT READS IS OF BULK AT MOST 1048576: true; the input reads as it did. -/
def fnExactMayHoldUptoRow : OpenClaim := { program := "ytbfdknfodpcdnaagreat", sum := "c1d270d2c245c0d9f8ee69905826a20d774c8ff9e9c86a69eef890b300c8ad5e", func := "loop.example/g00696/laws.FnExactMayHold", spec := "fnExactMayHold", inPlace := ["math.Float64bits", "math.Float64frombits", "math.archTrunc"], unfollowed := true, recurses := true, apart := false, narrowed := true }
def FnExactMayHoldUptoSaid : Prop := fnExactMayHoldUptoRow.holds Tryz.pinned (OpenSpec.upto fnExactMayHoldSpec)

end Rows
end Go.Proofs.YtbfdknfodpcdnaaGreat
