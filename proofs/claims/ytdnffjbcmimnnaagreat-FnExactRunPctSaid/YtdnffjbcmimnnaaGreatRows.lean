/-
  No cell of these rows narrows 'for every input' (looked for: loops, veiled, ifaces, maps, wideKeys, modest, calm, conditions, laid).
  DERIVED. THE GIVEN ROWS OF THIS SEAT. 8 by the template 'for every input the law returns true; each argument reads behind the call as it read before'; 0 by the template 'total and deterministic' (their statements: YtdnffjbcmimnnaaGreatTotals.lean).
  GIVEN WITH THE SEED: the statements are not yours to turn. If you find one false, say at which input.
  Laid BY PROGRAM, IN A SANDBOX (cutbox-rows.mjs): the forced cells as the released guide's own fill.sh prints them over the translation abacdda343b5c14a… (all of the seat's roots in one cut). By AI agents, Wed Nov 11 2026. No macro, syntax, notation, axiom, sorry.
-/
import Derived.Test.YtdnffjbcmimnnaaGreatChecked
import GoSem.Claim
import GoSem.ClaimJoined
import GoSem.ClaimMapViews
import Derived.JoinedTies
import Derived.KernelRfl
namespace Go.Proofs.YtdnffjbcmimnnaaGreat
/- THE CELL 'sum', in the pinned program and in every row, IS THE sha256 OF THE DUMP (.gsa) THAT YtdnffjbcmimnnaaGreatProg.lean LOADS. Nothing in Lean hashes anything: it is a label: what it is worth is what the hold of that sum in a sandbox is worth. -/
noncomputable def Tryz.pinned : Pinned := { name := "ytdnffjbcmimnnaagreat", sum := "abacdda343b5c14a1b2a63090b5b9734b42e6eb512c354324cd52d9c1d82c5c6", checked := Tryz.checked }
namespace Rows
def none {H : Type} : Left H := { results := [], args := [] }

/-- 'laws.FnExactAllRuns': WHATEVER THE INPUT: true; the input reads as it did. -/
def fnExactAllRunsSpec : ChangeSpec := { name := "fnExactAllRuns", fn := fun _ => fun
  | [d1, d2] => { results := [.lit (.bool true)], args := [d1, d2] }
  | _ => none }
def fnExactAllRunsRow : OpenClaim := { program := "ytdnffjbcmimnnaagreat", sum := "abacdda343b5c14a1b2a63090b5b9734b42e6eb512c354324cd52d9c1d82c5c6", func := "loop.example/g00696/laws.FnExactAllRuns", spec := "fnExactAllRuns", inPlace := ["math.Float64bits", "math.Float64frombits", "math.archTrunc"], unfollowed := true, recurses := true, apart := false }
def FnExactAllRunsSaid : Prop := fnExactAllRunsRow.holds Tryz.pinned (OpenSpec.ofChange fnExactAllRunsSpec)

/-- ITS FALSE NEIGHBOUR: 'it returns false'. Refute it at one input. -/
def fnExactAllRunsWrong : ChangeSpec := { name := "fnExactAllRuns", fn := fun _ => fun
  | [d1, d2] => { results := [.lit (.bool false)], args := [d1, d2] }
  | _ => none }
def FnExactAllRunsWrongFalsely : Prop := fnExactAllRunsRow.holds Tryz.pinned (OpenSpec.ofChange fnExactAllRunsWrong)

/-- 'laws.FnExactSleepRuns': WHATEVER THE INPUT: true; the input reads as it did. -/
def fnExactSleepRunsSpec : ChangeSpec := { name := "fnExactSleepRuns", fn := fun _ => fun
  | [d1, d2] => { results := [.lit (.bool true)], args := [d1, d2] }
  | _ => none }
def fnExactSleepRunsRow : OpenClaim := { program := "ytdnffjbcmimnnaagreat", sum := "abacdda343b5c14a1b2a63090b5b9734b42e6eb512c354324cd52d9c1d82c5c6", func := "loop.example/g00696/laws.FnExactSleepRuns", spec := "fnExactSleepRuns", inPlace := ["math.Float64bits", "math.Float64frombits", "math.archTrunc"], unfollowed := true, recurses := true, apart := false }
def FnExactSleepRunsSaid : Prop := fnExactSleepRunsRow.holds Tryz.pinned (OpenSpec.ofChange fnExactSleepRunsSpec)

/-- ITS FALSE NEIGHBOUR: 'it returns false'. Refute it at one input. -/
def fnExactSleepRunsWrong : ChangeSpec := { name := "fnExactSleepRuns", fn := fun _ => fun
  | [d1, d2] => { results := [.lit (.bool false)], args := [d1, d2] }
  | _ => none }
def FnExactSleepRunsWrongFalsely : Prop := fnExactSleepRunsRow.holds Tryz.pinned (OpenSpec.ofChange fnExactSleepRunsWrong)

/-- 'laws.FnExactRunsWithin': WHATEVER THE INPUT: true; the input reads as it did. -/
def fnExactRunsWithinSpec : ChangeSpec := { name := "fnExactRunsWithin", fn := fun _ => fun
  | [d1, d2, d3] => { results := [.lit (.bool true)], args := [d1, d2, d3] }
  | _ => none }
def fnExactRunsWithinRow : OpenClaim := { program := "ytdnffjbcmimnnaagreat", sum := "abacdda343b5c14a1b2a63090b5b9734b42e6eb512c354324cd52d9c1d82c5c6", func := "loop.example/g00696/laws.FnExactRunsWithin", spec := "fnExactRunsWithin", inPlace := ["math.Float64bits", "math.Float64frombits", "math.archTrunc"], unfollowed := true, recurses := true, apart := false }
def FnExactRunsWithinSaid : Prop := fnExactRunsWithinRow.holds Tryz.pinned (OpenSpec.ofChange fnExactRunsWithinSpec)

/-- ITS FALSE NEIGHBOUR: 'it returns false'. Refute it at one input. -/
def fnExactRunsWithinWrong : ChangeSpec := { name := "fnExactRunsWithin", fn := fun _ => fun
  | [d1, d2, d3] => { results := [.lit (.bool false)], args := [d1, d2, d3] }
  | _ => none }
def FnExactRunsWithinWrongFalsely : Prop := fnExactRunsWithinRow.holds Tryz.pinned (OpenSpec.ofChange fnExactRunsWithinWrong)

/-- 'laws.FnExactDeadIn': WHATEVER THE INPUT: true; the input reads as it did. -/
def fnExactDeadInSpec : ChangeSpec := { name := "fnExactDeadIn", fn := fun _ => fun
  | [d1, d2] => { results := [.lit (.bool true)], args := [d1, d2] }
  | _ => none }
def fnExactDeadInRow : OpenClaim := { program := "ytdnffjbcmimnnaagreat", sum := "abacdda343b5c14a1b2a63090b5b9734b42e6eb512c354324cd52d9c1d82c5c6", func := "loop.example/g00696/laws.FnExactDeadIn", spec := "fnExactDeadIn", inPlace := ["math.Float64bits", "math.Float64frombits", "math.archTrunc"], unfollowed := true, recurses := true, apart := false }
def FnExactDeadInSaid : Prop := fnExactDeadInRow.holds Tryz.pinned (OpenSpec.ofChange fnExactDeadInSpec)

/-- ITS FALSE NEIGHBOUR: 'it returns false'. Refute it at one input. -/
def fnExactDeadInWrong : ChangeSpec := { name := "fnExactDeadIn", fn := fun _ => fun
  | [d1, d2] => { results := [.lit (.bool false)], args := [d1, d2] }
  | _ => none }
def FnExactDeadInWrongFalsely : Prop := fnExactDeadInRow.holds Tryz.pinned (OpenSpec.ofChange fnExactDeadInWrong)

/-- 'laws.FnExactRunPct': WHATEVER THE INPUT: true; the input reads as it did. -/
def fnExactRunPctSpec : ChangeSpec := { name := "fnExactRunPct", fn := fun _ => fun
  | [d1, d2, d3] => { results := [.lit (.bool true)], args := [d1, d2, d3] }
  | _ => none }
def fnExactRunPctRow : OpenClaim := { program := "ytdnffjbcmimnnaagreat", sum := "abacdda343b5c14a1b2a63090b5b9734b42e6eb512c354324cd52d9c1d82c5c6", func := "loop.example/g00696/laws.FnExactRunPct", spec := "fnExactRunPct", inPlace := ["math.Float64bits", "math.Float64frombits", "math.archTrunc"], unfollowed := true, recurses := true, apart := false }
def FnExactRunPctSaid : Prop := fnExactRunPctRow.holds Tryz.pinned (OpenSpec.ofChange fnExactRunPctSpec)

/-- ITS FALSE NEIGHBOUR: 'it returns false'. Refute it at one input. -/
def fnExactRunPctWrong : ChangeSpec := { name := "fnExactRunPct", fn := fun _ => fun
  | [d1, d2, d3] => { results := [.lit (.bool false)], args := [d1, d2, d3] }
  | _ => none }
def FnExactRunPctWrongFalsely : Prop := fnExactRunPctRow.holds Tryz.pinned (OpenSpec.ofChange fnExactRunPctWrong)

/-- 'laws.FnExactCellHistory': WHATEVER THE INPUT: true; the input reads as it did. -/
def fnExactCellHistorySpec : ChangeSpec := { name := "fnExactCellHistory", fn := fun _ => fun
  | [d1, d2, d3] => { results := [.lit (.bool true)], args := [d1, d2, d3] }
  | _ => none }
def fnExactCellHistoryRow : OpenClaim := { program := "ytdnffjbcmimnnaagreat", sum := "abacdda343b5c14a1b2a63090b5b9734b42e6eb512c354324cd52d9c1d82c5c6", func := "loop.example/g00696/laws.FnExactCellHistory", spec := "fnExactCellHistory", inPlace := ["math.Float64bits", "math.Float64frombits", "math.archTrunc"], unfollowed := true, recurses := true, apart := false }
def FnExactCellHistorySaid : Prop := fnExactCellHistoryRow.holds Tryz.pinned (OpenSpec.ofChange fnExactCellHistorySpec)

/-- ITS FALSE NEIGHBOUR: 'it returns false'. Refute it at one input. -/
def fnExactCellHistoryWrong : ChangeSpec := { name := "fnExactCellHistory", fn := fun _ => fun
  | [d1, d2, d3] => { results := [.lit (.bool false)], args := [d1, d2, d3] }
  | _ => none }
def FnExactCellHistoryWrongFalsely : Prop := fnExactCellHistoryRow.holds Tryz.pinned (OpenSpec.ofChange fnExactCellHistoryWrong)

/-- 'laws.FnExactCutAfter': WHATEVER THE INPUT: true; the input reads as it did. -/
def fnExactCutAfterSpec : ChangeSpec := { name := "fnExactCutAfter", fn := fun _ => fun
  | [d1, d2, d3] => { results := [.lit (.bool true)], args := [d1, d2, d3] }
  | _ => none }
def fnExactCutAfterRow : OpenClaim := { program := "ytdnffjbcmimnnaagreat", sum := "abacdda343b5c14a1b2a63090b5b9734b42e6eb512c354324cd52d9c1d82c5c6", func := "loop.example/g00696/laws.FnExactCutAfter", spec := "fnExactCutAfter", inPlace := ["math.Float64bits", "math.Float64frombits", "math.archTrunc"], unfollowed := true, recurses := true, apart := false }
def FnExactCutAfterSaid : Prop := fnExactCutAfterRow.holds Tryz.pinned (OpenSpec.ofChange fnExactCutAfterSpec)

/-- ITS FALSE NEIGHBOUR: 'it returns false'. Refute it at one input. -/
def fnExactCutAfterWrong : ChangeSpec := { name := "fnExactCutAfter", fn := fun _ => fun
  | [d1, d2, d3] => { results := [.lit (.bool false)], args := [d1, d2, d3] }
  | _ => none }
def FnExactCutAfterWrongFalsely : Prop := fnExactCutAfterRow.holds Tryz.pinned (OpenSpec.ofChange fnExactCutAfterWrong)

/-- 'laws.FnExactPairsIn': WHATEVER THE INPUT: true; the input reads as it did. -/
def fnExactPairsInSpec : ChangeSpec := { name := "fnExactPairsIn", fn := fun _ => fun
  | [d1, d2] => { results := [.lit (.bool true)], args := [d1, d2] }
  | _ => none }
def fnExactPairsInRow : OpenClaim := { program := "ytdnffjbcmimnnaagreat", sum := "abacdda343b5c14a1b2a63090b5b9734b42e6eb512c354324cd52d9c1d82c5c6", func := "loop.example/g00696/laws.FnExactPairsIn", spec := "fnExactPairsIn", inPlace := ["math.Float64bits", "math.Float64frombits", "math.archTrunc"], unfollowed := true, recurses := true, apart := false }
def FnExactPairsInSaid : Prop := fnExactPairsInRow.holds Tryz.pinned (OpenSpec.ofChange fnExactPairsInSpec)

/-- ITS FALSE NEIGHBOUR: 'it returns false'. Refute it at one input. -/
def fnExactPairsInWrong : ChangeSpec := { name := "fnExactPairsIn", fn := fun _ => fun
  | [d1, d2] => { results := [.lit (.bool false)], args := [d1, d2] }
  | _ => none }
def FnExactPairsInWrongFalsely : Prop := fnExactPairsInRow.holds Tryz.pinned (OpenSpec.ofChange fnExactPairsInWrong)

/- THE SECOND FORM. 'bulk': how many values and letters a reading holds, each counted each time it is reached (what is shared counts as often as it is met; a slice's spare places count too). A statement '..UptoSaid' is the law's where the arguments, and the package variables that the reading takes, are together of bulk at most 1048576: NARROWER than '..Said'. Prove '..Said' where nothing that the law and all that it calls make is longer than what came in: it says more and counts as full. Else prove '..UptoSaid'. A law counts once. -/
mutual
def uptoBulk {H : Type} : DataW H → Nat
  | .lit (.string bytes) => bytes.length + 1
  | .lit _ => 1
  | .nil => 1
  | .ptr d => uptoBulk d + 1
  | .slice elems spare => uptoBulkAll elems + uptoBulkAll spare + 1
  | .agg parts => uptoBulkAll parts + 1
  | .iface _ d => uptoBulk d + 1
  | .map entries => uptoBulkEntries entries + 1
  | .held _ => 1
def uptoBulkAll {H : Type} : List (DataW H) → Nat
  | [] => 0
  | d :: r => uptoBulk d + uptoBulkAll r
def uptoBulkEntries {H : Type} : List (Lit × DataW H) → Nat
  | [] => 0
  | x :: r => uptoBulkEntry x + uptoBulkEntries r
def uptoBulkEntry {H : Type} : Lit × DataW H → Nat
  | (.string bytes, d) => bytes.length + uptoBulk d + 1
  | (_, d) => uptoBulk d + 1
 end
def uptoSmall : (H : Type) → List (DataW H) → Bool := fun _ ds => decide (uptoBulkAll ds ≤ 1048576)
def OpenSpec.upto (s : _root_.Go.ChangeSpec) : _root_.Go.OpenSpec := { _root_.Go.OpenSpec.ofChange s with cond := some uptoSmall }

/-- 'laws.FnExactAllRuns', WHERE WHAT IT READS IS OF BULK AT MOST 1048576: true; the input reads as it did. -/
def fnExactAllRunsUptoRow : OpenClaim := { program := "ytdnffjbcmimnnaagreat", sum := "abacdda343b5c14a1b2a63090b5b9734b42e6eb512c354324cd52d9c1d82c5c6", func := "loop.example/g00696/laws.FnExactAllRuns", spec := "fnExactAllRuns", inPlace := ["math.Float64bits", "math.Float64frombits", "math.archTrunc"], unfollowed := true, recurses := true, apart := false, narrowed := true }
def FnExactAllRunsUptoSaid : Prop := fnExactAllRunsUptoRow.holds Tryz.pinned (OpenSpec.upto fnExactAllRunsSpec)

/-- 'laws.FnExactSleepRuns', WHERE WHAT IT READS IS OF BULK AT MOST 1048576: true; the input reads as it did. -/
def fnExactSleepRunsUptoRow : OpenClaim := { program := "ytdnffjbcmimnnaagreat", sum := "abacdda343b5c14a1b2a63090b5b9734b42e6eb512c354324cd52d9c1d82c5c6", func := "loop.example/g00696/laws.FnExactSleepRuns", spec := "fnExactSleepRuns", inPlace := ["math.Float64bits", "math.Float64frombits", "math.archTrunc"], unfollowed := true, recurses := true, apart := false, narrowed := true }
def FnExactSleepRunsUptoSaid : Prop := fnExactSleepRunsUptoRow.holds Tryz.pinned (OpenSpec.upto fnExactSleepRunsSpec)

/-- 'laws.FnExactRunsWithin', WHERE WHAT IT READS IS OF BULK AT MOST 1048576: true; the input reads as it did. -/
def fnExactRunsWithinUptoRow : OpenClaim := { program := "ytdnffjbcmimnnaagreat", sum := "abacdda343b5c14a1b2a63090b5b9734b42e6eb512c354324cd52d9c1d82c5c6", func := "loop.example/g00696/laws.FnExactRunsWithin", spec := "fnExactRunsWithin", inPlace := ["math.Float64bits", "math.Float64frombits", "math.archTrunc"], unfollowed := true, recurses := true, apart := false, narrowed := true }
def FnExactRunsWithinUptoSaid : Prop := fnExactRunsWithinUptoRow.holds Tryz.pinned (OpenSpec.upto fnExactRunsWithinSpec)

/-- 'laws.FnExactDeadIn', WHERE WHAT IT READS IS OF BULK AT MOST 1048576: true; the input reads as it did. -/
def fnExactDeadInUptoRow : OpenClaim := { program := "ytdnffjbcmimnnaagreat", sum := "abacdda343b5c14a1b2a63090b5b9734b42e6eb512c354324cd52d9c1d82c5c6", func := "loop.example/g00696/laws.FnExactDeadIn", spec := "fnExactDeadIn", inPlace := ["math.Float64bits", "math.Float64frombits", "math.archTrunc"], unfollowed := true, recurses := true, apart := false, narrowed := true }
def FnExactDeadInUptoSaid : Prop := fnExactDeadInUptoRow.holds Tryz.pinned (OpenSpec.upto fnExactDeadInSpec)

/-- 'laws.FnExactRunPct', WHERE WHAT IT READS IS OF BULK AT MOST 1048576: true; the input reads as it did. -/
def fnExactRunPctUptoRow : OpenClaim := { program := "ytdnffjbcmimnnaagreat", sum := "abacdda343b5c14a1b2a63090b5b9734b42e6eb512c354324cd52d9c1d82c5c6", func := "loop.example/g00696/laws.FnExactRunPct", spec := "fnExactRunPct", inPlace := ["math.Float64bits", "math.Float64frombits", "math.archTrunc"], unfollowed := true, recurses := true, apart := false, narrowed := true }
def FnExactRunPctUptoSaid : Prop := fnExactRunPctUptoRow.holds Tryz.pinned (OpenSpec.upto fnExactRunPctSpec)

/-- 'laws.FnExactCellHistory', WHERE WHAT IT READS IS OF BULK AT MOST 1048576: true; the input reads as it did. -/
def fnExactCellHistoryUptoRow : OpenClaim := { program := "ytdnffjbcmimnnaagreat", sum := "abacdda343b5c14a1b2a63090b5b9734b42e6eb512c354324cd52d9c1d82c5c6", func := "loop.example/g00696/laws.FnExactCellHistory", spec := "fnExactCellHistory", inPlace := ["math.Float64bits", "math.Float64frombits", "math.archTrunc"], unfollowed := true, recurses := true, apart := false, narrowed := true }
def FnExactCellHistoryUptoSaid : Prop := fnExactCellHistoryUptoRow.holds Tryz.pinned (OpenSpec.upto fnExactCellHistorySpec)

/-- 'laws.FnExactCutAfter', WHERE WHAT IT READS IS OF BULK AT MOST 1048576: true; the input reads as it did. -/
def fnExactCutAfterUptoRow : OpenClaim := { program := "ytdnffjbcmimnnaagreat", sum := "abacdda343b5c14a1b2a63090b5b9734b42e6eb512c354324cd52d9c1d82c5c6", func := "loop.example/g00696/laws.FnExactCutAfter", spec := "fnExactCutAfter", inPlace := ["math.Float64bits", "math.Float64frombits", "math.archTrunc"], unfollowed := true, recurses := true, apart := false, narrowed := true }
def FnExactCutAfterUptoSaid : Prop := fnExactCutAfterUptoRow.holds Tryz.pinned (OpenSpec.upto fnExactCutAfterSpec)

/-- 'laws.FnExactPairsIn', WHERE WHAT IT READS IS OF BULK AT MOST 1048576: true; the input reads as it did. -/
def fnExactPairsInUptoRow : OpenClaim := { program := "ytdnffjbcmimnnaagreat", sum := "abacdda343b5c14a1b2a63090b5b9734b42e6eb512c354324cd52d9c1d82c5c6", func := "loop.example/g00696/laws.FnExactPairsIn", spec := "fnExactPairsIn", inPlace := ["math.Float64bits", "math.Float64frombits", "math.archTrunc"], unfollowed := true, recurses := true, apart := false, narrowed := true }
def FnExactPairsInUptoSaid : Prop := fnExactPairsInUptoRow.holds Tryz.pinned (OpenSpec.upto fnExactPairsInSpec)

end Rows
end Go.Proofs.YtdnffjbcmimnnaaGreat
