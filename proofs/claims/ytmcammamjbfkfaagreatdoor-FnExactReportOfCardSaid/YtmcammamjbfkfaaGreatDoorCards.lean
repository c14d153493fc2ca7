/-
  DERIVED. GIVEN WITH THE SEED: THE CARDS: each row of YtmcammamjbfkfaaGreatDoorRows.lean that lists a variable, with what it lists TIED to the program's text (the seventh form; the later family's looks); each row that meets fmt, with fmt's text TOLD by the authors' own Lean function (tested against real Go, not proved from fmt's source: count such statements apart). THE CARD IS WHAT COUNTS. Prove the row's statement (the work); the ties are given (YtmcammamjbfkfaaGreatDoorTie.lean); close each card by the builder's one call (the guide's Derived/Test/ToyasCard.lean, 'card_holds'). Laid BY PROGRAM, IN A SANDBOX (cutbox-door.mjs). By AI agents, Wed Nov 11 2026. No macro, syntax, notation, axiom, sorry.
-/
import Derived.Test.YtmcammamjbfkfaaGreatDoorRows
import GoSem.ClaimSeven
namespace Go.Proofs.YtmcammamjbfkfaaGreatDoor
namespace Rows

/-- THE TIED CARD OF 'laws.FnExactReportOf'. -/
def fnExactReportOfCard : Claim7 := { stood := { row := fnExactReportOfRow, standIns := [], harness := (true, "45ce42109e075659d1f43df45f7d691def9a9eaa73335ca842a3dce57bd6ac3b"), looks := false }, kinds := [], alts := [], laidByText := true, laidKinds := [.data, .data, .data], laidTests := true, laidLooks := .later }
def FnExactReportOfCardSaid : Prop := Claim7.holds Tryz.pinned (.plain (OpenSpec.ofChange fnExactReportOfSpec)) fnExactReportOfCard

/-- THE TIED CARD OF 'laws.FnExactStillSo'. -/
def fnExactStillSoCard : Claim7 := { stood := { row := fnExactStillSoRow, standIns := [], harness := (true, "45ce42109e075659d1f43df45f7d691def9a9eaa73335ca842a3dce57bd6ac3b"), looks := false }, kinds := [], alts := [], laidByText := true, laidKinds := [.data, .data, .data], laidTests := true, laidLooks := .later }
def FnExactStillSoCardSaid : Prop := Claim7.holds Tryz.pinned (.plain (OpenSpec.ofChange fnExactStillSoSpec)) fnExactStillSoCard

/-- THE SECOND FORM's CARD OF 'laws.FnExactReportOf'. -/
def fnExactReportOfUptoCard : Claim7 := { stood := { row := fnExactReportOfUptoRow, standIns := [], harness := (true, "45ce42109e075659d1f43df45f7d691def9a9eaa73335ca842a3dce57bd6ac3b"), looks := false }, kinds := [], alts := [], laidByText := true, laidKinds := [.data, .data, .data], laidTests := true, laidLooks := .later }
def FnExactReportOfUptoCardSaid : Prop := Claim7.holds Tryz.pinned (.plain (OpenSpec.upto fnExactReportOfSpec)) fnExactReportOfUptoCard

/-- THE SECOND FORM's CARD OF 'laws.FnExactStillSo'. -/
def fnExactStillSoUptoCard : Claim7 := { stood := { row := fnExactStillSoUptoRow, standIns := [], harness := (true, "45ce42109e075659d1f43df45f7d691def9a9eaa73335ca842a3dce57bd6ac3b"), looks := false }, kinds := [], alts := [], laidByText := true, laidKinds := [.data, .data, .data], laidTests := true, laidLooks := .later }
def FnExactStillSoUptoCardSaid : Prop := Claim7.holds Tryz.pinned (.plain (OpenSpec.upto fnExactStillSoSpec)) fnExactStillSoUptoCard
end Rows
end Go.Proofs.YtmcammamjbfkfaaGreatDoor
