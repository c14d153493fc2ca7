/-
  DERIVED. GIVEN WITH THE SEED: THE CARDS: each row of YtbfdknfodpcdnaaGreatDoorRows.lean that lists a variable, with what it lists TIED to the program's text (the seventh form; the later family's looks); each row that meets fmt, with fmt's text TOLD by the authors' own Lean function (tested against real Go, not proved from fmt's source: count such statements apart). THE CARD IS WHAT COUNTS. Prove the row's statement (the work); the ties are given (YtbfdknfodpcdnaaGreatDoorTie.lean); close each card by the builder's one call (the guide's Derived/Test/ToyasCard.lean, 'card_holds'). Laid BY PROGRAM, IN A SANDBOX (cutbox-door.mjs). By AI agents, Wed Nov 11 2026. No macro, syntax, notation, axiom, sorry.
-/
import Derived.Test.YtbfdknfodpcdnaaGreatDoorRows
import GoSem.ClaimSeven
namespace Go.Proofs.YtbfdknfodpcdnaaGreatDoor
namespace Rows

/-- THE TIED CARD OF 'laws.FnExactSignOf'. -/
def fnExactSignOfCard : Claim7 := { stood := { row := fnExactSignOfRow, standIns := [], harness := (true, "97358aebc1acf7009fc2e14b3293996b7c3708297f58b0037d6a452bd5b7eeca"), looks := false }, kinds := [], alts := [], laidByText := true, laidKinds := [.data, .data, .data], laidTests := true, laidLooks := .later }
def FnExactSignOfCardSaid : Prop := Claim7.holds Tryz.pinned (.plain (OpenSpec.ofChange fnExactSignOfSpec)) fnExactSignOfCard

/-- THE TIED CARD OF 'laws.FnExactSignsOf'. -/
def fnExactSignsOfCard : Claim7 := { stood := { row := fnExactSignsOfRow, standIns := [], harness := (true, "97358aebc1acf7009fc2e14b3293996b7c3708297f58b0037d6a452bd5b7eeca"), looks := false }, kinds := [], alts := [], laidByText := true, laidKinds := [.data, .data, .data], laidTests := true, laidLooks := .later }
def FnExactSignsOfCardSaid : Prop := Claim7.holds Tryz.pinned (.plain (OpenSpec.ofChange fnExactSignsOfSpec)) fnExactSignsOfCard

/-- THE TIED CARD OF 'laws.FnExactEndsOf'. -/
def fnExactEndsOfCard : Claim7 := { stood := { row := fnExactEndsOfRow, standIns := [], harness := (true, "97358aebc1acf7009fc2e14b3293996b7c3708297f58b0037d6a452bd5b7eeca"), looks := false }, kinds := [], alts := [], laidByText := true, laidKinds := [.data, .data, .data], laidTests := true, laidLooks := .later }
def FnExactEndsOfCardSaid : Prop := Claim7.holds Tryz.pinned (.plain (OpenSpec.ofChange fnExactEndsOfSpec)) fnExactEndsOfCard

/-- THE TIED CARD OF 'laws.FnExactEndsWithin'. -/
def fnExactEndsWithinCard : Claim7 := { stood := { row := fnExactEndsWithinRow, standIns := [], harness := (true, "97358aebc1acf7009fc2e14b3293996b7c3708297f58b0037d6a452bd5b7eeca"), looks := false }, kinds := [], alts := [], laidByText := true, laidKinds := [.data, .data, .data], laidTests := true, laidLooks := .later }
def FnExactEndsWithinCardSaid : Prop := Claim7.holds Tryz.pinned (.plain (OpenSpec.ofChange fnExactEndsWithinSpec)) fnExactEndsWithinCard

/-- THE SECOND FORM's CARD OF 'laws.FnExactSignOf'. -/
def fnExactSignOfUptoCard : Claim7 := { stood := { row := fnExactSignOfUptoRow, standIns := [], harness := (true, "97358aebc1acf7009fc2e14b3293996b7c3708297f58b0037d6a452bd5b7eeca"), looks := false }, kinds := [], alts := [], laidByText := true, laidKinds := [.data, .data, .data], laidTests := true, laidLooks := .later }
def FnExactSignOfUptoCardSaid : Prop := Claim7.holds Tryz.pinned (.plain (OpenSpec.upto fnExactSignOfSpec)) fnExactSignOfUptoCard

/-- THE SECOND FORM's CARD OF 'laws.FnExactSignsOf'. -/
def fnExactSignsOfUptoCard : Claim7 := { stood := { row := fnExactSignsOfUptoRow, standIns := [], harness := (true, "97358aebc1acf7009fc2e14b3293996b7c3708297f58b0037d6a452bd5b7eeca"), looks := false }, kinds := [], alts := [], laidByText := true, laidKinds := [.data, .data, .data], laidTests := true, laidLooks := .later }
def FnExactSignsOfUptoCardSaid : Prop := Claim7.holds Tryz.pinned (.plain (OpenSpec.upto fnExactSignsOfSpec)) fnExactSignsOfUptoCard

/-- THE SECOND FORM's CARD OF 'laws.FnExactEndsOf'. -/
def fnExactEndsOfUptoCard : Claim7 := { stood := { row := fnExactEndsOfUptoRow, standIns := [], harness := (true, "97358aebc1acf7009fc2e14b3293996b7c3708297f58b0037d6a452bd5b7eeca"), looks := false }, kinds := [], alts := [], laidByText := true, laidKinds := [.data, .data, .data], laidTests := true, laidLooks := .later }
def FnExactEndsOfUptoCardSaid : Prop := Claim7.holds Tryz.pinned (.plain (OpenSpec.upto fnExactEndsOfSpec)) fnExactEndsOfUptoCard

/-- THE SECOND FORM's CARD OF 'laws.FnExactEndsWithin'. -/
def fnExactEndsWithinUptoCard : Claim7 := { stood := { row := fnExactEndsWithinUptoRow, standIns := [], harness := (true, "97358aebc1acf7009fc2e14b3293996b7c3708297f58b0037d6a452bd5b7eeca"), looks := false }, kinds := [], alts := [], laidByText := true, laidKinds := [.data, .data, .data], laidTests := true, laidLooks := .later }
def FnExactEndsWithinUptoCardSaid : Prop := Claim7.holds Tryz.pinned (.plain (OpenSpec.upto fnExactEndsWithinSpec)) fnExactEndsWithinUptoCard
end Rows
end Go.Proofs.YtbfdknfodpcdnaaGreatDoor
