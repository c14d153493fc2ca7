/-
  DERIVED. GIVEN WITH THE SEED: THE CARDS: each row of YtjkogkjhhjioeaaGreatDoorRows.lean that lists a variable, with what it lists TIED to the program's text (the seventh form; the later family's looks); each row that meets fmt, with fmt's text TOLD by the authors' own Lean function (tested against real Go, not proved from fmt's source: count such statements apart). THE CARD IS WHAT COUNTS. Prove the row's statement (the work); the ties are given (YtjkogkjhhjioeaaGreatDoorTie.lean); close each card by the builder's one call (the guide's Derived/Test/ToyasCard.lean, 'card_holds'). Laid BY PROGRAM, IN A SANDBOX (cutbox-door.mjs). By AI agents, Wed Nov 11 2026. No macro, syntax, notation, axiom, sorry.
-/
import Derived.Test.YtjkogkjhhjioeaaGreatDoorRows
import GoSem.ClaimSeven
namespace Go.Proofs.YtjkogkjhhjioeaaGreatDoor
namespace Rows

/-- THE TIED CARD OF 'laws.FnExactStillSo'. -/
def fnExactStillSoCard : Claim7 := { stood := { row := fnExactStillSoRow, standIns := [], harness := (true, "ea5eb871bffd239c05032a026d810cafd1e589faea0a21dc9f212ae1de7551ea"), looks := false }, kinds := [], alts := [], laidByText := true, laidKinds := [.data, .data, .data], laidTests := true, laidLooks := .later }
def FnExactStillSoCardSaid : Prop := Claim7.holds Tryz.pinned (.plain (OpenSpec.ofChange fnExactStillSoSpec)) fnExactStillSoCard

/-- THE TIED CARD OF 'laws.FnExactIsLeast'. -/
def fnExactIsLeastCard : Claim7 := { stood := { row := fnExactIsLeastRow, standIns := [], harness := (true, "ea5eb871bffd239c05032a026d810cafd1e589faea0a21dc9f212ae1de7551ea"), looks := false }, kinds := [], alts := [], laidByText := true, laidKinds := [.data, .data, .data], laidTests := true, laidLooks := .later }
def FnExactIsLeastCardSaid : Prop := Claim7.holds Tryz.pinned (.plain (OpenSpec.ofChange fnExactIsLeastSpec)) fnExactIsLeastCard

/-- THE TIED CARD OF 'laws.FnExactSmallPicks'. -/
def fnExactSmallPicksCard : Claim7 := { stood := { row := fnExactSmallPicksRow, standIns := [], harness := (true, "ea5eb871bffd239c05032a026d810cafd1e589faea0a21dc9f212ae1de7551ea"), looks := false }, kinds := [], alts := [], laidByText := true, laidKinds := [.data, .data, .data], laidTests := true, laidLooks := .later }
def FnExactSmallPicksCardSaid : Prop := Claim7.holds Tryz.pinned (.plain (OpenSpec.ofChange fnExactSmallPicksSpec)) fnExactSmallPicksCard

/-- THE TIED CARD OF 'laws.FnExactHitsOf'. -/
def fnExactHitsOfCard : Claim7 := { stood := { row := fnExactHitsOfRow, standIns := [], harness := (true, "ea5eb871bffd239c05032a026d810cafd1e589faea0a21dc9f212ae1de7551ea"), looks := false }, kinds := [], alts := [], laidByText := true, laidKinds := [.data, .data, .data], laidTests := true, laidLooks := .later }
def FnExactHitsOfCardSaid : Prop := Claim7.holds Tryz.pinned (.plain (OpenSpec.ofChange fnExactHitsOfSpec)) fnExactHitsOfCard

/-- THE TIED CARD OF 'laws.FnExactShrinkPicks'. -/
def fnExactShrinkPicksCard : Claim7 := { stood := { row := fnExactShrinkPicksRow, standIns := [], harness := (true, "ea5eb871bffd239c05032a026d810cafd1e589faea0a21dc9f212ae1de7551ea"), looks := false }, kinds := [], alts := [], laidByText := true, laidKinds := [.data, .data, .data], laidTests := true, laidLooks := .later }
def FnExactShrinkPicksCardSaid : Prop := Claim7.holds Tryz.pinned (.plain (OpenSpec.ofChange fnExactShrinkPicksSpec)) fnExactShrinkPicksCard

/-- THE TIED CARD OF 'laws.FnExactCanHappen'. -/
def fnExactCanHappenCard : Claim7 := { stood := { row := fnExactCanHappenRow, standIns := [], harness := (true, "ea5eb871bffd239c05032a026d810cafd1e589faea0a21dc9f212ae1de7551ea"), looks := false }, kinds := [], alts := [], laidByText := true, laidKinds := [.data, .data, .data], laidTests := true, laidLooks := .later }
def FnExactCanHappenCardSaid : Prop := Claim7.holds Tryz.pinned (.plain (OpenSpec.ofChange fnExactCanHappenSpec)) fnExactCanHappenCard

/-- THE TIED CARD OF 'laws.FnExactLeastPreempts'. -/
def fnExactLeastPreemptsCard : Claim7 := { stood := { row := fnExactLeastPreemptsRow, standIns := [], harness := (true, "ea5eb871bffd239c05032a026d810cafd1e589faea0a21dc9f212ae1de7551ea"), looks := false }, kinds := [], alts := [], laidByText := true, laidKinds := [.data, .data, .data], laidTests := true, laidLooks := .later }
def FnExactLeastPreemptsCardSaid : Prop := Claim7.holds Tryz.pinned (.plain (OpenSpec.ofChange fnExactLeastPreemptsSpec)) fnExactLeastPreemptsCard

/-- THE TIED CARD OF 'laws.FnExactGoesWrong'. -/
def fnExactGoesWrongCard : Claim7 := { stood := { row := fnExactGoesWrongRow, standIns := [], harness := (true, "ea5eb871bffd239c05032a026d810cafd1e589faea0a21dc9f212ae1de7551ea"), looks := false }, kinds := [], alts := [], laidByText := true, laidKinds := [.data, .data, .data], laidTests := true, laidLooks := .later }
def FnExactGoesWrongCardSaid : Prop := Claim7.holds Tryz.pinned (.plain (OpenSpec.ofChange fnExactGoesWrongSpec)) fnExactGoesWrongCard

/-- THE SECOND FORM's CARD OF 'laws.FnExactStillSo'. -/
def fnExactStillSoUptoCard : Claim7 := { stood := { row := fnExactStillSoUptoRow, standIns := [], harness := (true, "ea5eb871bffd239c05032a026d810cafd1e589faea0a21dc9f212ae1de7551ea"), looks := false }, kinds := [], alts := [], laidByText := true, laidKinds := [.data, .data, .data], laidTests := true, laidLooks := .later }
def FnExactStillSoUptoCardSaid : Prop := Claim7.holds Tryz.pinned (.plain (OpenSpec.upto fnExactStillSoSpec)) fnExactStillSoUptoCard

/-- THE SECOND FORM's CARD OF 'laws.FnExactIsLeast'. -/
def fnExactIsLeastUptoCard : Claim7 := { stood := { row := fnExactIsLeastUptoRow, standIns := [], harness := (true, "ea5eb871bffd239c05032a026d810cafd1e589faea0a21dc9f212ae1de7551ea"), looks := false }, kinds := [], alts := [], laidByText := true, laidKinds := [.data, .data, .data], laidTests := true, laidLooks := .later }
def FnExactIsLeastUptoCardSaid : Prop := Claim7.holds Tryz.pinned (.plain (OpenSpec.upto fnExactIsLeastSpec)) fnExactIsLeastUptoCard

/-- THE SECOND FORM's CARD OF 'laws.FnExactSmallPicks'. -/
def fnExactSmallPicksUptoCard : Claim7 := { stood := { row := fnExactSmallPicksUptoRow, standIns := [], harness := (true, "ea5eb871bffd239c05032a026d810cafd1e589faea0a21dc9f212ae1de7551ea"), looks := false }, kinds := [], alts := [], laidByText := true, laidKinds := [.data, .data, .data], laidTests := true, laidLooks := .later }
def FnExactSmallPicksUptoCardSaid : Prop := Claim7.holds Tryz.pinned (.plain (OpenSpec.upto fnExactSmallPicksSpec)) fnExactSmallPicksUptoCard

/-- THE SECOND FORM's CARD OF 'laws.FnExactHitsOf'. -/
def fnExactHitsOfUptoCard : Claim7 := { stood := { row := fnExactHitsOfUptoRow, standIns := [], harness := (true, "ea5eb871bffd239c05032a026d810cafd1e589faea0a21dc9f212ae1de7551ea"), looks := false }, kinds := [], alts := [], laidByText := true, laidKinds := [.data, .data, .data], laidTests := true, laidLooks := .later }
def FnExactHitsOfUptoCardSaid : Prop := Claim7.holds Tryz.pinned (.plain (OpenSpec.upto fnExactHitsOfSpec)) fnExactHitsOfUptoCard

/-- THE SECOND FORM's CARD OF 'laws.FnExactShrinkPicks'. -/
def fnExactShrinkPicksUptoCard : Claim7 := { stood := { row := fnExactShrinkPicksUptoRow, standIns := [], harness := (true, "ea5eb871bffd239c05032a026d810cafd1e589faea0a21dc9f212ae1de7551ea"), looks := false }, kinds := [], alts := [], laidByText := true, laidKinds := [.data, .data, .data], laidTests := true, laidLooks := .later }
def FnExactShrinkPicksUptoCardSaid : Prop := Claim7.holds Tryz.pinned (.plain (OpenSpec.upto fnExactShrinkPicksSpec)) fnExactShrinkPicksUptoCard

/-- THE SECOND FORM's CARD OF 'laws.FnExactCanHappen'. -/
def fnExactCanHappenUptoCard : Claim7 := { stood := { row := fnExactCanHappenUptoRow, standIns := [], harness := (true, "ea5eb871bffd239c05032a026d810cafd1e589faea0a21dc9f212ae1de7551ea"), looks := false }, kinds := [], alts := [], laidByText := true, laidKinds := [.data, .data, .data], laidTests := true, laidLooks := .later }
def FnExactCanHappenUptoCardSaid : Prop := Claim7.holds Tryz.pinned (.plain (OpenSpec.upto fnExactCanHappenSpec)) fnExactCanHappenUptoCard

/-- THE SECOND FORM's CARD OF 'laws.FnExactLeastPreempts'. -/
def fnExactLeastPreemptsUptoCard : Claim7 := { stood := { row := fnExactLeastPreemptsUptoRow, standIns := [], harness := (true, "ea5eb871bffd239c05032a026d810cafd1e589faea0a21dc9f212ae1de7551ea"), looks := false }, kinds := [], alts := [], laidByText := true, laidKinds := [.data, .data, .data], laidTests := true, laidLooks := .later }
def FnExactLeastPreemptsUptoCardSaid : Prop := Claim7.holds Tryz.pinned (.plain (OpenSpec.upto fnExactLeastPreemptsSpec)) fnExactLeastPreemptsUptoCard

/-- THE SECOND FORM's CARD OF 'laws.FnExactGoesWrong'. -/
def fnExactGoesWrongUptoCard : Claim7 := { stood := { row := fnExactGoesWrongUptoRow, standIns := [], harness := (true, "ea5eb871bffd239c05032a026d810cafd1e589faea0a21dc9f212ae1de7551ea"), looks := false }, kinds := [], alts := [], laidByText := true, laidKinds := [.data, .data, .data], laidTests := true, laidLooks := .later }
def FnExactGoesWrongUptoCardSaid : Prop := Claim7.holds Tryz.pinned (.plain (OpenSpec.upto fnExactGoesWrongSpec)) fnExactGoesWrongUptoCard
end Rows
end Go.Proofs.YtjkogkjhhjioeaaGreatDoor
