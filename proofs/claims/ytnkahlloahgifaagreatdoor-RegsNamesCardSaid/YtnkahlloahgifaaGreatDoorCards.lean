/-
  DERIVED. GIVEN WITH THE SEED: THE CARDS: each row of YtnkahlloahgifaaGreatDoorRows.lean that lists a variable, with what it lists TIED to the program's text (the seventh form; the later family's looks); each row that meets fmt, with fmt's text TOLD by the authors' own Lean function (tested against real Go, not proved from fmt's source: count such statements apart). THE CARD IS WHAT COUNTS. Prove the row's statement (the work); the ties are given (YtnkahlloahgifaaGreatDoorTie.lean); close each card by the builder's one call (the guide's Derived/Test/ToyasCard.lean, 'card_holds'). Laid BY PROGRAM, IN A SANDBOX (cutbox-door.mjs). By AI agents, Wed Nov 11 2026. No macro, syntax, notation, axiom, sorry.
-/
import Derived.Test.YtnkahlloahgifaaGreatDoorRows
import GoSem.ClaimSeven
namespace Go.Proofs.YtnkahlloahgifaaGreatDoor
namespace Rows

/-- THE TIED CARD OF 'restitchlaw16.RegsLives'. -/
def regsLivesCard : Claim7 := { stood := { row := regsLivesRow, standIns := [], harness := (true, "9f62f6e722f8801bc68ba70b2a7c71f4c56b000e10878dc5e9c5d0776fa1e79f"), looks := true }, kinds := [], alts := [], laidByText := true, laidKinds := [.data, .data, .data, .data, .sentinel, .sentinel, .pinned], laidTests := true, laidLooks := .later }
def RegsLivesCardSaid : Prop := Claim7.holds Tryz.pinned (.plain (OpenSpec.ofChange regsLivesSpec)) regsLivesCard

/-- THE TIED CARD OF 'restitchlaw16.RegsNames'. -/
def regsNamesCard : Claim7 := { stood := { row := regsNamesRow, standIns := [], harness := (true, "9f62f6e722f8801bc68ba70b2a7c71f4c56b000e10878dc5e9c5d0776fa1e79f"), looks := true }, kinds := [], alts := [], laidByText := true, laidKinds := [.data, .data, .data, .data, .sentinel, .sentinel, .pinned], laidTests := true, laidLooks := .later }
def RegsNamesCardSaid : Prop := Claim7.holds Tryz.pinned (.plain (OpenSpec.ofChange regsNamesSpec)) regsNamesCard

/-- THE TIED CARD OF 'restitchlaw16.RegsWidths'. -/
def regsWidthsCard : Claim7 := { stood := { row := regsWidthsRow, standIns := [], harness := (true, "9f62f6e722f8801bc68ba70b2a7c71f4c56b000e10878dc5e9c5d0776fa1e79f"), looks := true }, kinds := [], alts := [], laidByText := true, laidKinds := [.data, .data, .data, .data, .sentinel, .sentinel, .pinned], laidTests := true, laidLooks := .later }
def RegsWidthsCardSaid : Prop := Claim7.holds Tryz.pinned (.plain (OpenSpec.ofChange regsWidthsSpec)) regsWidthsCard

/-- THE TIED CARD OF 'restitchlaw16.RegsSteps'. -/
def regsStepsCard : Claim7 := { stood := { row := regsStepsRow, standIns := [], harness := (true, "9f62f6e722f8801bc68ba70b2a7c71f4c56b000e10878dc5e9c5d0776fa1e79f"), looks := true }, kinds := [], alts := [], laidByText := true, laidKinds := [.data, .data, .data, .data, .sentinel, .sentinel, .pinned], laidTests := true, laidLooks := .later }
def RegsStepsCardSaid : Prop := Claim7.holds Tryz.pinned (.plain (OpenSpec.ofChange regsStepsSpec)) regsStepsCard

/-- THE TIED CARD OF 'restitchlaw16.RegsFunctions'. -/
def regsFunctionsCard : Claim7 := { stood := { row := regsFunctionsRow, standIns := [], harness := (true, "9f62f6e722f8801bc68ba70b2a7c71f4c56b000e10878dc5e9c5d0776fa1e79f"), looks := true }, kinds := [], alts := [], laidByText := true, laidKinds := [.data, .data, .data, .data, .sentinel, .sentinel, .pinned], laidTests := true, laidLooks := .later }
def RegsFunctionsCardSaid : Prop := Claim7.holds Tryz.pinned (.plain (OpenSpec.ofChange regsFunctionsSpec)) regsFunctionsCard

/-- THE TIED CARD OF 'restitchlaw16.RegsOrders'. -/
def regsOrdersCard : Claim7 := { stood := { row := regsOrdersRow, standIns := [], harness := (true, "9f62f6e722f8801bc68ba70b2a7c71f4c56b000e10878dc5e9c5d0776fa1e79f"), looks := true }, kinds := [], alts := [], laidByText := true, laidKinds := [.data, .data, .data, .data, .sentinel, .sentinel, .pinned], laidTests := true, laidLooks := .later }
def RegsOrdersCardSaid : Prop := Claim7.holds Tryz.pinned (.plain (OpenSpec.ofChange regsOrdersSpec)) regsOrdersCard

/-- THE TIED CARD OF 'restitchlaw16.RegsMoves'. -/
def regsMovesCard : Claim7 := { stood := { row := regsMovesRow, standIns := [], harness := (true, "9f62f6e722f8801bc68ba70b2a7c71f4c56b000e10878dc5e9c5d0776fa1e79f"), looks := true }, kinds := [], alts := [], laidByText := true, laidKinds := [.data, .data, .data, .data, .sentinel, .sentinel, .pinned], laidTests := true, laidLooks := .later }
def RegsMovesCardSaid : Prop := Claim7.holds Tryz.pinned (.plain (OpenSpec.ofChange regsMovesSpec)) regsMovesCard

/-- THE TIED CARD OF 'restitchlaw16.RegsChecks'. -/
def regsChecksCard : Claim7 := { stood := { row := regsChecksRow, standIns := [], harness := (true, "9f62f6e722f8801bc68ba70b2a7c71f4c56b000e10878dc5e9c5d0776fa1e79f"), looks := true }, kinds := [], alts := [], laidByText := true, laidKinds := [.data, .data, .data, .data, .sentinel, .sentinel, .pinned], laidTests := true, laidLooks := .later }
def RegsChecksCardSaid : Prop := Claim7.holds Tryz.pinned (.plain (OpenSpec.ofChange regsChecksSpec)) regsChecksCard

/-- THE TIED CARD OF 'restitchlaw16.RegsKept'. -/
def regsKeptCard : Claim7 := { stood := { row := regsKeptRow, standIns := [], harness := (true, "9f62f6e722f8801bc68ba70b2a7c71f4c56b000e10878dc5e9c5d0776fa1e79f"), looks := true }, kinds := [], alts := [], laidByText := true, laidKinds := [.data, .data, .data, .data, .sentinel, .sentinel, .pinned], laidTests := true, laidLooks := .later }
def RegsKeptCardSaid : Prop := Claim7.holds Tryz.pinned (.plain (OpenSpec.ofChange regsKeptSpec)) regsKeptCard

/-- THE TIED CARD OF 'restitchlaw16.RegsTwo'. -/
def regsTwoCard : Claim7 := { stood := { row := regsTwoRow, standIns := [], harness := (true, "9f62f6e722f8801bc68ba70b2a7c71f4c56b000e10878dc5e9c5d0776fa1e79f"), looks := true }, kinds := [], alts := [], laidByText := true, laidKinds := [.data, .data, .data, .data, .sentinel, .sentinel, .pinned], laidTests := true, laidLooks := .later }
def RegsTwoCardSaid : Prop := Claim7.holds Tryz.pinned (.plain (OpenSpec.ofChange regsTwoSpec)) regsTwoCard

/-- THE TIED CARD OF 'restitchlaw16.RegsFewest'. -/
def regsFewestCard : Claim7 := { stood := { row := regsFewestRow, standIns := [], harness := (true, "9f62f6e722f8801bc68ba70b2a7c71f4c56b000e10878dc5e9c5d0776fa1e79f"), looks := true }, kinds := [], alts := [], laidByText := true, laidKinds := [.data, .data, .data, .data, .sentinel, .sentinel, .pinned], laidTests := true, laidLooks := .later }
def RegsFewestCardSaid : Prop := Claim7.holds Tryz.pinned (.plain (OpenSpec.ofChange regsFewestSpec)) regsFewestCard

/-- THE SECOND FORM's CARD OF 'restitchlaw16.RegsLives'. -/
def regsLivesUptoCard : Claim7 := { stood := { row := regsLivesUptoRow, standIns := [], harness := (true, "9f62f6e722f8801bc68ba70b2a7c71f4c56b000e10878dc5e9c5d0776fa1e79f"), looks := true }, kinds := [], alts := [], laidByText := true, laidKinds := [.data, .data, .data, .data, .sentinel, .sentinel, .pinned], laidTests := true, laidLooks := .later }
def RegsLivesUptoCardSaid : Prop := Claim7.holds Tryz.pinned (.plain (OpenSpec.upto regsLivesSpec)) regsLivesUptoCard

/-- THE SECOND FORM's CARD OF 'restitchlaw16.RegsNames'. -/
def regsNamesUptoCard : Claim7 := { stood := { row := regsNamesUptoRow, standIns := [], harness := (true, "9f62f6e722f8801bc68ba70b2a7c71f4c56b000e10878dc5e9c5d0776fa1e79f"), looks := true }, kinds := [], alts := [], laidByText := true, laidKinds := [.data, .data, .data, .data, .sentinel, .sentinel, .pinned], laidTests := true, laidLooks := .later }
def RegsNamesUptoCardSaid : Prop := Claim7.holds Tryz.pinned (.plain (OpenSpec.upto regsNamesSpec)) regsNamesUptoCard

/-- THE SECOND FORM's CARD OF 'restitchlaw16.RegsWidths'. -/
def regsWidthsUptoCard : Claim7 := { stood := { row := regsWidthsUptoRow, standIns := [], harness := (true, "9f62f6e722f8801bc68ba70b2a7c71f4c56b000e10878dc5e9c5d0776fa1e79f"), looks := true }, kinds := [], alts := [], laidByText := true, laidKinds := [.data, .data, .data, .data, .sentinel, .sentinel, .pinned], laidTests := true, laidLooks := .later }
def RegsWidthsUptoCardSaid : Prop := Claim7.holds Tryz.pinned (.plain (OpenSpec.upto regsWidthsSpec)) regsWidthsUptoCard

/-- THE SECOND FORM's CARD OF 'restitchlaw16.RegsSteps'. -/
def regsStepsUptoCard : Claim7 := { stood := { row := regsStepsUptoRow, standIns := [], harness := (true, "9f62f6e722f8801bc68ba70b2a7c71f4c56b000e10878dc5e9c5d0776fa1e79f"), looks := true }, kinds := [], alts := [], laidByText := true, laidKinds := [.data, .data, .data, .data, .sentinel, .sentinel, .pinned], laidTests := true, laidLooks := .later }
def RegsStepsUptoCardSaid : Prop := Claim7.holds Tryz.pinned (.plain (OpenSpec.upto regsStepsSpec)) regsStepsUptoCard

/-- THE SECOND FORM's CARD OF 'restitchlaw16.RegsFunctions'. -/
def regsFunctionsUptoCard : Claim7 := { stood := { row := regsFunctionsUptoRow, standIns := [], harness := (true, "9f62f6e722f8801bc68ba70b2a7c71f4c56b000e10878dc5e9c5d0776fa1e79f"), looks := true }, kinds := [], alts := [], laidByText := true, laidKinds := [.data, .data, .data, .data, .sentinel, .sentinel, .pinned], laidTests := true, laidLooks := .later }
def RegsFunctionsUptoCardSaid : Prop := Claim7.holds Tryz.pinned (.plain (OpenSpec.upto regsFunctionsSpec)) regsFunctionsUptoCard

/-- THE SECOND FORM's CARD OF 'restitchlaw16.RegsOrders'. -/
def regsOrdersUptoCard : Claim7 := { stood := { row := regsOrdersUptoRow, standIns := [], harness := (true, "9f62f6e722f8801bc68ba70b2a7c71f4c56b000e10878dc5e9c5d0776fa1e79f"), looks := true }, kinds := [], alts := [], laidByText := true, laidKinds := [.data, .data, .data, .data, .sentinel, .sentinel, .pinned], laidTests := true, laidLooks := .later }
def RegsOrdersUptoCardSaid : Prop := Claim7.holds Tryz.pinned (.plain (OpenSpec.upto regsOrdersSpec)) regsOrdersUptoCard

/-- THE SECOND FORM's CARD OF 'restitchlaw16.RegsMoves'. -/
def regsMovesUptoCard : Claim7 := { stood := { row := regsMovesUptoRow, standIns := [], harness := (true, "9f62f6e722f8801bc68ba70b2a7c71f4c56b000e10878dc5e9c5d0776fa1e79f"), looks := true }, kinds := [], alts := [], laidByText := true, laidKinds := [.data, .data, .data, .data, .sentinel, .sentinel, .pinned], laidTests := true, laidLooks := .later }
def RegsMovesUptoCardSaid : Prop := Claim7.holds Tryz.pinned (.plain (OpenSpec.upto regsMovesSpec)) regsMovesUptoCard

/-- THE SECOND FORM's CARD OF 'restitchlaw16.RegsChecks'. -/
def regsChecksUptoCard : Claim7 := { stood := { row := regsChecksUptoRow, standIns := [], harness := (true, "9f62f6e722f8801bc68ba70b2a7c71f4c56b000e10878dc5e9c5d0776fa1e79f"), looks := true }, kinds := [], alts := [], laidByText := true, laidKinds := [.data, .data, .data, .data, .sentinel, .sentinel, .pinned], laidTests := true, laidLooks := .later }
def RegsChecksUptoCardSaid : Prop := Claim7.holds Tryz.pinned (.plain (OpenSpec.upto regsChecksSpec)) regsChecksUptoCard

/-- THE SECOND FORM's CARD OF 'restitchlaw16.RegsKept'. -/
def regsKeptUptoCard : Claim7 := { stood := { row := regsKeptUptoRow, standIns := [], harness := (true, "9f62f6e722f8801bc68ba70b2a7c71f4c56b000e10878dc5e9c5d0776fa1e79f"), looks := true }, kinds := [], alts := [], laidByText := true, laidKinds := [.data, .data, .data, .data, .sentinel, .sentinel, .pinned], laidTests := true, laidLooks := .later }
def RegsKeptUptoCardSaid : Prop := Claim7.holds Tryz.pinned (.plain (OpenSpec.upto regsKeptSpec)) regsKeptUptoCard

/-- THE SECOND FORM's CARD OF 'restitchlaw16.RegsTwo'. -/
def regsTwoUptoCard : Claim7 := { stood := { row := regsTwoUptoRow, standIns := [], harness := (true, "9f62f6e722f8801bc68ba70b2a7c71f4c56b000e10878dc5e9c5d0776fa1e79f"), looks := true }, kinds := [], alts := [], laidByText := true, laidKinds := [.data, .data, .data, .data, .sentinel, .sentinel, .pinned], laidTests := true, laidLooks := .later }
def RegsTwoUptoCardSaid : Prop := Claim7.holds Tryz.pinned (.plain (OpenSpec.upto regsTwoSpec)) regsTwoUptoCard

/-- THE SECOND FORM's CARD OF 'restitchlaw16.RegsFewest'. -/
def regsFewestUptoCard : Claim7 := { stood := { row := regsFewestUptoRow, standIns := [], harness := (true, "9f62f6e722f8801bc68ba70b2a7c71f4c56b000e10878dc5e9c5d0776fa1e79f"), looks := true }, kinds := [], alts := [], laidByText := true, laidKinds := [.data, .data, .data, .data, .sentinel, .sentinel, .pinned], laidTests := true, laidLooks := .later }
def RegsFewestUptoCardSaid : Prop := Claim7.holds Tryz.pinned (.plain (OpenSpec.upto regsFewestSpec)) regsFewestUptoCard
end Rows
end Go.Proofs.YtnkahlloahgifaaGreatDoor
