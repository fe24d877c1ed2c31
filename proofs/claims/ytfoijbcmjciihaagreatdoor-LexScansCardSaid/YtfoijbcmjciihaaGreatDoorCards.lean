/-
  DERIVED. GIVEN WITH THE SEED: THE CARDS: each row of YtfoijbcmjciihaaGreatDoorRows.lean that lists a variable, with what it lists TIED to the program's text (the seventh form; the later family's looks); each row that meets fmt, with fmt's text TOLD by the authors' own Lean function (tested against real Go, not proved from fmt's source: count such statements apart). THE CARD IS WHAT COUNTS. Prove the row's statement (the work); the ties are given (YtfoijbcmjciihaaGreatDoorTie.lean); close each card by the builder's one call (the guide's Derived/Test/ToyasCard.lean, 'card_holds'). Laid BY PROGRAM, IN A SANDBOX (cutbox-door.mjs). By AI agents, Wed Nov 11 2026. No macro, syntax, notation, axiom, sorry.
-/
import Derived.Test.YtfoijbcmjciihaaGreatDoorRows
import GoSem.ClaimSeven
namespace Go.Proofs.YtfoijbcmjciihaaGreatDoor
namespace Rows

/-- THE TIED CARD OF 'restitchlaw01.LexScans'. -/
def lexScansCard : Claim7 := { stood := { row := lexScansRow, standIns := [], harness := (true, "7e5d42f842a621709d98be802d3e8c118e49625bd1f7ac33c9fbb6d0546cc90f"), looks := true }, kinds := [], alts := [], laidByText := true, laidKinds := [.data, .data, .data, .data, .sentinel, .sentinel, .pinned], laidTests := true, laidLooks := .later }
def LexScansCardSaid : Prop := Claim7.holds Tryz.pinned (.plain (OpenSpec.ofChange lexScansSpec)) lexScansCard

/-- THE TIED CARD OF 'restitchlaw01.LexKinds'. -/
def lexKindsCard : Claim7 := { stood := { row := lexKindsRow, standIns := [], harness := (true, "7e5d42f842a621709d98be802d3e8c118e49625bd1f7ac33c9fbb6d0546cc90f"), looks := true }, kinds := [], alts := [], laidByText := true, laidKinds := [.data, .data, .data, .data, .sentinel, .sentinel, .pinned], laidTests := true, laidLooks := .later }
def LexKindsCardSaid : Prop := Claim7.holds Tryz.pinned (.plain (OpenSpec.ofChange lexKindsSpec)) lexKindsCard

/-- THE TIED CARD OF 'restitchlaw01.LexChecks'. -/
def lexChecksCard : Claim7 := { stood := { row := lexChecksRow, standIns := [], harness := (true, "7e5d42f842a621709d98be802d3e8c118e49625bd1f7ac33c9fbb6d0546cc90f"), looks := true }, kinds := [], alts := [], laidByText := true, laidKinds := [.data, .data, .data, .data, .sentinel, .sentinel, .pinned], laidTests := true, laidLooks := .later }
def LexChecksCardSaid : Prop := Claim7.holds Tryz.pinned (.plain (OpenSpec.ofChange lexChecksSpec)) lexChecksCard

/-- THE SECOND FORM's CARD OF 'restitchlaw01.LexScans'. -/
def lexScansUptoCard : Claim7 := { stood := { row := lexScansUptoRow, standIns := [], harness := (true, "7e5d42f842a621709d98be802d3e8c118e49625bd1f7ac33c9fbb6d0546cc90f"), looks := true }, kinds := [], alts := [], laidByText := true, laidKinds := [.data, .data, .data, .data, .sentinel, .sentinel, .pinned], laidTests := true, laidLooks := .later }
def LexScansUptoCardSaid : Prop := Claim7.holds Tryz.pinned (.plain (OpenSpec.upto lexScansSpec)) lexScansUptoCard

/-- THE SECOND FORM's CARD OF 'restitchlaw01.LexKinds'. -/
def lexKindsUptoCard : Claim7 := { stood := { row := lexKindsUptoRow, standIns := [], harness := (true, "7e5d42f842a621709d98be802d3e8c118e49625bd1f7ac33c9fbb6d0546cc90f"), looks := true }, kinds := [], alts := [], laidByText := true, laidKinds := [.data, .data, .data, .data, .sentinel, .sentinel, .pinned], laidTests := true, laidLooks := .later }
def LexKindsUptoCardSaid : Prop := Claim7.holds Tryz.pinned (.plain (OpenSpec.upto lexKindsSpec)) lexKindsUptoCard

/-- THE SECOND FORM's CARD OF 'restitchlaw01.LexChecks'. -/
def lexChecksUptoCard : Claim7 := { stood := { row := lexChecksUptoRow, standIns := [], harness := (true, "7e5d42f842a621709d98be802d3e8c118e49625bd1f7ac33c9fbb6d0546cc90f"), looks := true }, kinds := [], alts := [], laidByText := true, laidKinds := [.data, .data, .data, .data, .sentinel, .sentinel, .pinned], laidTests := true, laidLooks := .later }
def LexChecksUptoCardSaid : Prop := Claim7.holds Tryz.pinned (.plain (OpenSpec.upto lexChecksSpec)) lexChecksUptoCard
end Rows
end Go.Proofs.YtfoijbcmjciihaaGreatDoor
