/-
  DERIVED. GIVEN WITH THE SEED: THE CARDS: each row of YtfglgpbjjpoimaaGreatDoorRows.lean that lists a variable, with what it lists TIED to the program's text (the seventh form; the later family's looks); each row that meets fmt, with fmt's text TOLD by the authors' own Lean function (tested against real Go, not proved from fmt's source: count such statements apart). THE CARD IS WHAT COUNTS. Prove the row's statement (the work); the ties are given (YtfglgpbjjpoimaaGreatDoorTie.lean); close each card by the builder's one call (the guide's Derived/Test/ToyasCard.lean, 'card_holds'). Laid BY PROGRAM, IN A SANDBOX (cutbox-door.mjs). By AI agents, Wed Nov 11 2026. No macro, syntax, notation, axiom, sorry.
-/
import Derived.Test.YtfglgpbjjpoimaaGreatDoorRows
import GoSem.ClaimSeven
namespace Go.Proofs.YtfglgpbjjpoimaaGreatDoor
namespace Rows

/-- THE TIED CARD OF 'sluicelaw17.SaveEncodes'. -/
def saveEncodesCard : Claim7 := { stood := { row := saveEncodesRow, standIns := [], harness := (true, "c2dfedd937806318c031bc427fbd27861a3114761e5044f2115d526f19a558fc"), looks := true }, kinds := [], alts := [], laidByText := true, laidKinds := [.data, .data, .data, .handle, .data, .data, .data, .data, .data, .data, .data, .data], laidTests := true, laidLooks := .later }
def SaveEncodesCardSaid : Prop := Claim7.holds Tryz.pinned (.plain (OpenSpec.ofChange saveEncodesSpec)) saveEncodesCard

/-- THE SECOND FORM's CARD OF 'sluicelaw17.SaveEncodes'. -/
def saveEncodesUptoCard : Claim7 := { stood := { row := saveEncodesUptoRow, standIns := [], harness := (true, "c2dfedd937806318c031bc427fbd27861a3114761e5044f2115d526f19a558fc"), looks := true }, kinds := [], alts := [], laidByText := true, laidKinds := [.data, .data, .data, .handle, .data, .data, .data, .data, .data, .data, .data, .data], laidTests := true, laidLooks := .later }
def SaveEncodesUptoCardSaid : Prop := Claim7.holds Tryz.pinned (.plain (OpenSpec.upto saveEncodesSpec)) saveEncodesUptoCard
end Rows
end Go.Proofs.YtfglgpbjjpoimaaGreatDoor
