/-
  DERIVED. GIVEN WITH THE SEED: THE CARDS: each row of YtgpogeemhaiicaaGreatDoorRows.lean that lists a variable, with what it lists TIED to the program's text (the seventh form; the later family's looks); each row that meets fmt, with fmt's text TOLD by the authors' own Lean function (tested against real Go, not proved from fmt's source: count such statements apart). THE CARD IS WHAT COUNTS. Prove the row's statement (the work); the ties are given (YtgpogeemhaiicaaGreatDoorTie.lean); close each card by the builder's one call (the guide's Derived/Test/ToyasCard.lean, 'card_holds'). Laid BY PROGRAM, IN A SANDBOX (cutbox-door.mjs). By AI agents, Wed Nov 11 2026. No macro, syntax, notation, axiom, sorry.
-/
import Derived.Test.YtgpogeemhaiicaaGreatDoorRows
import GoSem.ClaimSeven
namespace Go.Proofs.YtgpogeemhaiicaaGreatDoor
namespace Rows

/-- THE TIED CARD OF 'ossuarylaw13.VmLoops'. -/
def vmLoopsCard : Claim7 := { stood := { row := vmLoopsRow, standIns := [], harness := (true, "88a0f309688b3b08558d72c76a45a6c11eae9b1db8125ccb7e95a1219218f37f"), looks := true }, kinds := [], alts := [], laidByText := true, laidKinds := [.data, .data, .data, .listed, .data, .data], laidTests := true, laidLooks := .later }
def VmLoopsCardSaid : Prop := Claim7.holds Tryz.pinned (.plain (OpenSpec.ofChange vmLoopsSpec)) vmLoopsCard

/-- THE SECOND FORM's CARD OF 'ossuarylaw13.VmLoops'. -/
def vmLoopsUptoCard : Claim7 := { stood := { row := vmLoopsUptoRow, standIns := [], harness := (true, "88a0f309688b3b08558d72c76a45a6c11eae9b1db8125ccb7e95a1219218f37f"), looks := true }, kinds := [], alts := [], laidByText := true, laidKinds := [.data, .data, .data, .listed, .data, .data], laidTests := true, laidLooks := .later }
def VmLoopsUptoCardSaid : Prop := Claim7.holds Tryz.pinned (.plain (OpenSpec.upto vmLoopsSpec)) vmLoopsUptoCard
end Rows
end Go.Proofs.YtgpogeemhaiicaaGreatDoor
