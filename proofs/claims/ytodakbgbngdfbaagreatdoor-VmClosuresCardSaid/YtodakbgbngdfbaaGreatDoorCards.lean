/-
  DERIVED. GIVEN WITH THE SEED: THE CARDS: each row of YtodakbgbngdfbaaGreatDoorRows.lean that lists a variable, with what it lists TIED to the program's text (the seventh form; the later family's looks); each row that meets fmt, with fmt's text TOLD by the authors' own Lean function (tested against real Go, not proved from fmt's source: count such statements apart). THE CARD IS WHAT COUNTS. Prove the row's statement (the work); the ties are given (YtodakbgbngdfbaaGreatDoorTie.lean); close each card by the builder's one call (the guide's Derived/Test/ToyasCard.lean, 'card_holds'). Laid BY PROGRAM, IN A SANDBOX (cutbox-door.mjs). By AI agents, Wed Nov 11 2026. No macro, syntax, notation, axiom, sorry.
-/
import Derived.Test.YtodakbgbngdfbaaGreatDoorRows
import GoSem.ClaimSeven
namespace Go.Proofs.YtodakbgbngdfbaaGreatDoor
namespace Rows

/-- THE TIED CARD OF 'ossuarylaw13.VmClosures'. -/
def vmClosuresCard : Claim7 := { stood := { row := vmClosuresRow, standIns := [], harness := (true, "e45b9f1dc75f562d028b4d45264e5cfce5fbd10967d5686fa715e53842f733ca"), looks := true }, kinds := [], alts := [], laidByText := true, laidKinds := [.data, .data, .data, .listed, .data, .data], laidTests := true, laidLooks := .later }
def VmClosuresCardSaid : Prop := Claim7.holds Tryz.pinned (.plain (OpenSpec.ofChange vmClosuresSpec)) vmClosuresCard

/-- THE SECOND FORM's CARD OF 'ossuarylaw13.VmClosures'. -/
def vmClosuresUptoCard : Claim7 := { stood := { row := vmClosuresUptoRow, standIns := [], harness := (true, "e45b9f1dc75f562d028b4d45264e5cfce5fbd10967d5686fa715e53842f733ca"), looks := true }, kinds := [], alts := [], laidByText := true, laidKinds := [.data, .data, .data, .listed, .data, .data], laidTests := true, laidLooks := .later }
def VmClosuresUptoCardSaid : Prop := Claim7.holds Tryz.pinned (.plain (OpenSpec.upto vmClosuresSpec)) vmClosuresUptoCard
end Rows
end Go.Proofs.YtodakbgbngdfbaaGreatDoor
