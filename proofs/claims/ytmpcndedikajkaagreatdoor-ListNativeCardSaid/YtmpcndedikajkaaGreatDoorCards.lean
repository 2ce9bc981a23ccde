/-
  DERIVED. GIVEN WITH THE SEED: THE CARDS: each row of YtmpcndedikajkaaGreatDoorRows.lean that lists a variable, with what it lists TIED to the program's text (the seventh form; the later family's looks); each row that meets fmt, with fmt's text TOLD by the authors' own Lean function (tested against real Go, not proved from fmt's source: count such statements apart). THE CARD IS WHAT COUNTS. Prove the row's statement (the work); the ties are given (YtmpcndedikajkaaGreatDoorTie.lean); close each card by the builder's one call (the guide's Derived/Test/ToyasCard.lean, 'card_holds'). Laid BY PROGRAM, IN A SANDBOX (cutbox-door.mjs). By AI agents, Wed Nov 11 2026. No macro, syntax, notation, axiom, sorry.
-/
import Derived.Test.YtmpcndedikajkaaGreatDoorRows
import GoSem.ClaimSeven
namespace Go.Proofs.YtmpcndedikajkaaGreatDoor
namespace Rows

/-- THE TIED CARD OF 'ossuarylaw15.ListNative'. -/
def listNativeCard : Claim7 := { stood := { row := listNativeRow, standIns := [], harness := (true, "da5eb9bc7c2609fc8f535171d608773c01615e0df5c2a224577f3c3417868dd3"), looks := true }, kinds := [], alts := [], laidByText := true, laidKinds := [.data, .data, .data, .listed, .data, .data], laidTests := true, laidLooks := .later }
def ListNativeCardSaid : Prop := Claim7.holds Tryz.pinned (.plain (OpenSpec.ofChange listNativeSpec)) listNativeCard

/-- THE SECOND FORM's CARD OF 'ossuarylaw15.ListNative'. -/
def listNativeUptoCard : Claim7 := { stood := { row := listNativeUptoRow, standIns := [], harness := (true, "da5eb9bc7c2609fc8f535171d608773c01615e0df5c2a224577f3c3417868dd3"), looks := true }, kinds := [], alts := [], laidByText := true, laidKinds := [.data, .data, .data, .listed, .data, .data], laidTests := true, laidLooks := .later }
def ListNativeUptoCardSaid : Prop := Claim7.holds Tryz.pinned (.plain (OpenSpec.upto listNativeSpec)) listNativeUptoCard
end Rows
end Go.Proofs.YtmpcndedikajkaaGreatDoor
