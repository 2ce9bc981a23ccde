/-
  DERIVED. GIVEN WITH THE SEED: THE CARDS: each row of YthhnpmanmcjhbaaGreatDoorRows.lean that lists a variable, with what it lists TIED to the program's text (the seventh form; the later family's looks); each row that meets fmt, with fmt's text TOLD by the authors' own Lean function (tested against real Go, not proved from fmt's source: count such statements apart). THE CARD IS WHAT COUNTS. Prove the row's statement (the work); the ties are given (YthhnpmanmcjhbaaGreatDoorTie.lean); close each card by the builder's one call (the guide's Derived/Test/ToyasCard.lean, 'card_holds'). Laid BY PROGRAM, IN A SANDBOX (cutbox-door.mjs). By AI agents, Wed Nov 11 2026. No macro, syntax, notation, axiom, sorry.
-/
import Derived.Test.YthhnpmanmcjhbaaGreatDoorRows
import GoSem.ClaimSeven
namespace Go.Proofs.YthhnpmanmcjhbaaGreatDoor
namespace Rows

/-- THE TIED CARD OF 'ossuarylaw13.VmNatives'. -/
def vmNativesCard : Claim7 := { stood := { row := vmNativesRow, standIns := [], harness := (true, "e7a55b3fc863564225a87a8cab2d1941da3bfbba5a948a8049d9f0c372cf444b"), looks := true }, kinds := [], alts := [], laidByText := true, laidKinds := [.data, .data, .data, .listed, .data, .data], laidTests := true, laidLooks := .later }
def VmNativesCardSaid : Prop := Claim7.holds Tryz.pinned (.plain (OpenSpec.ofChange vmNativesSpec)) vmNativesCard

/-- THE SECOND FORM's CARD OF 'ossuarylaw13.VmNatives'. -/
def vmNativesUptoCard : Claim7 := { stood := { row := vmNativesUptoRow, standIns := [], harness := (true, "e7a55b3fc863564225a87a8cab2d1941da3bfbba5a948a8049d9f0c372cf444b"), looks := true }, kinds := [], alts := [], laidByText := true, laidKinds := [.data, .data, .data, .listed, .data, .data], laidTests := true, laidLooks := .later }
def VmNativesUptoCardSaid : Prop := Claim7.holds Tryz.pinned (.plain (OpenSpec.upto vmNativesSpec)) vmNativesUptoCard
end Rows
end Go.Proofs.YthhnpmanmcjhbaaGreatDoor
