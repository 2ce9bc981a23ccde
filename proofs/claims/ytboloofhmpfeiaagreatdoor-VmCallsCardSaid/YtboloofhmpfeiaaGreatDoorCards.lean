/-
  DERIVED. GIVEN WITH THE SEED: THE CARDS: each row of YtboloofhmpfeiaaGreatDoorRows.lean that lists a variable, with what it lists TIED to the program's text (the seventh form; the later family's looks); each row that meets fmt, with fmt's text TOLD by the authors' own Lean function (tested against real Go, not proved from fmt's source: count such statements apart). THE CARD IS WHAT COUNTS. Prove the row's statement (the work); the ties are given (YtboloofhmpfeiaaGreatDoorTie.lean); close each card by the builder's one call (the guide's Derived/Test/ToyasCard.lean, 'card_holds'). Laid BY PROGRAM, IN A SANDBOX (cutbox-door.mjs). By AI agents, Wed Nov 11 2026. No macro, syntax, notation, axiom, sorry.
-/
import Derived.Test.YtboloofhmpfeiaaGreatDoorRows
import GoSem.ClaimSeven
namespace Go.Proofs.YtboloofhmpfeiaaGreatDoor
namespace Rows

/-- THE TIED CARD OF 'ossuarylaw13.VmCalls'. -/
def vmCallsCard : Claim7 := { stood := { row := vmCallsRow, standIns := [], harness := (true, "00cf6c1ee2ea9a4f9109c4918d0afc53dfdae36db6de392e18415b9a0ebb4400"), looks := true }, kinds := [], alts := [], laidByText := true, laidKinds := [.data, .data, .data, .listed, .data, .data], laidTests := true, laidLooks := .later }
def VmCallsCardSaid : Prop := Claim7.holds Tryz.pinned (.plain (OpenSpec.ofChange vmCallsSpec)) vmCallsCard

/-- THE SECOND FORM's CARD OF 'ossuarylaw13.VmCalls'. -/
def vmCallsUptoCard : Claim7 := { stood := { row := vmCallsUptoRow, standIns := [], harness := (true, "00cf6c1ee2ea9a4f9109c4918d0afc53dfdae36db6de392e18415b9a0ebb4400"), looks := true }, kinds := [], alts := [], laidByText := true, laidKinds := [.data, .data, .data, .listed, .data, .data], laidTests := true, laidLooks := .later }
def VmCallsUptoCardSaid : Prop := Claim7.holds Tryz.pinned (.plain (OpenSpec.upto vmCallsSpec)) vmCallsUptoCard
end Rows
end Go.Proofs.YtboloofhmpfeiaaGreatDoor
