/-
  DERIVED. GIVEN WITH THE SEED: THE CARDS: each row of YtjkgefnlennbjaaGreatDoorRows.lean that lists a variable, with what it lists TIED to the program's text (the seventh form; the later family's looks); each row that meets fmt, with fmt's text TOLD by the authors' own Lean function (tested against real Go, not proved from fmt's source: count such statements apart). THE CARD IS WHAT COUNTS. Prove the row's statement (the work); the ties are given (YtjkgefnlennbjaaGreatDoorTie.lean); close each card by the builder's one call (the guide's Derived/Test/ToyasCard.lean, 'card_holds'). Laid BY PROGRAM, IN A SANDBOX (cutbox-door.mjs). By AI agents, Wed Nov 11 2026. No macro, syntax, notation, axiom, sorry.
-/
import Derived.Test.YtjkgefnlennbjaaGreatDoorRows
import GoSem.ClaimSeven
namespace Go.Proofs.YtjkgefnlennbjaaGreatDoor
namespace Rows

/-- THE TIED CARD OF 'ossuarylaw09.EarlyLabels'. -/
def earlyLabelsCard : Claim7 := { stood := { row := earlyLabelsRow, standIns := [], harness := (true, "4001af9d886e0f733e724ad1a06c5cecb9edf3f0d5594ae1362ec9eb96acff52"), looks := false }, kinds := [], alts := [], laidByText := true, laidKinds := [.listed, .data], laidTests := true, laidLooks := .later }
def EarlyLabelsCardSaid : Prop := Claim7.holds Tryz.pinned (.plain (OpenSpec.ofChange earlyLabelsSpec)) earlyLabelsCard

/-- THE SECOND FORM's CARD OF 'ossuarylaw09.EarlyLabels'. -/
def earlyLabelsUptoCard : Claim7 := { stood := { row := earlyLabelsUptoRow, standIns := [], harness := (true, "4001af9d886e0f733e724ad1a06c5cecb9edf3f0d5594ae1362ec9eb96acff52"), looks := false }, kinds := [], alts := [], laidByText := true, laidKinds := [.listed, .data], laidTests := true, laidLooks := .later }
def EarlyLabelsUptoCardSaid : Prop := Claim7.holds Tryz.pinned (.plain (OpenSpec.upto earlyLabelsSpec)) earlyLabelsUptoCard
end Rows
end Go.Proofs.YtjkgefnlennbjaaGreatDoor
