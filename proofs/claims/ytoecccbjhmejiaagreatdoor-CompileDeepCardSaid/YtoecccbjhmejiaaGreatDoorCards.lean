/-
  DERIVED. GIVEN WITH THE SEED: THE CARDS: each row of YtoecccbjhmejiaaGreatDoorRows.lean that lists a variable, with what it lists TIED to the program's text (the seventh form; the later family's looks); each row that meets fmt, with fmt's text TOLD by the authors' own Lean function (tested against real Go, not proved from fmt's source: count such statements apart). THE CARD IS WHAT COUNTS. Prove the row's statement (the work); the ties are given (YtoecccbjhmejiaaGreatDoorTie.lean); close each card by the builder's one call (the guide's Derived/Test/ToyasCard.lean, 'card_holds'). Laid BY PROGRAM, IN A SANDBOX (cutbox-door.mjs). By AI agents, Wed Nov 11 2026. No macro, syntax, notation, axiom, sorry.
-/
import Derived.Test.YtoecccbjhmejiaaGreatDoorRows
import GoSem.ClaimSeven
namespace Go.Proofs.YtoecccbjhmejiaaGreatDoor
namespace Rows

/-- THE TIED CARD OF 'ossuarylaw12.CompileDeep'. -/
def compileDeepCard : Claim7 := { stood := { row := compileDeepRow, standIns := [], harness := (true, "4452f8c28db50865c7028f43154a9ed584d28d09c13d9efd55c733ab8799d357"), looks := false }, kinds := [], alts := [], laidByText := true, laidKinds := [.listed, .data], laidTests := true, laidLooks := .later }
def CompileDeepCardSaid : Prop := Claim7.holds Tryz.pinned (.plain (OpenSpec.ofChange compileDeepSpec)) compileDeepCard

/-- THE SECOND FORM's CARD OF 'ossuarylaw12.CompileDeep'. -/
def compileDeepUptoCard : Claim7 := { stood := { row := compileDeepUptoRow, standIns := [], harness := (true, "4452f8c28db50865c7028f43154a9ed584d28d09c13d9efd55c733ab8799d357"), looks := false }, kinds := [], alts := [], laidByText := true, laidKinds := [.listed, .data], laidTests := true, laidLooks := .later }
def CompileDeepUptoCardSaid : Prop := Claim7.holds Tryz.pinned (.plain (OpenSpec.upto compileDeepSpec)) compileDeepUptoCard
end Rows
end Go.Proofs.YtoecccbjhmejiaaGreatDoor
