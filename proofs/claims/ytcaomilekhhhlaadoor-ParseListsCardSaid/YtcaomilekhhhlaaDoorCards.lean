/-
  DERIVED. GIVEN WITH THE SEED: THE CARDS: each row of YtcaomilekhhhlaaDoorRows.lean that lists a variable, with what it lists TIED to the program's text (the seventh form; the later family's looks); each row that meets fmt, with fmt's text TOLD by the authors' own Lean function (tested against real Go, not proved from fmt's source: count such statements apart). THE CARD IS WHAT COUNTS. Prove the row's statement (the work); the ties are given (YtcaomilekhhhlaaDoorTie.lean); close each card by the builder's one call (the guide's Derived/Test/ToyasCard.lean, 'card_holds'). Laid BY PROGRAM, IN A SANDBOX (cutbox-door.mjs). By AI agents, Wed Nov 11 2026. No macro, syntax, notation, axiom, sorry.
-/
import Derived.Test.YtcaomilekhhhlaaDoorRows
import GoSem.ClaimSeven
namespace Go.Proofs.YtcaomilekhhhlaaDoor
namespace Rows

/-- THE TIED CARD OF 'ossuarylaw08.ParseLists'. -/
def parseListsCard : Claim7 := { stood := { row := parseListsRow, standIns := [], harness := (true, "7703544ea73023496f157eca9c5501967aa00c9ce1a8db941ce541bd7b1ab7fc"), looks := false }, kinds := [], alts := [], laidByText := true, laidKinds := [.listed, .data], laidTests := true, laidLooks := .later }
def ParseListsCardSaid : Prop := Claim7.holds Tryd.pinned (.plain (OpenSpec.ofChange parseListsSpec)) parseListsCard

/-- THE SECOND FORM's CARD OF 'ossuarylaw08.ParseLists'. -/
def parseListsUptoCard : Claim7 := { stood := { row := parseListsUptoRow, standIns := [], harness := (true, "7703544ea73023496f157eca9c5501967aa00c9ce1a8db941ce541bd7b1ab7fc"), looks := false }, kinds := [], alts := [], laidByText := true, laidKinds := [.listed, .data], laidTests := true, laidLooks := .later }
def ParseListsUptoCardSaid : Prop := Claim7.holds Tryd.pinned (.plain (OpenSpec.upto parseListsSpec)) parseListsUptoCard
end Rows
end Go.Proofs.YtcaomilekhhhlaaDoor
