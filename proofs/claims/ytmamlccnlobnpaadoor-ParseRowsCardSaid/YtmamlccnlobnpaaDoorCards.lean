/-
  DERIVED. GIVEN WITH THE SEED: THE CARDS: each row of YtmamlccnlobnpaaDoorRows.lean that lists a variable, with what it lists TIED to the program's text (the seventh form; the later family's looks); each row that meets fmt, with fmt's text TOLD by the authors' own Lean function (tested against real Go, not proved from fmt's source: count such statements apart). THE CARD IS WHAT COUNTS. Prove the row's statement (the work); the ties are given (YtmamlccnlobnpaaDoorTie.lean); close each card by the builder's one call (the guide's Derived/Test/ToyasCard.lean, 'card_holds'). Laid BY PROGRAM, IN A SANDBOX (cutbox-door.mjs). By AI agents, Wed Nov 11 2026. No macro, syntax, notation, axiom, sorry.
-/
import Derived.Test.YtmamlccnlobnpaaDoorRows
import GoSem.ClaimSeven
namespace Go.Proofs.YtmamlccnlobnpaaDoor
namespace Rows

/-- THE TIED CARD OF 'ossuarylaw08.ParseRows'. -/
def parseRowsCard : Claim7 := { stood := { row := parseRowsRow, standIns := [], harness := (true, "b5de9a9d65c57b5e7c857ae8bc1d7e7608b294ce58bf3537b1a9a853372e10c4"), looks := false }, kinds := [], alts := [], laidByText := true, laidKinds := [.listed, .data], laidTests := true, laidLooks := .later }
def ParseRowsCardSaid : Prop := Claim7.holds Tryd.pinned (.plain (OpenSpec.ofChange parseRowsSpec)) parseRowsCard

/-- THE TIED CARD OF 'ossuarylaw08.ParseDeep'. -/
def parseDeepCard : Claim7 := { stood := { row := parseDeepRow, standIns := [], harness := (true, "b5de9a9d65c57b5e7c857ae8bc1d7e7608b294ce58bf3537b1a9a853372e10c4"), looks := false }, kinds := [], alts := [], laidByText := true, laidKinds := [.listed, .data], laidTests := true, laidLooks := .later }
def ParseDeepCardSaid : Prop := Claim7.holds Tryd.pinned (.plain (OpenSpec.ofChange parseDeepSpec)) parseDeepCard

/-- THE TIED CARD OF 'ossuarylaw08.ParseArrows'. -/
def parseArrowsCard : Claim7 := { stood := { row := parseArrowsRow, standIns := [], harness := (true, "b5de9a9d65c57b5e7c857ae8bc1d7e7608b294ce58bf3537b1a9a853372e10c4"), looks := false }, kinds := [], alts := [], laidByText := true, laidKinds := [.listed, .data], laidTests := true, laidLooks := .later }
def ParseArrowsCardSaid : Prop := Claim7.holds Tryd.pinned (.plain (OpenSpec.ofChange parseArrowsSpec)) parseArrowsCard

/-- THE SECOND FORM's CARD OF 'ossuarylaw08.ParseRows'. -/
def parseRowsUptoCard : Claim7 := { stood := { row := parseRowsUptoRow, standIns := [], harness := (true, "b5de9a9d65c57b5e7c857ae8bc1d7e7608b294ce58bf3537b1a9a853372e10c4"), looks := false }, kinds := [], alts := [], laidByText := true, laidKinds := [.listed, .data], laidTests := true, laidLooks := .later }
def ParseRowsUptoCardSaid : Prop := Claim7.holds Tryd.pinned (.plain (OpenSpec.upto parseRowsSpec)) parseRowsUptoCard

/-- THE SECOND FORM's CARD OF 'ossuarylaw08.ParseDeep'. -/
def parseDeepUptoCard : Claim7 := { stood := { row := parseDeepUptoRow, standIns := [], harness := (true, "b5de9a9d65c57b5e7c857ae8bc1d7e7608b294ce58bf3537b1a9a853372e10c4"), looks := false }, kinds := [], alts := [], laidByText := true, laidKinds := [.listed, .data], laidTests := true, laidLooks := .later }
def ParseDeepUptoCardSaid : Prop := Claim7.holds Tryd.pinned (.plain (OpenSpec.upto parseDeepSpec)) parseDeepUptoCard

/-- THE SECOND FORM's CARD OF 'ossuarylaw08.ParseArrows'. -/
def parseArrowsUptoCard : Claim7 := { stood := { row := parseArrowsUptoRow, standIns := [], harness := (true, "b5de9a9d65c57b5e7c857ae8bc1d7e7608b294ce58bf3537b1a9a853372e10c4"), looks := false }, kinds := [], alts := [], laidByText := true, laidKinds := [.listed, .data], laidTests := true, laidLooks := .later }
def ParseArrowsUptoCardSaid : Prop := Claim7.holds Tryd.pinned (.plain (OpenSpec.upto parseArrowsSpec)) parseArrowsUptoCard
end Rows
end Go.Proofs.YtmamlccnlobnpaaDoor
