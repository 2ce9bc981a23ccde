/-
  DERIVED. GIVEN WITH THE SEED: THE CARDS: each row of YtpjgdllpljmacaaGreatDoorRows.lean that lists a variable, with what it lists TIED to the program's text (the seventh form; the later family's looks); each row that meets fmt, with fmt's text TOLD by the authors' own Lean function (tested against real Go, not proved from fmt's source: count such statements apart). THE CARD IS WHAT COUNTS. Prove the row's statement (the work); the ties are given (YtpjgdllpljmacaaGreatDoorTie.lean); close each card by the builder's one call (the guide's Derived/Test/ToyasCard.lean, 'card_holds'). Laid BY PROGRAM, IN A SANDBOX (cutbox-door.mjs). By AI agents, Wed Nov 11 2026. No macro, syntax, notation, axiom, sorry.
-/
import Derived.Test.YtpjgdllpljmacaaGreatDoorRows
import GoSem.ClaimSeven
namespace Go.Proofs.YtpjgdllpljmacaaGreatDoor
namespace Rows

/-- THE TIED CARD OF 'ossuarylaw09.EarlyTwice'. -/
def earlyTwiceCard : Claim7 := { stood := { row := earlyTwiceRow, standIns := [], harness := (true, "788032c2abef291a9776da0839918947b6eac2adabab3cca7e28cef5d6690a1d"), looks := false }, kinds := [], alts := [], laidByText := true, laidKinds := [.listed, .data], laidTests := true, laidLooks := .later }
def EarlyTwiceCardSaid : Prop := Claim7.holds Tryz.pinned (.plain (OpenSpec.ofChange earlyTwiceSpec)) earlyTwiceCard

/-- THE TIED CARD OF 'ossuarylaw09.EarlyPlaces'. -/
def earlyPlacesCard : Claim7 := { stood := { row := earlyPlacesRow, standIns := [], harness := (true, "788032c2abef291a9776da0839918947b6eac2adabab3cca7e28cef5d6690a1d"), looks := false }, kinds := [], alts := [], laidByText := true, laidKinds := [.listed, .data], laidTests := true, laidLooks := .later }
def EarlyPlacesCardSaid : Prop := Claim7.holds Tryz.pinned (.plain (OpenSpec.ofChange earlyPlacesSpec)) earlyPlacesCard

/-- THE TIED CARD OF 'ossuarylaw09.EarlyWants'. -/
def earlyWantsCard : Claim7 := { stood := { row := earlyWantsRow, standIns := [], harness := (true, "788032c2abef291a9776da0839918947b6eac2adabab3cca7e28cef5d6690a1d"), looks := false }, kinds := [], alts := [], laidByText := true, laidKinds := [.listed, .data], laidTests := true, laidLooks := .later }
def EarlyWantsCardSaid : Prop := Claim7.holds Tryz.pinned (.plain (OpenSpec.ofChange earlyWantsSpec)) earlyWantsCard

/-- THE TIED CARD OF 'ossuarylaw09.EarlyNested'. -/
def earlyNestedCard : Claim7 := { stood := { row := earlyNestedRow, standIns := [], harness := (true, "788032c2abef291a9776da0839918947b6eac2adabab3cca7e28cef5d6690a1d"), looks := false }, kinds := [], alts := [], laidByText := true, laidKinds := [.listed, .data], laidTests := true, laidLooks := .later }
def EarlyNestedCardSaid : Prop := Claim7.holds Tryz.pinned (.plain (OpenSpec.ofChange earlyNestedSpec)) earlyNestedCard

/-- THE SECOND FORM's CARD OF 'ossuarylaw09.EarlyTwice'. -/
def earlyTwiceUptoCard : Claim7 := { stood := { row := earlyTwiceUptoRow, standIns := [], harness := (true, "788032c2abef291a9776da0839918947b6eac2adabab3cca7e28cef5d6690a1d"), looks := false }, kinds := [], alts := [], laidByText := true, laidKinds := [.listed, .data], laidTests := true, laidLooks := .later }
def EarlyTwiceUptoCardSaid : Prop := Claim7.holds Tryz.pinned (.plain (OpenSpec.upto earlyTwiceSpec)) earlyTwiceUptoCard

/-- THE SECOND FORM's CARD OF 'ossuarylaw09.EarlyPlaces'. -/
def earlyPlacesUptoCard : Claim7 := { stood := { row := earlyPlacesUptoRow, standIns := [], harness := (true, "788032c2abef291a9776da0839918947b6eac2adabab3cca7e28cef5d6690a1d"), looks := false }, kinds := [], alts := [], laidByText := true, laidKinds := [.listed, .data], laidTests := true, laidLooks := .later }
def EarlyPlacesUptoCardSaid : Prop := Claim7.holds Tryz.pinned (.plain (OpenSpec.upto earlyPlacesSpec)) earlyPlacesUptoCard

/-- THE SECOND FORM's CARD OF 'ossuarylaw09.EarlyWants'. -/
def earlyWantsUptoCard : Claim7 := { stood := { row := earlyWantsUptoRow, standIns := [], harness := (true, "788032c2abef291a9776da0839918947b6eac2adabab3cca7e28cef5d6690a1d"), looks := false }, kinds := [], alts := [], laidByText := true, laidKinds := [.listed, .data], laidTests := true, laidLooks := .later }
def EarlyWantsUptoCardSaid : Prop := Claim7.holds Tryz.pinned (.plain (OpenSpec.upto earlyWantsSpec)) earlyWantsUptoCard

/-- THE SECOND FORM's CARD OF 'ossuarylaw09.EarlyNested'. -/
def earlyNestedUptoCard : Claim7 := { stood := { row := earlyNestedUptoRow, standIns := [], harness := (true, "788032c2abef291a9776da0839918947b6eac2adabab3cca7e28cef5d6690a1d"), looks := false }, kinds := [], alts := [], laidByText := true, laidKinds := [.listed, .data], laidTests := true, laidLooks := .later }
def EarlyNestedUptoCardSaid : Prop := Claim7.holds Tryz.pinned (.plain (OpenSpec.upto earlyNestedSpec)) earlyNestedUptoCard
end Rows
end Go.Proofs.YtpjgdllpljmacaaGreatDoor
