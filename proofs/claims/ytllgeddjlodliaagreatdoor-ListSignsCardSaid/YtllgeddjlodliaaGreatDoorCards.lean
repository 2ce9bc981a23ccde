/-
  DERIVED. GIVEN WITH THE SEED: THE CARDS: each row of YtllgeddjlodliaaGreatDoorRows.lean that lists a variable, with what it lists TIED to the program's text (the seventh form; the later family's looks); each row that meets fmt, with fmt's text TOLD by the authors' own Lean function (tested against real Go, not proved from fmt's source: count such statements apart). THE CARD IS WHAT COUNTS. Prove the row's statement (the work); the ties are given (YtllgeddjlodliaaGreatDoorTie.lean); close each card by the builder's one call (the guide's Derived/Test/ToyasCard.lean, 'card_holds'). Laid BY PROGRAM, IN A SANDBOX (cutbox-door.mjs). By AI agents, Wed Nov 11 2026. No macro, syntax, notation, axiom, sorry.
-/
import Derived.Test.YtllgeddjlodliaaGreatDoorRows
import GoSem.ClaimSeven
namespace Go.Proofs.YtllgeddjlodliaaGreatDoor
namespace Rows

/-- THE TIED CARD OF 'ossuarylaw15.ListSigns'. -/
def listSignsCard : Claim7 := { stood := { row := listSignsRow, standIns := [], harness := (true, "688947581fe1bde1e23ab8244f7a1d61199232777fc7b62b1961573730055fea"), looks := true }, kinds := [], alts := [], laidByText := true, laidKinds := [.data, .data, .data, .listed, .data, .data], laidTests := true, laidLooks := .later }
def ListSignsCardSaid : Prop := Claim7.holds Tryz.pinned (.plain (OpenSpec.ofChange listSignsSpec)) listSignsCard

/-- THE TIED CARD OF 'ossuarylaw15.ListLive'. -/
def listLiveCard : Claim7 := { stood := { row := listLiveRow, standIns := [], harness := (true, "688947581fe1bde1e23ab8244f7a1d61199232777fc7b62b1961573730055fea"), looks := true }, kinds := [], alts := [], laidByText := true, laidKinds := [.data, .data, .data, .listed, .data, .data], laidTests := true, laidLooks := .later }
def ListLiveCardSaid : Prop := Claim7.holds Tryz.pinned (.plain (OpenSpec.ofChange listLiveSpec)) listLiveCard

/-- THE TIED CARD OF 'ossuarylaw15.ListMakes'. -/
def listMakesCard : Claim7 := { stood := { row := listMakesRow, standIns := [], harness := (true, "688947581fe1bde1e23ab8244f7a1d61199232777fc7b62b1961573730055fea"), looks := true }, kinds := [], alts := [], laidByText := true, laidKinds := [.data, .data, .data, .listed, .data, .data], laidTests := true, laidLooks := .later }
def ListMakesCardSaid : Prop := Claim7.holds Tryz.pinned (.plain (OpenSpec.ofChange listMakesSpec)) listMakesCard

/-- THE SECOND FORM's CARD OF 'ossuarylaw15.ListSigns'. -/
def listSignsUptoCard : Claim7 := { stood := { row := listSignsUptoRow, standIns := [], harness := (true, "688947581fe1bde1e23ab8244f7a1d61199232777fc7b62b1961573730055fea"), looks := true }, kinds := [], alts := [], laidByText := true, laidKinds := [.data, .data, .data, .listed, .data, .data], laidTests := true, laidLooks := .later }
def ListSignsUptoCardSaid : Prop := Claim7.holds Tryz.pinned (.plain (OpenSpec.upto listSignsSpec)) listSignsUptoCard

/-- THE SECOND FORM's CARD OF 'ossuarylaw15.ListLive'. -/
def listLiveUptoCard : Claim7 := { stood := { row := listLiveUptoRow, standIns := [], harness := (true, "688947581fe1bde1e23ab8244f7a1d61199232777fc7b62b1961573730055fea"), looks := true }, kinds := [], alts := [], laidByText := true, laidKinds := [.data, .data, .data, .listed, .data, .data], laidTests := true, laidLooks := .later }
def ListLiveUptoCardSaid : Prop := Claim7.holds Tryz.pinned (.plain (OpenSpec.upto listLiveSpec)) listLiveUptoCard

/-- THE SECOND FORM's CARD OF 'ossuarylaw15.ListMakes'. -/
def listMakesUptoCard : Claim7 := { stood := { row := listMakesUptoRow, standIns := [], harness := (true, "688947581fe1bde1e23ab8244f7a1d61199232777fc7b62b1961573730055fea"), looks := true }, kinds := [], alts := [], laidByText := true, laidKinds := [.data, .data, .data, .listed, .data, .data], laidTests := true, laidLooks := .later }
def ListMakesUptoCardSaid : Prop := Claim7.holds Tryz.pinned (.plain (OpenSpec.upto listMakesSpec)) listMakesUptoCard
end Rows
end Go.Proofs.YtllgeddjlodliaaGreatDoor
