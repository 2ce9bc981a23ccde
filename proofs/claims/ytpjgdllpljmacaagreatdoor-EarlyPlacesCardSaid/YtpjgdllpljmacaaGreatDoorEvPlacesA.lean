/- Places: the whole call at each class of its arguments: what is computed. Condition: the world of EvExt. -/
import Derived.Test.YtpjgdllpljmacaaGreatDoorEvExt
namespace Go.Proofs.YtpjgdllpljmacaaGreatDoor
open Go.Ev

noncomputable def callPlaces : CallFn := callS Tryz.prog ext isExt2 mask 1000 200
noncomputable def runPlaces (vs : List V) : Bool :=
  match callPlaces 4 vs h0 with
  | some (.bool b, _) => b
  | _ => false
noncomputable def runPlacesAll (l : List (List V)) : Bool := l.all runPlaces

end Go.Proofs.YtpjgdllpljmacaaGreatDoor
