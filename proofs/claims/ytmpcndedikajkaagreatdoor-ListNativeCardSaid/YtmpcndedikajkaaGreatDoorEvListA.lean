/- List: the whole call at each class of its arguments: what is computed. Condition: the world of EvExt. -/
import Derived.Test.YtmpcndedikajkaaGreatDoorEvExt
namespace Go.Proofs.YtmpcndedikajkaaGreatDoor
open Go.Ev

noncomputable def callList : CallFn := callS Tryz.prog ext isExt2 mask 1000 200
noncomputable def runList (vs : List V) : Bool :=
  match callList 3 vs h0 with
  | some (.bool b, _) => b
  | _ => false
noncomputable def runListAll (l : List (List V)) : Bool := l.all runList

end Go.Proofs.YtmpcndedikajkaaGreatDoor
