/- Nested: the whole call at each class of its arguments: what is computed. Condition: the world of EvExt. -/
import Derived.Test.YtpjgdllpljmacaaGreatDoorEwExt
namespace Go.Proofs.YtpjgdllpljmacaaGreatDoor
open Go.Ev

noncomputable def callNested : CallFn := callS Tryz.prog ext isExt2 mask 1000 200
noncomputable def runNested (vs : List V) : Bool :=
  match callNested 6 vs h0 with
  | some (.bool b, _) => b
  | _ => false
noncomputable def runNestedAll (l : List (List V)) : Bool := l.all runNested

end Go.Proofs.YtpjgdllpljmacaaGreatDoor
