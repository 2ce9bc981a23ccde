/- Twice: the whole call at each class of its arguments: what is computed. Condition: the world of EvExt. -/
import Derived.Test.YtpjgdllpljmacaaGreatDoorEvExt
namespace Go.Proofs.YtpjgdllpljmacaaGreatDoor
open Go.Ev

noncomputable def callTwice : CallFn := callS Tryz.prog ext isExt2 mask 1000 200
noncomputable def runTwice (vs : List V) : Bool :=
  match callTwice 3 vs h0 with
  | some (.bool b, _) => b
  | _ => false
noncomputable def runTwiceAll (l : List (List V)) : Bool := l.all runTwice

end Go.Proofs.YtpjgdllpljmacaaGreatDoor
