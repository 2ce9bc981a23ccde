/- Wants: the whole call at each class of its arguments: what is computed. Condition: the world of EvExt. -/
import Derived.Test.YtpjgdllpljmacaaGreatDoorEvExt
namespace Go.Proofs.YtpjgdllpljmacaaGreatDoor
open Go.Ev

noncomputable def callWants : CallFn := callS Tryz.prog ext isExt2 mask 1000 200
noncomputable def runWants (vs : List V) : Bool :=
  match callWants 5 vs h0 with
  | some (.bool b, _) => b
  | _ => false
noncomputable def runWantsAll (l : List (List V)) : Bool := l.all runWants

end Go.Proofs.YtpjgdllpljmacaaGreatDoor
