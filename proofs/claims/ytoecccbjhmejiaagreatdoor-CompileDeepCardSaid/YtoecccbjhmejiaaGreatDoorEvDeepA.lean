/- CompileDeep: the whole call at each class of its arguments: what is computed. Condition: the world of EvExt. -/
import Derived.Test.YtoecccbjhmejiaaGreatDoorEvExt
namespace Go.Proofs.YtoecccbjhmejiaaGreatDoor
open Go.Ev

noncomputable def callDeep : CallFn := callS Tryz.prog ext isExt2 mask tab 5000 300
noncomputable def runDeep (vs : List V) : Bool :=
  match callDeep 3 vs h0 with
  | some (.bool b, _) => b
  | _ => false
noncomputable def runDeepAll (l : List (List V)) : Bool := l.all runDeep

end Go.Proofs.YtoecccbjhmejiaaGreatDoor
