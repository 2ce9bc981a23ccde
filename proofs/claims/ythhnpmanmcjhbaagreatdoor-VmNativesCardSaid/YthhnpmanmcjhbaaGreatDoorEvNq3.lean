/- VmNatives: an iterable is opened, by the kernel's computation. No condition. -/
import Derived.Test.YthhnpmanmcjhbaaGreatDoorEvNc
namespace Go.Proofs.YthhnpmanmcjhbaaGreatDoor
open Go.Ev Nc
set_option maxRecDepth 10000000
theorem po0 : (List.range 5).all (fun n => pieceC 210 call1 47 avO (oS n) (oT n)) = true := by decide +kernel
theorem po1 : (List.range 4).all (fun n => pieceC 210 call1 47 avO (oS (n + 5)) (oT (n + 5))) = true := by decide +kernel
end Go.Proofs.YthhnpmanmcjhbaaGreatDoor
