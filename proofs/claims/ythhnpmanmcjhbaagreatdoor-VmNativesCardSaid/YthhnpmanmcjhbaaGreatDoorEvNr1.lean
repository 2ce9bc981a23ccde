/- VmNatives: an iterator steps on, by the kernel's computation. No condition. -/
import Derived.Test.YthhnpmanmcjhbaaGreatDoorEvNc
namespace Go.Proofs.YthhnpmanmcjhbaaGreatDoor
open Go.Ev Nc
set_option maxRecDepth 10000000
theorem st1_0 : (List.range 4).all (fun i => pieceC 319 call1 49 avS (sS 1 (i + 1)) (sT 1 (i + 1))) = true := by decide +kernel
theorem st1_1 : (List.range 4).all (fun i => pieceC 319 call1 49 avS (sS 1 (i + 5)) (sT 1 (i + 5))) = true := by decide +kernel
end Go.Proofs.YthhnpmanmcjhbaaGreatDoor
