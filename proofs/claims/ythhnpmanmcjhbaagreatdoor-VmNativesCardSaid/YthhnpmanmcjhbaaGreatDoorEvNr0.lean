/- VmNatives: an iterator steps on, by the kernel's computation. No condition. -/
import Derived.Test.YthhnpmanmcjhbaaGreatDoorEvNc
namespace Go.Proofs.YthhnpmanmcjhbaaGreatDoor
open Go.Ev Nc
set_option maxRecDepth 10000000
theorem st0_0 : (List.range 5).all (fun i => pieceC 270 call1 49 avS (sS 0 (i + 0)) (sT 0 (i + 0))) = true := by decide +kernel
theorem st0_1 : (List.range 4).all (fun i => pieceC 270 call1 49 avS (sS 0 (i + 5)) (sT 0 (i + 5))) = true := by decide +kernel
end Go.Proofs.YthhnpmanmcjhbaaGreatDoor
