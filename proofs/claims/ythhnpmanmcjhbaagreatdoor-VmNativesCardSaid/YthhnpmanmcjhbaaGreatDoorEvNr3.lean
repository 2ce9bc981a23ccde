/- VmNatives: an iterator steps on, by the kernel's computation. No condition. -/
import Derived.Test.YthhnpmanmcjhbaaGreatDoorEvNc
namespace Go.Proofs.YthhnpmanmcjhbaaGreatDoor
open Go.Ev Nc
set_option maxRecDepth 10000000
theorem st3_0 : (List.range 3).all (fun i => pieceC 408 call1 49 avS (sS 3 (i + 3)) (sT 3 (i + 3))) = true := by decide +kernel
theorem st3_1 : (List.range 3).all (fun i => pieceC 408 call1 49 avS (sS 3 (i + 6)) (sT 3 (i + 6))) = true := by decide +kernel
theorem st4_0 : (List.range 5).all (fun i => pieceC 452 call1 49 avS (sS 4 (i + 4)) (sT 4 (i + 4))) = true := by decide +kernel
end Go.Proofs.YthhnpmanmcjhbaaGreatDoor
