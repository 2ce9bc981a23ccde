/- VmNatives: an iterator steps on, by the kernel's computation. No condition. -/
import Derived.Test.YthhnpmanmcjhbaaGreatDoorEvNc
namespace Go.Proofs.YthhnpmanmcjhbaaGreatDoor
open Go.Ev Nc
set_option maxRecDepth 10000000
theorem st2_0 : (List.range 4).all (fun i => pieceC 364 call1 49 avS (sS 2 (i + 2)) (sT 2 (i + 2))) = true := by decide +kernel
theorem st2_1 : (List.range 3).all (fun i => pieceC 364 call1 49 avS (sS 2 (i + 6)) (sT 2 (i + 6))) = true := by decide +kernel
end Go.Proofs.YthhnpmanmcjhbaaGreatDoor
