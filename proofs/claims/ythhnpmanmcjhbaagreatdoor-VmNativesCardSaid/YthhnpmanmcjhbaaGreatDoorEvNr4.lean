/- VmNatives: an iterator steps on, by the kernel's computation. No condition. -/
import Derived.Test.YthhnpmanmcjhbaaGreatDoorEvNc
namespace Go.Proofs.YthhnpmanmcjhbaaGreatDoor
open Go.Ev Nc
set_option maxRecDepth 10000000
theorem st5_0 : (List.range 4).all (fun i => pieceC 496 call1 49 avS (sS 5 (i + 5)) (sT 5 (i + 5))) = true := by decide +kernel
theorem st6_0 : (List.range 3).all (fun i => pieceC 540 call1 49 avS (sS 6 (i + 6)) (sT 6 (i + 6))) = true := by decide +kernel
theorem st7_0 : (List.range 2).all (fun i => pieceC 584 call1 49 avS (sS 7 (i + 7)) (sT 7 (i + 7))) = true := by decide +kernel
theorem st8_0 : (List.range 1).all (fun i => pieceC 628 call1 49 avS (sS 8 (i + 8)) (sT 8 (i + 8))) = true := by decide +kernel
end Go.Proofs.YthhnpmanmcjhbaaGreatDoor
