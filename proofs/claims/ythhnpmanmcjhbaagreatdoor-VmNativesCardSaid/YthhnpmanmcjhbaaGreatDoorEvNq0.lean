/- VmNatives: the program is parsed, compiled and run, for 0, 1, 2, by the kernel's computation. No condition. -/
import Derived.Test.YthhnpmanmcjhbaaGreatDoorEvNc
namespace Go.Proofs.YthhnpmanmcjhbaaGreatDoor
open Go.Ev Nc
set_option maxRecDepth 10000000
theorem px0 : pieceC 14 call1 5 (avX 0) xS (xT 0) = true := by decide +kernel
theorem px1 : pieceC 14 call1 5 (avX 1) xS (xT 1) = true := by decide +kernel
theorem px2 : pieceC 14 call1 5 (avX 2) xS (xT 2) = true := by decide +kernel
end Go.Proofs.YthhnpmanmcjhbaaGreatDoor
