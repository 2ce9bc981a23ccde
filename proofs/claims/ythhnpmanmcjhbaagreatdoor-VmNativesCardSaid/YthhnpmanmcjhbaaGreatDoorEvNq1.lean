/- VmNatives: the program is parsed, compiled and run, for 3, 4, 5, by the kernel's computation. No condition. -/
import Derived.Test.YthhnpmanmcjhbaaGreatDoorEvNc
namespace Go.Proofs.YthhnpmanmcjhbaaGreatDoor
open Go.Ev Nc
set_option maxRecDepth 10000000
theorem px3 : pieceC 14 call1 5 (avX 3) xS (xT 3) = true := by decide +kernel
theorem px4 : pieceC 14 call1 5 (avX 4) xS (xT 4) = true := by decide +kernel
theorem px5 : pieceC 14 call1 5 (avX 5) xS (xT 5) = true := by decide +kernel
end Go.Proofs.YthhnpmanmcjhbaaGreatDoor
