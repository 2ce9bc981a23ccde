/- VmNatives: the program is parsed, compiled and run, for 6, 7, 8, by the kernel's computation. No condition. -/
import Derived.Test.YthhnpmanmcjhbaaGreatDoorEvNc
namespace Go.Proofs.YthhnpmanmcjhbaaGreatDoor
open Go.Ev Nc
set_option maxRecDepth 10000000
theorem px6 : pieceC 14 call1 5 (avX 6) xS (xT 6) = true := by decide +kernel
theorem px7 : pieceC 14 call1 5 (avX 7) xS (xT 7) = true := by decide +kernel
theorem px8 : pieceC 14 call1 5 (avX 8) xS (xT 8) = true := by decide +kernel
end Go.Proofs.YthhnpmanmcjhbaaGreatDoor
