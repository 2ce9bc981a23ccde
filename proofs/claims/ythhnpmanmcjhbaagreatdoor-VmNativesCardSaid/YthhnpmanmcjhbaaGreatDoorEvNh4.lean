/- VmNatives: the law's call at some of its arguments, by the kernel's computation. No condition. -/
import Derived.Test.YthhnpmanmcjhbaaGreatDoorEvNb
namespace Go.Proofs.YthhnpmanmcjhbaaGreatDoor
open Go.Ev Nc
set_option maxRecDepth 10000000
theorem hd0_6tx : headsB 0 [(6, true), (6, false), (7, true)] = true := by decide +kernel
theorem hd1_5fx : headsB 1 [(5, false), (6, true), (6, false)] = true := by decide +kernel
theorem hd3_10fx : headsB 3 [(10, false), (11, true), (11, false)] = true := by decide +kernel
theorem hd5_9tx : headsB 5 [(9, true), (9, false)] = true := by decide +kernel
theorem hd7_2tx : headsB 7 [(2, true), (2, false)] = true := by decide +kernel
theorem hd8_8tx : headsB 8 [(8, true), (8, false)] = true := by decide +kernel
theorem hd8_11tx : headsB 8 [(11, true), (11, false)] = true := by decide +kernel
end Go.Proofs.YthhnpmanmcjhbaaGreatDoor
