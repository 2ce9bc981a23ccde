/- VmNatives: the law's call at some of its arguments, by the kernel's computation. No condition. -/
import Derived.Test.YthhnpmanmcjhbaaGreatDoorEvNb
namespace Go.Proofs.YthhnpmanmcjhbaaGreatDoor
open Go.Ev Nc
set_option maxRecDepth 10000000
theorem hd0_9t : headsB 0 [(9, true), (9, false), (10, true)] = true := by decide +kernel
theorem hd1_10t : headsB 1 [(10, true), (10, false), (11, true)] = true := by decide +kernel
theorem hd2_0t : headsB 2 [(0, true), (0, false)] = true := by decide +kernel
theorem hd2_11t : headsB 2 [(11, true), (11, false)] = true := by decide +kernel
theorem hd3_1t : headsB 3 [(1, true), (1, false)] = true := by decide +kernel
theorem hd3_4f : headsB 3 [(4, false), (5, true), (5, false)] = true := by decide +kernel
theorem hd4_8f : headsB 4 [(8, false), (9, true), (9, false)] = true := by decide +kernel
theorem hd5_2t : headsB 5 [(2, true), (2, false)] = true := by decide +kernel
theorem hd6_5t : headsB 6 [(5, true), (5, false)] = true := by decide +kernel
theorem hd6_9t : headsB 6 [(9, true), (9, false), (10, true)] = true := by decide +kernel
theorem hd8_0t : headsB 8 [(0, true), (0, false)] = true := by decide +kernel
end Go.Proofs.YthhnpmanmcjhbaaGreatDoor
