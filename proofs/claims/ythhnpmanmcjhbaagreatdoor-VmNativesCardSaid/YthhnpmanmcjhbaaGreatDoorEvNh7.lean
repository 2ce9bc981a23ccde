/- VmNatives: the law's call at some of its arguments, by the kernel's computation. No condition. -/
import Derived.Test.YthhnpmanmcjhbaaGreatDoorEvNb
namespace Go.Proofs.YthhnpmanmcjhbaaGreatDoor
open Go.Ev Nc
set_option maxRecDepth 10000000
theorem hd0_10f : headsB 0 [(10, false), (11, true), (11, false)] = true := by decide +kernel
theorem hd2_1t : headsB 2 [(1, true), (1, false)] = true := by decide +kernel
theorem hd2_2t : headsB 2 [(2, true), (2, false), (3, true)] = true := by decide +kernel
theorem hd3_2t : headsB 3 [(2, true), (2, false)] = true := by decide +kernel
theorem hd3_6t : headsB 3 [(6, true), (6, false), (7, true)] = true := by decide +kernel
theorem hd4_10t : headsB 4 [(10, true), (10, false), (11, true)] = true := by decide +kernel
theorem hd5_3t : headsB 5 [(3, true), (3, false)] = true := by decide +kernel
theorem hd5_11t : headsB 5 [(11, true), (11, false)] = true := by decide +kernel
theorem hd6_10f : headsB 6 [(10, false), (11, true), (11, false)] = true := by decide +kernel
theorem hd7_0t : headsB 7 [(0, true), (0, false)] = true := by decide +kernel
theorem hd8_1t : headsB 8 [(1, true), (1, false)] = true := by decide +kernel
end Go.Proofs.YthhnpmanmcjhbaaGreatDoor
