/- VmNatives: the law's call at some of its arguments, by the kernel's computation. No condition. -/
import Derived.Test.YthhnpmanmcjhbaaGreatDoorEvNb
namespace Go.Proofs.YthhnpmanmcjhbaaGreatDoor
open Go.Ev Nc
set_option maxRecDepth 10000000
theorem hd0_7f : headsB 0 [(7, false), (8, true), (8, false)] = true := by decide +kernel
theorem hd1_0t : headsB 1 [(0, true), (0, false)] = true := by decide +kernel
theorem hd1_8f : headsB 1 [(8, false), (9, true), (9, false)] = true := by decide +kernel
theorem hd3_0t : headsB 3 [(0, true), (0, false)] = true := by decide +kernel
theorem hd3_3t : headsB 3 [(3, true), (3, false), (4, true)] = true := by decide +kernel
theorem hd4_7t : headsB 4 [(7, true), (7, false), (8, true)] = true := by decide +kernel
theorem hd5_1t : headsB 5 [(1, true), (1, false)] = true := by decide +kernel
theorem hd6_4t : headsB 6 [(4, true), (4, false)] = true := by decide +kernel
theorem hd6_7f : headsB 6 [(7, false), (8, true), (8, false)] = true := by decide +kernel
theorem hd7_6t : headsB 7 [(6, true), (6, false)] = true := by decide +kernel
theorem hd8_7t : headsB 8 [(7, true), (7, false)] = true := by decide +kernel
end Go.Proofs.YthhnpmanmcjhbaaGreatDoor
