/- VmNatives: the law's call at some of its arguments, by the kernel's computation. No condition. -/
import Derived.Test.YthhnpmanmcjhbaaGreatDoorEvNb
namespace Go.Proofs.YthhnpmanmcjhbaaGreatDoor
open Go.Ev Nc
set_option maxRecDepth 10000000
theorem hd0_4fx : headsB 0 [(4, false), (5, true), (5, false)] = true := by decide +kernel
theorem hd1_4tx : headsB 1 [(4, true), (4, false), (5, true)] = true := by decide +kernel
theorem hd3_9tx : headsB 3 [(9, true), (9, false), (10, true)] = true := by decide +kernel
theorem hd4_3tx : headsB 4 [(3, true), (3, false)] = true := by decide +kernel
theorem hd5_10tx : headsB 5 [(10, true), (10, false)] = true := by decide +kernel
theorem hd6_6tx : headsB 6 [(6, true), (6, false)] = true := by decide +kernel
theorem hd7_1tx : headsB 7 [(1, true), (1, false)] = true := by decide +kernel
end Go.Proofs.YthhnpmanmcjhbaaGreatDoor
