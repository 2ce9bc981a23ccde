/- VmNatives: the law's call at some of its arguments, by the kernel's computation. No condition. -/
import Derived.Test.YthhnpmanmcjhbaaGreatDoorEvNb
namespace Go.Proofs.YthhnpmanmcjhbaaGreatDoor
open Go.Ev Nc
set_option maxRecDepth 10000000
theorem hd0_1fx : headsB 0 [(1, false), (2, true), (2, false)] = true := by decide +kernel
theorem hd1_7tx : headsB 1 [(7, true), (7, false), (8, true)] = true := by decide +kernel
theorem hd4_1tx : headsB 4 [(1, true), (1, false)] = true := by decide +kernel
theorem hd4_4tx : headsB 4 [(4, true), (4, false), (5, true)] = true := by decide +kernel
theorem hd5_0tx : headsB 5 [(0, true), (0, false)] = true := by decide +kernel
theorem hd7_5tx : headsB 7 [(5, true)] = true := by decide +kernel
theorem hd7_10tx : headsB 7 [(10, true), (10, false)] = true := by decide +kernel
theorem hd8_5fx : headsB 8 [(5, false)] = true := by decide +kernel
end Go.Proofs.YthhnpmanmcjhbaaGreatDoor
