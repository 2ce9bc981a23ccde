/- VmNatives: the law's call at some of its arguments, by the kernel's computation. No condition. -/
import Derived.Test.YthhnpmanmcjhbaaGreatDoorEvNb
namespace Go.Proofs.YthhnpmanmcjhbaaGreatDoor
open Go.Ev Nc
set_option maxRecDepth 10000000
theorem hd2_5tx : headsB 2 [(5, true), (5, false), (6, true)] = true := by decide +kernel
theorem hd2_9fx : headsB 2 [(9, false), (10, true), (10, false)] = true := by decide +kernel
theorem hd4_0tx : headsB 4 [(0, true), (0, false)] = true := by decide +kernel
theorem hd6_1tx : headsB 6 [(1, true), (1, false)] = true := by decide +kernel
theorem hd7_4tx : headsB 7 [(4, true), (4, false)] = true := by decide +kernel
theorem hd7_9tx : headsB 7 [(9, true), (9, false)] = true := by decide +kernel
theorem hd8_5tx : headsB 8 [(5, true)] = true := by decide +kernel
theorem hd8_6fx : headsB 8 [(6, false)] = true := by decide +kernel
end Go.Proofs.YthhnpmanmcjhbaaGreatDoor
