/- VmNatives: the law's call at some of its arguments, by the kernel's computation. No condition. -/
import Derived.Test.YthhnpmanmcjhbaaGreatDoorEvNb
namespace Go.Proofs.YthhnpmanmcjhbaaGreatDoor
open Go.Ev Nc
set_option maxRecDepth 10000000
theorem hd0_0tx : headsB 0 [(0, true), (0, false), (1, true)] = true := by decide +kernel
theorem hd4_5fx : headsB 4 [(5, false), (6, true), (6, false)] = true := by decide +kernel
theorem hd5_6tx : headsB 5 [(6, true), (6, false)] = true := by decide +kernel
theorem hd6_3tx : headsB 6 [(3, true), (3, false)] = true := by decide +kernel
theorem hd6_7tx : headsB 6 [(7, true)] = true := by decide +kernel
theorem hd7_7tx : headsB 7 [(7, true), (7, false)] = true := by decide +kernel
theorem hd8_2tx : headsB 8 [(2, true), (2, false)] = true := by decide +kernel
theorem hd8_9tx : headsB 8 [(9, true), (9, false)] = true := by decide +kernel
end Go.Proofs.YthhnpmanmcjhbaaGreatDoor
