/- VmNatives: the law's call at some of its arguments, by the kernel's computation. No condition. -/
import Derived.Test.YthhnpmanmcjhbaaGreatDoorEvNb
namespace Go.Proofs.YthhnpmanmcjhbaaGreatDoor
open Go.Ev Nc
set_option maxRecDepth 10000000
theorem hd0_3tx : headsB 0 [(3, true), (3, false), (4, true)] = true := by decide +kernel
theorem hd1_1tx : headsB 1 [(1, true), (1, false), (2, true)] = true := by decide +kernel
theorem hd2_6fx : headsB 2 [(6, false), (7, true), (7, false)] = true := by decide +kernel
theorem hd4_2tx : headsB 4 [(2, true), (2, false)] = true := by decide +kernel
theorem hd7_5fx : headsB 7 [(5, false)] = true := by decide +kernel
theorem hd7_11tx : headsB 7 [(11, true), (11, false)] = true := by decide +kernel
theorem hd8_3tx : headsB 8 [(3, true), (3, false)] = true := by decide +kernel
theorem hd8_6tx : headsB 8 [(6, true)] = true := by decide +kernel
end Go.Proofs.YthhnpmanmcjhbaaGreatDoor
