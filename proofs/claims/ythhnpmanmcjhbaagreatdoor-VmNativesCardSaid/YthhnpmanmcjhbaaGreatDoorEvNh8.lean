/- VmNatives: the law's call at some of its arguments, by the kernel's computation. No condition. -/
import Derived.Test.YthhnpmanmcjhbaaGreatDoorEvNb
namespace Go.Proofs.YthhnpmanmcjhbaaGreatDoor
open Go.Ev Nc
set_option maxRecDepth 10000000
theorem hd1_11fx : headsB 1 [(11, false)] = true := by decide +kernel
theorem hd2_3fx : headsB 2 [(3, false), (4, true), (4, false)] = true := by decide +kernel
theorem hd2_8tx : headsB 2 [(8, true), (8, false), (9, true)] = true := by decide +kernel
theorem hd5_4tx : headsB 5 [(4, true), (4, false)] = true := by decide +kernel
theorem hd5_5tx : headsB 5 [(5, true), (5, false)] = true := by decide +kernel
theorem hd5_8tx : headsB 5 [(8, true), (8, false)] = true := by decide +kernel
theorem hd6_0tx : headsB 6 [(0, true), (0, false)] = true := by decide +kernel
theorem hd7_3tx : headsB 7 [(3, true), (3, false)] = true := by decide +kernel
end Go.Proofs.YthhnpmanmcjhbaaGreatDoor
