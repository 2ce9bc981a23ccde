/- VmNatives: the law's call at some of its arguments, by the kernel's computation. No condition. -/
import Derived.Test.YthhnpmanmcjhbaaGreatDoorEvNb
namespace Go.Proofs.YthhnpmanmcjhbaaGreatDoor
open Go.Ev Nc
set_option maxRecDepth 10000000
theorem hd1_2fx : headsB 1 [(2, false), (3, true), (3, false)] = true := by decide +kernel
theorem hd3_7fx : headsB 3 [(7, false), (8, true), (8, false)] = true := by decide +kernel
theorem hd4_11fx : headsB 4 [(11, false)] = true := by decide +kernel
theorem hd5_7tx : headsB 5 [(7, true), (7, false)] = true := by decide +kernel
theorem hd6_2tx : headsB 6 [(2, true), (2, false)] = true := by decide +kernel
theorem hd7_8tx : headsB 7 [(8, true), (8, false)] = true := by decide +kernel
theorem hd8_4tx : headsB 8 [(4, true), (4, false)] = true := by decide +kernel
theorem hd8_10tx : headsB 8 [(10, true), (10, false)] = true := by decide +kernel
end Go.Proofs.YthhnpmanmcjhbaaGreatDoor
