/- Twice at its classes, part 1, by the kernel's computation. No condition. -/
import Derived.Test.YtpjgdllpljmacaaGreatDoorEvTwiceA
namespace Go.Proofs.YtpjgdllpljmacaaGreatDoor
open Go.Ev
set_option maxRecDepth 10000000
theorem twice16 : runTwiceAll [[.msk 7 2, .msk 7 0, .bool true], [.msk 7 2, .msk 7 0, .bool false]] = true := by decide +kernel
theorem twice17 : runTwiceAll [[.msk 7 2, .msk 7 1, .bool true], [.msk 7 2, .msk 7 1, .bool false]] = true := by decide +kernel
theorem twice18 : runTwiceAll [[.msk 7 2, .msk 7 2, .bool true], [.msk 7 2, .msk 7 2, .bool false]] = true := by decide +kernel
theorem twice19 : runTwiceAll [[.msk 7 2, .msk 7 3, .bool true], [.msk 7 2, .msk 7 3, .bool false]] = true := by decide +kernel
theorem twice20 : runTwiceAll [[.msk 7 2, .msk 7 4, .bool true], [.msk 7 2, .msk 7 4, .bool false]] = true := by decide +kernel
theorem twice21 : runTwiceAll [[.msk 7 2, .msk 7 5, .bool true], [.msk 7 2, .msk 7 5, .bool false]] = true := by decide +kernel
theorem twice22 : runTwiceAll [[.msk 7 2, .msk 7 6, .bool true], [.msk 7 2, .msk 7 6, .bool false]] = true := by decide +kernel
theorem twice23 : runTwiceAll [[.msk 7 2, .msk 7 7, .bool true], [.msk 7 2, .msk 7 7, .bool false]] = true := by decide +kernel
theorem twice24 : runTwiceAll [[.msk 7 3, .msk 7 0, .bool true], [.msk 7 3, .msk 7 0, .bool false]] = true := by decide +kernel
theorem twice25 : runTwiceAll [[.msk 7 3, .msk 7 1, .bool true], [.msk 7 3, .msk 7 1, .bool false]] = true := by decide +kernel
theorem twice26 : runTwiceAll [[.msk 7 3, .msk 7 2, .bool true], [.msk 7 3, .msk 7 2, .bool false]] = true := by decide +kernel
theorem twice27 : runTwiceAll [[.msk 7 3, .msk 7 3, .bool true], [.msk 7 3, .msk 7 3, .bool false]] = true := by decide +kernel
theorem twice28 : runTwiceAll [[.msk 7 3, .msk 7 4, .bool true], [.msk 7 3, .msk 7 4, .bool false]] = true := by decide +kernel
theorem twice29 : runTwiceAll [[.msk 7 3, .msk 7 5, .bool true], [.msk 7 3, .msk 7 5, .bool false]] = true := by decide +kernel
theorem twice30 : runTwiceAll [[.msk 7 3, .msk 7 6, .bool true], [.msk 7 3, .msk 7 6, .bool false]] = true := by decide +kernel
theorem twice31 : runTwiceAll [[.msk 7 3, .msk 7 7, .bool true], [.msk 7 3, .msk 7 7, .bool false]] = true := by decide +kernel
end Go.Proofs.YtpjgdllpljmacaaGreatDoor
