/- Twice at its classes, part 2, by the kernel's computation. No condition. -/
import Derived.Test.YtpjgdllpljmacaaGreatDoorEvTwiceA
namespace Go.Proofs.YtpjgdllpljmacaaGreatDoor
open Go.Ev
set_option maxRecDepth 10000000
theorem twice32 : runTwiceAll [[.msk 7 4, .msk 7 0, .bool true], [.msk 7 4, .msk 7 0, .bool false]] = true := by decide +kernel
theorem twice33 : runTwiceAll [[.msk 7 4, .msk 7 1, .bool true], [.msk 7 4, .msk 7 1, .bool false]] = true := by decide +kernel
theorem twice34 : runTwiceAll [[.msk 7 4, .msk 7 2, .bool true], [.msk 7 4, .msk 7 2, .bool false]] = true := by decide +kernel
theorem twice35 : runTwiceAll [[.msk 7 4, .msk 7 3, .bool true], [.msk 7 4, .msk 7 3, .bool false]] = true := by decide +kernel
theorem twice36 : runTwiceAll [[.msk 7 4, .msk 7 4, .bool true], [.msk 7 4, .msk 7 4, .bool false]] = true := by decide +kernel
theorem twice37 : runTwiceAll [[.msk 7 4, .msk 7 5, .bool true], [.msk 7 4, .msk 7 5, .bool false]] = true := by decide +kernel
theorem twice38 : runTwiceAll [[.msk 7 4, .msk 7 6, .bool true], [.msk 7 4, .msk 7 6, .bool false]] = true := by decide +kernel
theorem twice39 : runTwiceAll [[.msk 7 4, .msk 7 7, .bool true], [.msk 7 4, .msk 7 7, .bool false]] = true := by decide +kernel
theorem twice40 : runTwiceAll [[.msk 7 5, .msk 7 0, .bool true], [.msk 7 5, .msk 7 0, .bool false]] = true := by decide +kernel
theorem twice41 : runTwiceAll [[.msk 7 5, .msk 7 1, .bool true], [.msk 7 5, .msk 7 1, .bool false]] = true := by decide +kernel
theorem twice42 : runTwiceAll [[.msk 7 5, .msk 7 2, .bool true], [.msk 7 5, .msk 7 2, .bool false]] = true := by decide +kernel
theorem twice43 : runTwiceAll [[.msk 7 5, .msk 7 3, .bool true], [.msk 7 5, .msk 7 3, .bool false]] = true := by decide +kernel
theorem twice44 : runTwiceAll [[.msk 7 5, .msk 7 4, .bool true], [.msk 7 5, .msk 7 4, .bool false]] = true := by decide +kernel
theorem twice45 : runTwiceAll [[.msk 7 5, .msk 7 5, .bool true], [.msk 7 5, .msk 7 5, .bool false]] = true := by decide +kernel
theorem twice46 : runTwiceAll [[.msk 7 5, .msk 7 6, .bool true], [.msk 7 5, .msk 7 6, .bool false]] = true := by decide +kernel
theorem twice47 : runTwiceAll [[.msk 7 5, .msk 7 7, .bool true], [.msk 7 5, .msk 7 7, .bool false]] = true := by decide +kernel
end Go.Proofs.YtpjgdllpljmacaaGreatDoor
