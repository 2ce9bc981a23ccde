/- Twice at its classes, part 3, by the kernel's computation. No condition. -/
import Derived.Test.YtpjgdllpljmacaaGreatDoorEvTwiceA
namespace Go.Proofs.YtpjgdllpljmacaaGreatDoor
open Go.Ev
set_option maxRecDepth 10000000
theorem twice48 : runTwiceAll [[.msk 7 6, .msk 7 0, .bool true], [.msk 7 6, .msk 7 0, .bool false]] = true := by decide +kernel
theorem twice49 : runTwiceAll [[.msk 7 6, .msk 7 1, .bool true], [.msk 7 6, .msk 7 1, .bool false]] = true := by decide +kernel
theorem twice50 : runTwiceAll [[.msk 7 6, .msk 7 2, .bool true], [.msk 7 6, .msk 7 2, .bool false]] = true := by decide +kernel
theorem twice51 : runTwiceAll [[.msk 7 6, .msk 7 3, .bool true], [.msk 7 6, .msk 7 3, .bool false]] = true := by decide +kernel
theorem twice52 : runTwiceAll [[.msk 7 6, .msk 7 4, .bool true], [.msk 7 6, .msk 7 4, .bool false]] = true := by decide +kernel
theorem twice53 : runTwiceAll [[.msk 7 6, .msk 7 5, .bool true], [.msk 7 6, .msk 7 5, .bool false]] = true := by decide +kernel
theorem twice54 : runTwiceAll [[.msk 7 6, .msk 7 6, .bool true], [.msk 7 6, .msk 7 6, .bool false]] = true := by decide +kernel
theorem twice55 : runTwiceAll [[.msk 7 6, .msk 7 7, .bool true], [.msk 7 6, .msk 7 7, .bool false]] = true := by decide +kernel
theorem twice56 : runTwiceAll [[.msk 7 7, .msk 7 0, .bool true], [.msk 7 7, .msk 7 0, .bool false]] = true := by decide +kernel
theorem twice57 : runTwiceAll [[.msk 7 7, .msk 7 1, .bool true], [.msk 7 7, .msk 7 1, .bool false]] = true := by decide +kernel
theorem twice58 : runTwiceAll [[.msk 7 7, .msk 7 2, .bool true], [.msk 7 7, .msk 7 2, .bool false]] = true := by decide +kernel
theorem twice59 : runTwiceAll [[.msk 7 7, .msk 7 3, .bool true], [.msk 7 7, .msk 7 3, .bool false]] = true := by decide +kernel
theorem twice60 : runTwiceAll [[.msk 7 7, .msk 7 4, .bool true], [.msk 7 7, .msk 7 4, .bool false]] = true := by decide +kernel
theorem twice61 : runTwiceAll [[.msk 7 7, .msk 7 5, .bool true], [.msk 7 7, .msk 7 5, .bool false]] = true := by decide +kernel
theorem twice62 : runTwiceAll [[.msk 7 7, .msk 7 6, .bool true], [.msk 7 7, .msk 7 6, .bool false]] = true := by decide +kernel
theorem twice63 : runTwiceAll [[.msk 7 7, .msk 7 7, .bool true], [.msk 7 7, .msk 7 7, .bool false]] = true := by decide +kernel
end Go.Proofs.YtpjgdllpljmacaaGreatDoor
