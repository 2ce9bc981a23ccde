/- Twice at its classes, part 0, by the kernel's computation. No condition. -/
import Derived.Test.YtpjgdllpljmacaaGreatDoorEvTwiceA
namespace Go.Proofs.YtpjgdllpljmacaaGreatDoor
open Go.Ev
set_option maxRecDepth 10000000
theorem twice0 : runTwiceAll [[.msk 7 0, .msk 7 0, .bool true], [.msk 7 0, .msk 7 0, .bool false]] = true := by decide +kernel
theorem twice1 : runTwiceAll [[.msk 7 0, .msk 7 1, .bool true], [.msk 7 0, .msk 7 1, .bool false]] = true := by decide +kernel
theorem twice2 : runTwiceAll [[.msk 7 0, .msk 7 2, .bool true], [.msk 7 0, .msk 7 2, .bool false]] = true := by decide +kernel
theorem twice3 : runTwiceAll [[.msk 7 0, .msk 7 3, .bool true], [.msk 7 0, .msk 7 3, .bool false]] = true := by decide +kernel
theorem twice4 : runTwiceAll [[.msk 7 0, .msk 7 4, .bool true], [.msk 7 0, .msk 7 4, .bool false]] = true := by decide +kernel
theorem twice5 : runTwiceAll [[.msk 7 0, .msk 7 5, .bool true], [.msk 7 0, .msk 7 5, .bool false]] = true := by decide +kernel
theorem twice6 : runTwiceAll [[.msk 7 0, .msk 7 6, .bool true], [.msk 7 0, .msk 7 6, .bool false]] = true := by decide +kernel
theorem twice7 : runTwiceAll [[.msk 7 0, .msk 7 7, .bool true], [.msk 7 0, .msk 7 7, .bool false]] = true := by decide +kernel
theorem twice8 : runTwiceAll [[.msk 7 1, .msk 7 0, .bool true], [.msk 7 1, .msk 7 0, .bool false]] = true := by decide +kernel
theorem twice9 : runTwiceAll [[.msk 7 1, .msk 7 1, .bool true], [.msk 7 1, .msk 7 1, .bool false]] = true := by decide +kernel
theorem twice10 : runTwiceAll [[.msk 7 1, .msk 7 2, .bool true], [.msk 7 1, .msk 7 2, .bool false]] = true := by decide +kernel
theorem twice11 : runTwiceAll [[.msk 7 1, .msk 7 3, .bool true], [.msk 7 1, .msk 7 3, .bool false]] = true := by decide +kernel
theorem twice12 : runTwiceAll [[.msk 7 1, .msk 7 4, .bool true], [.msk 7 1, .msk 7 4, .bool false]] = true := by decide +kernel
theorem twice13 : runTwiceAll [[.msk 7 1, .msk 7 5, .bool true], [.msk 7 1, .msk 7 5, .bool false]] = true := by decide +kernel
theorem twice14 : runTwiceAll [[.msk 7 1, .msk 7 6, .bool true], [.msk 7 1, .msk 7 6, .bool false]] = true := by decide +kernel
theorem twice15 : runTwiceAll [[.msk 7 1, .msk 7 7, .bool true], [.msk 7 1, .msk 7 7, .bool false]] = true := by decide +kernel
end Go.Proofs.YtpjgdllpljmacaaGreatDoor
