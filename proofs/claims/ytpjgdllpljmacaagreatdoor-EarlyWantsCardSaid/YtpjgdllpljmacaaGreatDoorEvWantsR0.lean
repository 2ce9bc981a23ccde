/- Wants at its classes, part 0, by the kernel's computation. No condition. -/
import Derived.Test.YtpjgdllpljmacaaGreatDoorEvWantsA
namespace Go.Proofs.YtpjgdllpljmacaaGreatDoor
open Go.Ev
set_option maxRecDepth 10000000
theorem wants0 : runWantsAll [[.cls 5 0]] = true := by decide +kernel
theorem wants1 : runWantsAll [[.cls 5 1]] = true := by decide +kernel
theorem wants2 : runWantsAll [[.cls 5 2]] = true := by decide +kernel
theorem wants3 : runWantsAll [[.cls 5 3]] = true := by decide +kernel
theorem wants4 : runWantsAll [[.cls 5 4]] = true := by decide +kernel
end Go.Proofs.YtpjgdllpljmacaaGreatDoor
