/- List at its classes, part 2, by the kernel's computation. No condition. -/
import Derived.Test.YtmpcndedikajkaaGreatDoorEvListA
namespace Go.Proofs.YtmpcndedikajkaaGreatDoor
open Go.Ev
set_option maxRecDepth 10000000
theorem list10 : runListAll [[.cls 20 10]] = true := by decide +kernel
theorem list11 : runListAll [[.cls 20 11]] = true := by decide +kernel
theorem list12 : runListAll [[.cls 20 12]] = true := by decide +kernel
theorem list13 : runListAll [[.cls 20 13]] = true := by decide +kernel
theorem list14 : runListAll [[.cls 20 14]] = true := by decide +kernel
end Go.Proofs.YtmpcndedikajkaaGreatDoor
