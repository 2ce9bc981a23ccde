/- List at its classes, part 3, by the kernel's computation. No condition. -/
import Derived.Test.YtmpcndedikajkaaGreatDoorEvListA
namespace Go.Proofs.YtmpcndedikajkaaGreatDoor
open Go.Ev
set_option maxRecDepth 10000000
theorem list15 : runListAll [[.cls 20 15]] = true := by decide +kernel
theorem list16 : runListAll [[.cls 20 16]] = true := by decide +kernel
theorem list17 : runListAll [[.cls 20 17]] = true := by decide +kernel
theorem list18 : runListAll [[.cls 20 18]] = true := by decide +kernel
theorem list19 : runListAll [[.cls 20 19]] = true := by decide +kernel
end Go.Proofs.YtmpcndedikajkaaGreatDoor
