/- List at its classes, part 0, by the kernel's computation. No condition. -/
import Derived.Test.YtmpcndedikajkaaGreatDoorEvListA
namespace Go.Proofs.YtmpcndedikajkaaGreatDoor
open Go.Ev
set_option maxRecDepth 10000000
theorem list0 : runListAll [[.cls 20 0]] = true := by decide +kernel
theorem list1 : runListAll [[.cls 20 1]] = true := by decide +kernel
theorem list2 : runListAll [[.cls 20 2]] = true := by decide +kernel
theorem list3 : runListAll [[.cls 20 3]] = true := by decide +kernel
theorem list4 : runListAll [[.cls 20 4]] = true := by decide +kernel
end Go.Proofs.YtmpcndedikajkaaGreatDoor
