/- List at its classes, part 1, by the kernel's computation. No condition. -/
import Derived.Test.YtmpcndedikajkaaGreatDoorEvListA
namespace Go.Proofs.YtmpcndedikajkaaGreatDoor
open Go.Ev
set_option maxRecDepth 10000000
theorem list5 : runListAll [[.cls 20 5]] = true := by decide +kernel
theorem list6 : runListAll [[.cls 20 6]] = true := by decide +kernel
theorem list7 : runListAll [[.cls 20 7]] = true := by decide +kernel
theorem list8 : runListAll [[.cls 20 8]] = true := by decide +kernel
theorem list9 : runListAll [[.cls 20 9]] = true := by decide +kernel
end Go.Proofs.YtmpcndedikajkaaGreatDoor
