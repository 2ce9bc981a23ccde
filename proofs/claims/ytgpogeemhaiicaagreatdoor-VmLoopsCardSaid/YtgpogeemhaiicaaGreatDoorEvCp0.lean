/- VmLoops: the compiler's call, by the kernel's computation. No condition. -/
import Derived.Test.YtgpogeemhaiicaaGreatDoorEvCm
set_option linter.all false
namespace Go.Proofs.YtgpogeemhaiicaaGreatDoor.Cm
open Go.Ev
set_option maxRecDepth 10000000
theorem cp0 : [(1625, [0, 1, 2, 3, 4, 5, 5, 5, 6, 7]), (3125, [0, 1, 2, 3, 4, 5, 5, 6, 7, 8]), (2875, [0, 1, 2, 3, 4, 5, 6, 5, 7, 8]), (2125, [0, 1, 2, 3, 4, 5, 6, 6, 7, 8]), (3250, [0, 1, 2, 3, 4, 5, 6, 7, 8, 9]), (3150, [0, 1, 2, 3, 4, 5, 5, 0, 6, 7]), (3275, [0, 1, 2, 3, 4, 5, 6, 0, 7, 8]), (3175, [0, 1, 2, 3, 4, 5, 5, 4, 6, 7]), (3300, [0, 1, 2, 3, 4, 5, 6, 4, 7, 8]), (3200, [0, 1, 2, 3, 4, 5, 5, 6, 6, 7])].all (fun x => compB x.1 x.2) = true := by decide +kernel
theorem cp1 : [(3325, [0, 1, 2, 3, 4, 5, 6, 7, 7, 8]), (2880, [0, 1, 2, 3, 4, 5, 0, 5, 6, 7]), (3255, [0, 1, 2, 3, 4, 5, 0, 6, 7, 8]), (2155, [0, 1, 2, 3, 4, 5, 0, 0, 6, 7]), (3305, [0, 1, 2, 3, 4, 5, 0, 4, 6, 7]), (3330, [0, 1, 2, 3, 4, 5, 0, 6, 6, 7]), (2885, [0, 1, 2, 3, 4, 5, 4, 5, 6, 7]), (3260, [0, 1, 2, 3, 4, 5, 4, 6, 7, 8]), (3285, [0, 1, 2, 3, 4, 5, 4, 0, 6, 7]), (2185, [0, 1, 2, 3, 4, 5, 4, 4, 6, 7])].all (fun x => compB x.1 x.2) = true := by decide +kernel
end Go.Proofs.YtgpogeemhaiicaaGreatDoor.Cm
