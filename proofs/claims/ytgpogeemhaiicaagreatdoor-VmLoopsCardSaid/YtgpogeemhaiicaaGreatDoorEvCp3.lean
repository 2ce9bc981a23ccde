/- VmLoops: the compiler's call, by the kernel's computation. No condition. -/
import Derived.Test.YtgpogeemhaiicaaGreatDoorEvCm
set_option linter.all false
namespace Go.Proofs.YtgpogeemhaiicaaGreatDoor.Cm
open Go.Ev
set_option maxRecDepth 10000000
theorem cp6 : [(2128, [0, 1, 2, 3, 4, 5, 6, 6, 5, 7]), (3253, [0, 1, 2, 3, 4, 5, 6, 7, 5, 8]), (3278, [0, 1, 2, 3, 4, 5, 6, 0, 5, 7]), (3303, [0, 1, 2, 3, 4, 5, 6, 4, 5, 7]), (2953, [0, 1, 2, 3, 4, 5, 6, 5, 5, 7]), (3258, [0, 1, 2, 3, 4, 5, 0, 6, 5, 7]), (2158, [0, 1, 2, 3, 4, 5, 0, 0, 5, 6]), (3308, [0, 1, 2, 3, 4, 5, 0, 4, 5, 6]), (2958, [0, 1, 2, 3, 4, 5, 0, 5, 5, 6]), (3263, [0, 1, 2, 3, 4, 5, 4, 6, 5, 7])].all (fun x => compB x.1 x.2) = true := by decide +kernel
theorem cp7 : [(3288, [0, 1, 2, 3, 4, 5, 4, 0, 5, 6]), (2188, [0, 1, 2, 3, 4, 5, 4, 4, 5, 6]), (2963, [0, 1, 2, 3, 4, 5, 4, 5, 5, 6]), (3143, [0, 1, 2, 3, 4, 5, 5, 6, 5, 7]), (3168, [0, 1, 2, 3, 4, 5, 5, 0, 5, 6]), (3193, [0, 1, 2, 3, 4, 5, 5, 4, 5, 6]), (1718, [0, 1, 2, 3, 4, 5, 5, 5, 5, 6])].all (fun x => compB x.1 x.2) = true := by decide +kernel
end Go.Proofs.YtgpogeemhaiicaaGreatDoor.Cm
