/- VmLoops: the compiler's call, by the kernel's computation. No condition. -/
import Derived.Test.YtgpogeemhaiicaaGreatDoorEvCm
set_option linter.all false
namespace Go.Proofs.YtgpogeemhaiicaaGreatDoor.Cm
open Go.Ev
set_option maxRecDepth 10000000
theorem cp2 : [(3335, [0, 1, 2, 3, 4, 5, 4, 6, 6, 7]), (2890, [0, 1, 2, 3, 4, 5, 6, 5, 6, 7]), (3265, [0, 1, 2, 3, 4, 5, 6, 7, 6, 8]), (3290, [0, 1, 2, 3, 4, 5, 6, 0, 6, 7]), (3315, [0, 1, 2, 3, 4, 5, 6, 4, 6, 7]), (2215, [0, 1, 2, 3, 4, 5, 6, 6, 6, 7]), (2126, [0, 1, 2, 3, 4, 0, 5, 5, 6, 7]), (3251, [0, 1, 2, 3, 4, 0, 5, 6, 7, 8]), (2901, [0, 1, 2, 3, 4, 0, 5, 0, 6, 7]), (3301, [0, 1, 2, 3, 4, 0, 5, 4, 6, 7])].all (fun x => compB x.1 x.2) = true := by decide +kernel
theorem cp3 : [(3326, [0, 1, 2, 3, 4, 0, 5, 6, 6, 7]), (3131, [0, 1, 2, 3, 4, 0, 0, 5, 6, 7]), (1656, [0, 1, 2, 3, 4, 0, 0, 0, 5, 6]), (3181, [0, 1, 2, 3, 4, 0, 0, 4, 5, 6]), (3206, [0, 1, 2, 3, 4, 0, 0, 5, 5, 6]), (3261, [0, 1, 2, 3, 4, 0, 4, 5, 6, 7]), (2911, [0, 1, 2, 3, 4, 0, 4, 0, 5, 6]), (2186, [0, 1, 2, 3, 4, 0, 4, 4, 5, 6]), (3336, [0, 1, 2, 3, 4, 0, 4, 5, 5, 6]), (3266, [0, 1, 2, 3, 4, 0, 5, 6, 5, 7])].all (fun x => compB x.1 x.2) = true := by decide +kernel
end Go.Proofs.YtgpogeemhaiicaaGreatDoor.Cm
