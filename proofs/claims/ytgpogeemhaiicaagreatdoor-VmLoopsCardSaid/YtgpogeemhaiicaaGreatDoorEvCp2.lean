/- VmLoops: the compiler's call, by the kernel's computation. No condition. -/
import Derived.Test.YtgpogeemhaiicaaGreatDoorEvCm
set_option linter.all false
namespace Go.Proofs.YtgpogeemhaiicaaGreatDoor.Cm
open Go.Ev
set_option maxRecDepth 10000000
theorem cp4 : [(2916, [0, 1, 2, 3, 4, 0, 5, 0, 5, 6]), (3316, [0, 1, 2, 3, 4, 0, 5, 4, 5, 6]), (2216, [0, 1, 2, 3, 4, 0, 5, 5, 5, 6]), (2127, [0, 1, 2, 3, 4, 4, 5, 5, 6, 7]), (3252, [0, 1, 2, 3, 4, 4, 5, 6, 7, 8]), (3277, [0, 1, 2, 3, 4, 4, 5, 0, 6, 7]), (2927, [0, 1, 2, 3, 4, 4, 5, 4, 6, 7]), (3327, [0, 1, 2, 3, 4, 4, 5, 6, 6, 7]), (3257, [0, 1, 2, 3, 4, 4, 0, 5, 6, 7]), (2157, [0, 1, 2, 3, 4, 4, 0, 0, 5, 6])].all (fun x => compB x.1 x.2) = true := by decide +kernel
theorem cp5 : [(2932, [0, 1, 2, 3, 4, 4, 0, 4, 5, 6]), (3332, [0, 1, 2, 3, 4, 4, 0, 5, 5, 6]), (3137, [0, 1, 2, 3, 4, 4, 4, 5, 6, 7]), (3162, [0, 1, 2, 3, 4, 4, 4, 0, 5, 6]), (1687, [0, 1, 2, 3, 4, 4, 4, 4, 5, 6]), (3212, [0, 1, 2, 3, 4, 4, 4, 5, 5, 6]), (3267, [0, 1, 2, 3, 4, 4, 5, 6, 5, 7]), (3292, [0, 1, 2, 3, 4, 4, 5, 0, 5, 6]), (2942, [0, 1, 2, 3, 4, 4, 5, 4, 5, 6]), (2217, [0, 1, 2, 3, 4, 4, 5, 5, 5, 6])].all (fun x => compB x.1 x.2) = true := by decide +kernel
end Go.Proofs.YtgpogeemhaiicaaGreatDoor.Cm
