/- CompileDeep at its classes, part 10, by the kernel's computation. No condition. -/
import Derived.Test.YtoecccbjhmejiaaGreatDoorEvDeepA
namespace Go.Proofs.YtoecccbjhmejiaaGreatDoor
open Go.Ev
set_option maxRecDepth 10000000
theorem deep4x45 : runDeepAll [[.cls 50 45, .cls 7 4]] = true := by decide +kernel
theorem deep1x43 : runDeepAll [[.cls 50 43, .cls 7 1]] = true := by decide +kernel
theorem deep4x37 : runDeepAll [[.cls 50 37, .cls 7 4]] = true := by decide +kernel
theorem deep0x45 : runDeepAll [[.cls 50 45, .cls 7 0]] = true := by decide +kernel
theorem deep4x30 : runDeepAll [[.cls 50 30, .cls 7 4]] = true := by decide +kernel
theorem deep4x26 : runDeepAll [[.cls 50 26, .cls 7 4]] = true := by decide +kernel
theorem deep1x22 : runDeepAll [[.cls 50 22, .cls 7 1]] = true := by decide +kernel
theorem deep4x22 : runDeepAll [[.cls 50 22, .cls 7 4]] = true := by decide +kernel
theorem deep5x0 : runDeepAll [[.cls 50 0, .cls 7 5], [.cls 50 1, .cls 7 5], [.cls 50 2, .cls 7 5], [.cls 50 3, .cls 7 5], [.cls 50 4, .cls 7 5], [.cls 50 5, .cls 7 5], [.cls 50 6, .cls 7 5], [.cls 50 7, .cls 7 5], [.cls 50 8, .cls 7 5], [.cls 50 9, .cls 7 5], [.cls 50 10, .cls 7 5]] = true := by decide +kernel
theorem deep5x18 : runDeepAll [[.cls 50 18, .cls 7 5], [.cls 50 19, .cls 7 5], [.cls 50 20, .cls 7 5]] = true := by decide +kernel
theorem deep4x19 : runDeepAll [[.cls 50 19, .cls 7 4]] = true := by decide +kernel
theorem deep6x43 : runDeepAll [[.cls 50 43, .cls 7 6]] = true := by decide +kernel
theorem deep1x0 : runDeepAll [[.cls 50 0, .cls 7 1], [.cls 50 1, .cls 7 1], [.cls 50 2, .cls 7 1], [.cls 50 3, .cls 7 1], [.cls 50 4, .cls 7 1], [.cls 50 5, .cls 7 1]] = true := by decide +kernel
theorem deep6x19 : runDeepAll [[.cls 50 19, .cls 7 6], [.cls 50 20, .cls 7 6]] = true := by decide +kernel
theorem deep2x22 : runDeepAll [[.cls 50 22, .cls 7 2], [.cls 50 23, .cls 7 2]] = true := by decide +kernel
theorem deep2x45 : runDeepAll [[.cls 50 45, .cls 7 2]] = true := by decide +kernel
theorem deep0x19 : runDeepAll [[.cls 50 19, .cls 7 0]] = true := by decide +kernel
theorem deep0x18 : runDeepAll [[.cls 50 18, .cls 7 0]] = true := by decide +kernel
theorem deep6x28 : runDeepAll [[.cls 50 28, .cls 7 6]] = true := by decide +kernel
theorem deep2x34 : runDeepAll [[.cls 50 34, .cls 7 2]] = true := by decide +kernel
end Go.Proofs.YtoecccbjhmejiaaGreatDoor
