/- CompileDeep at its classes, part 7, by the kernel's computation. No condition. -/
import Derived.Test.YtoecccbjhmejiaaGreatDoorEvDeepA
namespace Go.Proofs.YtoecccbjhmejiaaGreatDoor
open Go.Ev
set_option maxRecDepth 10000000
theorem deep1x45 : runDeepAll [[.cls 50 45, .cls 7 1]] = true := by decide +kernel
theorem deep4x43 : runDeepAll [[.cls 50 43, .cls 7 4]] = true := by decide +kernel
theorem deep4x36 : runDeepAll [[.cls 50 36, .cls 7 4]] = true := by decide +kernel
theorem deep0x46 : runDeepAll [[.cls 50 46, .cls 7 0]] = true := by decide +kernel
theorem deep0x43 : runDeepAll [[.cls 50 43, .cls 7 0]] = true := by decide +kernel
theorem deep1x24 : runDeepAll [[.cls 50 24, .cls 7 1]] = true := by decide +kernel
theorem deep0x33 : runDeepAll [[.cls 50 33, .cls 7 0]] = true := by decide +kernel
theorem deep5x31 : runDeepAll [[.cls 50 31, .cls 7 5], [.cls 50 32, .cls 7 5]] = true := by decide +kernel
theorem deep6x49 : runDeepAll [[.cls 50 49, .cls 7 6]] = true := by decide +kernel
theorem deep6x48 : runDeepAll [[.cls 50 48, .cls 7 6]] = true := by decide +kernel
theorem deep4x9 : runDeepAll [[.cls 50 9, .cls 7 4], [.cls 50 10, .cls 7 4]] = true := by decide +kernel
theorem deep4x18 : runDeepAll [[.cls 50 18, .cls 7 4]] = true := by decide +kernel
theorem deep0x11 : runDeepAll [[.cls 50 11, .cls 7 0], [.cls 50 12, .cls 7 0]] = true := by decide +kernel
theorem deep2x24 : runDeepAll [[.cls 50 24, .cls 7 2], [.cls 50 25, .cls 7 2]] = true := by decide +kernel
theorem deep2x46 : runDeepAll [[.cls 50 46, .cls 7 2]] = true := by decide +kernel
theorem deep5x44 : runDeepAll [[.cls 50 44, .cls 7 5]] = true := by decide +kernel
theorem deep1x13 : runDeepAll [[.cls 50 13, .cls 7 1]] = true := by decide +kernel
theorem deep6x31 : runDeepAll [[.cls 50 31, .cls 7 6]] = true := by decide +kernel
theorem deep4x12 : runDeepAll [[.cls 50 12, .cls 7 4]] = true := by decide +kernel
end Go.Proofs.YtoecccbjhmejiaaGreatDoor
