/- CompileDeep at its classes, part 0, by the kernel's computation. No condition. -/
import Derived.Test.YtoecccbjhmejiaaGreatDoorEvDeepA
namespace Go.Proofs.YtoecccbjhmejiaaGreatDoor
open Go.Ev
set_option maxRecDepth 10000000
theorem deep1x49 : runDeepAll [[.cls 50 49, .cls 7 1]] = true := by decide +kernel
theorem deep1x38 : runDeepAll [[.cls 50 38, .cls 7 1]] = true := by decide +kernel
theorem deep0x48 : runDeepAll [[.cls 50 48, .cls 7 0]] = true := by decide +kernel
theorem deep4x34 : runDeepAll [[.cls 50 34, .cls 7 4]] = true := by decide +kernel
theorem deep1x29 : runDeepAll [[.cls 50 29, .cls 7 1]] = true := by decide +kernel
theorem deep0x36 : runDeepAll [[.cls 50 36, .cls 7 0]] = true := by decide +kernel
theorem deep4x23 : runDeepAll [[.cls 50 23, .cls 7 4]] = true := by decide +kernel
theorem deep0x0 : runDeepAll [[.cls 50 0, .cls 7 0], [.cls 50 1, .cls 7 0], [.cls 50 2, .cls 7 0], [.cls 50 3, .cls 7 0], [.cls 50 4, .cls 7 0], [.cls 50 5, .cls 7 0], [.cls 50 6, .cls 7 0], [.cls 50 7, .cls 7 0]] = true := by decide +kernel
theorem deep3x41 : runDeepAll [[.cls 50 41, .cls 7 3], [.cls 50 42, .cls 7 3], [.cls 50 43, .cls 7 3], [.cls 50 44, .cls 7 3]] = true := by decide +kernel
theorem deep6x23 : runDeepAll [[.cls 50 23, .cls 7 6], [.cls 50 24, .cls 7 6]] = true := by decide +kernel
theorem deep0x26 : runDeepAll [[.cls 50 26, .cls 7 0]] = true := by decide +kernel
theorem deep1x18 : runDeepAll [[.cls 50 18, .cls 7 1]] = true := by decide +kernel
theorem deep1x16 : runDeepAll [[.cls 50 16, .cls 7 1]] = true := by decide +kernel
theorem deep4x16 : runDeepAll [[.cls 50 16, .cls 7 4]] = true := by decide +kernel
theorem deep5x46 : runDeepAll [[.cls 50 46, .cls 7 5]] = true := by decide +kernel
theorem deep0x20 : runDeepAll [[.cls 50 20, .cls 7 0]] = true := by decide +kernel
theorem deep6x34 : runDeepAll [[.cls 50 34, .cls 7 6]] = true := by decide +kernel
theorem deep1x12 : runDeepAll [[.cls 50 12, .cls 7 1]] = true := by decide +kernel
theorem deep2x37 : runDeepAll [[.cls 50 37, .cls 7 2]] = true := by decide +kernel
end Go.Proofs.YtoecccbjhmejiaaGreatDoor
