/- CompileDeep at its classes, part 4, by the kernel's computation. No condition. -/
import Derived.Test.YtoecccbjhmejiaaGreatDoorEvDeepA
namespace Go.Proofs.YtoecccbjhmejiaaGreatDoor
open Go.Ev
set_option maxRecDepth 10000000
theorem deep4x48 : runDeepAll [[.cls 50 48, .cls 7 4]] = true := by decide +kernel
theorem deep1x40 : runDeepAll [[.cls 50 40, .cls 7 1]] = true := by decide +kernel
theorem deep1x37 : runDeepAll [[.cls 50 37, .cls 7 1]] = true := by decide +kernel
theorem deep0x44 : runDeepAll [[.cls 50 44, .cls 7 0]] = true := by decide +kernel
theorem deep1x27 : runDeepAll [[.cls 50 27, .cls 7 1]] = true := by decide +kernel
theorem deep0x38 : runDeepAll [[.cls 50 38, .cls 7 0]] = true := by decide +kernel
theorem deep3x0 : runDeepAll [[.cls 50 0, .cls 7 3], [.cls 50 1, .cls 7 3], [.cls 50 2, .cls 7 3], [.cls 50 3, .cls 7 3], [.cls 50 4, .cls 7 3], [.cls 50 5, .cls 7 3], [.cls 50 6, .cls 7 3], [.cls 50 7, .cls 7 3], [.cls 50 8, .cls 7 3], [.cls 50 9, .cls 7 3], [.cls 50 10, .cls 7 3], [.cls 50 11, .cls 7 3], [.cls 50 12, .cls 7 3], [.cls 50 13, .cls 7 3], [.cls 50 14, .cls 7 3], [.cls 50 15, .cls 7 3], [.cls 50 16, .cls 7 3], [.cls 50 17, .cls 7 3]] = true := by decide +kernel
theorem deep3x18 : runDeepAll [[.cls 50 18, .cls 7 3], [.cls 50 19, .cls 7 3], [.cls 50 20, .cls 7 3], [.cls 50 21, .cls 7 3], [.cls 50 22, .cls 7 3], [.cls 50 23, .cls 7 3], [.cls 50 24, .cls 7 3], [.cls 50 25, .cls 7 3]] = true := by decide +kernel
theorem deep0x29 : runDeepAll [[.cls 50 29, .cls 7 0]] = true := by decide +kernel
theorem deep4x20 : runDeepAll [[.cls 50 20, .cls 7 4]] = true := by decide +kernel
theorem deep2x28 : runDeepAll [[.cls 50 28, .cls 7 2], [.cls 50 29, .cls 7 2]] = true := by decide +kernel
theorem deep0x25 : runDeepAll [[.cls 50 25, .cls 7 0]] = true := by decide +kernel
theorem deep4x17 : runDeepAll [[.cls 50 17, .cls 7 4]] = true := by decide +kernel
theorem deep5x48 : runDeepAll [[.cls 50 48, .cls 7 5]] = true := by decide +kernel
theorem deep4x7 : runDeepAll [[.cls 50 7, .cls 7 4], [.cls 50 8, .cls 7 4]] = true := by decide +kernel
theorem deep5x21 : runDeepAll [[.cls 50 21, .cls 7 5], [.cls 50 22, .cls 7 5]] = true := by decide +kernel
theorem deep5x40 : runDeepAll [[.cls 50 40, .cls 7 5]] = true := by decide +kernel
theorem deep4x13 : runDeepAll [[.cls 50 13, .cls 7 4]] = true := by decide +kernel
theorem deep3x48 : runDeepAll [[.cls 50 48, .cls 7 3], [.cls 50 49, .cls 7 3]] = true := by decide +kernel
theorem deep5x33 : runDeepAll [[.cls 50 33, .cls 7 5]] = true := by decide +kernel
end Go.Proofs.YtoecccbjhmejiaaGreatDoor
