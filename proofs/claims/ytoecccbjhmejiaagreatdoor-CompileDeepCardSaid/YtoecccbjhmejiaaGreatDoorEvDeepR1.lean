/- CompileDeep at its classes, part 1, by the kernel's computation. No condition. -/
import Derived.Test.YtoecccbjhmejiaaGreatDoorEvDeepA
namespace Go.Proofs.YtoecccbjhmejiaaGreatDoor
open Go.Ev
set_option maxRecDepth 10000000
theorem deep1x48 : runDeepAll [[.cls 50 48, .cls 7 1]] = true := by decide +kernel
theorem deep4x40 : runDeepAll [[.cls 50 40, .cls 7 4]] = true := by decide +kernel
theorem deep4x35 : runDeepAll [[.cls 50 35, .cls 7 4]] = true := by decide +kernel
theorem deep1x33 : runDeepAll [[.cls 50 33, .cls 7 1]] = true := by decide +kernel
theorem deep1x28 : runDeepAll [[.cls 50 28, .cls 7 1]] = true := by decide +kernel
theorem deep1x26 : runDeepAll [[.cls 50 26, .cls 7 1]] = true := by decide +kernel
theorem deep4x0 : runDeepAll [[.cls 50 0, .cls 7 4], [.cls 50 1, .cls 7 4], [.cls 50 2, .cls 7 4], [.cls 50 3, .cls 7 4], [.cls 50 4, .cls 7 4], [.cls 50 5, .cls 7 4], [.cls 50 6, .cls 7 4]] = true := by decide +kernel
theorem deep1x6 : runDeepAll [[.cls 50 6, .cls 7 1], [.cls 50 7, .cls 7 1], [.cls 50 8, .cls 7 1]] = true := by decide +kernel
theorem deep1x20 : runDeepAll [[.cls 50 20, .cls 7 1]] = true := by decide +kernel
theorem deep1x9 : runDeepAll [[.cls 50 9, .cls 7 1], [.cls 50 10, .cls 7 1]] = true := by decide +kernel
theorem deep3x37 : runDeepAll [[.cls 50 37, .cls 7 3], [.cls 50 38, .cls 7 3], [.cls 50 39, .cls 7 3], [.cls 50 40, .cls 7 3]] = true := by decide +kernel
theorem deep5x11 : runDeepAll [[.cls 50 11, .cls 7 5], [.cls 50 12, .cls 7 5], [.cls 50 13, .cls 7 5], [.cls 50 14, .cls 7 5]] = true := by decide +kernel
theorem deep2x16 : runDeepAll [[.cls 50 16, .cls 7 2], [.cls 50 17, .cls 7 2], [.cls 50 18, .cls 7 2]] = true := by decide +kernel
theorem deep0x22 : runDeepAll [[.cls 50 22, .cls 7 0]] = true := by decide +kernel
theorem deep2x48 : runDeepAll [[.cls 50 48, .cls 7 2]] = true := by decide +kernel
theorem deep5x42 : runDeepAll [[.cls 50 42, .cls 7 5]] = true := by decide +kernel
theorem deep2x43 : runDeepAll [[.cls 50 43, .cls 7 2]] = true := by decide +kernel
theorem deep2x38 : runDeepAll [[.cls 50 38, .cls 7 2]] = true := by decide +kernel
theorem deep6x29 : runDeepAll [[.cls 50 29, .cls 7 6]] = true := by decide +kernel
end Go.Proofs.YtoecccbjhmejiaaGreatDoor
