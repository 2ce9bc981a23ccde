/- CompileDeep at its classes, part 2, by the kernel's computation. No condition. -/
import Derived.Test.YtoecccbjhmejiaaGreatDoorEvDeepA
namespace Go.Proofs.YtoecccbjhmejiaaGreatDoor
open Go.Ev
set_option maxRecDepth 10000000
theorem deep4x49 : runDeepAll [[.cls 50 49, .cls 7 4]] = true := by decide +kernel
theorem deep1x39 : runDeepAll [[.cls 50 39, .cls 7 1]] = true := by decide +kernel
theorem deep4x39 : runDeepAll [[.cls 50 39, .cls 7 4]] = true := by decide +kernel
theorem deep1x30 : runDeepAll [[.cls 50 30, .cls 7 1]] = true := by decide +kernel
theorem deep0x39 : runDeepAll [[.cls 50 39, .cls 7 0]] = true := by decide +kernel
theorem deep4x28 : runDeepAll [[.cls 50 28, .cls 7 4]] = true := by decide +kernel
theorem deep2x11 : runDeepAll [[.cls 50 11, .cls 7 2], [.cls 50 12, .cls 7 2], [.cls 50 13, .cls 7 2], [.cls 50 14, .cls 7 2], [.cls 50 15, .cls 7 2]] = true := by decide +kernel
theorem deep3x26 : runDeepAll [[.cls 50 26, .cls 7 3], [.cls 50 27, .cls 7 3], [.cls 50 28, .cls 7 3], [.cls 50 29, .cls 7 3], [.cls 50 30, .cls 7 3], [.cls 50 31, .cls 7 3]] = true := by decide +kernel
theorem deep6x0 : runDeepAll [[.cls 50 0, .cls 7 6], [.cls 50 1, .cls 7 6], [.cls 50 2, .cls 7 6], [.cls 50 3, .cls 7 6], [.cls 50 4, .cls 7 6], [.cls 50 5, .cls 7 6], [.cls 50 6, .cls 7 6], [.cls 50 7, .cls 7 6], [.cls 50 8, .cls 7 6], [.cls 50 9, .cls 7 6]] = true := by decide +kernel
theorem deep1x19 : runDeepAll [[.cls 50 19, .cls 7 1]] = true := by decide +kernel
theorem deep0x27 : runDeepAll [[.cls 50 27, .cls 7 0]] = true := by decide +kernel
theorem deep6x42 : runDeepAll [[.cls 50 42, .cls 7 6]] = true := by decide +kernel
theorem deep0x24 : runDeepAll [[.cls 50 24, .cls 7 0]] = true := by decide +kernel
theorem deep6x38 : runDeepAll [[.cls 50 38, .cls 7 6]] = true := by decide +kernel
theorem deep6x37 : runDeepAll [[.cls 50 37, .cls 7 6]] = true := by decide +kernel
theorem deep5x43 : runDeepAll [[.cls 50 43, .cls 7 5]] = true := by decide +kernel
theorem deep6x33 : runDeepAll [[.cls 50 33, .cls 7 6]] = true := by decide +kernel
theorem deep2x39 : runDeepAll [[.cls 50 39, .cls 7 2]] = true := by decide +kernel
theorem deep5x35 : runDeepAll [[.cls 50 35, .cls 7 5]] = true := by decide +kernel
theorem deep4x11 : runDeepAll [[.cls 50 11, .cls 7 4]] = true := by decide +kernel
end Go.Proofs.YtoecccbjhmejiaaGreatDoor
