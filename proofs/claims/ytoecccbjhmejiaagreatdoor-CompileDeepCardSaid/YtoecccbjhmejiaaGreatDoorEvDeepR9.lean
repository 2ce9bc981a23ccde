/- CompileDeep at its classes, part 9, by the kernel's computation. No condition. -/
import Derived.Test.YtoecccbjhmejiaaGreatDoorEvDeepA
namespace Go.Proofs.YtoecccbjhmejiaaGreatDoor
open Go.Ev
set_option maxRecDepth 10000000
theorem deep1x44 : runDeepAll [[.cls 50 44, .cls 7 1]] = true := by decide +kernel
theorem deep4x44 : runDeepAll [[.cls 50 44, .cls 7 4]] = true := by decide +kernel
theorem deep1x35 : runDeepAll [[.cls 50 35, .cls 7 1]] = true := by decide +kernel
theorem deep4x33 : runDeepAll [[.cls 50 33, .cls 7 4]] = true := by decide +kernel
theorem deep0x41 : runDeepAll [[.cls 50 41, .cls 7 0]] = true := by decide +kernel
theorem deep1x25 : runDeepAll [[.cls 50 25, .cls 7 1]] = true := by decide +kernel
theorem deep1x23 : runDeepAll [[.cls 50 23, .cls 7 1]] = true := by decide +kernel
theorem deep6x25 : runDeepAll [[.cls 50 25, .cls 7 6], [.cls 50 26, .cls 7 6]] = true := by decide +kernel
theorem deep2x30 : runDeepAll [[.cls 50 30, .cls 7 2], [.cls 50 31, .cls 7 2]] = true := by decide +kernel
theorem deep2x19 : runDeepAll [[.cls 50 19, .cls 7 2], [.cls 50 20, .cls 7 2], [.cls 50 21, .cls 7 2]] = true := by decide +kernel
theorem deep0x13 : runDeepAll [[.cls 50 13, .cls 7 0], [.cls 50 14, .cls 7 0]] = true := by decide +kernel
theorem deep5x25 : runDeepAll [[.cls 50 25, .cls 7 5], [.cls 50 26, .cls 7 5]] = true := by decide +kernel
theorem deep5x15 : runDeepAll [[.cls 50 15, .cls 7 5], [.cls 50 16, .cls 7 5], [.cls 50 17, .cls 7 5]] = true := by decide +kernel
theorem deep0x23 : runDeepAll [[.cls 50 23, .cls 7 0]] = true := by decide +kernel
theorem deep6x36 : runDeepAll [[.cls 50 36, .cls 7 6]] = true := by decide +kernel
theorem deep6x35 : runDeepAll [[.cls 50 35, .cls 7 6]] = true := by decide +kernel
theorem deep2x42 : runDeepAll [[.cls 50 42, .cls 7 2]] = true := by decide +kernel
theorem deep5x38 : runDeepAll [[.cls 50 38, .cls 7 5]] = true := by decide +kernel
theorem deep2x36 : runDeepAll [[.cls 50 36, .cls 7 2]] = true := by decide +kernel
end Go.Proofs.YtoecccbjhmejiaaGreatDoor
