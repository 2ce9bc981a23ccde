/- CompileDeep at its classes, part 5, by the kernel's computation. No condition. -/
import Derived.Test.YtoecccbjhmejiaaGreatDoorEvDeepA
namespace Go.Proofs.YtoecccbjhmejiaaGreatDoor
open Go.Ev
set_option maxRecDepth 10000000
theorem deep1x46 : runDeepAll [[.cls 50 46, .cls 7 1]] = true := by decide +kernel
theorem deep4x42 : runDeepAll [[.cls 50 42, .cls 7 4]] = true := by decide +kernel
theorem deep1x34 : runDeepAll [[.cls 50 34, .cls 7 1]] = true := by decide +kernel
theorem deep1x32 : runDeepAll [[.cls 50 32, .cls 7 1]] = true := by decide +kernel
theorem deep4x31 : runDeepAll [[.cls 50 31, .cls 7 4]] = true := by decide +kernel
theorem deep4x25 : runDeepAll [[.cls 50 25, .cls 7 4]] = true := by decide +kernel
theorem deep4x24 : runDeepAll [[.cls 50 24, .cls 7 4]] = true := by decide +kernel
theorem deep2x32 : runDeepAll [[.cls 50 32, .cls 7 2], [.cls 50 33, .cls 7 2]] = true := by decide +kernel
theorem deep4x21 : runDeepAll [[.cls 50 21, .cls 7 4]] = true := by decide +kernel
theorem deep0x8 : runDeepAll [[.cls 50 8, .cls 7 0], [.cls 50 9, .cls 7 0], [.cls 50 10, .cls 7 0]] = true := by decide +kernel
theorem deep6x45 : runDeepAll [[.cls 50 45, .cls 7 6]] = true := by decide +kernel
theorem deep6x44 : runDeepAll [[.cls 50 44, .cls 7 6]] = true := by decide +kernel
theorem deep5x49 : runDeepAll [[.cls 50 49, .cls 7 5]] = true := by decide +kernel
theorem deep5x23 : runDeepAll [[.cls 50 23, .cls 7 5], [.cls 50 24, .cls 7 5]] = true := by decide +kernel
theorem deep5x45 : runDeepAll [[.cls 50 45, .cls 7 5]] = true := by decide +kernel
theorem deep6x17 : runDeepAll [[.cls 50 17, .cls 7 6], [.cls 50 18, .cls 7 6]] = true := by decide +kernel
theorem deep6x32 : runDeepAll [[.cls 50 32, .cls 7 6]] = true := by decide +kernel
theorem deep5x39 : runDeepAll [[.cls 50 39, .cls 7 5]] = true := by decide +kernel
theorem deep5x34 : runDeepAll [[.cls 50 34, .cls 7 5]] = true := by decide +kernel
theorem deep6x27 : runDeepAll [[.cls 50 27, .cls 7 6]] = true := by decide +kernel
end Go.Proofs.YtoecccbjhmejiaaGreatDoor
