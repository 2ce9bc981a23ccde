/- CompileDeep at its classes, part 3, by the kernel's computation. No condition. -/
import Derived.Test.YtoecccbjhmejiaaGreatDoorEvDeepA
namespace Go.Proofs.YtoecccbjhmejiaaGreatDoor
open Go.Ev
set_option maxRecDepth 10000000
theorem deep1x47 : runDeepAll [[.cls 50 47, .cls 7 1]] = true := by decide +kernel
theorem deep4x41 : runDeepAll [[.cls 50 41, .cls 7 4]] = true := by decide +kernel
theorem deep0x49 : runDeepAll [[.cls 50 49, .cls 7 0]] = true := by decide +kernel
theorem deep0x47 : runDeepAll [[.cls 50 47, .cls 7 0]] = true := by decide +kernel
theorem deep0x42 : runDeepAll [[.cls 50 42, .cls 7 0]] = true := by decide +kernel
theorem deep0x35 : runDeepAll [[.cls 50 35, .cls 7 0]] = true := by decide +kernel
theorem deep0x34 : runDeepAll [[.cls 50 34, .cls 7 0]] = true := by decide +kernel
theorem deep0x30 : runDeepAll [[.cls 50 30, .cls 7 0]] = true := by decide +kernel
theorem deep5x29 : runDeepAll [[.cls 50 29, .cls 7 5], [.cls 50 30, .cls 7 5]] = true := by decide +kernel
theorem deep0x28 : runDeepAll [[.cls 50 28, .cls 7 0]] = true := by decide +kernel
theorem deep6x46 : runDeepAll [[.cls 50 46, .cls 7 6]] = true := by decide +kernel
theorem deep2x26 : runDeepAll [[.cls 50 26, .cls 7 2], [.cls 50 27, .cls 7 2]] = true := by decide +kernel
theorem deep6x41 : runDeepAll [[.cls 50 41, .cls 7 6]] = true := by decide +kernel
theorem deep5x47 : runDeepAll [[.cls 50 47, .cls 7 5]] = true := by decide +kernel
theorem deep1x15 : runDeepAll [[.cls 50 15, .cls 7 1]] = true := by decide +kernel
theorem deep2x44 : runDeepAll [[.cls 50 44, .cls 7 2]] = true := by decide +kernel
theorem deep4x14 : runDeepAll [[.cls 50 14, .cls 7 4]] = true := by decide +kernel
theorem deep5x37 : runDeepAll [[.cls 50 37, .cls 7 5]] = true := by decide +kernel
theorem deep5x36 : runDeepAll [[.cls 50 36, .cls 7 5]] = true := by decide +kernel
end Go.Proofs.YtoecccbjhmejiaaGreatDoor
