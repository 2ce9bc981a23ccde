/- CompileDeep at its classes, part 6, by the kernel's computation. No condition. -/
import Derived.Test.YtoecccbjhmejiaaGreatDoorEvDeepA
namespace Go.Proofs.YtoecccbjhmejiaaGreatDoor
open Go.Ev
set_option maxRecDepth 10000000
theorem deep4x47 : runDeepAll [[.cls 50 47, .cls 7 4]] = true := by decide +kernel
theorem deep1x41 : runDeepAll [[.cls 50 41, .cls 7 1]] = true := by decide +kernel
theorem deep4x38 : runDeepAll [[.cls 50 38, .cls 7 4]] = true := by decide +kernel
theorem deep4x32 : runDeepAll [[.cls 50 32, .cls 7 4]] = true := by decide +kernel
theorem deep0x40 : runDeepAll [[.cls 50 40, .cls 7 0]] = true := by decide +kernel
theorem deep0x37 : runDeepAll [[.cls 50 37, .cls 7 0]] = true := by decide +kernel
theorem deep0x32 : runDeepAll [[.cls 50 32, .cls 7 0]] = true := by decide +kernel
theorem deep1x21 : runDeepAll [[.cls 50 21, .cls 7 1]] = true := by decide +kernel
theorem deep3x32 : runDeepAll [[.cls 50 32, .cls 7 3], [.cls 50 33, .cls 7 3], [.cls 50 34, .cls 7 3], [.cls 50 35, .cls 7 3], [.cls 50 36, .cls 7 3]] = true := by decide +kernel
theorem deep6x47 : runDeepAll [[.cls 50 47, .cls 7 6]] = true := by decide +kernel
theorem deep5x27 : runDeepAll [[.cls 50 27, .cls 7 5], [.cls 50 28, .cls 7 5]] = true := by decide +kernel
theorem deep6x21 : runDeepAll [[.cls 50 21, .cls 7 6], [.cls 50 22, .cls 7 6]] = true := by decide +kernel
theorem deep6x40 : runDeepAll [[.cls 50 40, .cls 7 6]] = true := by decide +kernel
theorem deep2x49 : runDeepAll [[.cls 50 49, .cls 7 2]] = true := by decide +kernel
theorem deep2x47 : runDeepAll [[.cls 50 47, .cls 7 2]] = true := by decide +kernel
theorem deep1x14 : runDeepAll [[.cls 50 14, .cls 7 1]] = true := by decide +kernel
theorem deep5x41 : runDeepAll [[.cls 50 41, .cls 7 5]] = true := by decide +kernel
theorem deep6x30 : runDeepAll [[.cls 50 30, .cls 7 6]] = true := by decide +kernel
theorem deep0x17 : runDeepAll [[.cls 50 17, .cls 7 0]] = true := by decide +kernel
end Go.Proofs.YtoecccbjhmejiaaGreatDoor
