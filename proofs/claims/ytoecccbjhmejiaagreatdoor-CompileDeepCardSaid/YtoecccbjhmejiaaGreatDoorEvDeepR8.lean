/- CompileDeep at its classes, part 8, by the kernel's computation. No condition. -/
import Derived.Test.YtoecccbjhmejiaaGreatDoorEvDeepA
namespace Go.Proofs.YtoecccbjhmejiaaGreatDoor
open Go.Ev
set_option maxRecDepth 10000000
theorem deep4x46 : runDeepAll [[.cls 50 46, .cls 7 4]] = true := by decide +kernel
theorem deep1x42 : runDeepAll [[.cls 50 42, .cls 7 1]] = true := by decide +kernel
theorem deep1x36 : runDeepAll [[.cls 50 36, .cls 7 1]] = true := by decide +kernel
theorem deep1x31 : runDeepAll [[.cls 50 31, .cls 7 1]] = true := by decide +kernel
theorem deep4x29 : runDeepAll [[.cls 50 29, .cls 7 4]] = true := by decide +kernel
theorem deep4x27 : runDeepAll [[.cls 50 27, .cls 7 4]] = true := by decide +kernel
theorem deep0x15 : runDeepAll [[.cls 50 15, .cls 7 0], [.cls 50 16, .cls 7 0]] = true := by decide +kernel
theorem deep0x31 : runDeepAll [[.cls 50 31, .cls 7 0]] = true := by decide +kernel
theorem deep2x0 : runDeepAll [[.cls 50 0, .cls 7 2], [.cls 50 1, .cls 7 2], [.cls 50 2, .cls 7 2], [.cls 50 3, .cls 7 2], [.cls 50 4, .cls 7 2], [.cls 50 5, .cls 7 2], [.cls 50 6, .cls 7 2], [.cls 50 7, .cls 7 2], [.cls 50 8, .cls 7 2], [.cls 50 9, .cls 7 2], [.cls 50 10, .cls 7 2]] = true := by decide +kernel
theorem deep6x10 : runDeepAll [[.cls 50 10, .cls 7 6], [.cls 50 11, .cls 7 6], [.cls 50 12, .cls 7 6], [.cls 50 13, .cls 7 6]] = true := by decide +kernel
theorem deep6x14 : runDeepAll [[.cls 50 14, .cls 7 6], [.cls 50 15, .cls 7 6], [.cls 50 16, .cls 7 6]] = true := by decide +kernel
theorem deep1x17 : runDeepAll [[.cls 50 17, .cls 7 1]] = true := by decide +kernel
theorem deep3x45 : runDeepAll [[.cls 50 45, .cls 7 3], [.cls 50 46, .cls 7 3], [.cls 50 47, .cls 7 3]] = true := by decide +kernel
theorem deep6x39 : runDeepAll [[.cls 50 39, .cls 7 6]] = true := by decide +kernel
theorem deep0x21 : runDeepAll [[.cls 50 21, .cls 7 0]] = true := by decide +kernel
theorem deep4x15 : runDeepAll [[.cls 50 15, .cls 7 4]] = true := by decide +kernel
theorem deep2x41 : runDeepAll [[.cls 50 41, .cls 7 2]] = true := by decide +kernel
theorem deep2x40 : runDeepAll [[.cls 50 40, .cls 7 2]] = true := by decide +kernel
theorem deep2x35 : runDeepAll [[.cls 50 35, .cls 7 2]] = true := by decide +kernel
theorem deep1x11 : runDeepAll [[.cls 50 11, .cls 7 1]] = true := by decide +kernel
end Go.Proofs.YtoecccbjhmejiaaGreatDoor
