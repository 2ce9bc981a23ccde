/- Nested at its classes, part 3, by the kernel's computation. No condition. -/
import Derived.Test.YtpjgdllpljmacaaGreatDoorEwNestedA
namespace Go.Proofs.YtpjgdllpljmacaaGreatDoor
open Go.Ev
set_option maxRecDepth 10000000
theorem nested27 : runNestedAll [[.cls 6 4, .cls 6 3]] = true := by decide +kernel
theorem nested28 : runNestedAll [[.cls 6 4, .cls 6 4]] = true := by decide +kernel
theorem nested29 : runNestedAll [[.cls 6 4, .cls 6 5]] = true := by decide +kernel
theorem nested30 : runNestedAll [[.cls 6 5, .cls 6 0]] = true := by decide +kernel
theorem nested31 : runNestedAll [[.cls 6 5, .cls 6 1]] = true := by decide +kernel
theorem nested32 : runNestedAll [[.cls 6 5, .cls 6 2]] = true := by decide +kernel
theorem nested33 : runNestedAll [[.cls 6 5, .cls 6 3]] = true := by decide +kernel
theorem nested34 : runNestedAll [[.cls 6 5, .cls 6 4]] = true := by decide +kernel
theorem nested35 : runNestedAll [[.cls 6 5, .cls 6 5]] = true := by decide +kernel
end Go.Proofs.YtpjgdllpljmacaaGreatDoor
