/- Nested at its classes, part 1, by the kernel's computation. No condition. -/
import Derived.Test.YtpjgdllpljmacaaGreatDoorEwNestedA
namespace Go.Proofs.YtpjgdllpljmacaaGreatDoor
open Go.Ev
set_option maxRecDepth 10000000
theorem nested9 : runNestedAll [[.cls 6 1, .cls 6 3]] = true := by decide +kernel
theorem nested10 : runNestedAll [[.cls 6 1, .cls 6 4]] = true := by decide +kernel
theorem nested11 : runNestedAll [[.cls 6 1, .cls 6 5]] = true := by decide +kernel
theorem nested12 : runNestedAll [[.cls 6 2, .cls 6 0]] = true := by decide +kernel
theorem nested13 : runNestedAll [[.cls 6 2, .cls 6 1]] = true := by decide +kernel
theorem nested14 : runNestedAll [[.cls 6 2, .cls 6 2]] = true := by decide +kernel
theorem nested15 : runNestedAll [[.cls 6 2, .cls 6 3]] = true := by decide +kernel
theorem nested16 : runNestedAll [[.cls 6 2, .cls 6 4]] = true := by decide +kernel
theorem nested17 : runNestedAll [[.cls 6 2, .cls 6 5]] = true := by decide +kernel
end Go.Proofs.YtpjgdllpljmacaaGreatDoor
