/- Nested at its classes, part 2, by the kernel's computation. No condition. -/
import Derived.Test.YtpjgdllpljmacaaGreatDoorEwNestedA
namespace Go.Proofs.YtpjgdllpljmacaaGreatDoor
open Go.Ev
set_option maxRecDepth 10000000
theorem nested18 : runNestedAll [[.cls 6 3, .cls 6 0]] = true := by decide +kernel
theorem nested19 : runNestedAll [[.cls 6 3, .cls 6 1]] = true := by decide +kernel
theorem nested20 : runNestedAll [[.cls 6 3, .cls 6 2]] = true := by decide +kernel
theorem nested21 : runNestedAll [[.cls 6 3, .cls 6 3]] = true := by decide +kernel
theorem nested22 : runNestedAll [[.cls 6 3, .cls 6 4]] = true := by decide +kernel
theorem nested23 : runNestedAll [[.cls 6 3, .cls 6 5]] = true := by decide +kernel
theorem nested24 : runNestedAll [[.cls 6 4, .cls 6 0]] = true := by decide +kernel
theorem nested25 : runNestedAll [[.cls 6 4, .cls 6 1]] = true := by decide +kernel
theorem nested26 : runNestedAll [[.cls 6 4, .cls 6 2]] = true := by decide +kernel
end Go.Proofs.YtpjgdllpljmacaaGreatDoor
