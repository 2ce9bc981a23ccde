/- Nested at its classes, part 0, by the kernel's computation. No condition. -/
import Derived.Test.YtpjgdllpljmacaaGreatDoorEwNestedA
namespace Go.Proofs.YtpjgdllpljmacaaGreatDoor
open Go.Ev
set_option maxRecDepth 10000000
theorem nested0 : runNestedAll [[.cls 6 0, .cls 6 0]] = true := by decide +kernel
theorem nested1 : runNestedAll [[.cls 6 0, .cls 6 1]] = true := by decide +kernel
theorem nested2 : runNestedAll [[.cls 6 0, .cls 6 2]] = true := by decide +kernel
theorem nested3 : runNestedAll [[.cls 6 0, .cls 6 3]] = true := by decide +kernel
theorem nested4 : runNestedAll [[.cls 6 0, .cls 6 4]] = true := by decide +kernel
theorem nested5 : runNestedAll [[.cls 6 0, .cls 6 5]] = true := by decide +kernel
theorem nested6 : runNestedAll [[.cls 6 1, .cls 6 0]] = true := by decide +kernel
theorem nested7 : runNestedAll [[.cls 6 1, .cls 6 1]] = true := by decide +kernel
theorem nested8 : runNestedAll [[.cls 6 1, .cls 6 2]] = true := by decide +kernel
end Go.Proofs.YtpjgdllpljmacaaGreatDoor
