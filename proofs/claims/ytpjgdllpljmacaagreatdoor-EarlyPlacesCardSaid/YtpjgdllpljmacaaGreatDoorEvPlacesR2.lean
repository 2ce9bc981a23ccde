/- Places at its classes, part 2, by the kernel's computation. No condition. -/
import Derived.Test.YtpjgdllpljmacaaGreatDoorEvPlacesA
namespace Go.Proofs.YtpjgdllpljmacaaGreatDoor
open Go.Ev
set_option maxRecDepth 10000000
theorem places20 : runPlacesAll [[.msk 7 4, .cls 10 0], [.msk 7 4, .cls 10 1]] = true := by decide +kernel
theorem places21 : runPlacesAll [[.msk 7 4, .cls 10 2], [.msk 7 4, .cls 10 3]] = true := by decide +kernel
theorem places22 : runPlacesAll [[.msk 7 4, .cls 10 4], [.msk 7 4, .cls 10 5]] = true := by decide +kernel
theorem places23 : runPlacesAll [[.msk 7 4, .cls 10 6], [.msk 7 4, .cls 10 7]] = true := by decide +kernel
theorem places24 : runPlacesAll [[.msk 7 4, .cls 10 8], [.msk 7 4, .cls 10 9]] = true := by decide +kernel
theorem places25 : runPlacesAll [[.msk 7 5, .cls 10 0], [.msk 7 5, .cls 10 1]] = true := by decide +kernel
theorem places26 : runPlacesAll [[.msk 7 5, .cls 10 2], [.msk 7 5, .cls 10 3]] = true := by decide +kernel
theorem places27 : runPlacesAll [[.msk 7 5, .cls 10 4], [.msk 7 5, .cls 10 5]] = true := by decide +kernel
theorem places28 : runPlacesAll [[.msk 7 5, .cls 10 6], [.msk 7 5, .cls 10 7]] = true := by decide +kernel
theorem places29 : runPlacesAll [[.msk 7 5, .cls 10 8], [.msk 7 5, .cls 10 9]] = true := by decide +kernel
end Go.Proofs.YtpjgdllpljmacaaGreatDoor
