/- Places at its classes, part 0, by the kernel's computation. No condition. -/
import Derived.Test.YtpjgdllpljmacaaGreatDoorEvPlacesA
namespace Go.Proofs.YtpjgdllpljmacaaGreatDoor
open Go.Ev
set_option maxRecDepth 10000000
theorem places0 : runPlacesAll [[.msk 7 0, .cls 10 0], [.msk 7 0, .cls 10 1]] = true := by decide +kernel
theorem places1 : runPlacesAll [[.msk 7 0, .cls 10 2], [.msk 7 0, .cls 10 3]] = true := by decide +kernel
theorem places2 : runPlacesAll [[.msk 7 0, .cls 10 4], [.msk 7 0, .cls 10 5]] = true := by decide +kernel
theorem places3 : runPlacesAll [[.msk 7 0, .cls 10 6], [.msk 7 0, .cls 10 7]] = true := by decide +kernel
theorem places4 : runPlacesAll [[.msk 7 0, .cls 10 8], [.msk 7 0, .cls 10 9]] = true := by decide +kernel
theorem places5 : runPlacesAll [[.msk 7 1, .cls 10 0], [.msk 7 1, .cls 10 1]] = true := by decide +kernel
theorem places6 : runPlacesAll [[.msk 7 1, .cls 10 2], [.msk 7 1, .cls 10 3]] = true := by decide +kernel
theorem places7 : runPlacesAll [[.msk 7 1, .cls 10 4], [.msk 7 1, .cls 10 5]] = true := by decide +kernel
theorem places8 : runPlacesAll [[.msk 7 1, .cls 10 6], [.msk 7 1, .cls 10 7]] = true := by decide +kernel
theorem places9 : runPlacesAll [[.msk 7 1, .cls 10 8], [.msk 7 1, .cls 10 9]] = true := by decide +kernel
end Go.Proofs.YtpjgdllpljmacaaGreatDoor
