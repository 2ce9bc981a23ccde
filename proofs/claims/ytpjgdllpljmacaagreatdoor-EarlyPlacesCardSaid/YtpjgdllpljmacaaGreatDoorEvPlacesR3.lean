/- Places at its classes, part 3, by the kernel's computation. No condition. -/
import Derived.Test.YtpjgdllpljmacaaGreatDoorEvPlacesA
namespace Go.Proofs.YtpjgdllpljmacaaGreatDoor
open Go.Ev
set_option maxRecDepth 10000000
theorem places30 : runPlacesAll [[.msk 7 6, .cls 10 0], [.msk 7 6, .cls 10 1]] = true := by decide +kernel
theorem places31 : runPlacesAll [[.msk 7 6, .cls 10 2], [.msk 7 6, .cls 10 3]] = true := by decide +kernel
theorem places32 : runPlacesAll [[.msk 7 6, .cls 10 4], [.msk 7 6, .cls 10 5]] = true := by decide +kernel
theorem places33 : runPlacesAll [[.msk 7 6, .cls 10 6], [.msk 7 6, .cls 10 7]] = true := by decide +kernel
theorem places34 : runPlacesAll [[.msk 7 6, .cls 10 8], [.msk 7 6, .cls 10 9]] = true := by decide +kernel
theorem places35 : runPlacesAll [[.msk 7 7, .cls 10 0], [.msk 7 7, .cls 10 1]] = true := by decide +kernel
theorem places36 : runPlacesAll [[.msk 7 7, .cls 10 2], [.msk 7 7, .cls 10 3]] = true := by decide +kernel
theorem places37 : runPlacesAll [[.msk 7 7, .cls 10 4], [.msk 7 7, .cls 10 5]] = true := by decide +kernel
theorem places38 : runPlacesAll [[.msk 7 7, .cls 10 6], [.msk 7 7, .cls 10 7]] = true := by decide +kernel
theorem places39 : runPlacesAll [[.msk 7 7, .cls 10 8], [.msk 7 7, .cls 10 9]] = true := by decide +kernel
end Go.Proofs.YtpjgdllpljmacaaGreatDoor
