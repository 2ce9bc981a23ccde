/- Places at its classes, part 1, by the kernel's computation. No condition. -/
import Derived.Test.YtpjgdllpljmacaaGreatDoorEvPlacesA
namespace Go.Proofs.YtpjgdllpljmacaaGreatDoor
open Go.Ev
set_option maxRecDepth 10000000
theorem places10 : runPlacesAll [[.msk 7 2, .cls 10 0], [.msk 7 2, .cls 10 1]] = true := by decide +kernel
theorem places11 : runPlacesAll [[.msk 7 2, .cls 10 2], [.msk 7 2, .cls 10 3]] = true := by decide +kernel
theorem places12 : runPlacesAll [[.msk 7 2, .cls 10 4], [.msk 7 2, .cls 10 5]] = true := by decide +kernel
theorem places13 : runPlacesAll [[.msk 7 2, .cls 10 6], [.msk 7 2, .cls 10 7]] = true := by decide +kernel
theorem places14 : runPlacesAll [[.msk 7 2, .cls 10 8], [.msk 7 2, .cls 10 9]] = true := by decide +kernel
theorem places15 : runPlacesAll [[.msk 7 3, .cls 10 0], [.msk 7 3, .cls 10 1]] = true := by decide +kernel
theorem places16 : runPlacesAll [[.msk 7 3, .cls 10 2], [.msk 7 3, .cls 10 3]] = true := by decide +kernel
theorem places17 : runPlacesAll [[.msk 7 3, .cls 10 4], [.msk 7 3, .cls 10 5]] = true := by decide +kernel
theorem places18 : runPlacesAll [[.msk 7 3, .cls 10 6], [.msk 7 3, .cls 10 7]] = true := by decide +kernel
theorem places19 : runPlacesAll [[.msk 7 3, .cls 10 8], [.msk 7 3, .cls 10 9]] = true := by decide +kernel
end Go.Proofs.YtpjgdllpljmacaaGreatDoor
