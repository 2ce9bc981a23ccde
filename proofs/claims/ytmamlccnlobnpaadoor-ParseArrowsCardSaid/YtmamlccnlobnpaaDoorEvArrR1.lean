/- ParseArrows at the remainders 4 to 7, by the kernel's computation. No condition. -/
import Derived.Test.YtmamlccnlobnpaaDoorEvArrA
namespace Go.Proofs.YtmamlccnlobnpaaDoor
open Go.Ev
set_option maxRecDepth 10000000
theorem arr4tt : arrB (Int.ofNat 4) true true = true := by decide +kernel
theorem arr4tf : arrB (Int.ofNat 4) true false = true := by decide +kernel
theorem arr4ft : arrB (Int.ofNat 4) false true = true := by decide +kernel
theorem arr4ff : arrB (Int.ofNat 4) false false = true := by decide +kernel
theorem arr5tt : arrB (Int.ofNat 5) true true = true := by decide +kernel
theorem arr5tf : arrB (Int.ofNat 5) true false = true := by decide +kernel
theorem arr5ft : arrB (Int.ofNat 5) false true = true := by decide +kernel
theorem arr5ff : arrB (Int.ofNat 5) false false = true := by decide +kernel
theorem arr6tt : arrB (Int.ofNat 6) true true = true := by decide +kernel
theorem arr6tf : arrB (Int.ofNat 6) true false = true := by decide +kernel
theorem arr6ft : arrB (Int.ofNat 6) false true = true := by decide +kernel
theorem arr6ff : arrB (Int.ofNat 6) false false = true := by decide +kernel
theorem arr7tt : arrB (Int.ofNat 7) true true = true := by decide +kernel
theorem arr7tf : arrB (Int.ofNat 7) true false = true := by decide +kernel
theorem arr7ft : arrB (Int.ofNat 7) false true = true := by decide +kernel
theorem arr7ff : arrB (Int.ofNat 7) false false = true := by decide +kernel
end Go.Proofs.YtmamlccnlobnpaaDoor
