/- ParseArrows at the remainders 0 to 3, by the kernel's computation. No condition. -/
import Derived.Test.YtmamlccnlobnpaaDoorEvArrA
namespace Go.Proofs.YtmamlccnlobnpaaDoor
open Go.Ev
set_option maxRecDepth 10000000
theorem arr0tt : arrB (Int.ofNat 0) true true = true := by decide +kernel
theorem arr0tf : arrB (Int.ofNat 0) true false = true := by decide +kernel
theorem arr0ft : arrB (Int.ofNat 0) false true = true := by decide +kernel
theorem arr0ff : arrB (Int.ofNat 0) false false = true := by decide +kernel
theorem arr1tt : arrB (Int.ofNat 1) true true = true := by decide +kernel
theorem arr1tf : arrB (Int.ofNat 1) true false = true := by decide +kernel
theorem arr1ft : arrB (Int.ofNat 1) false true = true := by decide +kernel
theorem arr1ff : arrB (Int.ofNat 1) false false = true := by decide +kernel
theorem arr2tt : arrB (Int.ofNat 2) true true = true := by decide +kernel
theorem arr2tf : arrB (Int.ofNat 2) true false = true := by decide +kernel
theorem arr2ft : arrB (Int.ofNat 2) false true = true := by decide +kernel
theorem arr2ff : arrB (Int.ofNat 2) false false = true := by decide +kernel
theorem arr3tt : arrB (Int.ofNat 3) true true = true := by decide +kernel
theorem arr3tf : arrB (Int.ofNat 3) true false = true := by decide +kernel
theorem arr3ft : arrB (Int.ofNat 3) false true = true := by decide +kernel
theorem arr3ff : arrB (Int.ofNat 3) false false = true := by decide +kernel
end Go.Proofs.YtmamlccnlobnpaaDoor
