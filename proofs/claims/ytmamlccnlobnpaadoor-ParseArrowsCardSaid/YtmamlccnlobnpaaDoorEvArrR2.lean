/- ParseArrows at the remainders 8 to 11, by the kernel's computation. No condition. -/
import Derived.Test.YtmamlccnlobnpaaDoorEvArrA
namespace Go.Proofs.YtmamlccnlobnpaaDoor
open Go.Ev
set_option maxRecDepth 10000000
theorem arr8tt : arrB (Int.ofNat 8) true true = true := by decide +kernel
theorem arr8tf : arrB (Int.ofNat 8) true false = true := by decide +kernel
theorem arr8ft : arrB (Int.ofNat 8) false true = true := by decide +kernel
theorem arr8ff : arrB (Int.ofNat 8) false false = true := by decide +kernel
theorem arr9tt : arrB (Int.ofNat 9) true true = true := by decide +kernel
theorem arr9tf : arrB (Int.ofNat 9) true false = true := by decide +kernel
theorem arr9ft : arrB (Int.ofNat 9) false true = true := by decide +kernel
theorem arr9ff : arrB (Int.ofNat 9) false false = true := by decide +kernel
theorem arr10tt : arrB (Int.ofNat 10) true true = true := by decide +kernel
theorem arr10tf : arrB (Int.ofNat 10) true false = true := by decide +kernel
theorem arr10ft : arrB (Int.ofNat 10) false true = true := by decide +kernel
theorem arr10ff : arrB (Int.ofNat 10) false false = true := by decide +kernel
theorem arr11tt : arrB (Int.ofNat 11) true true = true := by decide +kernel
theorem arr11tf : arrB (Int.ofNat 11) true false = true := by decide +kernel
theorem arr11ft : arrB (Int.ofNat 11) false true = true := by decide +kernel
theorem arr11ff : arrB (Int.ofNat 11) false false = true := by decide +kernel
end Go.Proofs.YtmamlccnlobnpaaDoor
