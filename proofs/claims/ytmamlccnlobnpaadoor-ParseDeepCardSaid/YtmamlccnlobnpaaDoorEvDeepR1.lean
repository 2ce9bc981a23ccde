/- ParseDeep at the kind 1, by the kernel's computation. No condition. -/
import Derived.Test.YtmamlccnlobnpaaDoorEvDeepA
namespace Go.Proofs.YtmamlccnlobnpaaDoor
open Go.Ev
set_option maxRecDepth 10000000
theorem deep0w1 : deepB (subI .i64 (Int.ofNat 0) 2) (Int.ofNat 1) = true := by decide +kernel
theorem deep1w1 : deepB (subI .i64 (Int.ofNat 1) 2) (Int.ofNat 1) = true := by decide +kernel
theorem deep2w1 : deepB (subI .i64 (Int.ofNat 2) 2) (Int.ofNat 1) = true := by decide +kernel
theorem deep3w1 : deepB (subI .i64 (Int.ofNat 3) 2) (Int.ofNat 1) = true := by decide +kernel
end Go.Proofs.YtmamlccnlobnpaaDoor
