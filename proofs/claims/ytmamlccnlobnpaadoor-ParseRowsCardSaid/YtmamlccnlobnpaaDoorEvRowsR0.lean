/- ParseRows at the first operators 0 to 3, by the kernel's computation. No condition. -/
import Derived.Test.YtmamlccnlobnpaaDoorEvRowsA
namespace Go.Proofs.YtmamlccnlobnpaaDoor
open Go.Ev
set_option maxRecDepth 10000000
theorem rows0q0 : rowsQ (Int.ofNat 0) (Int.ofNat 0) (Int.ofNat 1) (Int.ofNat 2) (Int.ofNat 3) = true := by decide +kernel
theorem rows0q1 : rowsQ (Int.ofNat 0) (Int.ofNat 4) (Int.ofNat 5) (Int.ofNat 6) (Int.ofNat 7) = true := by decide +kernel
theorem rows0q2 : rowsQ (Int.ofNat 0) (Int.ofNat 8) (Int.ofNat 9) (Int.ofNat 10) (Int.ofNat 11) = true := by decide +kernel
theorem rows0q3 : rowsQ (Int.ofNat 0) (Int.ofNat 12) (Int.ofNat 13) (Int.ofNat 14) (Int.ofNat 15) = true := by decide +kernel
theorem rows1q0 : rowsQ (Int.ofNat 1) (Int.ofNat 0) (Int.ofNat 1) (Int.ofNat 2) (Int.ofNat 3) = true := by decide +kernel
theorem rows1q1 : rowsQ (Int.ofNat 1) (Int.ofNat 4) (Int.ofNat 5) (Int.ofNat 6) (Int.ofNat 7) = true := by decide +kernel
theorem rows1q2 : rowsQ (Int.ofNat 1) (Int.ofNat 8) (Int.ofNat 9) (Int.ofNat 10) (Int.ofNat 11) = true := by decide +kernel
theorem rows1q3 : rowsQ (Int.ofNat 1) (Int.ofNat 12) (Int.ofNat 13) (Int.ofNat 14) (Int.ofNat 15) = true := by decide +kernel
theorem rows2q0 : rowsQ (Int.ofNat 2) (Int.ofNat 0) (Int.ofNat 1) (Int.ofNat 2) (Int.ofNat 3) = true := by decide +kernel
theorem rows2q1 : rowsQ (Int.ofNat 2) (Int.ofNat 4) (Int.ofNat 5) (Int.ofNat 6) (Int.ofNat 7) = true := by decide +kernel
theorem rows2q2 : rowsQ (Int.ofNat 2) (Int.ofNat 8) (Int.ofNat 9) (Int.ofNat 10) (Int.ofNat 11) = true := by decide +kernel
theorem rows2q3 : rowsQ (Int.ofNat 2) (Int.ofNat 12) (Int.ofNat 13) (Int.ofNat 14) (Int.ofNat 15) = true := by decide +kernel
theorem rows3q0 : rowsQ (Int.ofNat 3) (Int.ofNat 0) (Int.ofNat 1) (Int.ofNat 2) (Int.ofNat 3) = true := by decide +kernel
theorem rows3q1 : rowsQ (Int.ofNat 3) (Int.ofNat 4) (Int.ofNat 5) (Int.ofNat 6) (Int.ofNat 7) = true := by decide +kernel
theorem rows3q2 : rowsQ (Int.ofNat 3) (Int.ofNat 8) (Int.ofNat 9) (Int.ofNat 10) (Int.ofNat 11) = true := by decide +kernel
theorem rows3q3 : rowsQ (Int.ofNat 3) (Int.ofNat 12) (Int.ofNat 13) (Int.ofNat 14) (Int.ofNat 15) = true := by decide +kernel
end Go.Proofs.YtmamlccnlobnpaaDoor
