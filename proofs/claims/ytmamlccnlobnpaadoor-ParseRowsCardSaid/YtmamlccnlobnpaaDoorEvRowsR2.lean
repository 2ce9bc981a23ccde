/- ParseRows at the first operators 8 to 11, by the kernel's computation. No condition. -/
import Derived.Test.YtmamlccnlobnpaaDoorEvRowsA
namespace Go.Proofs.YtmamlccnlobnpaaDoor
open Go.Ev
set_option maxRecDepth 10000000
theorem rows8q0 : rowsQ (Int.ofNat 8) (Int.ofNat 0) (Int.ofNat 1) (Int.ofNat 2) (Int.ofNat 3) = true := by decide +kernel
theorem rows8q1 : rowsQ (Int.ofNat 8) (Int.ofNat 4) (Int.ofNat 5) (Int.ofNat 6) (Int.ofNat 7) = true := by decide +kernel
theorem rows8q2 : rowsQ (Int.ofNat 8) (Int.ofNat 8) (Int.ofNat 9) (Int.ofNat 10) (Int.ofNat 11) = true := by decide +kernel
theorem rows8q3 : rowsQ (Int.ofNat 8) (Int.ofNat 12) (Int.ofNat 13) (Int.ofNat 14) (Int.ofNat 15) = true := by decide +kernel
theorem rows9q0 : rowsQ (Int.ofNat 9) (Int.ofNat 0) (Int.ofNat 1) (Int.ofNat 2) (Int.ofNat 3) = true := by decide +kernel
theorem rows9q1 : rowsQ (Int.ofNat 9) (Int.ofNat 4) (Int.ofNat 5) (Int.ofNat 6) (Int.ofNat 7) = true := by decide +kernel
theorem rows9q2 : rowsQ (Int.ofNat 9) (Int.ofNat 8) (Int.ofNat 9) (Int.ofNat 10) (Int.ofNat 11) = true := by decide +kernel
theorem rows9q3 : rowsQ (Int.ofNat 9) (Int.ofNat 12) (Int.ofNat 13) (Int.ofNat 14) (Int.ofNat 15) = true := by decide +kernel
theorem rows10q0 : rowsQ (Int.ofNat 10) (Int.ofNat 0) (Int.ofNat 1) (Int.ofNat 2) (Int.ofNat 3) = true := by decide +kernel
theorem rows10q1 : rowsQ (Int.ofNat 10) (Int.ofNat 4) (Int.ofNat 5) (Int.ofNat 6) (Int.ofNat 7) = true := by decide +kernel
theorem rows10q2 : rowsQ (Int.ofNat 10) (Int.ofNat 8) (Int.ofNat 9) (Int.ofNat 10) (Int.ofNat 11) = true := by decide +kernel
theorem rows10q3 : rowsQ (Int.ofNat 10) (Int.ofNat 12) (Int.ofNat 13) (Int.ofNat 14) (Int.ofNat 15) = true := by decide +kernel
theorem rows11q0 : rowsQ (Int.ofNat 11) (Int.ofNat 0) (Int.ofNat 1) (Int.ofNat 2) (Int.ofNat 3) = true := by decide +kernel
theorem rows11q1 : rowsQ (Int.ofNat 11) (Int.ofNat 4) (Int.ofNat 5) (Int.ofNat 6) (Int.ofNat 7) = true := by decide +kernel
theorem rows11q2 : rowsQ (Int.ofNat 11) (Int.ofNat 8) (Int.ofNat 9) (Int.ofNat 10) (Int.ofNat 11) = true := by decide +kernel
theorem rows11q3 : rowsQ (Int.ofNat 11) (Int.ofNat 12) (Int.ofNat 13) (Int.ofNat 14) (Int.ofNat 15) = true := by decide +kernel
end Go.Proofs.YtmamlccnlobnpaaDoor
