/- ParseRows at the first operators 4 to 7, by the kernel's computation. No condition. -/
import Derived.Test.YtmamlccnlobnpaaDoorEvRowsA
namespace Go.Proofs.YtmamlccnlobnpaaDoor
open Go.Ev
set_option maxRecDepth 10000000
theorem rows4q0 : rowsQ (Int.ofNat 4) (Int.ofNat 0) (Int.ofNat 1) (Int.ofNat 2) (Int.ofNat 3) = true := by decide +kernel
theorem rows4q1 : rowsQ (Int.ofNat 4) (Int.ofNat 4) (Int.ofNat 5) (Int.ofNat 6) (Int.ofNat 7) = true := by decide +kernel
theorem rows4q2 : rowsQ (Int.ofNat 4) (Int.ofNat 8) (Int.ofNat 9) (Int.ofNat 10) (Int.ofNat 11) = true := by decide +kernel
theorem rows4q3 : rowsQ (Int.ofNat 4) (Int.ofNat 12) (Int.ofNat 13) (Int.ofNat 14) (Int.ofNat 15) = true := by decide +kernel
theorem rows5q0 : rowsQ (Int.ofNat 5) (Int.ofNat 0) (Int.ofNat 1) (Int.ofNat 2) (Int.ofNat 3) = true := by decide +kernel
theorem rows5q1 : rowsQ (Int.ofNat 5) (Int.ofNat 4) (Int.ofNat 5) (Int.ofNat 6) (Int.ofNat 7) = true := by decide +kernel
theorem rows5q2 : rowsQ (Int.ofNat 5) (Int.ofNat 8) (Int.ofNat 9) (Int.ofNat 10) (Int.ofNat 11) = true := by decide +kernel
theorem rows5q3 : rowsQ (Int.ofNat 5) (Int.ofNat 12) (Int.ofNat 13) (Int.ofNat 14) (Int.ofNat 15) = true := by decide +kernel
theorem rows6q0 : rowsQ (Int.ofNat 6) (Int.ofNat 0) (Int.ofNat 1) (Int.ofNat 2) (Int.ofNat 3) = true := by decide +kernel
theorem rows6q1 : rowsQ (Int.ofNat 6) (Int.ofNat 4) (Int.ofNat 5) (Int.ofNat 6) (Int.ofNat 7) = true := by decide +kernel
theorem rows6q2 : rowsQ (Int.ofNat 6) (Int.ofNat 8) (Int.ofNat 9) (Int.ofNat 10) (Int.ofNat 11) = true := by decide +kernel
theorem rows6q3 : rowsQ (Int.ofNat 6) (Int.ofNat 12) (Int.ofNat 13) (Int.ofNat 14) (Int.ofNat 15) = true := by decide +kernel
theorem rows7q0 : rowsQ (Int.ofNat 7) (Int.ofNat 0) (Int.ofNat 1) (Int.ofNat 2) (Int.ofNat 3) = true := by decide +kernel
theorem rows7q1 : rowsQ (Int.ofNat 7) (Int.ofNat 4) (Int.ofNat 5) (Int.ofNat 6) (Int.ofNat 7) = true := by decide +kernel
theorem rows7q2 : rowsQ (Int.ofNat 7) (Int.ofNat 8) (Int.ofNat 9) (Int.ofNat 10) (Int.ofNat 11) = true := by decide +kernel
theorem rows7q3 : rowsQ (Int.ofNat 7) (Int.ofNat 12) (Int.ofNat 13) (Int.ofNat 14) (Int.ofNat 15) = true := by decide +kernel
end Go.Proofs.YtmamlccnlobnpaaDoor
