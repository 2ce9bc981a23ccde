/- ParseRows at the first operators 12 to 15, by the kernel's computation. No condition. -/
import Derived.Test.YtmamlccnlobnpaaDoorEvRowsA
namespace Go.Proofs.YtmamlccnlobnpaaDoor
open Go.Ev
set_option maxRecDepth 10000000
theorem rows12q0 : rowsQ (Int.ofNat 12) (Int.ofNat 0) (Int.ofNat 1) (Int.ofNat 2) (Int.ofNat 3) = true := by decide +kernel
theorem rows12q1 : rowsQ (Int.ofNat 12) (Int.ofNat 4) (Int.ofNat 5) (Int.ofNat 6) (Int.ofNat 7) = true := by decide +kernel
theorem rows12q2 : rowsQ (Int.ofNat 12) (Int.ofNat 8) (Int.ofNat 9) (Int.ofNat 10) (Int.ofNat 11) = true := by decide +kernel
theorem rows12q3 : rowsQ (Int.ofNat 12) (Int.ofNat 12) (Int.ofNat 13) (Int.ofNat 14) (Int.ofNat 15) = true := by decide +kernel
theorem rows13q0 : rowsQ (Int.ofNat 13) (Int.ofNat 0) (Int.ofNat 1) (Int.ofNat 2) (Int.ofNat 3) = true := by decide +kernel
theorem rows13q1 : rowsQ (Int.ofNat 13) (Int.ofNat 4) (Int.ofNat 5) (Int.ofNat 6) (Int.ofNat 7) = true := by decide +kernel
theorem rows13q2 : rowsQ (Int.ofNat 13) (Int.ofNat 8) (Int.ofNat 9) (Int.ofNat 10) (Int.ofNat 11) = true := by decide +kernel
theorem rows13q3 : rowsQ (Int.ofNat 13) (Int.ofNat 12) (Int.ofNat 13) (Int.ofNat 14) (Int.ofNat 15) = true := by decide +kernel
theorem rows14q0 : rowsQ (Int.ofNat 14) (Int.ofNat 0) (Int.ofNat 1) (Int.ofNat 2) (Int.ofNat 3) = true := by decide +kernel
theorem rows14q1 : rowsQ (Int.ofNat 14) (Int.ofNat 4) (Int.ofNat 5) (Int.ofNat 6) (Int.ofNat 7) = true := by decide +kernel
theorem rows14q2 : rowsQ (Int.ofNat 14) (Int.ofNat 8) (Int.ofNat 9) (Int.ofNat 10) (Int.ofNat 11) = true := by decide +kernel
theorem rows14q3 : rowsQ (Int.ofNat 14) (Int.ofNat 12) (Int.ofNat 13) (Int.ofNat 14) (Int.ofNat 15) = true := by decide +kernel
theorem rows15q0 : rowsQ (Int.ofNat 15) (Int.ofNat 0) (Int.ofNat 1) (Int.ofNat 2) (Int.ofNat 3) = true := by decide +kernel
theorem rows15q1 : rowsQ (Int.ofNat 15) (Int.ofNat 4) (Int.ofNat 5) (Int.ofNat 6) (Int.ofNat 7) = true := by decide +kernel
theorem rows15q2 : rowsQ (Int.ofNat 15) (Int.ofNat 8) (Int.ofNat 9) (Int.ofNat 10) (Int.ofNat 11) = true := by decide +kernel
theorem rows15q3 : rowsQ (Int.ofNat 15) (Int.ofNat 12) (Int.ofNat 13) (Int.ofNat 14) (Int.ofNat 15) = true := by decide +kernel
end Go.Proofs.YtmamlccnlobnpaaDoor
