/- ListSigns: its rounds, by the kernel's computation. No condition. -/
import Derived.Test.YtllgeddjlodliaaGreatDoorYEvSgN
namespace Go.Proofs.YtllgeddjlodliaaGreatDoor
set_option maxRecDepth 1000000
theorem rgR176 : ((List.range 12).all fun k => fR (k + 176)) = true := by decide +kernel
theorem rgR297 : ((List.range 9).all fun k => fR (k + 297)) = true := by decide +kernel
theorem rgR392 : ((List.range 7).all fun k => fR (k + 392)) = true := by decide +kernel
theorem rgR473 : ((List.range 6).all fun k => fR (k + 473)) = true := by decide +kernel
theorem rgD207 : ((List.range 23).all fun k => fD (k + 207)) = true := by decide +kernel
theorem rgD437 : ((List.range 16).all fun k => fD (k + 437)) = true := by decide +kernel
end Go.Proofs.YtllgeddjlodliaaGreatDoor
