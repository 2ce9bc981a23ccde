/- ListSigns: its rounds, by the kernel's computation. No condition. -/
import Derived.Test.YtllgeddjlodliaaGreatDoorYEvSgN
namespace Go.Proofs.YtllgeddjlodliaaGreatDoor
set_option maxRecDepth 1000000
theorem rgR270 : ((List.range 9).all fun k => fR (k + 270)) = true := by decide +kernel
theorem rgR371 : ((List.range 7).all fun k => fR (k + 371)) = true := by decide +kernel
theorem rgR455 : ((List.range 6).all fun k => fR (k + 455)) = true := by decide +kernel
theorem rgD387 : ((List.range 17).all fun k => fD (k + 387)) = true := by decide +kernel
theorem rgR88 : ((List.range 11).all fun k => fR (k + 88)) = true := by decide +kernel
theorem rgD63 : ((List.range 21).all fun k => fD (k + 63)) = true := by decide +kernel
end Go.Proofs.YtllgeddjlodliaaGreatDoor
