/- ListSigns: its rounds, by the kernel's computation. No condition. -/
import Derived.Test.YtllgeddjlodliaaGreatDoorYEvSgN
namespace Go.Proofs.YtllgeddjlodliaaGreatDoor
set_option maxRecDepth 1000000
theorem rgR279 : ((List.range 9).all fun k => fR (k + 279)) = true := by decide +kernel
theorem rgR378 : ((List.range 7).all fun k => fR (k + 378)) = true := by decide +kernel
theorem rgR461 : ((List.range 6).all fun k => fR (k + 461)) = true := by decide +kernel
theorem rgD404 : ((List.range 17).all fun k => fD (k + 404)) = true := by decide +kernel
theorem rgR99 : ((List.range 11).all fun k => fR (k + 99)) = true := by decide +kernel
theorem rgD84 : ((List.range 21).all fun k => fD (k + 84)) = true := by decide +kernel
end Go.Proofs.YtllgeddjlodliaaGreatDoor
