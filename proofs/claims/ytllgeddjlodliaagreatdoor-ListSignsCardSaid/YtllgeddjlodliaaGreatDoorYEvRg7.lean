/- ListSigns: its rounds, by the kernel's computation. No condition. -/
import Derived.Test.YtllgeddjlodliaaGreatDoorYEvSgN
namespace Go.Proofs.YtllgeddjlodliaaGreatDoor
set_option maxRecDepth 1000000
theorem rgR261 : ((List.range 9).all fun k => fR (k + 261)) = true := by decide +kernel
theorem rgR363 : ((List.range 8).all fun k => fR (k + 363)) = true := by decide +kernel
theorem rgR448 : ((List.range 7).all fun k => fR (k + 448)) = true := by decide +kernel
theorem rgD369 : ((List.range 18).all fun k => fD (k + 369)) = true := by decide +kernel
theorem rgR77 : ((List.range 11).all fun k => fR (k + 77)) = true := by decide +kernel
theorem rgD42 : ((List.range 21).all fun k => fD (k + 42)) = true := by decide +kernel
end Go.Proofs.YtllgeddjlodliaaGreatDoor
