/- ListSigns: its rounds, by the kernel's computation. No condition. -/
import Derived.Test.YtllgeddjlodliaaGreatDoorYEvSgN
namespace Go.Proofs.YtllgeddjlodliaaGreatDoor
set_option maxRecDepth 1000000
theorem rgR251 : ((List.range 10).all fun k => fR (k + 251)) = true := by decide +kernel
theorem rgR355 : ((List.range 8).all fun k => fR (k + 355)) = true := by decide +kernel
theorem rgR441 : ((List.range 7).all fun k => fR (k + 441)) = true := by decide +kernel
theorem rgD351 : ((List.range 18).all fun k => fD (k + 351)) = true := by decide +kernel
theorem rgR66 : ((List.range 11).all fun k => fR (k + 66)) = true := by decide +kernel
theorem rgD21 : ((List.range 21).all fun k => fD (k + 21)) = true := by decide +kernel
end Go.Proofs.YtllgeddjlodliaaGreatDoor
