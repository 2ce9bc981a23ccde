/- ListSigns: its rounds, by the kernel's computation. No condition. -/
import Derived.Test.YtllgeddjlodliaaGreatDoorYEvSgN
namespace Go.Proofs.YtllgeddjlodliaaGreatDoor
set_option maxRecDepth 1000000
theorem rgM : (fM && (fW && fE)) = true := by decide +kernel
theorem rgR188 : ((List.range 11).all fun k => fR (k + 188)) = true := by decide +kernel
theorem rgR306 : ((List.range 9).all fun k => fR (k + 306)) = true := by decide +kernel
theorem rgR399 : ((List.range 7).all fun k => fR (k + 399)) = true := by decide +kernel
theorem rgR479 : ((List.range 6).all fun k => fR (k + 479)) = true := by decide +kernel
theorem rgD230 : ((List.range 22).all fun k => fD (k + 230)) = true := by decide +kernel
theorem rgD453 : ((List.range 16).all fun k => fD (k + 453)) = true := by decide +kernel
theorem rgR0 : ((List.range 11).all fun k => fR (k + 0)) = true := by decide +kernel
theorem rgR110 : ((List.range 11).all fun k => fR (k + 110)) = true := by decide +kernel
theorem rgD105 : ((List.range 21).all fun k => fD (k + 105)) = true := by decide +kernel
end Go.Proofs.YtllgeddjlodliaaGreatDoor
