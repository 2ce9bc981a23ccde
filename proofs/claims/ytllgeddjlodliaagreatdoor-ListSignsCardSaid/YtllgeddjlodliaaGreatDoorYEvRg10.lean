/- ListSigns: its rounds, by the kernel's computation. No condition. -/
import Derived.Test.YtllgeddjlodliaaGreatDoorYEvSgN
namespace Go.Proofs.YtllgeddjlodliaaGreatDoor
set_option maxRecDepth 1000000
theorem rgR164 : ((List.range 12).all fun k => fR (k + 164)) = true := by decide +kernel
theorem rgR288 : ((List.range 9).all fun k => fR (k + 288)) = true := by decide +kernel
theorem rgR385 : ((List.range 7).all fun k => fR (k + 385)) = true := by decide +kernel
theorem rgR467 : ((List.range 6).all fun k => fR (k + 467)) = true := by decide +kernel
theorem rgD183 : ((List.range 24).all fun k => fD (k + 183)) = true := by decide +kernel
theorem rgD421 : ((List.range 16).all fun k => fD (k + 421)) = true := by decide +kernel
end Go.Proofs.YtllgeddjlodliaaGreatDoor
