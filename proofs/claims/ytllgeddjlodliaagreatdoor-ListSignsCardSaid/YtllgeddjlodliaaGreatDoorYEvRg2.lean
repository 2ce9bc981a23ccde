/- ListSigns: its rounds, by the kernel's computation. No condition. -/
import Derived.Test.YtllgeddjlodliaaGreatDoorYEvSgN
namespace Go.Proofs.YtllgeddjlodliaaGreatDoor
set_option maxRecDepth 1000000
theorem rgR210 : ((List.range 11).all fun k => fR (k + 210)) = true := by decide +kernel
theorem rgR323 : ((List.range 8).all fun k => fR (k + 323)) = true := by decide +kernel
theorem rgR413 : ((List.range 7).all fun k => fR (k + 413)) = true := by decide +kernel
theorem rgR491 : ((List.range 6).all fun k => fR (k + 491)) = true := by decide +kernel
theorem rgD273 : ((List.range 20).all fun k => fD (k + 273)) = true := by decide +kernel
theorem rgD484 : ((List.range 15).all fun k => fD (k + 484)) = true := by decide +kernel
theorem rgR22 : ((List.range 11).all fun k => fR (k + 22)) = true := by decide +kernel
theorem rgR132 : ((List.range 11).all fun k => fR (k + 132)) = true := by decide +kernel
theorem rgD147 : ((List.range 21).all fun k => fD (k + 147)) = true := by decide +kernel
end Go.Proofs.YtllgeddjlodliaaGreatDoor
