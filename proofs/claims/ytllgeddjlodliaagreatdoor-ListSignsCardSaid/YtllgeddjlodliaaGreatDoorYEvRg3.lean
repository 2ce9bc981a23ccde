/- ListSigns: its rounds, by the kernel's computation. No condition. -/
import Derived.Test.YtllgeddjlodliaaGreatDoorYEvSgN
namespace Go.Proofs.YtllgeddjlodliaaGreatDoor
set_option maxRecDepth 1000000
theorem rgR221 : ((List.range 10).all fun k => fR (k + 221)) = true := by decide +kernel
theorem rgR331 : ((List.range 8).all fun k => fR (k + 331)) = true := by decide +kernel
theorem rgR420 : ((List.range 7).all fun k => fR (k + 420)) = true := by decide +kernel
theorem rgR497 : ((List.range 3).all fun k => fR (k + 497)) = true := by decide +kernel
theorem rgD293 : ((List.range 20).all fun k => fD (k + 293)) = true := by decide +kernel
theorem rgD499 : ((List.range 2).all fun k => fD (k + 499)) = true := by decide +kernel
theorem rgR33 : ((List.range 11).all fun k => fR (k + 33)) = true := by decide +kernel
theorem rgR143 : ((List.range 11).all fun k => fR (k + 143)) = true := by decide +kernel
theorem rgD168 : ((List.range 15).all fun k => fD (k + 168)) = true := by decide +kernel
end Go.Proofs.YtllgeddjlodliaaGreatDoor
