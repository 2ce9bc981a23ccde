/- ListSigns: its rounds, by the kernel's computation. No condition. -/
import Derived.Test.YtllgeddjlodliaaGreatDoorYEvSgN
namespace Go.Proofs.YtllgeddjlodliaaGreatDoor
set_option maxRecDepth 1000000
theorem rgR199 : ((List.range 11).all fun k => fR (k + 199)) = true := by decide +kernel
theorem rgR315 : ((List.range 8).all fun k => fR (k + 315)) = true := by decide +kernel
theorem rgR406 : ((List.range 7).all fun k => fR (k + 406)) = true := by decide +kernel
theorem rgR485 : ((List.range 6).all fun k => fR (k + 485)) = true := by decide +kernel
theorem rgD252 : ((List.range 21).all fun k => fD (k + 252)) = true := by decide +kernel
theorem rgD469 : ((List.range 15).all fun k => fD (k + 469)) = true := by decide +kernel
theorem rgR11 : ((List.range 11).all fun k => fR (k + 11)) = true := by decide +kernel
theorem rgR121 : ((List.range 11).all fun k => fR (k + 121)) = true := by decide +kernel
theorem rgD126 : ((List.range 21).all fun k => fD (k + 126)) = true := by decide +kernel
end Go.Proofs.YtllgeddjlodliaaGreatDoor
