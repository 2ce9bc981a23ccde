/- ListSigns: its rounds, by the kernel's computation. No condition. -/
import Derived.Test.YtllgeddjlodliaaGreatDoorYEvSgN
namespace Go.Proofs.YtllgeddjlodliaaGreatDoor
set_option maxRecDepth 1000000
theorem rgR241 : ((List.range 10).all fun k => fR (k + 241)) = true := by decide +kernel
theorem rgR347 : ((List.range 8).all fun k => fR (k + 347)) = true := by decide +kernel
theorem rgR434 : ((List.range 7).all fun k => fR (k + 434)) = true := by decide +kernel
theorem rgD332 : ((List.range 19).all fun k => fD (k + 332)) = true := by decide +kernel
theorem rgR55 : ((List.range 11).all fun k => fR (k + 55)) = true := by decide +kernel
theorem rgD0 : ((List.range 21).all fun k => fD (k + 0)) = true := by decide +kernel
end Go.Proofs.YtllgeddjlodliaaGreatDoor
