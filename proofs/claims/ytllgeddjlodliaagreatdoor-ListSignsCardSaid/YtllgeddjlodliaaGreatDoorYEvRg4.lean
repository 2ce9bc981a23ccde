/- ListSigns: its rounds, by the kernel's computation. No condition. -/
import Derived.Test.YtllgeddjlodliaaGreatDoorYEvSgN
namespace Go.Proofs.YtllgeddjlodliaaGreatDoor
set_option maxRecDepth 1000000
theorem rgR231 : ((List.range 10).all fun k => fR (k + 231)) = true := by decide +kernel
theorem rgR339 : ((List.range 8).all fun k => fR (k + 339)) = true := by decide +kernel
theorem rgR427 : ((List.range 7).all fun k => fR (k + 427)) = true := by decide +kernel
theorem rgD313 : ((List.range 19).all fun k => fD (k + 313)) = true := by decide +kernel
theorem rgR44 : ((List.range 11).all fun k => fR (k + 44)) = true := by decide +kernel
theorem rgR154 : ((List.range 10).all fun k => fR (k + 154)) = true := by decide +kernel
end Go.Proofs.YtllgeddjlodliaaGreatDoor
