/- A seed's value, by the kernel. No condition. -/
import Derived.Test.YtllgeddjlodliaaGreatDoorEvBase
namespace Go.Proofs.YtllgeddjlodliaaGreatDoor
set_option maxRecDepth 1000000 in
theorem valN_true : valN = true := by decide +kernel
set_option maxRecDepth 1000000 in
theorem valS_true : valS = true := by decide +kernel
end Go.Proofs.YtllgeddjlodliaaGreatDoor
