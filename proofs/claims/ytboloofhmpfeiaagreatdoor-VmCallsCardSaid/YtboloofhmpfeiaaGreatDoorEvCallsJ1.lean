/- Closed facts of VmCalls' row, part 1. No condition. -/
import Derived.Test.YtboloofhmpfeiaaGreatDoorCards
import Derived.JoinedOf
import Derived.KernelRfl
namespace Go.Proofs.YtboloofhmpfeiaaGreatDoor
open Go
theorem row10 : ((Rows.vmCallsRow.inPlace == Tryz.pinned.checked.prog.inPlace 3)) = true := by kernel_rfl
theorem row11 : ((Rows.vmCallsRow.unfollowed == Tryz.pinned.checked.prog.unfollowed 3)) = true := by kernel_rfl
end Go.Proofs.YtboloofhmpfeiaaGreatDoor
