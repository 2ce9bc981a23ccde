/- Closed facts of VmCalls' row, part 2. No condition. -/
import Derived.Test.YtboloofhmpfeiaaGreatDoorCards
import Derived.JoinedOf
import Derived.KernelRfl
namespace Go.Proofs.YtboloofhmpfeiaaGreatDoor
open Go
theorem row12 : ((Rows.vmCallsRow.recurses == Tryz.pinned.checked.prog.recurses 3)) = true := by kernel_rfl
end Go.Proofs.YtboloofhmpfeiaaGreatDoor
