/- Closed facts of VmCalls' row, part 3. No condition. -/
import Derived.Test.YtboloofhmpfeiaaGreatDoorCards
import Derived.JoinedOf
import Derived.KernelRfl
namespace Go.Proofs.YtboloofhmpfeiaaGreatDoor
open Go
theorem row13 : ((Rows.vmCallsRow.named == Tryz.pinned.checked.prog.varsNamed 3)) = true := by kernel_rfl
end Go.Proofs.YtboloofhmpfeiaaGreatDoor
