/- VmClosures' row starts no goroutine by its text: one closed fact of the card. No condition. -/
import Derived.Test.YtodakbgbngdfbaaGreatDoorCards
import Derived.KernelRfl
namespace Go.Proofs.YtodakbgbngdfbaaGreatDoor
open Go
theorem clos_goes : false = Rows.vmClosuresRow.goesBy Tryz.pinned.checked.prog := by kernel_rfl
end Go.Proofs.YtodakbgbngdfbaaGreatDoor
