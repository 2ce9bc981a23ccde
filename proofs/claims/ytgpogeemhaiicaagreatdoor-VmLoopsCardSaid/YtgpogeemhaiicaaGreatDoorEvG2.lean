/- VmLoops' row starts no goroutine by its text: one closed fact of the card. No condition. -/
import Derived.Test.YtgpogeemhaiicaaGreatDoorCards
import Derived.KernelRfl
set_option linter.all false
namespace Go.Proofs.YtgpogeemhaiicaaGreatDoor
open Go
theorem lp_goes : false = Rows.vmLoopsRow.goesBy Tryz.pinned.checked.prog := by kernel_rfl
end Go.Proofs.YtgpogeemhaiicaaGreatDoor
