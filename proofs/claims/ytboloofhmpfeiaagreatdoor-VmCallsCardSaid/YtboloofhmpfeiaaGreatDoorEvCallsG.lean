/- VmCalls' row starts no goroutine by its text: one closed fact of the card. No condition. -/
import Derived.Test.YtboloofhmpfeiaaGreatDoorCards
import Derived.KernelRfl
namespace Go.Proofs.YtboloofhmpfeiaaGreatDoor
open Go
theorem calls_goes : false = Rows.vmCallsRow.goesBy Tryz.pinned.checked.prog := by kernel_rfl
end Go.Proofs.YtboloofhmpfeiaaGreatDoor
