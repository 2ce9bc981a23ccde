/- VmNatives' row starts no goroutine by its text: one closed fact of the card. No condition. -/
import Derived.Test.YthhnpmanmcjhbaaGreatDoorCards
import Derived.KernelRfl
namespace Go.Proofs.YthhnpmanmcjhbaaGreatDoor
open Go
theorem natv_goes : false = Rows.vmNativesRow.goesBy Tryz.pinned.checked.prog := by kernel_rfl
end Go.Proofs.YthhnpmanmcjhbaaGreatDoor
