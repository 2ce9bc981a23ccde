/- VmClosures' row: its closed facts, each a lemma of its own. No condition. -/
import Derived.Test.YtodakbgbngdfbaaGreatDoorCards
import Derived.JoinedOf
import Derived.KernelRfl
namespace Go.Proofs.YtodakbgbngdfbaaGreatDoor
open Go
set_option maxHeartbeats 100000000 in
set_option maxRecDepth 1000000 in
theorem clos_joined : joinedFacts Tryz.pinned.checked.prog 3 Tryz.f3 Rows.vmClosuresSpec Rows.vmClosuresRow = true := by
  unfold joinedFacts
  simp only [Bool.and_eq_true]
  and_intros
  all_goals (as_aux_lemma => kernel_rfl)
end Go.Proofs.YtodakbgbngdfbaaGreatDoor
