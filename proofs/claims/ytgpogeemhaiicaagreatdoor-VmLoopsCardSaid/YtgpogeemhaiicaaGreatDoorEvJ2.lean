/- VmLoops' row: its closed facts, each a lemma of its own. No condition. -/
import Derived.Test.YtgpogeemhaiicaaGreatDoorCards
import Derived.JoinedOf
import Derived.KernelRfl
set_option linter.all false
namespace Go.Proofs.YtgpogeemhaiicaaGreatDoor
open Go
set_option maxHeartbeats 100000000 in
set_option maxRecDepth 1000000 in
theorem lp_joined : joinedFacts Tryz.pinned.checked.prog 3 Tryz.f3 Rows.vmLoopsSpec Rows.vmLoopsRow = true := by
  unfold joinedFacts
  simp only [Bool.and_eq_true]
  and_intros
  all_goals (as_aux_lemma => kernel_rfl)
end Go.Proofs.YtgpogeemhaiicaaGreatDoor
