/- VmNatives' row: its closed facts, each a lemma of its own. No condition. -/
import Derived.Test.YthhnpmanmcjhbaaGreatDoorCards
import Derived.JoinedOf
import Derived.KernelRfl
namespace Go.Proofs.YthhnpmanmcjhbaaGreatDoor
open Go
set_option maxHeartbeats 100000000 in
set_option maxRecDepth 1000000 in
theorem natv_joined : joinedFacts Tryz.pinned.checked.prog 3 Tryz.f3 Rows.vmNativesSpec Rows.vmNativesRow = true := by
  unfold joinedFacts
  simp only [Bool.and_eq_true]
  and_intros
  all_goals (as_aux_lemma => kernel_rfl)
end Go.Proofs.YthhnpmanmcjhbaaGreatDoor
