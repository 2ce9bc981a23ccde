/- Closed facts of VmCalls' row, part 0. No condition. -/
import Derived.Test.YtboloofhmpfeiaaGreatDoorCards
import Derived.JoinedOf
import Derived.KernelRfl
namespace Go.Proofs.YtboloofhmpfeiaaGreatDoor
open Go
theorem row1 : (Rows.vmCallsRow.wf (OpenSpec.ofChange Rows.vmCallsSpec)) = true := by kernel_rfl
theorem row2 : (laidOutB Tryz.pinned.checked.prog) = true := by kernel_rfl
theorem row3 : (mapsRowed Tryz.pinned.checked.prog) = true := by kernel_rfl
theorem row4 : (Tryz.f3.params.all (Tryz.pinned.checked.prog.readableRec ·)) = true := by kernel_rfl
theorem row5 : (namedTie Tryz.pinned.checked.prog Rows.vmCallsRow.named Rows.vmCallsSpec.vars) = true := by kernel_rfl
theorem row6 : ((Rows.vmCallsRow.stops == [])) = true := by kernel_rfl
theorem row7 : ((Tryz.pinned.checked.prog.stops == [])) = true := by kernel_rfl
theorem row8 : ((Rows.vmCallsRow.knobs == [])) = true := by kernel_rfl
theorem row9 : ((Tryz.pinned.checked.prog.stopKnobs == [])) = true := by kernel_rfl
theorem row14 : ((Rows.vmCallsRow.maps == (Tryz.f3.params.toList ++ Rows.vmCallsSpec.plain.varTypes Tryz.pinned.checked.prog).any (Tryz.pinned.checked.prog.mapsRec ·))) = true := by kernel_rfl
theorem row15 : ((Rows.vmCallsRow.ifaces == (Tryz.f3.params.toList ++ Rows.vmCallsSpec.plain.varTypes Tryz.pinned.checked.prog).any (Tryz.pinned.checked.prog.ifacesRec ·))) = true := by kernel_rfl
theorem row16 : ((Rows.vmCallsRow.mapsOut == Tryz.pinned.checked.prog.mapsAmong Tryz.f3.resultTypes.toList)) = true := by kernel_rfl
theorem row17 : ((Rows.vmCallsRow.loops == (Tryz.f3.params.toList ++ Rows.vmCallsSpec.plain.varTypes Tryz.pinned.checked.prog).any (Tryz.pinned.checked.prog.loopsFrom ·))) = true := by kernel_rfl
theorem row18 : ((Rows.vmCallsRow.wideKeys == (Tryz.f3.params.toList ++ Rows.vmCallsSpec.plain.varTypes Tryz.pinned.checked.prog ++ Tryz.f3.resultTypes.toList).any (Tryz.pinned.checked.prog.wideKeysFrom ·))) = true := by kernel_rfl
theorem row19 : (Rows.vmCallsSpec.vars.all (Tryz.pinned.checked.prog.varReadable ·)) = true := by kernel_rfl
theorem row20 : (Tryz.f3.resultTypes.all (fun t => Tryz.pinned.checked.prog.readableRec t && decide (t < Tryz.pinned.checked.prog.types.size))) = true := by kernel_rfl
theorem row21 : ((Rows.vmCallsRow.ifacesOut == Tryz.f3.resultTypes.toList.any (Tryz.pinned.checked.prog.ifacesRec ·))) = true := by kernel_rfl
theorem row22 : ((Rows.vmCallsRow.loopsOut == Tryz.f3.resultTypes.toList.any (Tryz.pinned.checked.prog.loopsFrom ·))) = true := by kernel_rfl
theorem row23 : ((Rows.vmCallsRow.plainKeys == Tryz.pinned.checked.prog.plainKeys)) = true := by kernel_rfl
theorem row24 : (Rows.vmCallsRow.shortTexts.isNone) = true := by kernel_rfl
theorem row25 : (Tryz.pinned.checked.prog.stopsHeard) = true := by kernel_rfl
theorem row26 : (Tryz.pinned.checked.prog.mayEnter) = true := by kernel_rfl
theorem row27 : ((Rows.vmCallsRow.lifted == Tryz.pinned.checked.prog.liftsFinal)) = true := by kernel_rfl
theorem row28 : ((Tryz.pinned.checked.prog.make == some Rows.vmCallsRow.make)) = true := by kernel_rfl
theorem row30 : ((Rows.vmCallsRow.pinned == Rows.vmCallsRow.pinnedBy)) = true := by kernel_rfl
theorem row31 : ((Rows.vmCallsRow.veiled == (Tryz.f3.params.toList ++ Rows.vmCallsSpec.plain.varTypes Tryz.pinned.checked.prog ++ Tryz.f3.resultTypes.toList).any (Tryz.pinned.checked.prog.veiledRec ·))) = true := by kernel_rfl
theorem row32 : (Rows.vmCallsRow.veiledFits Tryz.pinned.checked.prog Tryz.f3.params.toList (Tryz.f3.params.toList ++ Rows.vmCallsSpec.plain.varTypes Tryz.pinned.checked.prog ++ Tryz.f3.resultTypes.toList)) = true := by kernel_rfl
end Go.Proofs.YtboloofhmpfeiaaGreatDoor
