/- The memory in which a call of this seat begins: what the row's list gives; a world for the witness. No condition. -/
import Derived.Test.YtjkgefnlennbjaaGreatDoorEvExt
import Derived.Test.YtjkgefnlennbjaaGreatDoorCards
import Derived.Test.YtjkgefnlennbjaaGreatDoorTie
import Derived.WalkKit
import Derived.ProofKit
import Derived.OpenShut
import Derived.Deep.DeepHandedRow
import Derived.Deep.DeepWitnessRowRef
import Derived.Lib.LaidU8
import Derived.Stop.LaidErr
set_option linter.all false
namespace Go.Proofs.YtjkgefnlennbjaaGreatDoor
open Go.Ev Go.ChangeShapes Go.WideShapes Go.ChangeAt Go.RowKit

/-! The memory in which the call begins. -/
theorem own : ownKnob Tryz.prog.godebug = none := by kernel_rfl
theorem gTab : Tryz.prog.globalNamed "strings.asciiSpace" = some 0 := by kernel_rfl
theorem gTabType : (Tryz.prog.globals[0]?).map (·.type) = some 82 := by kernel_rfl
theorem cells82 : Tryz.prog.cellsOf 82 = 256 := by kernel_rfl
theorem cells5 : Tryz.prog.cellsOf 5 = 1 := by kernel_rfl
theorem at_of {W : World} (hL : laidMet Tryz.prog [("unicode.White_Space", Rows.laid_unicode_White_Space), ("strings.asciiSpace", Lib.tabData .u8 tabZ)] W) (hsh : W.ShapedOpen Tryz.prog) : At W where
  tab i hi := (Lib.tabIs_of_head gTab gTabType Tryz.underlying82 Tryz.underlying5 cells5 cells82 (laidMet.tail hL)).cell gTab i (by rw [tabZ_len]; exact hi)
  max := Tryz.laysM144.s1_3 W hsh

/-- A world for the witness: two blocks more, the tables as their initialisers lay them. -/
noncomputable def laidWorld (os : Os) : World :=
  let N := (World.settled Tryz.prog os).heap.size
  let w0 := World.holding Tryz.prog os ⟨#[.cells (Lib.whiteT.map fun (z : Nat) => Value.int .u16 (z : Int)).toArray 116, .cells #[.slice (some ⟨N, 0, none⟩) 7 7, .slice none 0 0, .int .i64 2] 114], #[], []⟩
  let put (h : Array Obj) (g : Nat) (cs : Array Value) : Array Obj := h.modify g fun
    | .cells _ t frozen => .cells cs t frozen
    | o => o
  let h1 := put w0.heap 0 (tabZ.map fun z => Value.int .u8 z).toArray
  let h2 := put h1 2 #[.pointer (some ⟨N + 1, 0, none⟩)]
  { w0 with heap := h2 }

end Go.Proofs.YtjkgefnlennbjaaGreatDoor
