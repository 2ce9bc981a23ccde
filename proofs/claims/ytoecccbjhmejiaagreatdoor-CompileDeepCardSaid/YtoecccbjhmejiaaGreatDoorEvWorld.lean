/- The memory in which a call of this seat begins: what the row's list gives; a world for the witness. No condition. -/
import Derived.Test.YtoecccbjhmejiaaGreatDoorEvExt
import Derived.Test.YtoecccbjhmejiaaGreatDoorCards
import Derived.Test.YtoecccbjhmejiaaGreatDoorTie
import Derived.WalkKit
import Derived.ProofKit
import Derived.OpenShut
import Derived.Deep.DeepHandedRow
import Derived.Deep.DeepWitnessRowRef
import Derived.Lib.LaidU8
import Derived.Stop.LaidErr
namespace Go.Proofs.YtoecccbjhmejiaaGreatDoor
open Go.Ev Go.ChangeShapes Go.WideShapes Go.ChangeAt Go.RowKit

/-! The memory in which the call begins. -/
theorem own : ownKnob Tryz.prog.godebug = none := by kernel_rfl
theorem gTab : Tryz.prog.globalNamed "strings.asciiSpace" = some 0 := by kernel_rfl
theorem gTabType : (Tryz.prog.globals[0]?).map (·.type) = some 120 := by kernel_rfl
theorem cells69 : Tryz.prog.cellsOf 120 = 256 := by kernel_rfl
theorem cells5 : Tryz.prog.cellsOf 5 = 1 := by kernel_rfl
theorem at_of {W : World} (hL : laidMet Tryz.prog [("unicode.White_Space", Rows.laid_unicode_White_Space), ("strings.asciiSpace", Lib.tabData .u8 tabZ)] W) (hsh : W.ShapedOpen Tryz.prog) : At W where
  tab i hi := (Lib.tabIs_of_head gTab gTabType Tryz.underlying120 Tryz.underlying5 cells5 cells69 (laidMet.tail hL)).cell gTab i (by rw [tabZ_len]; exact hi)
  max := Tryz.laysM144.s1_3 W hsh

/-- A world for the witness: two blocks more, the tables as their initialisers lay them. -/
noncomputable def laidWorld (os : Os) : World :=
  let N := (World.settled Tryz.prog os).heap.size
  let w0 := World.holding Tryz.prog os ⟨#[.cells (Lib.whiteT.map fun (z : Nat) => Value.int .u16 (z : Int)).toArray 167, .cells #[.slice (some ⟨N, 0, none⟩) 7 7, .slice none 0 0, .int .i64 2] 165], #[], []⟩
  let put (h : Array Obj) (g : Nat) (cs : Array Value) : Array Obj := h.modify g fun
    | .cells _ t frozen => .cells cs t frozen
    | o => o
  let h1 := put w0.heap 0 (tabZ.map fun z => Value.int .u8 z).toArray
  let h2 := put h1 2 #[.pointer (some ⟨N + 1, 0, none⟩)]
  { w0 with heap := h2 }

/-! Classes of numbers. -/
theorem cls_of (m : Nat) (hm : 0 < m) (n : Int) : ∃ q, q < m ∧ ∀ r, VRel r (.cls m q) (.int .i64 n) := by
  have h1 : n.tmod m < m := Int.tmod_lt_of_pos n (by omega)
  have h2 : -(m : Int) < n.tmod m := Int.lt_tmod_of_pos n (by omega)
  obtain ⟨k, hk⟩ : ∃ k : Nat, n.tmod m + m = Int.ofNat k := ⟨(n.tmod m + m).toNat, by simp only [Int.ofNat_eq_natCast]; omega⟩
  refine ⟨k % m, Nat.mod_lt _ hm, fun r => .cls ?_⟩
  rw [hk]
  rfl
theorem msk_of (m : Nat) (hm : m ≤ 1000000) (n : Int) : ∃ q, q ≤ m ∧ ∀ r, VRel r (.msk m q) (.int .i64 n) := by
  have h1 : (BitVec.ofInt 64 n &&& BitVec.ofInt 64 m).toNat ≤ m := by
    rw [BitVec.toNat_and]
    have h2 : (BitVec.ofInt 64 (m : Int)).toNat = m := by
      rw [BitVec.toNat_ofInt]
      omega
    rw [h2]
    exact Nat.and_le_right
  refine ⟨(BitVec.ofInt 64 n &&& BitVec.ofInt 64 m).toNat, h1, fun r => .msk ?_⟩
  exact Go.Ev.wrap_small IntKind.i64 _ (by show _ ≤ 9223372036854775807; omega)

/-- A call that was evaluated from the beginning: it returns true, and leaves all as it was. -/
theorem closes {W : World} (hW : At W) {g : FuncId} {vs : List V} {h' : H} (hc : CallOk Tryz.prog W g vs h0 (.bool true) h') {xs : Array Value} (hx : VsRel (globEmb Tryz.prog W) vs xs.toList) :
    Calls Tryz.prog g xs W fun e w' => e = .returned (.bool true) ∧ W.keptBut w' (fun _ => False) := by
  refine (hc (globEmb Tryz.prog W) W xs (hW.begins.rel W (fun _ _ => rfl)) hW.begins.gl (hW.begins.base (fun _ _ => rfl) (Nat.le_refl _)) hx).mono ?_
  rintro e w' ⟨z, r', rfl, st, hz⟩
  cases hz
  refine ⟨rfl, st.os, st.out, fun i hi => ?_⟩
  rw [st.keep i hi (hW.begins.none i)]
  exact (World.keptBut_refl W (fun _ => False)).2.2 i hi

end Go.Proofs.YtoecccbjhmejiaaGreatDoor
