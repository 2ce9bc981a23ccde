/- The memory in which a call of this seat begins: what the row's list gives; a world for the witness. No condition. -/
import Derived.Test.YtgpogeemhaiicaaGreatDoorEvExt
import Derived.Test.YtgpogeemhaiicaaGreatDoorCards
import Derived.Test.YtgpogeemhaiicaaGreatDoorTie
import Derived.WalkKit
import Derived.ProofKit
import Derived.OpenShut
import Derived.Deep.DeepHandedRow
import Derived.Deep.DeepWitnessRowRef
import Derived.Lib.LaidU8
import Derived.Deep.Strs
import Derived.Stop.LaidErr
set_option linter.all false
namespace Go.Proofs.YtgpogeemhaiicaaGreatDoor
open Go.Ev Go.ChangeShapes Go.WideShapes Go.ChangeAt Go.RowKit
set_option maxRecDepth 100000

/-! The memory in which the call begins. -/
theorem own : ownKnob Tryz.prog.godebug = none := by kernel_rfl
theorem gTab : Tryz.prog.globalNamed "strings.asciiSpace" = some 1 := by kernel_rfl
theorem gTabType : (Tryz.prog.globals[1]?).map (·.type) = some 236 := by kernel_rfl
theorem cells234 : Tryz.prog.cellsOf 236 = 256 := by kernel_rfl
theorem cells5 : Tryz.prog.cellsOf 5 = 1 := by kernel_rfl
theorem cells2 : Tryz.prog.cellsOf 2 = 1 := by kernel_rfl
theorem cells3 : Tryz.prog.cellsOf 3 = 1 := by kernel_rfl
theorem cells9 : Tryz.prog.cellsOf 9 = 1 := by kernel_rfl
theorem gLen : Tryz.prog.globalNamed "ossuary/heap.length" = some 0 := by kernel_rfl
theorem gLenType : (Tryz.prog.globals[0]?).map (·.type) = some 28 := by kernel_rfl

/-- The key of a list's length, as its initialiser lays it. -/
theorem len_of {W : World} (h : Lib.VarReads Tryz.prog W "ossuary/heap.length" Rows.laid_ossuary_heap_length) :
    W.cell? ⟨0, 0, none⟩ = some (.int .i64 7) ∧ W.cell? ⟨0, 1, none⟩ = some (.int .i64 0) ∧ W.cell? ⟨0, 2, none⟩ = some (.string ⟨#[0, 108, 0, 101, 0, 110, 0, 103, 0, 116, 0, 104]⟩) := by
  obtain ⟨g, t, cs, fuel, p, h1, h2, h3, h4⟩ := h
  obtain rfl : g = 0 := Option.some.inj (h1.symm.trans gLen)
  obtain rfl : t = 28 := Option.some.inj (h2.symm.trans gLenType)
  obtain ⟨y0, y1, y2, n, e, _, k0, k1, k2⟩ := Deep.trod_struct3 Tryz.underlying28 h4
  obtain ⟨n0, c0, rfl, _⟩ := DataW.trod_int Tryz.underlying3 k0
  obtain ⟨n1, c1, rfl, _⟩ := DataW.trod_int Tryz.underlying2 k1
  obtain ⟨s, c2, rfl, _⟩ := DataW.trod_string Tryz.underlying9 k2
  simp only [Rows.laid_ossuary_heap_length, Prod.mk.injEq, DataW.agg.injEq, List.cons.injEq, DataW.lit.injEq, Lit.int.injEq, Lit.string.injEq, true_and, and_true] at e
  obtain ⟨⟨rfl, rfl, hs⟩, _⟩ := e
  simp only [cells3, cells2, cells9] at c0 c1 c2
  have g0 : cs[0]? = some (.int .i64 7) := by
    have := congrArg (·[0]?) c0
    simpa [List.getElem?_take, List.getElem?_drop] using this
  have g1 : cs[1]? = some (.int .i64 0) := by
    have := congrArg (·[0]?) c1
    simpa [List.getElem?_take, List.getElem?_drop] using this
  have g2 : cs[2]? = some (.string s) := by
    have := congrArg (·[0]?) c2
    simpa [List.getElem?_take, List.getElem?_drop] using this
  have es : s = ⟨#[0, 108, 0, 101, 0, 110, 0, 103, 0, 116, 0, 104]⟩ := by
    have : s.data = #[0, 108, 0, 101, 0, 110, 0, 103, 0, 116, 0, 104] := by
      rw [← Array.toList_inj]
      exact hs.symm
    cases s
    cases this
    rfl
  rw [World.var?_cell gLen h3, World.var?_cell gLen h3, World.var?_cell gLen h3, g0, g1, g2, es]
  exact ⟨rfl, rfl, rfl⟩

def laidList : List (String × DataW Unit) := [("math/bits.deBruijn32tab", Rows.laid_math_bits_deBruijn32tab), ("math/bits.deBruijn64tab", Rows.laid_math_bits_deBruijn64tab), ("internal/strconv.uint64pow10", Rows.laid_internal_strconv_uint64pow10), ("unicode.White_Space", Rows.laid_unicode_White_Space), ("strings.asciiSpace", Lib.tabData .u8 tabZ), ("ossuary/heap.length", Rows.laid_ossuary_heap_length)]
theorem at_of {W : World} (hL : laidMet Tryz.prog laidList W) (hsh : W.ShapedOpen Tryz.prog) : At W :=
  have h := len_of (Lib.laidMet.reads hL (n := "ossuary/heap.length") (d := Rows.laid_ossuary_heap_length) (by unfold laidList; simp))
  { tab := fun i hi => (Lib.tabIs_of_head gTab gTabType Tryz.underlying236 Tryz.underlying5 cells5 cells234 (laidMet.tail (laidMet.tail (laidMet.tail (laidMet.tail hL))))).cell gTab i (by rw [tabZ_len]; exact hi)
    max := Tryz.laysM144.s1_3 W hsh
    len0 := h.1
    len1 := h.2.1
    len2 := h.2.2 }

def d32Z : List Int := [0, 1, 28, 2, 29, 14, 24, 3, 30, 22, 20, 15, 25, 17, 4, 8, 31, 27, 13, 23, 21, 19, 16, 7, 26, 12, 18, 6, 11, 5, 10, 9]
def d64Z : List Int := [0, 1, 56, 2, 57, 49, 28, 3, 61, 58, 42, 50, 38, 29, 17, 4, 62, 47, 59, 36, 45, 43, 51, 22, 53, 39, 33, 30, 24, 18, 12, 5, 63, 55, 48, 27, 60, 41, 37, 16, 46, 35, 44, 21, 52, 32, 23, 11, 54, 26, 40, 15, 34, 20, 31, 10, 25, 14, 19, 9, 13, 8, 7, 6]
def p10Z : List Int := [1, 10, 100, 1000, 10000, 100000, 1000000, 10000000, 100000000, 1000000000, 10000000000, 100000000000, 1000000000000, 10000000000000, 100000000000000, 1000000000000000, 10000000000000000, 100000000000000000, 1000000000000000000, 10000000000000000000]
/-- A world for the witness: two blocks more, the tables as their initialisers lay them. -/
noncomputable def laidWorld (os : Os) : World :=
  let N := (World.settled Tryz.prog os).heap.size
  let w0 := World.holding Tryz.prog os ⟨#[.cells (Lib.whiteT.map fun (z : Nat) => Value.int .u16 (z : Int)).toArray 341, .cells #[.slice (some ⟨N, 0, none⟩) 7 7, .slice none 0 0, .int .i64 2] 339], #[], []⟩
  let put (h : Array Obj) (g : Nat) (cs : Array Value) : Array Obj := h.modify g fun
    | .cells _ t frozen => .cells cs t frozen
    | o => o
  let h1 := put w0.heap 1 (tabZ.map fun z => Value.int .u8 z).toArray
  let h2 := put h1 3 #[.pointer (some ⟨N + 1, 0, none⟩)]
  let h3 := put h2 5 (d32Z.map fun z => Value.int .u8 z).toArray
  let h4 := put h3 6 (d64Z.map fun z => Value.int .u8 z).toArray
  let h5 := put h4 4 (p10Z.map fun z => Value.int .u64 z).toArray
  let h6 := put h5 0 #[.int .i64 7, .int .i64 0, .string ⟨#[0, 108, 0, 101, 0, 110, 0, 103, 0, 116, 0, 104]⟩]
  { w0 with heap := h6 }

/-- A call that was evaluated from the beginning: it returns true, and leaves all as it was. -/
theorem closes {W : World} (hW : At W) {g : FuncId} {vs : List V} {h' : H} (hc : CallOk Tryz.prog W g vs h0 (.bool true) h') {xs : Array Value} (hx : VsRel (globEmb Tryz.prog W) vs xs.toList) :
    Calls Tryz.prog g xs W fun e w' => e = .returned (.bool true) ∧ W.keptBut w' (fun _ => False) := by
  refine (hc (globEmb Tryz.prog W) W xs (hW.begins.rel W (fun _ _ => rfl)) hW.begins.gl (hW.begins.base (fun _ _ => rfl) (Nat.le_refl _)) hx).mono ?_
  rintro e w' ⟨z, r', rfl, st, hz⟩
  cases hz
  refine ⟨rfl, st.os, st.out, fun i hi => ?_⟩
  rw [st.keep i hi (hW.begins.none i)]
  exact (World.keptBut_refl W (fun _ => False)).2.2 i hi

end Go.Proofs.YtgpogeemhaiicaaGreatDoor
