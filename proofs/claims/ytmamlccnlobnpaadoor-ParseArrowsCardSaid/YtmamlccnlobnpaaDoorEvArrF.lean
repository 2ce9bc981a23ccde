/- ParseArrows is true for every number and every two bools: the statement, tied to the program's text. No condition of its own. -/
import Derived.Test.YtmamlccnlobnpaaDoorEvArrR0
import Derived.Test.YtmamlccnlobnpaaDoorEvArrR1
import Derived.Test.YtmamlccnlobnpaaDoorEvArrR2
import Derived.Test.YtmamlccnlobnpaaDoorCards
import Derived.Test.YtmamlccnlobnpaaDoorTie
import Derived.WalkKit
import Derived.ProofKit
import Derived.OpenShut
import Derived.Deep.DeepHandedRow
import Derived.Deep.DeepWitnessRowRef
import Derived.Lib.LaidU8
import Derived.Stop.LaidErr
namespace Go.Proofs.YtmamlccnlobnpaaDoor
open Go.Ev Go.ChangeShapes Go.WideShapes Go.ChangeAt Go.RowKit

/-! The memory in which the call begins. -/
theorem own : ownKnob Tryd.prog.godebug = none := by kernel_rfl
theorem gTab : Tryd.prog.globalNamed "strings.asciiSpace" = some 0 := by kernel_rfl
theorem gTabType : (Tryd.prog.globals[0]?).map (·.type) = some 69 := by kernel_rfl
theorem cells69 : Tryd.prog.cellsOf 69 = 256 := by kernel_rfl
theorem cells5 : Tryd.prog.cellsOf 5 = 1 := by kernel_rfl
theorem at_of {W : World} (hL : laidMet Tryd.prog [("unicode.White_Space", Rows.laid_unicode_White_Space), ("strings.asciiSpace", Lib.tabData .u8 tabZ)] W) (hsh : W.ShapedOpen Tryd.prog) : At W where
  tab i hi := (Lib.tabIs_of_head gTab gTabType Tryd.underlying69 Tryd.underlying5 cells5 cells69 (laidMet.tail hL)).cell gTab i (by rw [tabZ_len]; exact hi)
  max := Tryd.laysM144.s1_3 W hsh

/-- A world for the witness: two blocks more, the tables as their initialisers lay them. -/
noncomputable def laidWorld (os : Os) : World :=
  let N := (World.settled Tryd.prog os).heap.size
  let w0 := World.holding Tryd.prog os ⟨#[.cells (Lib.whiteT.map fun (z : Nat) => Value.int .u16 (z : Int)).toArray 104, .cells #[.slice (some ⟨N, 0, none⟩) 7 7, .slice none 0 0, .int .i64 2] 102], #[], []⟩
  let put (h : Array Obj) (g : Nat) (cs : Array Value) : Array Obj := h.modify g fun
    | .cells _ t frozen => .cells cs t frozen
    | o => o
  let h1 := put w0.heap 0 (tabZ.map fun z => Value.int .u8 z).toArray
  let h2 := put h1 2 #[.pointer (some ⟨N + 1, 0, none⟩)]
  { w0 with heap := h2 }

/-! ParseArrows. -/
theorem arr_all (k : Nat) (hk : k < 12) (a b : Bool) : arrB (Int.ofNat k) a b = true :=
  match k, hk, a, b with
  | 0, _, true, true => arr0tt
  | 0, _, true, false => arr0tf
  | 0, _, false, true => arr0ft
  | 0, _, false, false => arr0ff
  | 1, _, true, true => arr1tt
  | 1, _, true, false => arr1tf
  | 1, _, false, true => arr1ft
  | 1, _, false, false => arr1ff
  | 2, _, true, true => arr2tt
  | 2, _, true, false => arr2tf
  | 2, _, false, true => arr2ft
  | 2, _, false, false => arr2ff
  | 3, _, true, true => arr3tt
  | 3, _, true, false => arr3tf
  | 3, _, false, true => arr3ft
  | 3, _, false, false => arr3ff
  | 4, _, true, true => arr4tt
  | 4, _, true, false => arr4tf
  | 4, _, false, true => arr4ft
  | 4, _, false, false => arr4ff
  | 5, _, true, true => arr5tt
  | 5, _, true, false => arr5tf
  | 5, _, false, true => arr5ft
  | 5, _, false, false => arr5ff
  | 6, _, true, true => arr6tt
  | 6, _, true, false => arr6tf
  | 6, _, false, true => arr6ft
  | 6, _, false, false => arr6ff
  | 7, _, true, true => arr7tt
  | 7, _, true, false => arr7tf
  | 7, _, false, true => arr7ft
  | 7, _, false, false => arr7ff
  | 8, _, true, true => arr8tt
  | 8, _, true, false => arr8tf
  | 8, _, false, true => arr8ft
  | 8, _, false, false => arr8ff
  | 9, _, true, true => arr9tt
  | 9, _, true, false => arr9tf
  | 9, _, false, true => arr9ft
  | 9, _, false, false => arr9ff
  | 10, _, true, true => arr10tt
  | 10, _, true, false => arr10tf
  | 10, _, false, true => arr10ft
  | 10, _, false, false => arr10ff
  | 11, _, true, true => arr11tt
  | 11, _, true, false => arr11tf
  | 11, _, false, true => arr11ft
  | 11, _, false, false => arr11ff
  | n + 12, h, _, _ => absurd h (by omega)

theorem body5_some : Tryd.f5.body = some body5 := by kernel_rfl
theorem code5_ok : codeOk Tryd.f5.ntmps body5 = true := by decide +kernel
theorem res5 : Tryd.f5.results.toList = [.tmp 6] := by kernel_rfl

theorem arr_run (n : Int) (a b : Bool) : ∃ h', runFn Tryd.prog callA (fun _ _ _ => none) (mask 5) 1000 Tryd.f5 body5 [.int .i64 n, .bool a, .bool b] h0 = some (.bool true, h') := by
  obtain ⟨k, hk, hx⟩ := X12_cases n
  have hB := arr_all k hk a b
  unfold runFn
  rw [pre5, hx]
  unfold arrB at hB
  rw [comp_run] at hB
  cases hd : den Tryd.prog callA (mask 5) 1000 tail5 (A3 (Int.ofNat k) a b) [] h0 with
  | fail => rw [hd] at hB; cases hB
  | ok x f d h' =>
    rw [hd] at hB
    cases x with
    | norm => cases hB
    | exit id => cases hB
    | ret =>
      cases d with
      | cons g ds => cases hB
      | nil =>
        simp only at hB
        refine ⟨h', ?_⟩
        simp only [runDs, Option.bind_some, res5, resV, Option.map_some, oneRes]
        split at hB
        · rename_i c hc
          rw [hc, hB]
        · cases hB

theorem arr_walk {W : World} (hW : At W) (n : Int) (a b : Bool) : Calls Tryd.prog 5 #[.int .i64 n, .bool a, .bool b] W fun e w' => e = .returned (.bool true) ∧ W.keptBut w' (fun _ => False) := by
  obtain ⟨h', he⟩ := arr_run n a b
  have hA : CallFnOk Tryd.prog W callA := ext2_sound hW 400 1000
  have hc := runFn_sound (callD := fun _ _ _ => none) hA (fun _ _ _ _ _ h => by cases h) noNum (draws callA hA) Tryd.func5 body5_some code5_ok he
  refine (hc (globEmb Tryd.prog W) W #[.int .i64 n, .bool a, .bool b] (hW.begins.rel W (fun _ _ => rfl)) hW.begins.gl (hW.begins.base (fun _ _ => rfl) (Nat.le_refl _)) (.cons (.int _ _) (.cons (.bool _) (.cons (.bool _) .nil)))).mono ?_
  rintro e w' ⟨z, r', rfl, st, hz⟩
  cases hz
  refine ⟨rfl, st.os, st.out, fun i hi => ?_⟩
  rw [st.keep i hi (hW.begins.none i)]
  exact (World.keptBut_refl W (fun _ => False)).2.2 i hi

/- What the walk gives, for every argument and every world that holds the tables. -/
set_option maxRecDepth 100000 in
theorem arr_contract (H : Type) (enc : TypeId × Value → H) (W : World) (base : Nat) (args : Array Value) (ds gs : List (DataW H)) (before : List MemPlace)
    (hval : ∀ (j : Nat) t v, Tryd.f5.params[j]? = some t → args[j]? = some v → Value.okWide Tryd.prog W .any base t v)
    (hW : DataW.Whole enc Tryd.prog Tryd.f5.params.toList Rows.parseArrowsSpec.vars false W args.toList ds gs before) (hA : At W) :
    Calls Tryd.prog 5 args W fun e W' => ∃ v, e = .returned v ∧ Rows.parseArrowsSpec.post enc Tryd.prog Tryd.f5 false true false false W args v W' := by
  have hW' := hW
  obtain ⟨p, q, hA0, hV, rfl, hfz, hnd⟩ := hW
  have hT : DataW.TrodAll enc Tryd.prog W 0 (fun _ => true) true Tryd.f5.params.toList args.toList ds p := hA0
  rw [Tryd.params5] at hT hval
  obtain ⟨v0, v1, v2, d0, d1, d2, p0, p1, p2, rfl, rfl, rfl, t0, t1, t2⟩ := trodAll_three hT
  obtain ⟨rfl, rfl⟩ := trodVars_none hV
  obtain ⟨n, rfl, rfl, rfl, wn⟩ := open_int Tryd.underlying3 (hval 0 3 v0 rfl rfl) t0
  obtain ⟨a, rfl, rfl, rfl⟩ := open_bool Tryd.underlying4 (hval 1 4 v1 rfl rfl) t1
  obtain ⟨b, rfl, rfl, rfl⟩ := open_bool Tryd.underlying4 (hval 2 4 v2 rfl rfl) t2
  refine (arr_walk hA n a b).mono ?_
  rintro e W' ⟨rfl, hk⟩
  refine ⟨_, rfl, _, _, _, [], [], [], hW', trodAll_mk1 (shut_bool Tryd.underlying4 true), trodAll_mk3 (shut_int Tryd.underlying3 wn) (shut_bool Tryd.underlying4 a) (shut_bool Tryd.underlying4 b), rfl, World.keptBut_mono (fun _ h => h.elim) hk, fun h => by cases h⟩

theorem arr_laid_met (os : Os) (args : Array Value) : laidMet Tryd.prog Rows.parseArrowsRow.laid ((laidWorld os).forCall (fun _ _ => 0) ⟨#[], args, []⟩).memory :=
  laidMet_of_run' 8 (by kernel_rfl) (by kernel_rfl)
theorem arr_reads (os : Os) {H : Type} (enc : TypeId × Value → H) : ∃ places, DataW.whole enc Tryd.prog ((laidWorld os).forCall (fun _ _ => 0) ⟨#[], #[.int .i64 0, .bool false, .bool false], []⟩).memory Tryd.f5.params.toList Rows.parseArrowsSpec.vars false #[Value.int .i64 0, Value.bool false, Value.bool false].toList 8 = some ([.lit (.int .i64 0), .lit (.bool false), .lit (.bool false)], [], places) :=
  ⟨[], by kernel_rfl⟩

set_option maxRecDepth 100000 in
theorem arr_lifted (os : Os) (started : os.Started) (H : Type) (enc : TypeId × Value → H) (F : Stop.Interp) :
    ReturnsInHanded {} Tryd.checked os 5 .any ((OpenSpec.ofChange Rows.parseArrowsSpec).preRow enc Tryd.prog Tryd.f5 Rows.parseArrowsRow.domain false Rows.parseArrowsRow.laid) (((OpenSpec.ofChange Rows.parseArrowsSpec).at F).post enc Tryd.prog Tryd.f5 false true false false) := by
  obtain ⟨places, hx⟩ := arr_reads os enc
  refine returnsInHanded_of_row (C := Tryd.checked) (s := OpenSpec.ofChange Rows.parseArrowsSpec) own started (by kernel_rfl) Tryd.func5
    (witness_row_atRef (enc := enc) (C := Tryd.checked) false (laidWorld os) #[.int .i64 0, .bool false, .bool false] rfl (by kernel_rfl) (by kernel_rfl) (by kernel_rfl)
      (OpenSpec.preRow_of_cond 8 hx (by kernel_rfl) (fun k hk => by cases hk) (by kernel_rfl) (arr_laid_met os _))) ?_
  intro W base args ds gs before hval hW _ _ _ hL hsh _
  exact arr_contract H enc W base args ds gs before hval hW (at_of hL hsh)

theorem arr_said : Rows.ParseArrowsSaid :=
  OpenClaim.holds_of_cond 5 Tryd.f5 rfl rfl rfl rfl rfl rfl rfl ⟨rfl, rfl, rfl, rfl, rfl⟩ rfl rfl rfl rfl rfl (by kernel_rfl) Tryd.func5 (by kernel_rfl)
    (of_decide_eq_true (by kernel_rfl)) (by unfold Func.isWrapper; first | (rw [if_pos (by decide +kernel)]; kernel_rfl) | (rw [if_neg (by decide +kernel)]; exact ⟨rfl, rfl⟩))
    (fun os started H enc _ F => by rw [OpenClaim.pre_eq_preRow]; exact arr_lifted os started H enc F)

/-- No parameter wants a stand-in; the program's own looks are off. -/
theorem arr_plain (f : FuncId) (fn : Func) (hf : Tryd.pinned.checked.prog.funcNamed "ossuary/ossuarylaw08.ParseArrows" = some f) (hfn : Tryd.pinned.checked.prog.funcs[f]? = some fn) :
    false = Tryd.pinned.checked.prog.looks [] ∧ ∀ (j : Nat) t, fn.params[j]? = some t → Tryd.pinned.checked.prog.wantsStandIn t = false := by
  obtain rfl : f = 5 := Option.some.inj ((show Tryd.prog.funcNamed "ossuary/ossuarylaw08.ParseArrows" = some 5 by kernel_rfl).symm.trans hf) |>.symm
  obtain rfl : fn = Tryd.f5 := (Option.some.inj (Tryd.func5.symm.trans hfn)).symm
  refine ⟨by kernel_rfl, fun j t ht => ?_⟩
  rw [Tryd.params5] at ht
  have : t = 3 ∨ t = 4 := by
    have := Array.mem_of_getElem? ht
    simpa using this
  rcases this with rfl | rfl
  · exact (show Tryd.prog.wantsStandIn 3 = false by kernel_rfl)
  · exact (show Tryd.prog.wantsStandIn 4 = false by kernel_rfl)

/-- THE CARD. -/
theorem parseArrows_holds : Rows.ParseArrowsCardSaid :=
  Claim7.holds_tied_plain_at .later [] _ _ _ _ arr_said (fun _ h => by cases h) (by kernel_rfl) (fun _ h => by cases h) parseArrows_row_tie rfl ⟨rfl, rfl⟩ (by kernel_rfl) rfl arr_plain (by kernel_rfl)

end Go.Proofs.YtmamlccnlobnpaaDoor
