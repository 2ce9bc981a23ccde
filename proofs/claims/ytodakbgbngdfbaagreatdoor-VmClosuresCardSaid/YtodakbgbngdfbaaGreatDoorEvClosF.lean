/- VmClosures is true for every argument: the statement, tied to the program's text. No condition of its own. -/
import Derived.Test.YtodakbgbngdfbaaGreatDoorEvWorld
import Derived.Test.YtodakbgbngdfbaaGreatDoorEvHa
import Derived.Test.YtodakbgbngdfbaaGreatDoorEvHb
import Derived.Test.YtodakbgbngdfbaaGreatDoorEvHc
import Derived.Test.YtodakbgbngdfbaaGreatDoorEvHd
import Derived.Test.YtodakbgbngdfbaaGreatDoorEvHe
import Derived.Test.YtodakbgbngdfbaaGreatDoorEvHf
import Derived.Test.YtodakbgbngdfbaaGreatDoorEvG2
import Derived.Test.YtodakbgbngdfbaaGreatDoorEvJ2
namespace Go.Proofs.YtodakbgbngdfbaaGreatDoor
open Go.Ev Go.ChangeShapes Go.WideShapes Go.ChangeAt Go.RowKit

theorem clos_all {W : World} (hW : At W) (a : Nat) (ha : a < 20) : ∃ h', CallOk Tryz.prog W 3 [.cls 20 a] h0 (.bool true) h' :=
  match a, ha with
  | 0, _ => head_ok hW rfl Pg.ch0 hd0
  | 1, _ => head_ok hW rfl Pk.ch1 hd1
  | 2, _ => head_ok hW rfl Ph.ch2 hd2
  | 3, _ => head_ok hW rfl Pl.ch3 hd3
  | 4, _ => head_ok hW rfl Pi.ch4 hd4
  | 5, _ => head_ok hW rfl Pl.ch5 hd5
  | 6, _ => head_ok hW rfl Pj.ch6 hd6
  | 7, _ => head_ok hW rfl Pk.ch7 hd7
  | 8, _ => head_ok hW rfl Pk.ch8 hd8
  | 9, _ => head_ok hW rfl Pl.ch9 hd9
  | 10, _ => head_ok hW rfl Pj.ch10 hd10
  | 11, _ => head_ok hW rfl Pi.ch11 hd11
  | 12, _ => head_ok hW rfl Ph.ch12 hd12
  | 13, _ => head_ok hW rfl Pg.ch13 hd13
  | 14, _ => head_ok hW rfl Pf.ch14 hd14
  | 15, _ => head_ok hW rfl Pe.ch15 hd15
  | 16, _ => head_ok hW rfl Pd.ch16 hd16
  | 17, _ => head_ok hW rfl Pb.ch17 hd17
  | 18, _ => head_ok hW rfl Pc.ch18 hd18
  | 19, _ => head_ok hW rfl Pa.ch19 hd19
  | q + 20, h => absurd h (by omega)

theorem clos_walk {W : World} (hW : At W) (a : Int) : Calls Tryz.prog 3 #[.int .i64 a] W fun e w' => e = .returned (.bool true) ∧ W.keptBut w' (fun _ => False) := by
  obtain ⟨qa, ha, ra⟩ := cls_of 20 (by omega) a
  obtain ⟨h', hc⟩ := clos_all hW qa ha
  exact closes hW hc (.cons (ra _) .nil)

set_option maxRecDepth 100000 in
/-- What the walk gives, for every argument and every world that holds the tables. -/
theorem clos_contract (H : Type) (enc : TypeId × Value → H) (W : World) (base : Nat) (args : Array Value) (ds gs : List (DataW H)) (before : List MemPlace)
    (hval : ∀ (j : Nat) t v, Tryz.f3.params[j]? = some t → args[j]? = some v → Value.okWide Tryz.prog W .any base t v)
    (hW : DataW.Whole enc Tryz.prog Tryz.f3.params.toList Rows.vmClosuresSpec.vars false W args.toList ds gs before) (hA : At W) :
    Calls Tryz.prog 3 args W fun e W' => ∃ v, e = .returned v ∧ Rows.vmClosuresSpec.post enc Tryz.prog Tryz.f3 false true false false W args v W' := by
  have hW' := hW
  obtain ⟨p, q, hA0, hV, rfl, hfz, hnd⟩ := hW
  have hT : DataW.TrodAll enc Tryz.prog W 0 (fun _ => true) true Tryz.f3.params.toList args.toList ds p := hA0
  rw [Tryz.params3] at hT hval
  obtain ⟨v0, d0, rfl, rfl, t0⟩ := trodAll_one hT
  obtain ⟨rfl, rfl⟩ := trodVars_none hV
  obtain ⟨a, rfl, rfl, rfl, wa⟩ := open_int Tryz.underlying3 (hval 0 3 v0 rfl rfl) t0
  refine (clos_walk hA a).mono ?_
  rintro e W' ⟨rfl, hk⟩
  refine ⟨_, rfl, _, _, _, [], [], [], hW', trodAll_mk1 (shut_bool Tryz.underlying4 true), trodAll_mk1 (shut_int Tryz.underlying3 wa), rfl, World.keptBut_mono (fun _ h => h.elim) hk, fun h => by cases h⟩

theorem clos_laid_met (os : Os) (args : Array Value) : laidMet Tryz.prog Rows.vmClosuresRow.laid ((laidWorld os).forCall (fun _ _ => 0) ⟨#[], args, []⟩).memory :=
  laidMet_of_run' 8 (by kernel_rfl) (by kernel_rfl)
theorem clos_reads (os : Os) {H : Type} (enc : TypeId × Value → H) : ∃ places, DataW.whole enc Tryz.prog ((laidWorld os).forCall (fun _ _ => 0) ⟨#[], #[.int .i64 0], []⟩).memory Tryz.f3.params.toList Rows.vmClosuresSpec.vars false #[Value.int .i64 0].toList 8 = some ([.lit (.int .i64 0)], [], places) :=
  ⟨[], by kernel_rfl⟩

set_option maxRecDepth 100000 in
theorem clos_lifted (os : Os) (started : os.Started) (H : Type) (enc : TypeId × Value → H) (F : Stop.Interp) :
    ReturnsInHanded {} Tryz.checked os 3 .any ((OpenSpec.ofChange Rows.vmClosuresSpec).preRow enc Tryz.prog Tryz.f3 Rows.vmClosuresRow.domain false Rows.vmClosuresRow.laid) (((OpenSpec.ofChange Rows.vmClosuresSpec).at F).post enc Tryz.prog Tryz.f3 false true false false) := by
  obtain ⟨places, hx⟩ := clos_reads os enc
  refine returnsInHanded_of_row (C := Tryz.checked) (s := OpenSpec.ofChange Rows.vmClosuresSpec) own started (by kernel_rfl) Tryz.func3
    (witness_row_atRef (enc := enc) (C := Tryz.checked) false (laidWorld os) #[.int .i64 0] rfl (by kernel_rfl) (by kernel_rfl) (by kernel_rfl)
      (OpenSpec.preRow_of_cond 8 hx (by kernel_rfl) (fun k hk => by cases hk) (by kernel_rfl) (clos_laid_met os _))) ?_
  intro W base args ds gs before hval hW _ _ _ hL hsh _
  exact clos_contract H enc W base args ds gs before hval hW (at_of hL hsh)

theorem clos_named : Tryz.pinned.checked.prog.funcNamed Rows.vmClosuresRow.func = some 3 := by kernel_rfl
theorem clos_inst : Tryz.f3.isInstance Tryz.pinned.checked.prog Rows.vmClosuresRow.origin Rows.vmClosuresRow.targs := of_decide_eq_true (by kernel_rfl)
theorem clos_wrap : Tryz.f3.isWrapper Tryz.pinned.checked.prog Rows.vmClosuresRow.wrapper Rows.vmClosuresRow.mainSum := by
  unfold Func.isWrapper; first | (rw [if_pos (by decide +kernel)]; kernel_rfl) | (rw [if_neg (by decide +kernel)]; exact ⟨rfl, rfl⟩)
theorem clos_said : Rows.VmClosuresSaid :=
  OpenClaim.holds_of_cond 3 Tryz.f3 rfl rfl rfl rfl rfl rfl rfl ⟨rfl, rfl, rfl, rfl, rfl⟩ rfl rfl rfl rfl rfl clos_named Tryz.func3 clos_joined
    clos_inst clos_wrap
    (fun os started H enc _ F => by rw [OpenClaim.pre_eq_preRow]; exact clos_lifted os started H enc F)

/-- No parameter wants a stand-in; the program's own looks are off. -/
theorem clos_plain (f : FuncId) (fn : Func) (hf : Tryz.pinned.checked.prog.funcNamed "ossuary/ossuarylaw13.VmClosures" = some f) (hfn : Tryz.pinned.checked.prog.funcs[f]? = some fn) :
    true = Tryz.pinned.checked.prog.looks [] ∧ ∀ (j : Nat) t, fn.params[j]? = some t → Tryz.pinned.checked.prog.wantsStandIn t = false := by
  obtain rfl : f = 3 := Option.some.inj ((show Tryz.prog.funcNamed "ossuary/ossuarylaw13.VmClosures" = some 3 by kernel_rfl).symm.trans hf) |>.symm
  obtain rfl : fn = Tryz.f3 := (Option.some.inj (Tryz.func3.symm.trans hfn)).symm
  refine ⟨by kernel_rfl, fun j t ht => ?_⟩
  rw [Tryz.params3] at ht
  obtain rfl : t = 3 := by
    have := Array.mem_of_getElem? ht
    simpa using this
  exact (show Tryz.prog.wantsStandIn 3 = false by kernel_rfl)

/-- THE CARD. -/
theorem vmClosures_holds : Rows.VmClosuresCardSaid :=
  Claim7.holds_tied_plain_at .later [] _ _ _ _ clos_said (fun _ h => by cases h) (by kernel_rfl) (fun _ h => by cases h) vmClosures_row_tie rfl ⟨rfl, rfl⟩ (by kernel_rfl) rfl clos_plain clos_goes

end Go.Proofs.YtodakbgbngdfbaaGreatDoor
