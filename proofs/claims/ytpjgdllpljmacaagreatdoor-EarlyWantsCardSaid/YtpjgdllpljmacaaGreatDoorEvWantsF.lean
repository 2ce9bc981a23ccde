/- EarlyWants is true for every argument: the statement, tied to the program's text. No condition of its own. -/
import Derived.Test.YtpjgdllpljmacaaGreatDoorEvWorld
import Derived.Test.YtpjgdllpljmacaaGreatDoorEvWantsR0
namespace Go.Proofs.YtpjgdllpljmacaaGreatDoor
open Go.Ev Go.ChangeShapes Go.WideShapes Go.ChangeAt Go.RowKit

theorem wants_all (a : Nat) (ha : a < 5) : runWants [.cls 5 a] = true :=
  match a, ha with
  | 0, _ => List.all_eq_true.1 wants0 _ (.head _)
  | 1, _ => List.all_eq_true.1 wants1 _ (.head _)
  | 2, _ => List.all_eq_true.1 wants2 _ (.head _)
  | 3, _ => List.all_eq_true.1 wants3 _ (.head _)
  | 4, _ => List.all_eq_true.1 wants4 _ (.head _)
  | q + 5, h => absurd h (by omega)

theorem wants_walk {W : World} (hW : At W) (a : Int) : Calls Tryz.prog 5 #[.int .i64 a] W fun e w' => e = .returned (.bool true) ∧ W.keptBut w' (fun _ => False) := by
  obtain ⟨qa, ha, ra⟩ := cls_of 5 (by omega) a
  have hB := wants_all qa ha
  unfold runWants at hB
  split at hB
  · rename_i b' h' he
    subst hB
    have hA : CallFnOk Tryz.prog W callWants := ext2_sound hW 200 1000
    exact closes hW (hA 5 _ h0 _ h' he) (.cons (ra _) .nil)
  · cases hB

set_option maxRecDepth 100000 in
/-- What the walk gives, for every argument and every world that holds the tables. -/
theorem wants_contract (H : Type) (enc : TypeId × Value → H) (W : World) (base : Nat) (args : Array Value) (ds gs : List (DataW H)) (before : List MemPlace)
    (hval : ∀ (j : Nat) t v, Tryz.f5.params[j]? = some t → args[j]? = some v → Value.okWide Tryz.prog W .any base t v)
    (hW : DataW.Whole enc Tryz.prog Tryz.f5.params.toList Rows.earlyWantsSpec.vars false W args.toList ds gs before) (hA : At W) :
    Calls Tryz.prog 5 args W fun e W' => ∃ v, e = .returned v ∧ Rows.earlyWantsSpec.post enc Tryz.prog Tryz.f5 false true false false W args v W' := by
  have hW' := hW
  obtain ⟨p, q, hA0, hV, rfl, hfz, hnd⟩ := hW
  have hT : DataW.TrodAll enc Tryz.prog W 0 (fun _ => true) true Tryz.f5.params.toList args.toList ds p := hA0
  rw [Tryz.params5] at hT hval
  obtain ⟨v0, d0, rfl, rfl, t0⟩ := trodAll_one hT
  obtain ⟨rfl, rfl⟩ := trodVars_none hV
  obtain ⟨a, rfl, rfl, rfl, wa⟩ := open_int Tryz.underlying3 (hval 0 3 v0 rfl rfl) t0
  refine (wants_walk hA a).mono ?_
  rintro e W' ⟨rfl, hk⟩
  refine ⟨_, rfl, _, _, _, [], [], [], hW', trodAll_mk1 (shut_bool Tryz.underlying4 true), trodAll_mk1 (shut_int Tryz.underlying3 wa), rfl, World.keptBut_mono (fun _ h => h.elim) hk, fun h => by cases h⟩

theorem wants_laid_met (os : Os) (args : Array Value) : laidMet Tryz.prog Rows.earlyWantsRow.laid ((laidWorld os).forCall (fun _ _ => 0) ⟨#[], args, []⟩).memory :=
  laidMet_of_run' 8 (by kernel_rfl) (by kernel_rfl)
theorem wants_reads (os : Os) {H : Type} (enc : TypeId × Value → H) : ∃ places, DataW.whole enc Tryz.prog ((laidWorld os).forCall (fun _ _ => 0) ⟨#[], #[.int .i64 0], []⟩).memory Tryz.f5.params.toList Rows.earlyWantsSpec.vars false #[Value.int .i64 0].toList 8 = some ([.lit (.int .i64 0)], [], places) :=
  ⟨[], by kernel_rfl⟩

set_option maxRecDepth 100000 in
theorem wants_lifted (os : Os) (started : os.Started) (H : Type) (enc : TypeId × Value → H) (F : Stop.Interp) :
    ReturnsInHanded {} Tryz.checked os 5 .any ((OpenSpec.ofChange Rows.earlyWantsSpec).preRow enc Tryz.prog Tryz.f5 Rows.earlyWantsRow.domain false Rows.earlyWantsRow.laid) (((OpenSpec.ofChange Rows.earlyWantsSpec).at F).post enc Tryz.prog Tryz.f5 false true false false) := by
  obtain ⟨places, hx⟩ := wants_reads os enc
  refine returnsInHanded_of_row (C := Tryz.checked) (s := OpenSpec.ofChange Rows.earlyWantsSpec) own started (by kernel_rfl) Tryz.func5
    (witness_row_atRef (enc := enc) (C := Tryz.checked) false (laidWorld os) #[.int .i64 0] rfl (by kernel_rfl) (by kernel_rfl) (by kernel_rfl)
      (OpenSpec.preRow_of_cond 8 hx (by kernel_rfl) (fun k hk => by cases hk) (by kernel_rfl) (wants_laid_met os _))) ?_
  intro W base args ds gs before hval hW _ _ _ hL hsh _
  exact wants_contract H enc W base args ds gs before hval hW (at_of hL hsh)

theorem wants_said : Rows.EarlyWantsSaid :=
  OpenClaim.holds_of_cond 5 Tryz.f5 rfl rfl rfl rfl rfl rfl rfl ⟨rfl, rfl, rfl, rfl, rfl⟩ rfl rfl rfl rfl rfl (by kernel_rfl) Tryz.func5 (by kernel_rfl)
    (of_decide_eq_true (by kernel_rfl)) (by unfold Func.isWrapper; first | (rw [if_pos (by decide +kernel)]; kernel_rfl) | (rw [if_neg (by decide +kernel)]; exact ⟨rfl, rfl⟩))
    (fun os started H enc _ F => by rw [OpenClaim.pre_eq_preRow]; exact wants_lifted os started H enc F)

/-- No parameter wants a stand-in; the program's own looks are off. -/
theorem wants_plain (f : FuncId) (fn : Func) (hf : Tryz.pinned.checked.prog.funcNamed "ossuary/ossuarylaw09.EarlyWants" = some f) (hfn : Tryz.pinned.checked.prog.funcs[f]? = some fn) :
    false = Tryz.pinned.checked.prog.looks [] ∧ ∀ (j : Nat) t, fn.params[j]? = some t → Tryz.pinned.checked.prog.wantsStandIn t = false := by
  obtain rfl : f = 5 := Option.some.inj ((show Tryz.prog.funcNamed "ossuary/ossuarylaw09.EarlyWants" = some 5 by kernel_rfl).symm.trans hf) |>.symm
  obtain rfl : fn = Tryz.f5 := (Option.some.inj (Tryz.func5.symm.trans hfn)).symm
  refine ⟨by kernel_rfl, fun j t ht => ?_⟩
  rw [Tryz.params5] at ht
  obtain rfl : t = 3 := by
    have := Array.mem_of_getElem? ht
    simpa using this
  exact (show Tryz.prog.wantsStandIn 3 = false by kernel_rfl)

/-- THE CARD. -/
theorem earlyWants_holds : Rows.EarlyWantsCardSaid :=
  Claim7.holds_tied_plain_at .later [] _ _ _ _ wants_said (fun _ h => by cases h) (by kernel_rfl) (fun _ h => by cases h) earlyWants_row_tie rfl ⟨rfl, rfl⟩ (by kernel_rfl) rfl wants_plain (by kernel_rfl)

end Go.Proofs.YtpjgdllpljmacaaGreatDoor
