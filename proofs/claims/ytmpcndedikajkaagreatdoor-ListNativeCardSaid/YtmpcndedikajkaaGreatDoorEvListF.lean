/- ListNative is true for every argument: the statement, tied to the program's text. No condition of its own. -/
import Derived.Test.YtmpcndedikajkaaGreatDoorEvWorld
import Derived.Test.YtmpcndedikajkaaGreatDoorEvListR0
import Derived.Test.YtmpcndedikajkaaGreatDoorEvListR1
import Derived.Test.YtmpcndedikajkaaGreatDoorEvListR2
import Derived.Test.YtmpcndedikajkaaGreatDoorEvListR3
namespace Go.Proofs.YtmpcndedikajkaaGreatDoor
open Go.Ev Go.ChangeShapes Go.WideShapes Go.ChangeAt Go.RowKit

theorem list_all (a : Nat) (ha : a < 20) : runList [.cls 20 a] = true :=
  match a, ha with
  | 0, _ => List.all_eq_true.1 list0 _ (.head _)
  | 1, _ => List.all_eq_true.1 list1 _ (.head _)
  | 2, _ => List.all_eq_true.1 list2 _ (.head _)
  | 3, _ => List.all_eq_true.1 list3 _ (.head _)
  | 4, _ => List.all_eq_true.1 list4 _ (.head _)
  | 5, _ => List.all_eq_true.1 list5 _ (.head _)
  | 6, _ => List.all_eq_true.1 list6 _ (.head _)
  | 7, _ => List.all_eq_true.1 list7 _ (.head _)
  | 8, _ => List.all_eq_true.1 list8 _ (.head _)
  | 9, _ => List.all_eq_true.1 list9 _ (.head _)
  | 10, _ => List.all_eq_true.1 list10 _ (.head _)
  | 11, _ => List.all_eq_true.1 list11 _ (.head _)
  | 12, _ => List.all_eq_true.1 list12 _ (.head _)
  | 13, _ => List.all_eq_true.1 list13 _ (.head _)
  | 14, _ => List.all_eq_true.1 list14 _ (.head _)
  | 15, _ => List.all_eq_true.1 list15 _ (.head _)
  | 16, _ => List.all_eq_true.1 list16 _ (.head _)
  | 17, _ => List.all_eq_true.1 list17 _ (.head _)
  | 18, _ => List.all_eq_true.1 list18 _ (.head _)
  | 19, _ => List.all_eq_true.1 list19 _ (.head _)
  | q + 20, h => absurd h (by omega)

theorem list_walk {W : World} (hW : At W) (a : Int) : Calls Tryz.prog 3 #[.int .i64 a] W fun e w' => e = .returned (.bool true) ∧ W.keptBut w' (fun _ => False) := by
  obtain ⟨qa, ha, ra⟩ := cls_of 20 (by omega) a
  have hB := list_all qa ha
  unfold runList at hB
  split at hB
  · rename_i b' h' he
    subst hB
    have hA : CallFnOk Tryz.prog W callList := ext2_sound hW 200 1000
    exact closes hW (hA 3 _ h0 _ h' he) (.cons (ra _) .nil)
  · cases hB

set_option maxRecDepth 100000 in
/-- What the walk gives, for every argument and every world that holds the tables. -/
theorem list_contract (H : Type) (enc : TypeId × Value → H) (W : World) (base : Nat) (args : Array Value) (ds gs : List (DataW H)) (before : List MemPlace)
    (hval : ∀ (j : Nat) t v, Tryz.f3.params[j]? = some t → args[j]? = some v → Value.okWide Tryz.prog W .any base t v)
    (hW : DataW.Whole enc Tryz.prog Tryz.f3.params.toList Rows.listNativeSpec.vars false W args.toList ds gs before) (hA : At W) :
    Calls Tryz.prog 3 args W fun e W' => ∃ v, e = .returned v ∧ Rows.listNativeSpec.post enc Tryz.prog Tryz.f3 false true false false W args v W' := by
  have hW' := hW
  obtain ⟨p, q, hA0, hV, rfl, hfz, hnd⟩ := hW
  have hT : DataW.TrodAll enc Tryz.prog W 0 (fun _ => true) true Tryz.f3.params.toList args.toList ds p := hA0
  rw [Tryz.params3] at hT hval
  obtain ⟨v0, d0, rfl, rfl, t0⟩ := trodAll_one hT
  obtain ⟨rfl, rfl⟩ := trodVars_none hV
  obtain ⟨a, rfl, rfl, rfl, wa⟩ := open_int Tryz.underlying3 (hval 0 3 v0 rfl rfl) t0
  refine (list_walk hA a).mono ?_
  rintro e W' ⟨rfl, hk⟩
  refine ⟨_, rfl, _, _, _, [], [], [], hW', trodAll_mk1 (shut_bool Tryz.underlying4 true), trodAll_mk1 (shut_int Tryz.underlying3 wa), rfl, World.keptBut_mono (fun _ h => h.elim) hk, fun h => by cases h⟩

theorem list_laid_met (os : Os) (args : Array Value) : laidMet Tryz.prog Rows.listNativeRow.laid ((laidWorld os).forCall (fun _ _ => 0) ⟨#[], args, []⟩).memory :=
  laidMet_of_run' 8 (by kernel_rfl) (by kernel_rfl)
theorem list_reads (os : Os) {H : Type} (enc : TypeId × Value → H) : ∃ places, DataW.whole enc Tryz.prog ((laidWorld os).forCall (fun _ _ => 0) ⟨#[], #[.int .i64 0], []⟩).memory Tryz.f3.params.toList Rows.listNativeSpec.vars false #[Value.int .i64 0].toList 8 = some ([.lit (.int .i64 0)], [], places) :=
  ⟨[], by kernel_rfl⟩

set_option maxRecDepth 100000 in
theorem list_lifted (os : Os) (started : os.Started) (H : Type) (enc : TypeId × Value → H) (F : Stop.Interp) :
    ReturnsInHanded {} Tryz.checked os 3 .any ((OpenSpec.ofChange Rows.listNativeSpec).preRow enc Tryz.prog Tryz.f3 Rows.listNativeRow.domain false Rows.listNativeRow.laid) (((OpenSpec.ofChange Rows.listNativeSpec).at F).post enc Tryz.prog Tryz.f3 false true false false) := by
  obtain ⟨places, hx⟩ := list_reads os enc
  refine returnsInHanded_of_row (C := Tryz.checked) (s := OpenSpec.ofChange Rows.listNativeSpec) own started (by kernel_rfl) Tryz.func3
    (witness_row_atRef (enc := enc) (C := Tryz.checked) false (laidWorld os) #[.int .i64 0] rfl (by kernel_rfl) (by kernel_rfl) (by kernel_rfl)
      (OpenSpec.preRow_of_cond 8 hx (by kernel_rfl) (fun k hk => by cases hk) (by kernel_rfl) (list_laid_met os _))) ?_
  intro W base args ds gs before hval hW _ _ _ hL hsh _
  exact list_contract H enc W base args ds gs before hval hW (at_of hL)

theorem list_said : Rows.ListNativeSaid :=
  OpenClaim.holds_of_cond 3 Tryz.f3 rfl rfl rfl rfl rfl rfl rfl ⟨rfl, rfl, rfl, rfl, rfl⟩ rfl rfl rfl rfl rfl (by kernel_rfl) Tryz.func3 (by kernel_rfl)
    (of_decide_eq_true (by kernel_rfl)) (by unfold Func.isWrapper; first | (rw [if_pos (by decide +kernel)]; kernel_rfl) | (rw [if_neg (by decide +kernel)]; exact ⟨rfl, rfl⟩))
    (fun os started H enc _ F => by rw [OpenClaim.pre_eq_preRow]; exact list_lifted os started H enc F)

/-- No parameter wants a stand-in; the program's own looks are off. -/
theorem list_plain (f : FuncId) (fn : Func) (hf : Tryz.pinned.checked.prog.funcNamed "ossuary/ossuarylaw15.ListNative" = some f) (hfn : Tryz.pinned.checked.prog.funcs[f]? = some fn) :
    true = Tryz.pinned.checked.prog.looks [] ∧ ∀ (j : Nat) t, fn.params[j]? = some t → Tryz.pinned.checked.prog.wantsStandIn t = false := by
  obtain rfl : f = 3 := Option.some.inj ((show Tryz.prog.funcNamed "ossuary/ossuarylaw15.ListNative" = some 3 by kernel_rfl).symm.trans hf) |>.symm
  obtain rfl : fn = Tryz.f3 := (Option.some.inj (Tryz.func3.symm.trans hfn)).symm
  refine ⟨by kernel_rfl, fun j t ht => ?_⟩
  rw [Tryz.params3] at ht
  obtain rfl : t = 3 := by
    have := Array.mem_of_getElem? ht
    simpa using this
  exact (show Tryz.prog.wantsStandIn 3 = false by kernel_rfl)

/-- THE CARD. -/
theorem listNative_holds : Rows.ListNativeCardSaid :=
  Claim7.holds_tied_plain_at .later [] _ _ _ _ list_said (fun _ h => by cases h) (by kernel_rfl) (fun _ h => by cases h) listNative_row_tie rfl ⟨rfl, rfl⟩ (by kernel_rfl) rfl list_plain (by kernel_rfl)

end Go.Proofs.YtmpcndedikajkaaGreatDoor
