/- EarlyNested is true for every argument: the statement, tied to the program's text. No condition of its own. -/
import Derived.Test.YtpjgdllpljmacaaGreatDoorEwWorld
import Derived.Test.YtpjgdllpljmacaaGreatDoorEwNestedR0
import Derived.Test.YtpjgdllpljmacaaGreatDoorEwNestedR1
import Derived.Test.YtpjgdllpljmacaaGreatDoorEwNestedR2
import Derived.Test.YtpjgdllpljmacaaGreatDoorEwNestedR3
namespace Go.Proofs.YtpjgdllpljmacaaGreatDoor
open Go.Ev Go.ChangeShapes Go.WideShapes Go.ChangeAt Go.RowKit

theorem nested_all (a : Nat) (ha : a < 6) (b : Nat) (hb : b < 6) : runNested [.cls 6 a, .cls 6 b] = true :=
  match a, ha, b, hb with
  | 0, _, 0, _ => List.all_eq_true.1 nested0 _ (.head _)
  | 0, _, 1, _ => List.all_eq_true.1 nested1 _ (.head _)
  | 0, _, 2, _ => List.all_eq_true.1 nested2 _ (.head _)
  | 0, _, 3, _ => List.all_eq_true.1 nested3 _ (.head _)
  | 0, _, 4, _ => List.all_eq_true.1 nested4 _ (.head _)
  | 0, _, 5, _ => List.all_eq_true.1 nested5 _ (.head _)
  | 1, _, 0, _ => List.all_eq_true.1 nested6 _ (.head _)
  | 1, _, 1, _ => List.all_eq_true.1 nested7 _ (.head _)
  | 1, _, 2, _ => List.all_eq_true.1 nested8 _ (.head _)
  | 1, _, 3, _ => List.all_eq_true.1 nested9 _ (.head _)
  | 1, _, 4, _ => List.all_eq_true.1 nested10 _ (.head _)
  | 1, _, 5, _ => List.all_eq_true.1 nested11 _ (.head _)
  | 2, _, 0, _ => List.all_eq_true.1 nested12 _ (.head _)
  | 2, _, 1, _ => List.all_eq_true.1 nested13 _ (.head _)
  | 2, _, 2, _ => List.all_eq_true.1 nested14 _ (.head _)
  | 2, _, 3, _ => List.all_eq_true.1 nested15 _ (.head _)
  | 2, _, 4, _ => List.all_eq_true.1 nested16 _ (.head _)
  | 2, _, 5, _ => List.all_eq_true.1 nested17 _ (.head _)
  | 3, _, 0, _ => List.all_eq_true.1 nested18 _ (.head _)
  | 3, _, 1, _ => List.all_eq_true.1 nested19 _ (.head _)
  | 3, _, 2, _ => List.all_eq_true.1 nested20 _ (.head _)
  | 3, _, 3, _ => List.all_eq_true.1 nested21 _ (.head _)
  | 3, _, 4, _ => List.all_eq_true.1 nested22 _ (.head _)
  | 3, _, 5, _ => List.all_eq_true.1 nested23 _ (.head _)
  | 4, _, 0, _ => List.all_eq_true.1 nested24 _ (.head _)
  | 4, _, 1, _ => List.all_eq_true.1 nested25 _ (.head _)
  | 4, _, 2, _ => List.all_eq_true.1 nested26 _ (.head _)
  | 4, _, 3, _ => List.all_eq_true.1 nested27 _ (.head _)
  | 4, _, 4, _ => List.all_eq_true.1 nested28 _ (.head _)
  | 4, _, 5, _ => List.all_eq_true.1 nested29 _ (.head _)
  | 5, _, 0, _ => List.all_eq_true.1 nested30 _ (.head _)
  | 5, _, 1, _ => List.all_eq_true.1 nested31 _ (.head _)
  | 5, _, 2, _ => List.all_eq_true.1 nested32 _ (.head _)
  | 5, _, 3, _ => List.all_eq_true.1 nested33 _ (.head _)
  | 5, _, 4, _ => List.all_eq_true.1 nested34 _ (.head _)
  | 5, _, 5, _ => List.all_eq_true.1 nested35 _ (.head _)
  | q + 6, h, _, _ => absurd h (by omega)
  | _, _, q + 6, h => absurd h (by omega)

theorem nested_walk {W : World} (hW : At W) (a : Int) (b : Int) : Calls Tryz.prog 6 #[.int .i64 a, .int .i64 b] W fun e w' => e = .returned (.bool true) ∧ W.keptBut w' (fun _ => False) := by
  obtain ⟨qa, ha, ra⟩ := cls_of 6 (by omega) a
  obtain ⟨qb, hb, rb⟩ := cls_of 6 (by omega) b
  have hB := nested_all qa ha qb hb
  unfold runNested at hB
  split at hB
  · rename_i b' h' he
    subst hB
    have hA : CallFnOk Tryz.prog W callNested := ext2_sound hW 200 1000
    exact closes hW (hA 6 _ h0 _ h' he) (.cons (ra _) (.cons (rb _) .nil))
  · cases hB

set_option maxRecDepth 100000 in
/-- What the walk gives, for every argument and every world that holds the tables. -/
theorem nested_contract (H : Type) (enc : TypeId × Value → H) (W : World) (base : Nat) (args : Array Value) (ds gs : List (DataW H)) (before : List MemPlace)
    (hval : ∀ (j : Nat) t v, Tryz.f6.params[j]? = some t → args[j]? = some v → Value.okWide Tryz.prog W .any base t v)
    (hW : DataW.Whole enc Tryz.prog Tryz.f6.params.toList Rows.earlyNestedSpec.vars false W args.toList ds gs before) (hA : At W) :
    Calls Tryz.prog 6 args W fun e W' => ∃ v, e = .returned v ∧ Rows.earlyNestedSpec.post enc Tryz.prog Tryz.f6 false true false false W args v W' := by
  have hW' := hW
  obtain ⟨p, q, hA0, hV, rfl, hfz, hnd⟩ := hW
  have hT : DataW.TrodAll enc Tryz.prog W 0 (fun _ => true) true Tryz.f6.params.toList args.toList ds p := hA0
  rw [Tryz.params6] at hT hval
  obtain ⟨v0, v1, d0, d1, p0, p1, rfl, rfl, rfl, t0, t1⟩ := trodAll_two hT
  obtain ⟨rfl, rfl⟩ := trodVars_none hV
  obtain ⟨a, rfl, rfl, rfl, wa⟩ := open_int Tryz.underlying3 (hval 0 3 v0 rfl rfl) t0
  obtain ⟨b, rfl, rfl, rfl, wb⟩ := open_int Tryz.underlying3 (hval 1 3 v1 rfl rfl) t1
  refine (nested_walk hA a b).mono ?_
  rintro e W' ⟨rfl, hk⟩
  refine ⟨_, rfl, _, _, _, [], [], [], hW', trodAll_mk1 (shut_bool Tryz.underlying4 true), trodAll_mk2 (shut_int Tryz.underlying3 wa) (shut_int Tryz.underlying3 wb), rfl, World.keptBut_mono (fun _ h => h.elim) hk, fun h => by cases h⟩

theorem nested_laid_met (os : Os) (args : Array Value) : laidMet Tryz.prog Rows.earlyNestedRow.laid ((laidWorld os).forCall (fun _ _ => 0) ⟨#[], args, []⟩).memory :=
  laidMet_of_run' 8 (by kernel_rfl) (by kernel_rfl)
theorem nested_reads (os : Os) {H : Type} (enc : TypeId × Value → H) : ∃ places, DataW.whole enc Tryz.prog ((laidWorld os).forCall (fun _ _ => 0) ⟨#[], #[.int .i64 0, .int .i64 0], []⟩).memory Tryz.f6.params.toList Rows.earlyNestedSpec.vars false #[Value.int .i64 0, Value.int .i64 0].toList 8 = some ([.lit (.int .i64 0), .lit (.int .i64 0)], [], places) :=
  ⟨[], by kernel_rfl⟩

set_option maxRecDepth 100000 in
theorem nested_lifted (os : Os) (started : os.Started) (H : Type) (enc : TypeId × Value → H) (F : Stop.Interp) :
    ReturnsInHanded {} Tryz.checked os 6 .any ((OpenSpec.ofChange Rows.earlyNestedSpec).preRow enc Tryz.prog Tryz.f6 Rows.earlyNestedRow.domain false Rows.earlyNestedRow.laid) (((OpenSpec.ofChange Rows.earlyNestedSpec).at F).post enc Tryz.prog Tryz.f6 false true false false) := by
  obtain ⟨places, hx⟩ := nested_reads os enc
  refine returnsInHanded_of_row (C := Tryz.checked) (s := OpenSpec.ofChange Rows.earlyNestedSpec) own started (by kernel_rfl) Tryz.func6
    (witness_row_atRef (enc := enc) (C := Tryz.checked) false (laidWorld os) #[.int .i64 0, .int .i64 0] rfl (by kernel_rfl) (by kernel_rfl) (by kernel_rfl)
      (OpenSpec.preRow_of_cond 8 hx (by kernel_rfl) (fun k hk => by cases hk) (by kernel_rfl) (nested_laid_met os _))) ?_
  intro W base args ds gs before hval hW _ _ _ hL hsh _
  exact nested_contract H enc W base args ds gs before hval hW (at_of hL hsh)

theorem nested_said : Rows.EarlyNestedSaid :=
  OpenClaim.holds_of_cond 6 Tryz.f6 rfl rfl rfl rfl rfl rfl rfl ⟨rfl, rfl, rfl, rfl, rfl⟩ rfl rfl rfl rfl rfl (by kernel_rfl) Tryz.func6 (by kernel_rfl)
    (of_decide_eq_true (by kernel_rfl)) (by unfold Func.isWrapper; first | (rw [if_pos (by decide +kernel)]; kernel_rfl) | (rw [if_neg (by decide +kernel)]; exact ⟨rfl, rfl⟩))
    (fun os started H enc _ F => by rw [OpenClaim.pre_eq_preRow]; exact nested_lifted os started H enc F)

/-- No parameter wants a stand-in; the program's own looks are off. -/
theorem nested_plain (f : FuncId) (fn : Func) (hf : Tryz.pinned.checked.prog.funcNamed "ossuary/ossuarylaw09.EarlyNested" = some f) (hfn : Tryz.pinned.checked.prog.funcs[f]? = some fn) :
    false = Tryz.pinned.checked.prog.looks [] ∧ ∀ (j : Nat) t, fn.params[j]? = some t → Tryz.pinned.checked.prog.wantsStandIn t = false := by
  obtain rfl : f = 6 := Option.some.inj ((show Tryz.prog.funcNamed "ossuary/ossuarylaw09.EarlyNested" = some 6 by kernel_rfl).symm.trans hf) |>.symm
  obtain rfl : fn = Tryz.f6 := (Option.some.inj (Tryz.func6.symm.trans hfn)).symm
  refine ⟨by kernel_rfl, fun j t ht => ?_⟩
  rw [Tryz.params6] at ht
  obtain rfl : t = 3 := by
    have := Array.mem_of_getElem? ht
    simpa using this
  exact (show Tryz.prog.wantsStandIn 3 = false by kernel_rfl)

/-- THE CARD. -/
theorem earlyNested_holds : Rows.EarlyNestedCardSaid :=
  Claim7.holds_tied_plain_at .later [] _ _ _ _ nested_said (fun _ h => by cases h) (by kernel_rfl) (fun _ h => by cases h) earlyNested_row_tie rfl ⟨rfl, rfl⟩ (by kernel_rfl) rfl nested_plain (by kernel_rfl)

end Go.Proofs.YtpjgdllpljmacaaGreatDoor
