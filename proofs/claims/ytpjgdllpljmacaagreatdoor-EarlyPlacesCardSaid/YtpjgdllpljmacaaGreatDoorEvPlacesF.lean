/- EarlyPlaces is true for every argument: the statement, tied to the program's text. No condition of its own. -/
import Derived.Test.YtpjgdllpljmacaaGreatDoorEvWorld
import Derived.Test.YtpjgdllpljmacaaGreatDoorEvPlacesR0
import Derived.Test.YtpjgdllpljmacaaGreatDoorEvPlacesR1
import Derived.Test.YtpjgdllpljmacaaGreatDoorEvPlacesR2
import Derived.Test.YtpjgdllpljmacaaGreatDoorEvPlacesR3
namespace Go.Proofs.YtpjgdllpljmacaaGreatDoor
open Go.Ev Go.ChangeShapes Go.WideShapes Go.ChangeAt Go.RowKit

theorem places_all (a : Nat) (ha : a < 8) (b : Nat) (hb : b < 10) : runPlaces [.msk 7 a, .cls 10 b] = true :=
  match a, ha, b, hb with
  | 0, _, 0, _ => List.all_eq_true.1 places0 _ (.head _)
  | 0, _, 1, _ => List.all_eq_true.1 places0 _ (.tail _ (.head _))
  | 0, _, 2, _ => List.all_eq_true.1 places1 _ (.head _)
  | 0, _, 3, _ => List.all_eq_true.1 places1 _ (.tail _ (.head _))
  | 0, _, 4, _ => List.all_eq_true.1 places2 _ (.head _)
  | 0, _, 5, _ => List.all_eq_true.1 places2 _ (.tail _ (.head _))
  | 0, _, 6, _ => List.all_eq_true.1 places3 _ (.head _)
  | 0, _, 7, _ => List.all_eq_true.1 places3 _ (.tail _ (.head _))
  | 0, _, 8, _ => List.all_eq_true.1 places4 _ (.head _)
  | 0, _, 9, _ => List.all_eq_true.1 places4 _ (.tail _ (.head _))
  | 1, _, 0, _ => List.all_eq_true.1 places5 _ (.head _)
  | 1, _, 1, _ => List.all_eq_true.1 places5 _ (.tail _ (.head _))
  | 1, _, 2, _ => List.all_eq_true.1 places6 _ (.head _)
  | 1, _, 3, _ => List.all_eq_true.1 places6 _ (.tail _ (.head _))
  | 1, _, 4, _ => List.all_eq_true.1 places7 _ (.head _)
  | 1, _, 5, _ => List.all_eq_true.1 places7 _ (.tail _ (.head _))
  | 1, _, 6, _ => List.all_eq_true.1 places8 _ (.head _)
  | 1, _, 7, _ => List.all_eq_true.1 places8 _ (.tail _ (.head _))
  | 1, _, 8, _ => List.all_eq_true.1 places9 _ (.head _)
  | 1, _, 9, _ => List.all_eq_true.1 places9 _ (.tail _ (.head _))
  | 2, _, 0, _ => List.all_eq_true.1 places10 _ (.head _)
  | 2, _, 1, _ => List.all_eq_true.1 places10 _ (.tail _ (.head _))
  | 2, _, 2, _ => List.all_eq_true.1 places11 _ (.head _)
  | 2, _, 3, _ => List.all_eq_true.1 places11 _ (.tail _ (.head _))
  | 2, _, 4, _ => List.all_eq_true.1 places12 _ (.head _)
  | 2, _, 5, _ => List.all_eq_true.1 places12 _ (.tail _ (.head _))
  | 2, _, 6, _ => List.all_eq_true.1 places13 _ (.head _)
  | 2, _, 7, _ => List.all_eq_true.1 places13 _ (.tail _ (.head _))
  | 2, _, 8, _ => List.all_eq_true.1 places14 _ (.head _)
  | 2, _, 9, _ => List.all_eq_true.1 places14 _ (.tail _ (.head _))
  | 3, _, 0, _ => List.all_eq_true.1 places15 _ (.head _)
  | 3, _, 1, _ => List.all_eq_true.1 places15 _ (.tail _ (.head _))
  | 3, _, 2, _ => List.all_eq_true.1 places16 _ (.head _)
  | 3, _, 3, _ => List.all_eq_true.1 places16 _ (.tail _ (.head _))
  | 3, _, 4, _ => List.all_eq_true.1 places17 _ (.head _)
  | 3, _, 5, _ => List.all_eq_true.1 places17 _ (.tail _ (.head _))
  | 3, _, 6, _ => List.all_eq_true.1 places18 _ (.head _)
  | 3, _, 7, _ => List.all_eq_true.1 places18 _ (.tail _ (.head _))
  | 3, _, 8, _ => List.all_eq_true.1 places19 _ (.head _)
  | 3, _, 9, _ => List.all_eq_true.1 places19 _ (.tail _ (.head _))
  | 4, _, 0, _ => List.all_eq_true.1 places20 _ (.head _)
  | 4, _, 1, _ => List.all_eq_true.1 places20 _ (.tail _ (.head _))
  | 4, _, 2, _ => List.all_eq_true.1 places21 _ (.head _)
  | 4, _, 3, _ => List.all_eq_true.1 places21 _ (.tail _ (.head _))
  | 4, _, 4, _ => List.all_eq_true.1 places22 _ (.head _)
  | 4, _, 5, _ => List.all_eq_true.1 places22 _ (.tail _ (.head _))
  | 4, _, 6, _ => List.all_eq_true.1 places23 _ (.head _)
  | 4, _, 7, _ => List.all_eq_true.1 places23 _ (.tail _ (.head _))
  | 4, _, 8, _ => List.all_eq_true.1 places24 _ (.head _)
  | 4, _, 9, _ => List.all_eq_true.1 places24 _ (.tail _ (.head _))
  | 5, _, 0, _ => List.all_eq_true.1 places25 _ (.head _)
  | 5, _, 1, _ => List.all_eq_true.1 places25 _ (.tail _ (.head _))
  | 5, _, 2, _ => List.all_eq_true.1 places26 _ (.head _)
  | 5, _, 3, _ => List.all_eq_true.1 places26 _ (.tail _ (.head _))
  | 5, _, 4, _ => List.all_eq_true.1 places27 _ (.head _)
  | 5, _, 5, _ => List.all_eq_true.1 places27 _ (.tail _ (.head _))
  | 5, _, 6, _ => List.all_eq_true.1 places28 _ (.head _)
  | 5, _, 7, _ => List.all_eq_true.1 places28 _ (.tail _ (.head _))
  | 5, _, 8, _ => List.all_eq_true.1 places29 _ (.head _)
  | 5, _, 9, _ => List.all_eq_true.1 places29 _ (.tail _ (.head _))
  | 6, _, 0, _ => List.all_eq_true.1 places30 _ (.head _)
  | 6, _, 1, _ => List.all_eq_true.1 places30 _ (.tail _ (.head _))
  | 6, _, 2, _ => List.all_eq_true.1 places31 _ (.head _)
  | 6, _, 3, _ => List.all_eq_true.1 places31 _ (.tail _ (.head _))
  | 6, _, 4, _ => List.all_eq_true.1 places32 _ (.head _)
  | 6, _, 5, _ => List.all_eq_true.1 places32 _ (.tail _ (.head _))
  | 6, _, 6, _ => List.all_eq_true.1 places33 _ (.head _)
  | 6, _, 7, _ => List.all_eq_true.1 places33 _ (.tail _ (.head _))
  | 6, _, 8, _ => List.all_eq_true.1 places34 _ (.head _)
  | 6, _, 9, _ => List.all_eq_true.1 places34 _ (.tail _ (.head _))
  | 7, _, 0, _ => List.all_eq_true.1 places35 _ (.head _)
  | 7, _, 1, _ => List.all_eq_true.1 places35 _ (.tail _ (.head _))
  | 7, _, 2, _ => List.all_eq_true.1 places36 _ (.head _)
  | 7, _, 3, _ => List.all_eq_true.1 places36 _ (.tail _ (.head _))
  | 7, _, 4, _ => List.all_eq_true.1 places37 _ (.head _)
  | 7, _, 5, _ => List.all_eq_true.1 places37 _ (.tail _ (.head _))
  | 7, _, 6, _ => List.all_eq_true.1 places38 _ (.head _)
  | 7, _, 7, _ => List.all_eq_true.1 places38 _ (.tail _ (.head _))
  | 7, _, 8, _ => List.all_eq_true.1 places39 _ (.head _)
  | 7, _, 9, _ => List.all_eq_true.1 places39 _ (.tail _ (.head _))
  | q + 8, h, _, _ => absurd h (by omega)
  | _, _, q + 10, h => absurd h (by omega)

theorem places_walk {W : World} (hW : At W) (a : Int) (b : Int) : Calls Tryz.prog 4 #[.int .i64 a, .int .i64 b] W fun e w' => e = .returned (.bool true) ∧ W.keptBut w' (fun _ => False) := by
  obtain ⟨qa, ha, ra⟩ := msk_of 7 (by omega) a
  obtain ⟨qb, hb, rb⟩ := cls_of 10 (by omega) b
  have hB := places_all qa (Nat.lt_succ_of_le ha) qb hb
  unfold runPlaces at hB
  split at hB
  · rename_i b' h' he
    subst hB
    have hA : CallFnOk Tryz.prog W callPlaces := ext2_sound hW 200 1000
    exact closes hW (hA 4 _ h0 _ h' he) (.cons (ra _) (.cons (rb _) .nil))
  · cases hB

set_option maxRecDepth 100000 in
/-- What the walk gives, for every argument and every world that holds the tables. -/
theorem places_contract (H : Type) (enc : TypeId × Value → H) (W : World) (base : Nat) (args : Array Value) (ds gs : List (DataW H)) (before : List MemPlace)
    (hval : ∀ (j : Nat) t v, Tryz.f4.params[j]? = some t → args[j]? = some v → Value.okWide Tryz.prog W .any base t v)
    (hW : DataW.Whole enc Tryz.prog Tryz.f4.params.toList Rows.earlyPlacesSpec.vars false W args.toList ds gs before) (hA : At W) :
    Calls Tryz.prog 4 args W fun e W' => ∃ v, e = .returned v ∧ Rows.earlyPlacesSpec.post enc Tryz.prog Tryz.f4 false true false false W args v W' := by
  have hW' := hW
  obtain ⟨p, q, hA0, hV, rfl, hfz, hnd⟩ := hW
  have hT : DataW.TrodAll enc Tryz.prog W 0 (fun _ => true) true Tryz.f4.params.toList args.toList ds p := hA0
  rw [Tryz.params4] at hT hval
  obtain ⟨v0, v1, d0, d1, p0, p1, rfl, rfl, rfl, t0, t1⟩ := trodAll_two hT
  obtain ⟨rfl, rfl⟩ := trodVars_none hV
  obtain ⟨a, rfl, rfl, rfl, wa⟩ := open_int Tryz.underlying3 (hval 0 3 v0 rfl rfl) t0
  obtain ⟨b, rfl, rfl, rfl, wb⟩ := open_int Tryz.underlying3 (hval 1 3 v1 rfl rfl) t1
  refine (places_walk hA a b).mono ?_
  rintro e W' ⟨rfl, hk⟩
  refine ⟨_, rfl, _, _, _, [], [], [], hW', trodAll_mk1 (shut_bool Tryz.underlying4 true), trodAll_mk2 (shut_int Tryz.underlying3 wa) (shut_int Tryz.underlying3 wb), rfl, World.keptBut_mono (fun _ h => h.elim) hk, fun h => by cases h⟩

theorem places_laid_met (os : Os) (args : Array Value) : laidMet Tryz.prog Rows.earlyPlacesRow.laid ((laidWorld os).forCall (fun _ _ => 0) ⟨#[], args, []⟩).memory :=
  laidMet_of_run' 8 (by kernel_rfl) (by kernel_rfl)
theorem places_reads (os : Os) {H : Type} (enc : TypeId × Value → H) : ∃ places, DataW.whole enc Tryz.prog ((laidWorld os).forCall (fun _ _ => 0) ⟨#[], #[.int .i64 0, .int .i64 0], []⟩).memory Tryz.f4.params.toList Rows.earlyPlacesSpec.vars false #[Value.int .i64 0, Value.int .i64 0].toList 8 = some ([.lit (.int .i64 0), .lit (.int .i64 0)], [], places) :=
  ⟨[], by kernel_rfl⟩

set_option maxRecDepth 100000 in
theorem places_lifted (os : Os) (started : os.Started) (H : Type) (enc : TypeId × Value → H) (F : Stop.Interp) :
    ReturnsInHanded {} Tryz.checked os 4 .any ((OpenSpec.ofChange Rows.earlyPlacesSpec).preRow enc Tryz.prog Tryz.f4 Rows.earlyPlacesRow.domain false Rows.earlyPlacesRow.laid) (((OpenSpec.ofChange Rows.earlyPlacesSpec).at F).post enc Tryz.prog Tryz.f4 false true false false) := by
  obtain ⟨places, hx⟩ := places_reads os enc
  refine returnsInHanded_of_row (C := Tryz.checked) (s := OpenSpec.ofChange Rows.earlyPlacesSpec) own started (by kernel_rfl) Tryz.func4
    (witness_row_atRef (enc := enc) (C := Tryz.checked) false (laidWorld os) #[.int .i64 0, .int .i64 0] rfl (by kernel_rfl) (by kernel_rfl) (by kernel_rfl)
      (OpenSpec.preRow_of_cond 8 hx (by kernel_rfl) (fun k hk => by cases hk) (by kernel_rfl) (places_laid_met os _))) ?_
  intro W base args ds gs before hval hW _ _ _ hL hsh _
  exact places_contract H enc W base args ds gs before hval hW (at_of hL hsh)

theorem places_said : Rows.EarlyPlacesSaid :=
  OpenClaim.holds_of_cond 4 Tryz.f4 rfl rfl rfl rfl rfl rfl rfl ⟨rfl, rfl, rfl, rfl, rfl⟩ rfl rfl rfl rfl rfl (by kernel_rfl) Tryz.func4 (by kernel_rfl)
    (of_decide_eq_true (by kernel_rfl)) (by unfold Func.isWrapper; first | (rw [if_pos (by decide +kernel)]; kernel_rfl) | (rw [if_neg (by decide +kernel)]; exact ⟨rfl, rfl⟩))
    (fun os started H enc _ F => by rw [OpenClaim.pre_eq_preRow]; exact places_lifted os started H enc F)

/-- No parameter wants a stand-in; the program's own looks are off. -/
theorem places_plain (f : FuncId) (fn : Func) (hf : Tryz.pinned.checked.prog.funcNamed "ossuary/ossuarylaw09.EarlyPlaces" = some f) (hfn : Tryz.pinned.checked.prog.funcs[f]? = some fn) :
    false = Tryz.pinned.checked.prog.looks [] ∧ ∀ (j : Nat) t, fn.params[j]? = some t → Tryz.pinned.checked.prog.wantsStandIn t = false := by
  obtain rfl : f = 4 := Option.some.inj ((show Tryz.prog.funcNamed "ossuary/ossuarylaw09.EarlyPlaces" = some 4 by kernel_rfl).symm.trans hf) |>.symm
  obtain rfl : fn = Tryz.f4 := (Option.some.inj (Tryz.func4.symm.trans hfn)).symm
  refine ⟨by kernel_rfl, fun j t ht => ?_⟩
  rw [Tryz.params4] at ht
  obtain rfl : t = 3 := by
    have := Array.mem_of_getElem? ht
    simpa using this
  exact (show Tryz.prog.wantsStandIn 3 = false by kernel_rfl)

/-- THE CARD. -/
theorem earlyPlaces_holds : Rows.EarlyPlacesCardSaid :=
  Claim7.holds_tied_plain_at .later [] _ _ _ _ places_said (fun _ h => by cases h) (by kernel_rfl) (fun _ h => by cases h) earlyPlaces_row_tie rfl ⟨rfl, rfl⟩ (by kernel_rfl) rfl places_plain (by kernel_rfl)

end Go.Proofs.YtpjgdllpljmacaaGreatDoor
