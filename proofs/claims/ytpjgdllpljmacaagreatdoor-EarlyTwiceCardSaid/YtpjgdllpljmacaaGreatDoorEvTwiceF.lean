/- EarlyTwice is true for every argument: the statement, tied to the program's text. No condition of its own. -/
import Derived.Test.YtpjgdllpljmacaaGreatDoorEvWorld
import Derived.Test.YtpjgdllpljmacaaGreatDoorEvTwiceR0
import Derived.Test.YtpjgdllpljmacaaGreatDoorEvTwiceR1
import Derived.Test.YtpjgdllpljmacaaGreatDoorEvTwiceR2
import Derived.Test.YtpjgdllpljmacaaGreatDoorEvTwiceR3
namespace Go.Proofs.YtpjgdllpljmacaaGreatDoor
open Go.Ev Go.ChangeShapes Go.WideShapes Go.ChangeAt Go.RowKit

theorem twice_all (a : Nat) (ha : a < 8) (b : Nat) (hb : b < 8) (c : Bool) : runTwice [.msk 7 a, .msk 7 b, .bool c] = true :=
  match a, ha, b, hb, c with
  | 0, _, 0, _, true => List.all_eq_true.1 twice0 _ (.head _)
  | 0, _, 0, _, false => List.all_eq_true.1 twice0 _ (.tail _ (.head _))
  | 0, _, 1, _, true => List.all_eq_true.1 twice1 _ (.head _)
  | 0, _, 1, _, false => List.all_eq_true.1 twice1 _ (.tail _ (.head _))
  | 0, _, 2, _, true => List.all_eq_true.1 twice2 _ (.head _)
  | 0, _, 2, _, false => List.all_eq_true.1 twice2 _ (.tail _ (.head _))
  | 0, _, 3, _, true => List.all_eq_true.1 twice3 _ (.head _)
  | 0, _, 3, _, false => List.all_eq_true.1 twice3 _ (.tail _ (.head _))
  | 0, _, 4, _, true => List.all_eq_true.1 twice4 _ (.head _)
  | 0, _, 4, _, false => List.all_eq_true.1 twice4 _ (.tail _ (.head _))
  | 0, _, 5, _, true => List.all_eq_true.1 twice5 _ (.head _)
  | 0, _, 5, _, false => List.all_eq_true.1 twice5 _ (.tail _ (.head _))
  | 0, _, 6, _, true => List.all_eq_true.1 twice6 _ (.head _)
  | 0, _, 6, _, false => List.all_eq_true.1 twice6 _ (.tail _ (.head _))
  | 0, _, 7, _, true => List.all_eq_true.1 twice7 _ (.head _)
  | 0, _, 7, _, false => List.all_eq_true.1 twice7 _ (.tail _ (.head _))
  | 1, _, 0, _, true => List.all_eq_true.1 twice8 _ (.head _)
  | 1, _, 0, _, false => List.all_eq_true.1 twice8 _ (.tail _ (.head _))
  | 1, _, 1, _, true => List.all_eq_true.1 twice9 _ (.head _)
  | 1, _, 1, _, false => List.all_eq_true.1 twice9 _ (.tail _ (.head _))
  | 1, _, 2, _, true => List.all_eq_true.1 twice10 _ (.head _)
  | 1, _, 2, _, false => List.all_eq_true.1 twice10 _ (.tail _ (.head _))
  | 1, _, 3, _, true => List.all_eq_true.1 twice11 _ (.head _)
  | 1, _, 3, _, false => List.all_eq_true.1 twice11 _ (.tail _ (.head _))
  | 1, _, 4, _, true => List.all_eq_true.1 twice12 _ (.head _)
  | 1, _, 4, _, false => List.all_eq_true.1 twice12 _ (.tail _ (.head _))
  | 1, _, 5, _, true => List.all_eq_true.1 twice13 _ (.head _)
  | 1, _, 5, _, false => List.all_eq_true.1 twice13 _ (.tail _ (.head _))
  | 1, _, 6, _, true => List.all_eq_true.1 twice14 _ (.head _)
  | 1, _, 6, _, false => List.all_eq_true.1 twice14 _ (.tail _ (.head _))
  | 1, _, 7, _, true => List.all_eq_true.1 twice15 _ (.head _)
  | 1, _, 7, _, false => List.all_eq_true.1 twice15 _ (.tail _ (.head _))
  | 2, _, 0, _, true => List.all_eq_true.1 twice16 _ (.head _)
  | 2, _, 0, _, false => List.all_eq_true.1 twice16 _ (.tail _ (.head _))
  | 2, _, 1, _, true => List.all_eq_true.1 twice17 _ (.head _)
  | 2, _, 1, _, false => List.all_eq_true.1 twice17 _ (.tail _ (.head _))
  | 2, _, 2, _, true => List.all_eq_true.1 twice18 _ (.head _)
  | 2, _, 2, _, false => List.all_eq_true.1 twice18 _ (.tail _ (.head _))
  | 2, _, 3, _, true => List.all_eq_true.1 twice19 _ (.head _)
  | 2, _, 3, _, false => List.all_eq_true.1 twice19 _ (.tail _ (.head _))
  | 2, _, 4, _, true => List.all_eq_true.1 twice20 _ (.head _)
  | 2, _, 4, _, false => List.all_eq_true.1 twice20 _ (.tail _ (.head _))
  | 2, _, 5, _, true => List.all_eq_true.1 twice21 _ (.head _)
  | 2, _, 5, _, false => List.all_eq_true.1 twice21 _ (.tail _ (.head _))
  | 2, _, 6, _, true => List.all_eq_true.1 twice22 _ (.head _)
  | 2, _, 6, _, false => List.all_eq_true.1 twice22 _ (.tail _ (.head _))
  | 2, _, 7, _, true => List.all_eq_true.1 twice23 _ (.head _)
  | 2, _, 7, _, false => List.all_eq_true.1 twice23 _ (.tail _ (.head _))
  | 3, _, 0, _, true => List.all_eq_true.1 twice24 _ (.head _)
  | 3, _, 0, _, false => List.all_eq_true.1 twice24 _ (.tail _ (.head _))
  | 3, _, 1, _, true => List.all_eq_true.1 twice25 _ (.head _)
  | 3, _, 1, _, false => List.all_eq_true.1 twice25 _ (.tail _ (.head _))
  | 3, _, 2, _, true => List.all_eq_true.1 twice26 _ (.head _)
  | 3, _, 2, _, false => List.all_eq_true.1 twice26 _ (.tail _ (.head _))
  | 3, _, 3, _, true => List.all_eq_true.1 twice27 _ (.head _)
  | 3, _, 3, _, false => List.all_eq_true.1 twice27 _ (.tail _ (.head _))
  | 3, _, 4, _, true => List.all_eq_true.1 twice28 _ (.head _)
  | 3, _, 4, _, false => List.all_eq_true.1 twice28 _ (.tail _ (.head _))
  | 3, _, 5, _, true => List.all_eq_true.1 twice29 _ (.head _)
  | 3, _, 5, _, false => List.all_eq_true.1 twice29 _ (.tail _ (.head _))
  | 3, _, 6, _, true => List.all_eq_true.1 twice30 _ (.head _)
  | 3, _, 6, _, false => List.all_eq_true.1 twice30 _ (.tail _ (.head _))
  | 3, _, 7, _, true => List.all_eq_true.1 twice31 _ (.head _)
  | 3, _, 7, _, false => List.all_eq_true.1 twice31 _ (.tail _ (.head _))
  | 4, _, 0, _, true => List.all_eq_true.1 twice32 _ (.head _)
  | 4, _, 0, _, false => List.all_eq_true.1 twice32 _ (.tail _ (.head _))
  | 4, _, 1, _, true => List.all_eq_true.1 twice33 _ (.head _)
  | 4, _, 1, _, false => List.all_eq_true.1 twice33 _ (.tail _ (.head _))
  | 4, _, 2, _, true => List.all_eq_true.1 twice34 _ (.head _)
  | 4, _, 2, _, false => List.all_eq_true.1 twice34 _ (.tail _ (.head _))
  | 4, _, 3, _, true => List.all_eq_true.1 twice35 _ (.head _)
  | 4, _, 3, _, false => List.all_eq_true.1 twice35 _ (.tail _ (.head _))
  | 4, _, 4, _, true => List.all_eq_true.1 twice36 _ (.head _)
  | 4, _, 4, _, false => List.all_eq_true.1 twice36 _ (.tail _ (.head _))
  | 4, _, 5, _, true => List.all_eq_true.1 twice37 _ (.head _)
  | 4, _, 5, _, false => List.all_eq_true.1 twice37 _ (.tail _ (.head _))
  | 4, _, 6, _, true => List.all_eq_true.1 twice38 _ (.head _)
  | 4, _, 6, _, false => List.all_eq_true.1 twice38 _ (.tail _ (.head _))
  | 4, _, 7, _, true => List.all_eq_true.1 twice39 _ (.head _)
  | 4, _, 7, _, false => List.all_eq_true.1 twice39 _ (.tail _ (.head _))
  | 5, _, 0, _, true => List.all_eq_true.1 twice40 _ (.head _)
  | 5, _, 0, _, false => List.all_eq_true.1 twice40 _ (.tail _ (.head _))
  | 5, _, 1, _, true => List.all_eq_true.1 twice41 _ (.head _)
  | 5, _, 1, _, false => List.all_eq_true.1 twice41 _ (.tail _ (.head _))
  | 5, _, 2, _, true => List.all_eq_true.1 twice42 _ (.head _)
  | 5, _, 2, _, false => List.all_eq_true.1 twice42 _ (.tail _ (.head _))
  | 5, _, 3, _, true => List.all_eq_true.1 twice43 _ (.head _)
  | 5, _, 3, _, false => List.all_eq_true.1 twice43 _ (.tail _ (.head _))
  | 5, _, 4, _, true => List.all_eq_true.1 twice44 _ (.head _)
  | 5, _, 4, _, false => List.all_eq_true.1 twice44 _ (.tail _ (.head _))
  | 5, _, 5, _, true => List.all_eq_true.1 twice45 _ (.head _)
  | 5, _, 5, _, false => List.all_eq_true.1 twice45 _ (.tail _ (.head _))
  | 5, _, 6, _, true => List.all_eq_true.1 twice46 _ (.head _)
  | 5, _, 6, _, false => List.all_eq_true.1 twice46 _ (.tail _ (.head _))
  | 5, _, 7, _, true => List.all_eq_true.1 twice47 _ (.head _)
  | 5, _, 7, _, false => List.all_eq_true.1 twice47 _ (.tail _ (.head _))
  | 6, _, 0, _, true => List.all_eq_true.1 twice48 _ (.head _)
  | 6, _, 0, _, false => List.all_eq_true.1 twice48 _ (.tail _ (.head _))
  | 6, _, 1, _, true => List.all_eq_true.1 twice49 _ (.head _)
  | 6, _, 1, _, false => List.all_eq_true.1 twice49 _ (.tail _ (.head _))
  | 6, _, 2, _, true => List.all_eq_true.1 twice50 _ (.head _)
  | 6, _, 2, _, false => List.all_eq_true.1 twice50 _ (.tail _ (.head _))
  | 6, _, 3, _, true => List.all_eq_true.1 twice51 _ (.head _)
  | 6, _, 3, _, false => List.all_eq_true.1 twice51 _ (.tail _ (.head _))
  | 6, _, 4, _, true => List.all_eq_true.1 twice52 _ (.head _)
  | 6, _, 4, _, false => List.all_eq_true.1 twice52 _ (.tail _ (.head _))
  | 6, _, 5, _, true => List.all_eq_true.1 twice53 _ (.head _)
  | 6, _, 5, _, false => List.all_eq_true.1 twice53 _ (.tail _ (.head _))
  | 6, _, 6, _, true => List.all_eq_true.1 twice54 _ (.head _)
  | 6, _, 6, _, false => List.all_eq_true.1 twice54 _ (.tail _ (.head _))
  | 6, _, 7, _, true => List.all_eq_true.1 twice55 _ (.head _)
  | 6, _, 7, _, false => List.all_eq_true.1 twice55 _ (.tail _ (.head _))
  | 7, _, 0, _, true => List.all_eq_true.1 twice56 _ (.head _)
  | 7, _, 0, _, false => List.all_eq_true.1 twice56 _ (.tail _ (.head _))
  | 7, _, 1, _, true => List.all_eq_true.1 twice57 _ (.head _)
  | 7, _, 1, _, false => List.all_eq_true.1 twice57 _ (.tail _ (.head _))
  | 7, _, 2, _, true => List.all_eq_true.1 twice58 _ (.head _)
  | 7, _, 2, _, false => List.all_eq_true.1 twice58 _ (.tail _ (.head _))
  | 7, _, 3, _, true => List.all_eq_true.1 twice59 _ (.head _)
  | 7, _, 3, _, false => List.all_eq_true.1 twice59 _ (.tail _ (.head _))
  | 7, _, 4, _, true => List.all_eq_true.1 twice60 _ (.head _)
  | 7, _, 4, _, false => List.all_eq_true.1 twice60 _ (.tail _ (.head _))
  | 7, _, 5, _, true => List.all_eq_true.1 twice61 _ (.head _)
  | 7, _, 5, _, false => List.all_eq_true.1 twice61 _ (.tail _ (.head _))
  | 7, _, 6, _, true => List.all_eq_true.1 twice62 _ (.head _)
  | 7, _, 6, _, false => List.all_eq_true.1 twice62 _ (.tail _ (.head _))
  | 7, _, 7, _, true => List.all_eq_true.1 twice63 _ (.head _)
  | 7, _, 7, _, false => List.all_eq_true.1 twice63 _ (.tail _ (.head _))
  | q + 8, h, _, _, _ => absurd h (by omega)
  | _, _, q + 8, h, _ => absurd h (by omega)

theorem twice_walk {W : World} (hW : At W) (a : Int) (b : Int) (c : Bool) : Calls Tryz.prog 3 #[.int .i64 a, .int .i64 b, .bool c] W fun e w' => e = .returned (.bool true) ∧ W.keptBut w' (fun _ => False) := by
  obtain ⟨qa, ha, ra⟩ := msk_of 7 (by omega) a
  obtain ⟨qb, hb, rb⟩ := msk_of 7 (by omega) b
  have hB := twice_all qa (Nat.lt_succ_of_le ha) qb (Nat.lt_succ_of_le hb) c
  unfold runTwice at hB
  split at hB
  · rename_i b' h' he
    subst hB
    have hA : CallFnOk Tryz.prog W callTwice := ext2_sound hW 200 1000
    exact closes hW (hA 3 _ h0 _ h' he) (.cons (ra _) (.cons (rb _) (.cons (.bool _) .nil)))
  · cases hB

set_option maxRecDepth 100000 in
/-- What the walk gives, for every argument and every world that holds the tables. -/
theorem twice_contract (H : Type) (enc : TypeId × Value → H) (W : World) (base : Nat) (args : Array Value) (ds gs : List (DataW H)) (before : List MemPlace)
    (hval : ∀ (j : Nat) t v, Tryz.f3.params[j]? = some t → args[j]? = some v → Value.okWide Tryz.prog W .any base t v)
    (hW : DataW.Whole enc Tryz.prog Tryz.f3.params.toList Rows.earlyTwiceSpec.vars false W args.toList ds gs before) (hA : At W) :
    Calls Tryz.prog 3 args W fun e W' => ∃ v, e = .returned v ∧ Rows.earlyTwiceSpec.post enc Tryz.prog Tryz.f3 false true false false W args v W' := by
  have hW' := hW
  obtain ⟨p, q, hA0, hV, rfl, hfz, hnd⟩ := hW
  have hT : DataW.TrodAll enc Tryz.prog W 0 (fun _ => true) true Tryz.f3.params.toList args.toList ds p := hA0
  rw [Tryz.params3] at hT hval
  obtain ⟨v0, v1, v2, d0, d1, d2, p0, p1, p2, rfl, rfl, rfl, t0, t1, t2⟩ := trodAll_three hT
  obtain ⟨rfl, rfl⟩ := trodVars_none hV
  obtain ⟨a, rfl, rfl, rfl, wa⟩ := open_int Tryz.underlying3 (hval 0 3 v0 rfl rfl) t0
  obtain ⟨b, rfl, rfl, rfl, wb⟩ := open_int Tryz.underlying3 (hval 1 3 v1 rfl rfl) t1
  obtain ⟨c, rfl, rfl, rfl⟩ := open_bool Tryz.underlying4 (hval 2 4 v2 rfl rfl) t2
  refine (twice_walk hA a b c).mono ?_
  rintro e W' ⟨rfl, hk⟩
  refine ⟨_, rfl, _, _, _, [], [], [], hW', trodAll_mk1 (shut_bool Tryz.underlying4 true), trodAll_mk3 (shut_int Tryz.underlying3 wa) (shut_int Tryz.underlying3 wb) (shut_bool Tryz.underlying4 c), rfl, World.keptBut_mono (fun _ h => h.elim) hk, fun h => by cases h⟩

theorem twice_laid_met (os : Os) (args : Array Value) : laidMet Tryz.prog Rows.earlyTwiceRow.laid ((laidWorld os).forCall (fun _ _ => 0) ⟨#[], args, []⟩).memory :=
  laidMet_of_run' 8 (by kernel_rfl) (by kernel_rfl)
theorem twice_reads (os : Os) {H : Type} (enc : TypeId × Value → H) : ∃ places, DataW.whole enc Tryz.prog ((laidWorld os).forCall (fun _ _ => 0) ⟨#[], #[.int .i64 0, .int .i64 0, .bool false], []⟩).memory Tryz.f3.params.toList Rows.earlyTwiceSpec.vars false #[Value.int .i64 0, Value.int .i64 0, Value.bool false].toList 8 = some ([.lit (.int .i64 0), .lit (.int .i64 0), .lit (.bool false)], [], places) :=
  ⟨[], by kernel_rfl⟩

set_option maxRecDepth 100000 in
theorem twice_lifted (os : Os) (started : os.Started) (H : Type) (enc : TypeId × Value → H) (F : Stop.Interp) :
    ReturnsInHanded {} Tryz.checked os 3 .any ((OpenSpec.ofChange Rows.earlyTwiceSpec).preRow enc Tryz.prog Tryz.f3 Rows.earlyTwiceRow.domain false Rows.earlyTwiceRow.laid) (((OpenSpec.ofChange Rows.earlyTwiceSpec).at F).post enc Tryz.prog Tryz.f3 false true false false) := by
  obtain ⟨places, hx⟩ := twice_reads os enc
  refine returnsInHanded_of_row (C := Tryz.checked) (s := OpenSpec.ofChange Rows.earlyTwiceSpec) own started (by kernel_rfl) Tryz.func3
    (witness_row_atRef (enc := enc) (C := Tryz.checked) false (laidWorld os) #[.int .i64 0, .int .i64 0, .bool false] rfl (by kernel_rfl) (by kernel_rfl) (by kernel_rfl)
      (OpenSpec.preRow_of_cond 8 hx (by kernel_rfl) (fun k hk => by cases hk) (by kernel_rfl) (twice_laid_met os _))) ?_
  intro W base args ds gs before hval hW _ _ _ hL hsh _
  exact twice_contract H enc W base args ds gs before hval hW (at_of hL hsh)

theorem twice_said : Rows.EarlyTwiceSaid :=
  OpenClaim.holds_of_cond 3 Tryz.f3 rfl rfl rfl rfl rfl rfl rfl ⟨rfl, rfl, rfl, rfl, rfl⟩ rfl rfl rfl rfl rfl (by kernel_rfl) Tryz.func3 (by kernel_rfl)
    (of_decide_eq_true (by kernel_rfl)) (by unfold Func.isWrapper; first | (rw [if_pos (by decide +kernel)]; kernel_rfl) | (rw [if_neg (by decide +kernel)]; exact ⟨rfl, rfl⟩))
    (fun os started H enc _ F => by rw [OpenClaim.pre_eq_preRow]; exact twice_lifted os started H enc F)

/-- No parameter wants a stand-in; the program's own looks are off. -/
theorem twice_plain (f : FuncId) (fn : Func) (hf : Tryz.pinned.checked.prog.funcNamed "ossuary/ossuarylaw09.EarlyTwice" = some f) (hfn : Tryz.pinned.checked.prog.funcs[f]? = some fn) :
    false = Tryz.pinned.checked.prog.looks [] ∧ ∀ (j : Nat) t, fn.params[j]? = some t → Tryz.pinned.checked.prog.wantsStandIn t = false := by
  obtain rfl : f = 3 := Option.some.inj ((show Tryz.prog.funcNamed "ossuary/ossuarylaw09.EarlyTwice" = some 3 by kernel_rfl).symm.trans hf) |>.symm
  obtain rfl : fn = Tryz.f3 := (Option.some.inj (Tryz.func3.symm.trans hfn)).symm
  refine ⟨by kernel_rfl, fun j t ht => ?_⟩
  rw [Tryz.params3] at ht
  have : t = 3 ∨ t = 4 := by
    have := Array.mem_of_getElem? ht
    simpa using this
  rcases this with rfl | rfl
  · exact (show Tryz.prog.wantsStandIn 3 = false by kernel_rfl)
  · exact (show Tryz.prog.wantsStandIn 4 = false by kernel_rfl)

/-- THE CARD. -/
theorem earlyTwice_holds : Rows.EarlyTwiceCardSaid :=
  Claim7.holds_tied_plain_at .later [] _ _ _ _ twice_said (fun _ h => by cases h) (by kernel_rfl) (fun _ h => by cases h) earlyTwice_row_tie rfl ⟨rfl, rfl⟩ (by kernel_rfl) rfl twice_plain (by kernel_rfl)

end Go.Proofs.YtpjgdllpljmacaaGreatDoor
