/- VmCalls is true for every argument: the statement, tied to the program's text. No condition of its own. -/
import Derived.Test.YtboloofhmpfeiaaGreatDoorEvWorld
import Derived.Test.YtboloofhmpfeiaaGreatDoorEvCallsR
import Derived.Test.YtboloofhmpfeiaaGreatDoorEvCallsG
import Derived.Test.YtboloofhmpfeiaaGreatDoorEvCallsJ
namespace Go.Proofs.YtboloofhmpfeiaaGreatDoor
open Go.Ev Go.ChangeShapes Go.WideShapes Go.ChangeAt Go.RowKit

/-- The whole call, at any two numbers. -/
theorem calls_walk {W : World} (hW : At W) (n k : Int) : Calls Tryz.prog 3 #[.int .i64 n, .int .i64 k] W fun e w' => e = .returned (.bool true) ∧ W.keptBut w' (fun _ => False) := by
  have hB := calls_run
  unfold runAll at hB
  split at hB
  · rename_i b h' he
    subst hB
    have hA : CallFnOk Tryz.prog W callAll := all_sound hW 300 3000
    exact sym_closes hW.begins (emb_none W symA (by decide)) (emb_none W symB (by decide)) (by decide) (by decide) (fun id hl => begins_live hl) ((hA 3 _ h0 _ h' he).1 rfl) n k
  · cases hB

set_option maxRecDepth 100000 in
/-- What the walk gives, for every argument and every world that holds the tables. -/
theorem calls_contract (H : Type) (enc : TypeId × Value → H) (W : World) (base : Nat) (args : Array Value) (ds gs : List (DataW H)) (before : List MemPlace)
    (hval : ∀ (j : Nat) t v, Tryz.f3.params[j]? = some t → args[j]? = some v → Value.okWide Tryz.prog W .any base t v)
    (hW : DataW.Whole enc Tryz.prog Tryz.f3.params.toList Rows.vmCallsSpec.vars false W args.toList ds gs before) (hA : At W) :
    Calls Tryz.prog 3 args W fun e W' => ∃ v, e = .returned v ∧ Rows.vmCallsSpec.post enc Tryz.prog Tryz.f3 false true false false W args v W' := by
  have hW' := hW
  obtain ⟨p, q, hA0, hV, rfl, hfz, hnd⟩ := hW
  have hT : DataW.TrodAll enc Tryz.prog W 0 (fun _ => true) true Tryz.f3.params.toList args.toList ds p := hA0
  rw [Tryz.params3] at hT hval
  obtain ⟨v0, v1, d0, d1, p0, p1, rfl, rfl, rfl, t0, t1⟩ := trodAll_two hT
  obtain ⟨rfl, rfl⟩ := trodVars_none hV
  obtain ⟨a, rfl, rfl, rfl, wa⟩ := open_int Tryz.underlying2 (hval 0 2 v0 rfl rfl) t0
  obtain ⟨b, rfl, rfl, rfl, wb⟩ := open_int Tryz.underlying3 (hval 1 3 v1 rfl rfl) t1
  refine (calls_walk hA a b).mono ?_
  rintro e W' ⟨rfl, hk⟩
  refine ⟨_, rfl, _, _, _, [], [], [], hW', trodAll_mk1 (shut_bool Tryz.underlying4 true), trodAll_mk2 (shut_int Tryz.underlying2 wa) (shut_int Tryz.underlying3 wb), rfl, World.keptBut_mono (fun _ h => h.elim) hk, fun h => by cases h⟩

theorem calls_laid_met (os : Os) (args : Array Value) : laidMet Tryz.prog Rows.vmCallsRow.laid ((laidWorld os).forCall (fun _ _ => 0) ⟨#[], args, []⟩).memory :=
  laidMet_of_run' 8 (by kernel_rfl) (by kernel_rfl)
theorem calls_reads (os : Os) {H : Type} (enc : TypeId × Value → H) : ∃ places, DataW.whole enc Tryz.prog ((laidWorld os).forCall (fun _ _ => 0) ⟨#[], #[.int .i64 0, .int .i64 0], []⟩).memory Tryz.f3.params.toList Rows.vmCallsSpec.vars false #[Value.int .i64 0, Value.int .i64 0].toList 8 = some ([.lit (.int .i64 0), .lit (.int .i64 0)], [], places) :=
  ⟨[], by kernel_rfl⟩

set_option maxRecDepth 100000 in
theorem calls_lifted (os : Os) (started : os.Started) (H : Type) (enc : TypeId × Value → H) (F : Stop.Interp) :
    ReturnsInHanded {} Tryz.checked os 3 .any ((OpenSpec.ofChange Rows.vmCallsSpec).preRow enc Tryz.prog Tryz.f3 Rows.vmCallsRow.domain false Rows.vmCallsRow.laid) (((OpenSpec.ofChange Rows.vmCallsSpec).at F).post enc Tryz.prog Tryz.f3 false true false false) := by
  obtain ⟨places, hx⟩ := calls_reads os enc
  refine returnsInHanded_of_row (C := Tryz.checked) (s := OpenSpec.ofChange Rows.vmCallsSpec) own started (by kernel_rfl) Tryz.func3
    (witness_row_atRef (enc := enc) (C := Tryz.checked) false (laidWorld os) #[.int .i64 0, .int .i64 0] rfl (by kernel_rfl) (by kernel_rfl) (by kernel_rfl)
      (OpenSpec.preRow_of_cond 8 hx (by kernel_rfl) (fun k hk => by cases hk) (by kernel_rfl) (calls_laid_met os _))) ?_
  intro W base args ds gs before hval hW _ _ _ hL hsh _
  exact calls_contract H enc W base args ds gs before hval hW (at_of hL hsh)

theorem calls_named : Tryz.pinned.checked.prog.funcNamed Rows.vmCallsRow.func = some 3 := by kernel_rfl
theorem calls_inst : Tryz.f3.isInstance Tryz.pinned.checked.prog Rows.vmCallsRow.origin Rows.vmCallsRow.targs := of_decide_eq_true (by kernel_rfl)
theorem calls_wrap : Tryz.f3.isWrapper Tryz.pinned.checked.prog Rows.vmCallsRow.wrapper Rows.vmCallsRow.mainSum := by
  unfold Func.isWrapper; first | (rw [if_pos (by decide +kernel)]; kernel_rfl) | (rw [if_neg (by decide +kernel)]; exact ⟨rfl, rfl⟩)
theorem calls_said : Rows.VmCallsSaid :=
  OpenClaim.holds_of_cond 3 Tryz.f3 rfl rfl rfl rfl rfl rfl rfl ⟨rfl, rfl, rfl, rfl, rfl⟩ rfl rfl rfl rfl rfl calls_named Tryz.func3 calls_joined
    calls_inst calls_wrap
    (fun os started H enc _ F => by rw [OpenClaim.pre_eq_preRow]; exact calls_lifted os started H enc F)

/-- No parameter wants a stand-in; the program's own looks are off. -/
theorem calls_plain (f : FuncId) (fn : Func) (hf : Tryz.pinned.checked.prog.funcNamed "ossuary/ossuarylaw13.VmCalls" = some f) (hfn : Tryz.pinned.checked.prog.funcs[f]? = some fn) :
    true = Tryz.pinned.checked.prog.looks [] ∧ ∀ (j : Nat) t, fn.params[j]? = some t → Tryz.pinned.checked.prog.wantsStandIn t = false := by
  obtain rfl : f = 3 := Option.some.inj ((show Tryz.prog.funcNamed "ossuary/ossuarylaw13.VmCalls" = some 3 by kernel_rfl).symm.trans hf) |>.symm
  obtain rfl : fn = Tryz.f3 := (Option.some.inj (Tryz.func3.symm.trans hfn)).symm
  refine ⟨by kernel_rfl, fun j t ht => ?_⟩
  rw [Tryz.params3] at ht
  have h3 : t = 2 ∨ t = 3 := by
    have := Array.mem_of_getElem? ht
    simpa using this
  rcases h3 with rfl | rfl
  · exact (show Tryz.prog.wantsStandIn 2 = false by kernel_rfl)
  · exact (show Tryz.prog.wantsStandIn 3 = false by kernel_rfl)

/-- THE CARD. -/
theorem vmCalls_holds : Rows.VmCallsCardSaid :=
  Claim7.holds_tied_plain_at .later [] _ _ _ _ calls_said (fun _ h => by cases h) (by kernel_rfl) (fun _ h => by cases h) vmCalls_row_tie rfl ⟨rfl, rfl⟩ (by kernel_rfl) rfl calls_plain calls_goes

end Go.Proofs.YtboloofhmpfeiaaGreatDoor
