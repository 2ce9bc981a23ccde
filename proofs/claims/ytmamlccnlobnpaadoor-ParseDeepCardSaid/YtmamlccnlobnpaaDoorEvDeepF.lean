/- ParseDeep is true for every two numbers: the statement, tied to the program's text. No condition of its own. -/
import Derived.Test.YtmamlccnlobnpaaDoorEvWorld
import Derived.Test.YtmamlccnlobnpaaDoorEvDeepR0
import Derived.Test.YtmamlccnlobnpaaDoorEvDeepR1
import Derived.Test.YtmamlccnlobnpaaDoorEvDeepR2
import Derived.Test.YtmamlccnlobnpaaDoorEvDeepR3
namespace Go.Proofs.YtmamlccnlobnpaaDoor
open Go.Ev Go.ChangeShapes Go.WideShapes Go.ChangeAt Go.RowKit

theorem deep_all (k j : Nat) (hk : k < 4) (hj : j < 4) : deepB (subI .i64 (Int.ofNat k) 2) (Int.ofNat j) = true :=
  match k, hk, j, hj with
  | 0, _, 0, _ => deep0w0
  | 0, _, 1, _ => deep0w1
  | 0, _, 2, _ => deep0w2
  | 0, _, 3, _ => deep0w3
  | 1, _, 0, _ => deep1w0
  | 1, _, 1, _ => deep1w1
  | 1, _, 2, _ => deep1w2
  | 1, _, 3, _ => deep1w3
  | 2, _, 0, _ => deep2w0
  | 2, _, 1, _ => deep2w1
  | 2, _, 2, _ => deep2w2
  | 2, _, 3, _ => deep2w3
  | 3, _, 0, _ => deep3w0
  | 3, _, 1, _ => deep3w1
  | 3, _, 2, _ => deep3w2
  | 3, _, 3, _ => deep3w3
  | n + 4, h, _, _ => absurd h (by omega)
  | _, _, n + 4, h => absurd h (by omega)

theorem body4_some : Tryd.f4.body = some body4 := by kernel_rfl
theorem code4_ok : codeOk Tryd.f4.ntmps body4 = true := by decide +kernel
theorem res4 : Tryd.f4.results.toList = [.tmp 4] := by kernel_rfl

theorem deep_call {W : World} (hW : At W) (n w : Int) : ∃ h', CallOk Tryd.prog W 4 [.int .i64 n, .int .i64 w] h0 (.bool true) h' := by
  obtain ⟨k, hk, hx⟩ := X4_cases n
  obtain ⟨j, hj, hy⟩ := X4_cases w
  have hB := deep_all k j hk hj
  have hA : CallFnOk Tryd.prog W callD := ext2_sound hW 800 1000
  have hok := code4_ok
  rw [body4_eq] at hok
  simp only [codeOk, Bool.and_eq_true] at hok
  obtain ⟨k0, k1, k3, k4, ⟨k5, kb⟩, kr⟩ := hok
  have e3 := pre4c n w
  have e5 := pre4e (Y4 n) w
  have hY : Y4 n = subI .i64 (Int.ofNat k) 2 := by unfold Y4; rw [hx]
  rw [hY] at e3 e5
  rw [hy] at e5
  unfold deepB at hB
  rw [comp_run] at hB
  cases hd : den Tryd.prog callD (mask 4) 1000 blkC (D6 (subI .i64 (Int.ofNat k) 2) (Int.ofNat j)) [] h0 with
  | fail => rw [hd] at hB; cases hB
  | ok x f1 d1 h1 =>
    rw [hd] at hB
    cases x with
    | ret => cases hB
    | exit id => cases hB
    | norm =>
      simp only at hB
      rw [comp_run] at hB
      cases hr : den Tryd.prog callD (mask 4) 1000 restC f1 d1 h1 with
      | fail => rw [hr] at hB; cases hB
      | ok x f2 d2 h2 =>
        rw [hr] at hB
        cases x with
        | norm => cases hB
        | exit id => cases hB
        | ret =>
          cases d2 with
          | cons g ds => cases hB
          | nil =>
            simp only at hB
            have hres : resV Tryd.prog f2 h2 Tryd.f4.results.toList = some [.bool true] := by
              rw [res4]
              simp only [resV, Option.map_some]
              split at hB
              · rename_i c hc
                rw [hc, hB]
              · cases hB
            refine ⟨h2, calls_of_post (m := mask 4) (m' := mask 4) Tryd.func4 body4_some (x := .ret) (Or.inr rfl) (fun r a w' hd0 hs0 => ?_) hres⟩
            rw [body4_eq]
            refine post_seq hA noNum (draws callD hA) (pre4a n w) k0 (fun r a w' hd0 hs0 => ?_) r a w' hd0 hs0
            refine post_seq hA noNum (draws callD hA) (pre4b n w) k1 (fun r a w' hd0 hs0 => ?_) r a w' hd0 hs0
            refine post_seq hA noNum (draws callD hA) e3 k3 (fun r a w' hd0 hs0 => ?_) r a w' hd0 hs0
            refine post_seq hA noNum (draws callD hA) (pre4d _ w) k4 (fun r a w' hd0 hs0 => ?_) r a w' hd0 hs0
            refine post_then (m := mask 4) (f1 := f1) (d1 := d1) (h1 := h1) ?_ (fun r a w' hd0 hs0 => post_last hA noNum (draws callD hA) hr kr r a w' hd0 hs0)
            refine post_seq hA noNum (draws callD hA) e5 k5 (fun r a w' hd0 hs0 => ?_) r a w' hd0 hs0
            refine post_last hA noNum (draws callD hA) hd kb r a w' ?_ ?_
            · rw [← pre4f _ w _]; exact dim_any hd0
            · rw [← pre4f _ w _]; exact hs0.less less_fset

theorem deep_walk {W : World} (hW : At W) (n w : Int) : Calls Tryd.prog 4 #[.int .i64 n, .int .i64 w] W fun e w' => e = .returned (.bool true) ∧ W.keptBut w' (fun _ => False) := by
  obtain ⟨h', hc⟩ := deep_call hW n w
  refine (hc (globEmb Tryd.prog W) W #[.int .i64 n, .int .i64 w] (hW.begins.rel W (fun _ _ => rfl)) hW.begins.gl (hW.begins.base (fun _ _ => rfl) (Nat.le_refl _)) (.cons (.int _ _) (.cons (.int _ _) .nil))).mono ?_
  rintro e w' ⟨z, r', rfl, st, hz⟩
  cases hz
  refine ⟨rfl, st.os, st.out, fun i hi => ?_⟩
  rw [st.keep i hi (hW.begins.none i)]
  exact (World.keptBut_refl W (fun _ => False)).2.2 i hi

/- What the walk gives, for every argument and every world that holds the tables. -/
set_option maxRecDepth 100000 in
theorem deep_contract (H : Type) (enc : TypeId × Value → H) (W : World) (base : Nat) (args : Array Value) (ds gs : List (DataW H)) (before : List MemPlace)
    (hval : ∀ (j : Nat) t v, Tryd.f4.params[j]? = some t → args[j]? = some v → Value.okWide Tryd.prog W .any base t v)
    (hW : DataW.Whole enc Tryd.prog Tryd.f4.params.toList Rows.parseDeepSpec.vars false W args.toList ds gs before) (hA : At W) :
    Calls Tryd.prog 4 args W fun e W' => ∃ v, e = .returned v ∧ Rows.parseDeepSpec.post enc Tryd.prog Tryd.f4 false true false false W args v W' := by
  have hW' := hW
  obtain ⟨p, q, hA0, hV, rfl, hfz, hnd⟩ := hW
  have hT : DataW.TrodAll enc Tryd.prog W 0 (fun _ => true) true Tryd.f4.params.toList args.toList ds p := hA0
  rw [Tryd.params4] at hT hval
  obtain ⟨v0, v1, d0, d1, p0, p1, rfl, rfl, rfl, t0, t1⟩ := trodAll_two hT
  obtain ⟨rfl, rfl⟩ := trodVars_none hV
  obtain ⟨n, rfl, rfl, rfl, wn⟩ := open_int Tryd.underlying3 (hval 0 3 v0 rfl rfl) t0
  obtain ⟨a, rfl, rfl, rfl, wa⟩ := open_int Tryd.underlying3 (hval 1 3 v1 rfl rfl) t1
  refine (deep_walk hA n a).mono ?_
  rintro e W' ⟨rfl, hk⟩
  refine ⟨_, rfl, _, _, _, [], [], [], hW', trodAll_mk1 (shut_bool Tryd.underlying4 true), trodAll_mk2 (shut_int Tryd.underlying3 wn) (shut_int Tryd.underlying3 wa), rfl, World.keptBut_mono (fun _ h => h.elim) hk, fun h => by cases h⟩

theorem deep_laid_met (os : Os) (args : Array Value) : laidMet Tryd.prog Rows.parseDeepRow.laid ((laidWorld os).forCall (fun _ _ => 0) ⟨#[], args, []⟩).memory :=
  laidMet_of_run' 8 (by kernel_rfl) (by kernel_rfl)
theorem deep_reads (os : Os) {H : Type} (enc : TypeId × Value → H) : ∃ places, DataW.whole enc Tryd.prog ((laidWorld os).forCall (fun _ _ => 0) ⟨#[], #[.int .i64 0, .int .i64 0], []⟩).memory Tryd.f4.params.toList Rows.parseDeepSpec.vars false #[Value.int .i64 0, Value.int .i64 0].toList 8 = some ([.lit (.int .i64 0), .lit (.int .i64 0)], [], places) :=
  ⟨[], by kernel_rfl⟩

set_option maxRecDepth 100000 in
theorem deep_lifted (os : Os) (started : os.Started) (H : Type) (enc : TypeId × Value → H) (F : Stop.Interp) :
    ReturnsInHanded {} Tryd.checked os 4 .any ((OpenSpec.ofChange Rows.parseDeepSpec).preRow enc Tryd.prog Tryd.f4 Rows.parseDeepRow.domain false Rows.parseDeepRow.laid) (((OpenSpec.ofChange Rows.parseDeepSpec).at F).post enc Tryd.prog Tryd.f4 false true false false) := by
  obtain ⟨places, hx⟩ := deep_reads os enc
  refine returnsInHanded_of_row (C := Tryd.checked) (s := OpenSpec.ofChange Rows.parseDeepSpec) own started (by kernel_rfl) Tryd.func4
    (witness_row_atRef (enc := enc) (C := Tryd.checked) false (laidWorld os) #[.int .i64 0, .int .i64 0] rfl (by kernel_rfl) (by kernel_rfl) (by kernel_rfl)
      (OpenSpec.preRow_of_cond 8 hx (by kernel_rfl) (fun k hk => by cases hk) (by kernel_rfl) (deep_laid_met os _))) ?_
  intro W base args ds gs before hval hW _ _ _ hL hsh _
  exact deep_contract H enc W base args ds gs before hval hW (at_of hL hsh)

theorem deep_said : Rows.ParseDeepSaid :=
  OpenClaim.holds_of_cond 4 Tryd.f4 rfl rfl rfl rfl rfl rfl rfl ⟨rfl, rfl, rfl, rfl, rfl⟩ rfl rfl rfl rfl rfl (by kernel_rfl) Tryd.func4 (by kernel_rfl)
    (of_decide_eq_true (by kernel_rfl)) (by unfold Func.isWrapper; first | (rw [if_pos (by decide +kernel)]; kernel_rfl) | (rw [if_neg (by decide +kernel)]; exact ⟨rfl, rfl⟩))
    (fun os started H enc _ F => by rw [OpenClaim.pre_eq_preRow]; exact deep_lifted os started H enc F)

/-- No parameter wants a stand-in; the program's own looks are off. -/
theorem deep_plain (f : FuncId) (fn : Func) (hf : Tryd.pinned.checked.prog.funcNamed "ossuary/ossuarylaw08.ParseDeep" = some f) (hfn : Tryd.pinned.checked.prog.funcs[f]? = some fn) :
    false = Tryd.pinned.checked.prog.looks [] ∧ ∀ (j : Nat) t, fn.params[j]? = some t → Tryd.pinned.checked.prog.wantsStandIn t = false := by
  obtain rfl : f = 4 := Option.some.inj ((show Tryd.prog.funcNamed "ossuary/ossuarylaw08.ParseDeep" = some 4 by kernel_rfl).symm.trans hf) |>.symm
  obtain rfl : fn = Tryd.f4 := (Option.some.inj (Tryd.func4.symm.trans hfn)).symm
  refine ⟨by kernel_rfl, fun j t ht => ?_⟩
  rw [Tryd.params4] at ht
  obtain rfl : t = 3 := by
    have := Array.mem_of_getElem? ht
    simpa using this
  exact (show Tryd.prog.wantsStandIn 3 = false by kernel_rfl)

/-- THE CARD. -/
theorem parseDeep_holds : Rows.ParseDeepCardSaid :=
  Claim7.holds_tied_plain_at .later [] _ _ _ _ deep_said (fun _ h => by cases h) (by kernel_rfl) (fun _ h => by cases h) parseDeep_row_tie rfl ⟨rfl, rfl⟩ (by kernel_rfl) rfl deep_plain (by kernel_rfl)

end Go.Proofs.YtmamlccnlobnpaaDoor
