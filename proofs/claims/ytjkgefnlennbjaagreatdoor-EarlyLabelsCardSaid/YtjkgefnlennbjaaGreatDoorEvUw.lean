/- EarlyLabels is true for every argument: the statement, tied to the program's text. No condition of its own. -/
import Derived.Test.YtjkgefnlennbjaaGreatDoorEvWo
import Derived.Test.YtjkgefnlennbjaaGreatDoorEvUv
import Derived.Deep.Slices
import Derived.Deep.Grids
import Derived.ChangeSlices
import Derived.ReadAgain
import Derived.Below
set_option linter.all false
namespace Go.Proofs.YtjkgefnlennbjaaGreatDoor
open Go.Ev Go.ChangeShapes Go.WideShapes Go.ChangeAt Go.RowKit

theorem spot_none {W : World} {a : Addr} {v : Value} (h : W.cell? a = some v) : a = ⟨a.block, a.off, none⟩ := by
  obtain ⟨b, o, sp⟩ := a
  cases sp with
  | none => rfl
  | some x =>
    unfold World.cell? at h
    split at h
    · simp at h
    · cases h

/-- The list, opened. -/
def ListAt (W : World) (v : Value) : Prop := ∃ (p : Option Addr) (l : List Int) (cap : Nat), v = .slice p l.length cap ∧ IntsAt W p l
theorem cells3 : Tryz.prog.cellsOf 3 = 1 := by kernel_rfl
section
variable {H : Type} {enc : TypeId × Value → H}
set_option maxRecDepth 100000 in
theorem list_at {W : World} {b0 : Nat} {v : Value} {d : DataW H} {p : List MemPlace} (hval : Value.okWide Tryz.prog W .any b0 22 v) (h : DataW.Trod enc Tryz.prog W 0 (fun _ => true) true 22 v d p) : ListAt W v := by
  obtain ⟨a, len, cap, rfl⟩ := okWide_slice Tryz.underlying22 hval
  obtain ⟨fuel, h⟩ := h
  rcases open_ints Tryz.underlying22 Tryz.underlying3 cells3 h with ⟨h1, _⟩ | ⟨a', len', cap', zs, h1, _, hl, hmx, hz, _, hc, _⟩
  · simp only [Value.cells, List.cons.injEq, and_true, Value.slice.injEq] at h1
    obtain ⟨rfl, rfl, rfl⟩ := h1
    exact ⟨none, [], 0, rfl, fun j b hj => by simp at hj⟩
  · simp only [Value.cells, List.cons.injEq, and_true, Value.slice.injEq] at h1
    obtain ⟨rfl, rfl, rfl⟩ := h1
    simp only [if_true] at hz
    refine ⟨some a', zs.take len, cap, by rw [List.length_take]; congr 1; omega, ?_⟩
    intro j x hj
    have hjl : j < len := by
      have := (List.getElem?_eq_some_iff.1 hj).1
      rw [List.length_take] at this
      omega
    rw [List.getElem?_take, if_pos hjl] at hj
    have hcj := hc j (by omega)
    have c0 := hc 0 (by omega)
    have ea : a'.add 0 = a' := by simp [Addr.add]
    rw [ea] at c0
    have e := spot_none c0
    obtain ⟨g, y, sp⟩ := a'
    cases e
    rw [add_plain] at hcj
    have hx : zs.getD j 0 = x := by rw [List.getD_eq_getElem?_getD, hj]; rfl
    exact ⟨g, y, rfl, World.block_lt_of_cell? W _ c0, by rw [hcj, hx]⟩
end

set_option maxHeartbeats 4000000 in
set_option maxRecDepth 100000 in
theorem law_long {W : World} (hA : At W) (p : Option Addr) (n cap : Nat) (hn : 12 < n) (tg : Int) (again : Bool) : Calls Tryz.prog 3 #[.slice p n cap, .int .i64 tg, .bool again] W fun e w' => e = .returned (.bool true) ∧ Below W.heap.size W w' := by
  have hn' : (12 : Int) < (n : Int) := by omega
  go_enter Tryz.func3, Tryz.ntmps3
  go_wp2_with (go_at_call 4; refine (fit_calls hA).mono ?_)
  rintro e w1 ⟨rfl, hb1⟩
  go_wp2
  go_ret
  exact ⟨rfl, hb1⟩
set_option maxHeartbeats 4000000 in
set_option maxRecDepth 100000 in
theorem law_none {W : World} (hA : At W) (p : Option Addr) (cap : Nat) (tg : Int) (again : Bool) : Calls Tryz.prog 3 #[.slice p 0 cap, .int .i64 tg, .bool again] W fun e w' => e = .returned (.bool true) ∧ Below W.heap.size W w' := by
  go_enter Tryz.func3, Tryz.ntmps3
  go_wp2_with (go_at_call 4; refine (fit_calls hA).mono ?_)
  rintro e w1 ⟨rfl, hb1⟩
  go_wp2
  go_ret
  exact ⟨rfl, hb1⟩
theorem lst_call {W : World} (hW : At W) {v : Value} (hv : ListAt W v) (tg : Int) (again : Bool) : Calls Tryz.prog 3 #[v, .int .i64 tg, .bool again] W fun e w' => e = .returned (.bool true) ∧ Below W.heap.size W w' := by
  obtain ⟨p, l, cap, rfl, hc⟩ := hv
  by_cases hn : l.length ≤ 12
  · by_cases h0 : l.length = 0
    · rw [h0]; exact law_none hW p cap tg again
    · exact law_walk hW p cap l hn (by omega) hc tg again
  · exact law_long hW p l.length cap (by omega) tg again

theorem kids : Kids Tryz.prog (· < Tryz.prog.types.size) := kids_rows (by kernel_rfl) (by kernel_rfl)
theorem slicesFull : ∀ t e, t < Tryz.prog.types.size → Tryz.prog.underlying t = some (.slice e) → 0 < Tryz.prog.cellsOf e := slices_full_of Tryz.prog (by kernel_rfl)
theorem inTypes : 22 < Tryz.prog.types.size := of_decide_eq_true (by kernel_rfl)

set_option maxRecDepth 100000 in
/-- What the walk gives, for every argument and every world that holds the tables. -/
theorem lst_contract (H : Type) (enc : TypeId × Value → H) (W : World) (base : Nat) (args : Array Value) (ds gs : List (DataW H)) (before : List MemPlace)
    (hval : ∀ (j : Nat) t v, Tryz.f3.params[j]? = some t → args[j]? = some v → Value.okWide Tryz.prog W .any base t v)
    (hW : DataW.Whole enc Tryz.prog Tryz.f3.params.toList Rows.earlyLabelsSpec.vars false W args.toList ds gs before) (hA : At W) :
    Calls Tryz.prog 3 args W fun e W' => ∃ v, e = .returned v ∧ Rows.earlyLabelsSpec.post enc Tryz.prog Tryz.f3 false true false false W args v W' := by
  have hW' := hW
  obtain ⟨p, q, hA0, hV, rfl, hfz, hnd⟩ := hW
  have hT : DataW.TrodAll enc Tryz.prog W 0 (fun _ => true) true Tryz.f3.params.toList args.toList ds p := hA0
  rw [Tryz.params3] at hT hval
  obtain ⟨v0, v1, v2, d0, d1, d2, p0, p1, p2, rfl, rfl, rfl, t0, t1, t3⟩ := trodAll_three hT
  obtain ⟨rfl, rfl⟩ := trodVars_none hV
  obtain ⟨tg, rfl, rfl, rfl, wtg⟩ := open_int Tryz.underlying3 (hval 1 3 v1 rfl rfl) t1
  obtain ⟨again, rfl, rfl, rfl⟩ := open_bool Tryz.underlying4 (hval 2 4 v2 rfl rfl) t3
  refine (lst_call hA (list_at (hval 0 22 v0 rfl rfl) t0) tg again).mono ?_
  rintro e W' ⟨rfl, hk⟩
  have hlt : ∀ x ∈ p0, x.block < W.heap.size := by
    obtain ⟨n, hn⟩ := t0
    exact DataW.trod_lt n _ _ _ hn
  have t2 : DataW.Trod enc Tryz.prog W' 0 (fun b => decide (b < W.heap.size)) true 22 v0 d0 p0 := by
    obtain ⟨n, hn⟩ := t0
    exact DataW.Trod.respare kids slicesFull inTypes ⟨n, DataW.trod_carry n _ _ _ hn (fun x hx => hk.same (hlt x hx))⟩ (fun x hx => decide_eq_true (hlt x hx))
  refine ⟨_, rfl, _, _, _, [], _, [], hW', trodAll_mk1 (shut_bool Tryz.underlying4 true), trodAll_mk3 t2 (shut_int Tryz.underlying3 wtg) (shut_bool Tryz.underlying4 again), rfl, hk.frame _, fun h => by cases h⟩

theorem lst_laid_met (os : Os) (args : Array Value) : laidMet Tryz.prog Rows.earlyLabelsRow.laid ((laidWorld os).forCall (fun _ _ => 0) ⟨#[], args, []⟩).memory :=
  laidMet_of_run' 8 (by kernel_rfl) (by kernel_rfl)
theorem lst_reads (os : Os) {H : Type} (enc : TypeId × Value → H) : ∃ places, DataW.whole enc Tryz.prog ((laidWorld os).forCall (fun _ _ => 0) ⟨#[], #[.slice none 0 0, .int .i64 0, .bool false], []⟩).memory Tryz.f3.params.toList Rows.earlyLabelsSpec.vars false #[Value.slice none 0 0, Value.int .i64 0, Value.bool false].toList 8 = some ([.nil, .lit (.int .i64 0), .lit (.bool false)], [], places) :=
  ⟨[], by kernel_rfl⟩

set_option maxRecDepth 100000 in
theorem lst_lifted (os : Os) (started : os.Started) (H : Type) (enc : TypeId × Value → H) (F : Stop.Interp) :
    ReturnsInHanded {} Tryz.checked os 3 .any ((OpenSpec.ofChange Rows.earlyLabelsSpec).preRow enc Tryz.prog Tryz.f3 Rows.earlyLabelsRow.domain false Rows.earlyLabelsRow.laid) (((OpenSpec.ofChange Rows.earlyLabelsSpec).at F).post enc Tryz.prog Tryz.f3 false true false false) := by
  obtain ⟨places, hx⟩ := lst_reads os enc
  refine returnsInHanded_of_row (C := Tryz.checked) (s := OpenSpec.ofChange Rows.earlyLabelsSpec) own started (by kernel_rfl) Tryz.func3
    (witness_row_atRef (enc := enc) (C := Tryz.checked) false (laidWorld os) #[.slice none 0 0, .int .i64 0, .bool false] rfl (by kernel_rfl) (by kernel_rfl) (by kernel_rfl)
      (OpenSpec.preRow_of_cond 8 hx (by kernel_rfl) (fun k hk => by cases hk) (by kernel_rfl) (lst_laid_met os _))) ?_
  intro W base args ds gs before hval hW _ _ _ hL hsh _
  exact lst_contract H enc W base args ds gs before hval hW (at_of hL hsh)

theorem lst_said : Rows.EarlyLabelsSaid :=
  OpenClaim.holds_of_cond 3 Tryz.f3 rfl rfl rfl rfl rfl rfl rfl ⟨rfl, rfl, rfl, rfl, rfl⟩ rfl rfl rfl rfl rfl (by kernel_rfl) Tryz.func3 (by kernel_rfl)
    (of_decide_eq_true (by kernel_rfl)) (by unfold Func.isWrapper; first | (rw [if_pos (by decide +kernel)]; kernel_rfl) | (rw [if_neg (by decide +kernel)]; exact ⟨rfl, rfl⟩))
    (fun os started H enc _ F => by rw [OpenClaim.pre_eq_preRow]; exact lst_lifted os started H enc F)

/-- No parameter wants a stand-in; the program's own looks are off. -/
theorem lst_plain (f : FuncId) (fn : Func) (hf : Tryz.pinned.checked.prog.funcNamed "ossuary/ossuarylaw09.EarlyLabels" = some f) (hfn : Tryz.pinned.checked.prog.funcs[f]? = some fn) :
    false = Tryz.pinned.checked.prog.looks [] ∧ ∀ (j : Nat) t, fn.params[j]? = some t → Tryz.pinned.checked.prog.wantsStandIn t = false := by
  obtain rfl : f = 3 := Option.some.inj ((show Tryz.prog.funcNamed "ossuary/ossuarylaw09.EarlyLabels" = some 3 by kernel_rfl).symm.trans hf) |>.symm
  obtain rfl : fn = Tryz.f3 := (Option.some.inj (Tryz.func3.symm.trans hfn)).symm
  refine ⟨by kernel_rfl, fun j t ht => ?_⟩
  rw [Tryz.params3] at ht
  have : t = 22 ∨ t = 3 ∨ t = 4 := by
    have := Array.mem_of_getElem? ht
    simpa using this
  rcases this with rfl | rfl | rfl
  · exact (show Tryz.prog.wantsStandIn 22 = false by kernel_rfl)
  · exact (show Tryz.prog.wantsStandIn 3 = false by kernel_rfl)
  · exact (show Tryz.prog.wantsStandIn 4 = false by kernel_rfl)

/-- THE CARD. -/
theorem earlyLabels_holds : Rows.EarlyLabelsCardSaid :=
  Claim7.holds_tied_plain_at .later [] _ _ _ _ lst_said (fun _ h => by cases h) (by kernel_rfl) (fun _ h => by cases h) earlyLabels_row_tie rfl ⟨rfl, rfl⟩ (by kernel_rfl) rfl lst_plain (by kernel_rfl)

end Go.Proofs.YtjkgefnlennbjaaGreatDoor
