/- ListSigns is true for every argument: the statement, tied to the program's text. No condition of its own. -/
import Derived.Test.YtllgeddjlodliaaGreatDoorYEvWorld
import Derived.Test.YtllgeddjlodliaaGreatDoorYEvSgY
import Derived.Test.YtllgeddjlodliaaGreatDoorYEvRgZ
import Derived.Deep.Slices
import Derived.ReadAgain
import Derived.Below
namespace Go.Proofs.YtllgeddjlodliaaGreatDoor
open Go.Ev Go.ChangeShapes Go.WideShapes Go.ChangeAt Go.RowKit

theorem spot_none {W : World} {a : Addr} {v : Value} (h : W.cell? a = some v) : a = ⟨a.block, a.off, none⟩ := by
  obtain ⟨b, o, sp⟩ := a
  cases sp with
  | none => rfl
  | some x =>
    unfold World.cell? at h
    split at h
    · simp at h
    · cases h

/-- An argument, opened. -/
def UnitsAt (W : World) (v : Value) : Prop :=
  ∃ (p : Option Addr) (us : List Nat) (cap : Nat), v = .slice p us.length cap ∧ (∀ u ∈ us, u < 65536) ∧ ∀ j, j < us.length → ∃ b off, p = some ⟨b, off, none⟩ ∧ b < W.heap.size ∧ W.cell? ⟨b, off + j, none⟩ = some (.int .u16 ((us.getD j 0 : Nat) : Int))

section
variable {H : Type} {enc : TypeId × Value → H}
theorem wf_u16 {n : Int} (h : (Lit.int .u16 n).wf = true) : 0 ≤ n ∧ n < 65536 := by
  have h1 : IntKind.u16.min = 0 := by decide
  have h2 : IntKind.u16.max = 65535 := by decide
  simp [Lit.wf, h1, h2] at h
  omega
set_option maxRecDepth 100000 in
theorem units_at {W : World} {b0 : Nat} {v : Value} {d : DataW H} {p : List MemPlace} (hval : Value.okWide Tryz.prog W .any b0 22 v) (h : DataW.Trod enc Tryz.prog W 0 (fun _ => true) true 22 v d p) : UnitsAt W v := by
  obtain ⟨a, len, cap, rfl⟩ := okWide_slice Tryz.underlying22 hval
  obtain ⟨fuel, h⟩ := h
  rcases open_ints Tryz.underlying22 Tryz.underlying27 cells27 h with ⟨h1, _⟩ | ⟨a', len', cap', zs, h1, _, hl, hmx, hz, _, hc, hw⟩
  · simp only [Value.cells, List.cons.injEq, and_true, Value.slice.injEq] at h1
    obtain ⟨rfl, rfl, rfl⟩ := h1
    exact ⟨none, [], 0, rfl, fun u hu => by simp at hu, fun j hj => by simp at hj⟩
  · simp only [Value.cells, List.cons.injEq, and_true, Value.slice.injEq] at h1
    obtain ⟨rfl, rfl, rfl⟩ := h1
    simp only [if_true] at hz
    refine ⟨some a', (zs.take len).map Int.toNat, cap, ?_, ?_, ?_⟩
    · rw [List.length_map, List.length_take, Nat.min_eq_left (by omega)]
    · intro u hu
      obtain ⟨z, hz1, rfl⟩ := List.mem_map.1 hu
      have := wf_u16 (hw z (List.mem_of_mem_take hz1))
      omega
    · intro j hj
      rw [List.length_map, List.length_take] at hj
      have hjl : j < zs.length := by omega
      have hcj := hc j hjl
      have c0 := hc 0 (by omega)
      have ea : a'.add 0 = a' := by simp [Addr.add]
      rw [ea] at c0
      have e := spot_none c0
      obtain ⟨b, y, sp⟩ := a'
      cases e
      rw [add_plain] at hcj
      have hzj := wf_u16 (hw (zs.getD j 0) (by simp [List.getD, hjl]))
      refine ⟨b, y, rfl, World.block_lt_of_cell? W _ c0, ?_⟩
      rw [hcj]
      have : (((zs.take len).map Int.toNat).getD j 0 : Nat) = (zs.getD j 0).toNat := by
        simp [List.getD, hjl, show j < len by omega]
      rw [this, Int.toNat_of_nonneg hzj.1]
end

set_option maxHeartbeats 4000000 in
set_option maxRecDepth 100000 in
theorem law_long {W : World} (hA : At W) (p : Option Addr) (n cap : Nat) (hn : 500 < n) : Calls Tryz.prog 3 #[.slice p n cap] W fun e w' => e = .returned (.bool true) ∧ Below W.heap.size W w' := by
  go_enter Tryz.func3, Tryz.ntmps3
  go_wp2_with (go_at_call 6; refine (fit_calls hA).mono ?_)
  rintro e w1 ⟨rfl, r1, st1⟩
  have hB : Below W.heap.size W w1 := ⟨st1.os, st1.tape, st1.out, st1.size, fun k hk => st1.keep k hk (hA.begins.quiet.none k)⟩
  clear st1
  have hn' : (500 : Int) < (n : Int) := by omega
  go_wp2
  go_ret
  exact ⟨rfl, hB⟩
theorem sig_call {W : World} (hW : At W) {v : Value} (hv : UnitsAt W v) : Calls Tryz.prog 3 #[v] W fun e w' => e = .returned (.bool true) ∧ Below W.heap.size W w' := by
  obtain ⟨p, us, cap, rfl, hu, hc⟩ := hv
  by_cases hn : us.length ≤ 500
  · exact law_walk hW sgFacts fM_true fW_true fE_true p cap us hn hu hc
  · exact law_long hW p us.length cap (by omega)

theorem kids : Kids Tryz.prog (· < Tryz.prog.types.size) := kids_rows (by kernel_rfl) (by kernel_rfl)
theorem slicesFull : ∀ t e, t < Tryz.prog.types.size → Tryz.prog.underlying t = some (.slice e) → 0 < Tryz.prog.cellsOf e := slices_full_of Tryz.prog (by kernel_rfl)
theorem inTypes : 22 < Tryz.prog.types.size := of_decide_eq_true (by kernel_rfl)

set_option maxRecDepth 100000 in
/-- What the walk gives, for every argument and every world that holds the tables. -/
theorem sig_contract (H : Type) (enc : TypeId × Value → H) (W : World) (base : Nat) (args : Array Value) (ds gs : List (DataW H)) (before : List MemPlace)
    (hval : ∀ (j : Nat) t v, Tryz.f3.params[j]? = some t → args[j]? = some v → Value.okWide Tryz.prog W .any base t v)
    (hW : DataW.Whole enc Tryz.prog Tryz.f3.params.toList Rows.listSignsSpec.vars false W args.toList ds gs before) (hA : At W) :
    Calls Tryz.prog 3 args W fun e W' => ∃ v, e = .returned v ∧ Rows.listSignsSpec.post enc Tryz.prog Tryz.f3 false true false false W args v W' := by
  have hW' := hW
  obtain ⟨p, q, hA0, hV, rfl, hfz, hnd⟩ := hW
  have hT : DataW.TrodAll enc Tryz.prog W 0 (fun _ => true) true Tryz.f3.params.toList args.toList ds p := hA0
  rw [Tryz.params3] at hT hval
  obtain ⟨v0, d0, rfl, rfl, t0⟩ := trodAll_one hT
  obtain ⟨rfl, rfl⟩ := trodVars_none hV
  refine (sig_call hA (units_at (hval 0 22 v0 rfl rfl) t0)).mono ?_
  rintro e W' ⟨rfl, hk⟩
  have hlt : ∀ x ∈ p, x.block < W.heap.size := by
    obtain ⟨n, hn⟩ := t0
    exact DataW.trod_lt n _ _ _ hn
  have t1 : DataW.Trod enc Tryz.prog W' 0 (fun b => decide (b < W.heap.size)) true 22 v0 d0 p := by
    obtain ⟨n, hn⟩ := t0
    exact DataW.Trod.respare kids slicesFull inTypes ⟨n, DataW.trod_carry n _ _ _ hn (fun x hx => hk.same (hlt x hx))⟩ (fun x hx => decide_eq_true (hlt x hx))
  refine ⟨_, rfl, _, _, _, [], _, [], hW', trodAll_mk1 (shut_bool Tryz.underlying4 true), trodAll_mk1 t1, rfl, hk.frame _, fun h => by cases h⟩

theorem sig_laid_met (os : Os) (args : Array Value) : laidMet Tryz.prog Rows.listSignsRow.laid ((laidWorld os).forCall (fun _ _ => 0) ⟨#[], args, []⟩).memory :=
  laidMet_of_run' 8 (by kernel_rfl) (by kernel_rfl)
theorem sig_reads (os : Os) {H : Type} (enc : TypeId × Value → H) : ∃ places, DataW.whole enc Tryz.prog ((laidWorld os).forCall (fun _ _ => 0) ⟨#[], #[.slice none 0 0], []⟩).memory Tryz.f3.params.toList Rows.listSignsSpec.vars false #[Value.slice none 0 0].toList 8 = some ([.nil], [], places) :=
  ⟨[], by kernel_rfl⟩

set_option maxRecDepth 100000 in
theorem sig_lifted (os : Os) (started : os.Started) (H : Type) (enc : TypeId × Value → H) (F : Stop.Interp) :
    ReturnsInHanded {} Tryz.checked os 3 .any ((OpenSpec.ofChange Rows.listSignsSpec).preRow enc Tryz.prog Tryz.f3 Rows.listSignsRow.domain false Rows.listSignsRow.laid) (((OpenSpec.ofChange Rows.listSignsSpec).at F).post enc Tryz.prog Tryz.f3 false true false false) := by
  obtain ⟨places, hx⟩ := sig_reads os enc
  refine returnsInHanded_of_row (C := Tryz.checked) (s := OpenSpec.ofChange Rows.listSignsSpec) own started (by kernel_rfl) Tryz.func3
    (witness_row_atRef (enc := enc) (C := Tryz.checked) false (laidWorld os) #[.slice none 0 0] rfl (by kernel_rfl) (by kernel_rfl) (by kernel_rfl)
      (OpenSpec.preRow_of_cond 8 hx (by kernel_rfl) (fun k hk => by cases hk) (by kernel_rfl) (sig_laid_met os _))) ?_
  intro W base args ds gs before hval hW _ _ _ hL hsh _
  exact sig_contract H enc W base args ds gs before hval hW (at_of hL)

theorem sig_said : Rows.ListSignsSaid :=
  OpenClaim.holds_of_cond 3 Tryz.f3 rfl rfl rfl rfl rfl rfl rfl ⟨rfl, rfl, rfl, rfl, rfl⟩ rfl rfl rfl rfl rfl (by kernel_rfl) Tryz.func3 (by kernel_rfl)
    (of_decide_eq_true (by kernel_rfl)) (by unfold Func.isWrapper; first | (rw [if_pos (by decide +kernel)]; kernel_rfl) | (rw [if_neg (by decide +kernel)]; exact ⟨rfl, rfl⟩))
    (fun os started H enc _ F => by rw [OpenClaim.pre_eq_preRow]; exact sig_lifted os started H enc F)

/-- No parameter wants a stand-in; the program's own looks are off. -/
theorem sig_plain (f : FuncId) (fn : Func) (hf : Tryz.pinned.checked.prog.funcNamed "ossuary/ossuarylaw15.ListSigns" = some f) (hfn : Tryz.pinned.checked.prog.funcs[f]? = some fn) :
    true = Tryz.pinned.checked.prog.looks [] ∧ ∀ (j : Nat) t, fn.params[j]? = some t → Tryz.pinned.checked.prog.wantsStandIn t = false := by
  obtain rfl : f = 3 := Option.some.inj ((show Tryz.prog.funcNamed "ossuary/ossuarylaw15.ListSigns" = some 3 by kernel_rfl).symm.trans hf) |>.symm
  obtain rfl : fn = Tryz.f3 := (Option.some.inj (Tryz.func3.symm.trans hfn)).symm
  refine ⟨by kernel_rfl, fun j t ht => ?_⟩
  rw [Tryz.params3] at ht
  obtain rfl : t = 22 := by
    have := Array.mem_of_getElem? ht
    simpa using this
  exact (show Tryz.prog.wantsStandIn 22 = false by kernel_rfl)

/-- THE CARD. -/
theorem listSigns_holds : Rows.ListSignsCardSaid :=
  Claim7.holds_tied_plain_at .later [] _ _ _ _ sig_said (fun _ h => by cases h) (by kernel_rfl) (fun _ h => by cases h) listSigns_row_tie rfl ⟨rfl, rfl⟩ (by kernel_rfl) rfl sig_plain (by kernel_rfl)

end Go.Proofs.YtllgeddjlodliaaGreatDoor
