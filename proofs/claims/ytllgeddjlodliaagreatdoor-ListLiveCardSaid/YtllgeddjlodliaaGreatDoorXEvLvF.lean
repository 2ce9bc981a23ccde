/- ListLive is true for every argument: the statement, tied to the program's text. No condition of its own. -/
import Derived.Test.YtllgeddjlodliaaGreatDoorXEvWorld
import Derived.Test.YtllgeddjlodliaaGreatDoorXEvLvZ
import Derived.Deep.Slices
import Derived.ReadAgain
import Derived.Below
namespace Go.Proofs.YtllgeddjlodliaaGreatDoor
open Go.Ev Go.ChangeShapes Go.WideShapes Go.ChangeAt Go.RowKit

theorem cell_row {W : World} {b o : Nat} {v : Value} (h : W.cell? ⟨b, o, none⟩ = some v) : ∃ cs t fz, W.heap[b]? = some (.cells cs t fz) ∧ cs[o]? = some v := by
  obtain ⟨cs, t, fz, hc⟩ := cells_of h
  refine ⟨cs, t, fz, hc, ?_⟩
  simpa [World.cell?, hc] using h
theorem spot_none {W : World} {a : Addr} {v : Value} (h : W.cell? a = some v) : a = ⟨a.block, a.off, none⟩ := by
  obtain ⟨b, o, sp⟩ := a
  cases sp with
  | none => rfl
  | some x =>
    unfold World.cell? at h
    split at h
    · simp at h
    · cases h

/-- An argument, opened. -/
def ActsAt (W : World) (v : Value) : Prop :=
  (∃ a, v = .slice a 0 0) ∨ ∃ b off len cap cs t fz, v = .slice (some ⟨b, off, none⟩) len cap ∧ len ≤ cap ∧ 0 < cap ∧ cap ≤ maxLen ∧ W.heap[b]? = some (.cells cs t fz) ∧ off + cap ≤ cs.size ∧ ∀ k, k < len → ∃ x : Int, W.cell? ⟨b, off + k, none⟩ = some (.int .i64 x)

section
variable {H : Type} {enc : TypeId × Value → H}
set_option maxRecDepth 100000 in
theorem acts_at {W : World} {b0 : Nat} {v : Value} {d : DataW H} {p : List MemPlace} (hval : Value.okWide Tryz.prog W .any b0 26 v) (h : DataW.Trod enc Tryz.prog W 0 (fun _ => true) true 26 v d p) : ActsAt W v := by
  obtain ⟨a, len, cap, rfl⟩ := okWide_slice Tryz.underlying26 hval
  obtain ⟨fuel, h⟩ := h
  rcases open_ints Tryz.underlying26 Tryz.underlying3 cells3 h with ⟨h1, _⟩ | ⟨a', len', cap', zs, h1, _, hl, hmx, hz, _, hc, _⟩
  · simp only [Value.cells, List.cons.injEq, and_true, Value.slice.injEq] at h1
    obtain ⟨rfl, rfl, rfl⟩ := h1
    exact .inl ⟨none, rfl⟩
  · simp only [Value.cells, List.cons.injEq, and_true, Value.slice.injEq] at h1
    obtain ⟨rfl, rfl, rfl⟩ := h1
    simp only [if_true] at hz
    by_cases h0 : cap = 0
    · have : len = 0 := by omega
      subst this
      subst h0
      exact .inl ⟨_, rfl⟩
    · have c0 := hc 0 (by omega)
      have ea : a'.add 0 = a' := by simp [Addr.add]
      rw [ea] at c0
      have e := spot_none c0
      obtain ⟨b, y, sp⟩ := a'
      cases e
      have hcell : ∀ i, i < zs.length → W.cell? ⟨b, y + i, none⟩ = some (.int .i64 (zs.getD i 0)) := fun i hi => by
        have := hc i hi
        rwa [add_plain] at this
      obtain ⟨ds, t, fz, hd, _⟩ := cell_row c0
      have hlast := hcell (zs.length - 1) (by omega)
      obtain ⟨ds', t', fz', hd', hg⟩ := cell_row hlast
      rw [hd] at hd'
      cases hd'
      have hsz := (Array.getElem?_eq_some_iff.1 hg).1
      exact .inr ⟨b, y, len, cap, ds, t, fz, rfl, hl, by omega, hmx, hd, by omega, fun k hk => ⟨_, hcell k (by omega)⟩⟩
end

theorem run_closes {W : World} (hW : At W) {r : Emb} (hq : Quiet r h0 W) (hg : GRel Tryz.prog r) {v : V} (hrun : fB v = true) {x : Value} (hx : VRel r v x) :
    Calls Tryz.prog 4 #[x] W fun e w' => e = .returned (.bool true) ∧ Below W.heap.size W w' := by
  unfold fB at hrun
  split at hrun
  · rename_i b h' hc
    subst hrun
    have hcall := (callL_ok hW 4 _ _ _ h' hc).1 rfl
    refine (hcall r W #[x] hq.rel hg hq.base (.cons hx .nil)).mono ?_
    rintro e w' ⟨z, r', rfl, st, hz⟩
    cases hz
    exact ⟨rfl, st.os, st.tape, st.out, st.size, fun k hk => st.keep k hk (hq.none k)⟩
  · cases hrun

theorem live_call {W : World} (hW : At W) {v : Value} (hv : ActsAt W v) : Calls Tryz.prog 4 #[v] W fun e w' => e = .returned (.bool true) ∧ Below W.heap.size W w' := by
  have hq : Quiet (globEmb Tryz.prog W) h0 W := hW.begins.quiet
  have hg : GRel Tryz.prog (globEmb Tryz.prog W) := hW.begins.gl
  rcases hv with ⟨a, rfl⟩ | ⟨b, off, len, cap, cs, t, fz, rfl, hlc, hc, hmx, hb, hsz, hacts⟩
  · exact run_closes hW hq hg fB_void .lvoid
  · by_cases h100 : len ≤ 100
    · exact live_walk hW fI_true ends facts hb hlc hc hsz h100 hacts
    · have hm : maxLen ≤ 9223372036854775807 := by decide
      refine run_closes hW (hq.nam (id := 9) (by decide) (glob_hi W (by omega)) (b, off, off + cap)) (GRel.up (Emb.le_put _ _ _ (glob_hi W (by omega))) hg) fB_long ?_
      rw [Lv.ss_eq]
      refine .ssl (by decide) (by decide) (Emb.put_same _ _ _) ⟨?_, ?_, .inl (sPack_id (by decide))⟩ ⟨hlc, hc⟩ (by omega)
      · rw [sPack_lo (by decide) (by decide) (by decide) (by decide)]; omega
      · rw [sPack_hi (by decide) (by decide) (by decide) (by decide)]; omega

theorem kids : Kids Tryz.prog (· < Tryz.prog.types.size) := kids_rows (by kernel_rfl) (by kernel_rfl)
theorem slicesFull : ∀ t e, t < Tryz.prog.types.size → Tryz.prog.underlying t = some (.slice e) → 0 < Tryz.prog.cellsOf e := slices_full_of Tryz.prog (by kernel_rfl)
theorem inTypes : 26 < Tryz.prog.types.size := of_decide_eq_true (by kernel_rfl)

set_option maxRecDepth 100000 in
/-- What the walk gives, for every argument and every world that holds the tables. -/
theorem live_contract (H : Type) (enc : TypeId × Value → H) (W : World) (base : Nat) (args : Array Value) (ds gs : List (DataW H)) (before : List MemPlace)
    (hval : ∀ (j : Nat) t v, Tryz.f4.params[j]? = some t → args[j]? = some v → Value.okWide Tryz.prog W .any base t v)
    (hW : DataW.Whole enc Tryz.prog Tryz.f4.params.toList Rows.listLiveSpec.vars false W args.toList ds gs before) (hA : At W) :
    Calls Tryz.prog 4 args W fun e W' => ∃ v, e = .returned v ∧ Rows.listLiveSpec.post enc Tryz.prog Tryz.f4 false true false false W args v W' := by
  have hW' := hW
  obtain ⟨p, q, hA0, hV, rfl, hfz, hnd⟩ := hW
  have hT : DataW.TrodAll enc Tryz.prog W 0 (fun _ => true) true Tryz.f4.params.toList args.toList ds p := hA0
  rw [Tryz.params4] at hT hval
  obtain ⟨v0, d0, rfl, rfl, t0⟩ := trodAll_one hT
  obtain ⟨rfl, rfl⟩ := trodVars_none hV
  refine (live_call hA (acts_at (hval 0 26 v0 rfl rfl) t0)).mono ?_
  rintro e W' ⟨rfl, hk⟩
  have hlt : ∀ x ∈ p, x.block < W.heap.size := by
    obtain ⟨n, hn⟩ := t0
    exact DataW.trod_lt n _ _ _ hn
  have t1 : DataW.Trod enc Tryz.prog W' 0 (fun b => decide (b < W.heap.size)) true 26 v0 d0 p := by
    obtain ⟨n, hn⟩ := t0
    exact DataW.Trod.respare kids slicesFull inTypes ⟨n, DataW.trod_carry n _ _ _ hn (fun x hx => hk.same (hlt x hx))⟩ (fun x hx => decide_eq_true (hlt x hx))
  refine ⟨_, rfl, _, _, _, [], _, [], hW', trodAll_mk1 (shut_bool Tryz.underlying4 true), trodAll_mk1 t1, rfl, hk.frame _, fun h => by cases h⟩

theorem live_laid_met (os : Os) (args : Array Value) : laidMet Tryz.prog Rows.listLiveRow.laid ((laidWorld os).forCall (fun _ _ => 0) ⟨#[], args, []⟩).memory :=
  laidMet_of_run' 8 (by kernel_rfl) (by kernel_rfl)
theorem live_reads (os : Os) {H : Type} (enc : TypeId × Value → H) : ∃ places, DataW.whole enc Tryz.prog ((laidWorld os).forCall (fun _ _ => 0) ⟨#[], #[.slice none 0 0], []⟩).memory Tryz.f4.params.toList Rows.listLiveSpec.vars false #[Value.slice none 0 0].toList 8 = some ([.nil], [], places) :=
  ⟨[], by kernel_rfl⟩

set_option maxRecDepth 100000 in
theorem live_lifted (os : Os) (started : os.Started) (H : Type) (enc : TypeId × Value → H) (F : Stop.Interp) :
    ReturnsInHanded {} Tryz.checked os 4 .any ((OpenSpec.ofChange Rows.listLiveSpec).preRow enc Tryz.prog Tryz.f4 Rows.listLiveRow.domain false Rows.listLiveRow.laid) (((OpenSpec.ofChange Rows.listLiveSpec).at F).post enc Tryz.prog Tryz.f4 false true false false) := by
  obtain ⟨places, hx⟩ := live_reads os enc
  refine returnsInHanded_of_row (C := Tryz.checked) (s := OpenSpec.ofChange Rows.listLiveSpec) own started (by kernel_rfl) Tryz.func4
    (witness_row_atRef (enc := enc) (C := Tryz.checked) false (laidWorld os) #[.slice none 0 0] rfl (by kernel_rfl) (by kernel_rfl) (by kernel_rfl)
      (OpenSpec.preRow_of_cond 8 hx (by kernel_rfl) (fun k hk => by cases hk) (by kernel_rfl) (live_laid_met os _))) ?_
  intro W base args ds gs before hval hW _ _ _ hL hsh _
  exact live_contract H enc W base args ds gs before hval hW (at_of hL)

theorem live_said : Rows.ListLiveSaid :=
  OpenClaim.holds_of_cond 4 Tryz.f4 rfl rfl rfl rfl rfl rfl rfl ⟨rfl, rfl, rfl, rfl, rfl⟩ rfl rfl rfl rfl rfl (by kernel_rfl) Tryz.func4 (by kernel_rfl)
    (of_decide_eq_true (by kernel_rfl)) (by unfold Func.isWrapper; first | (rw [if_pos (by decide +kernel)]; kernel_rfl) | (rw [if_neg (by decide +kernel)]; exact ⟨rfl, rfl⟩))
    (fun os started H enc _ F => by rw [OpenClaim.pre_eq_preRow]; exact live_lifted os started H enc F)

/-- No parameter wants a stand-in; the program's own looks are off. -/
theorem live_plain (f : FuncId) (fn : Func) (hf : Tryz.pinned.checked.prog.funcNamed "ossuary/ossuarylaw15.ListLive" = some f) (hfn : Tryz.pinned.checked.prog.funcs[f]? = some fn) :
    true = Tryz.pinned.checked.prog.looks [] ∧ ∀ (j : Nat) t, fn.params[j]? = some t → Tryz.pinned.checked.prog.wantsStandIn t = false := by
  obtain rfl : f = 4 := Option.some.inj ((show Tryz.prog.funcNamed "ossuary/ossuarylaw15.ListLive" = some 4 by kernel_rfl).symm.trans hf) |>.symm
  obtain rfl : fn = Tryz.f4 := (Option.some.inj (Tryz.func4.symm.trans hfn)).symm
  refine ⟨by kernel_rfl, fun j t ht => ?_⟩
  rw [Tryz.params4] at ht
  obtain rfl : t = 26 := by
    have := Array.mem_of_getElem? ht
    simpa using this
  exact (show Tryz.prog.wantsStandIn 26 = false by kernel_rfl)

/-- THE CARD. -/
theorem listLive_holds : Rows.ListLiveCardSaid :=
  Claim7.holds_tied_plain_at .later [] _ _ _ _ live_said (fun _ h => by cases h) (by kernel_rfl) (fun _ h => by cases h) listLive_row_tie rfl ⟨rfl, rfl⟩ (by kernel_rfl) rfl live_plain (by kernel_rfl)

end Go.Proofs.YtllgeddjlodliaaGreatDoor
