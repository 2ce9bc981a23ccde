/- VmLoops: the law from the text on, by the evaluator: the contracts put together. Condition: the world of EvExt. -/
import Derived.Test.YtgpogeemhaiicaaGreatDoorEvSy
set_option linter.all false
namespace Go.Proofs.YtgpogeemhaiicaaGreatDoor
open Go.Ev Go.RowKit Go.Proofs.YtgpogeemhaiicaaGreatDoor.Cm
set_option maxRecDepth 1000000

theorem ext_ok3 {W : World} (hW : At W) (g : FuncId) (hg : isExt3 g = true) (vs : List V) (h : H) (v : V) (h' : H) (he : ext3 g vs h = some (v, h')) : CallOk Tryz.prog W g vs h v h' := by
  unfold ext3 at he
  cases h1 : Nat.beq g 40
  · rw [h1] at he
    simp only [cond_false] at he
    cases h2 : Nat.beq g 18
    · rw [h2] at he
      simp only [cond_false] at he
      cases h3 : Nat.beq g 49
      · rw [h3] at he
        simp only [cond_false] at he
        have hg' : isExt1 g = true := by
          unfold isExt3 at hg
          rw [h1, h2, h3] at hg
          exact hg
        exact ext_ok1 hW g hg' vs h v h' he
      · rw [h3] at he
        obtain rfl := Nat.eq_of_beq_eq_true h3
        exact runE_ok hW he
    · rw [h2] at he
      obtain rfl := Nat.eq_of_beq_eq_true h2
      exact comp_ok hW he
  · rw [h1] at he
    obtain rfl := Nat.eq_of_beq_eq_true h1
    exact scan_ok hW he
theorem ext3_sound {W : World} (hW : At W) : CallFnOk Tryz.prog W call3 := by
  unfold call3
  rw [callS_eq _ _ _ tabOk]
  exact callN_sound (by kernel_rfl) (ext_ok3 hW) noNum progOk (fun call hc => draws call hc) 300
theorem tail_eq : tailRun = den Tryz.prog call3 (mask 3) 3000 tailCode := by
  funext f d h
  exact comp_run (mask 3) (tab 3) 3000 call3 tailCode (by decide +kernel) f d h
theorem tail_codeOk : codeOk Tryz.f3.ntmps tailCode = true := by decide +kernel
/-- The names that the law's numbers have. -/
def lawR (P : Program) (W : World) (X0 X1 X2 : Nat) (id : Nat) : Option (Nat × Nat × Nat) :=
  if id = 10 then some (X0, 0, 0) else if id = 11 then some (X1, 0, 0) else if id = 12 then some (X2, 0, 0) else if id = 13 then some (wantOf X0 X1 X2, 0, 0) else globEmb P W id
theorem glob8 (W : World) (id : Nat) (h : 8 ≤ id) : globEmb Tryz.prog W id = none := by
  have e : Tryz.prog.globals.size = 8 := by kernel_rfl
  unfold globEmb
  rw [if_neg (by omega)]
theorem law_le (W : World) (X0 X1 X2 : Nat) : (globEmb Tryz.prog W).le (lawR Tryz.prog W X0 X1 X2) := fun id x h => by
  have hlt : id < 8 := by
    rcases Nat.lt_or_ge id 8 with q | q
    · exact q
    · rw [glob8 W id q] at h; cases h
  unfold lawR
  rw [if_neg (by omega), if_neg (by omega), if_neg (by omega), if_neg (by omega)]
  exact h
theorem law_rel {W : World} (hA : At W) (X0 X1 X2 : Nat) {w : World} (hb : ∀ b, b < W.heap.size → w.heap[b]? = W.heap[b]?) : Rel (lawR Tryz.prog W X0 X1 X2) hT w := by
  have hr := hA.begins.rel w hb
  have hle := law_le W X0 X1 X2
  have hlow : ∀ id, Live hT id → id < 8 := fun id hl => by
    obtain ⟨b, sh, m, e, _⟩ := hr.fit id hl.1 hl.2
    rcases Nat.lt_or_ge id 8 with q | q
    · exact q
    · rw [glob8 W id q] at e; cases e
  have same : ∀ id, id < 8 → lawR Tryz.prog W X0 X1 X2 id = globEmb Tryz.prog W id := fun id h => by
    unfold lawR
    rw [if_neg (by omega), if_neg (by omega), if_neg (by omega), if_neg (by omega)]
  refine ⟨fun id hi hl => ?_, fun id id' b sh m sh' m' hl hl' ho h1 h2 => ?_, fun id hi => ?_⟩
  · obtain ⟨b, sh, m, e, f⟩ := hr.fit id hi hl
    exact ⟨b, sh, m, hle _ _ e, f.keep hle rfl⟩
  · rw [same id (hlow id hl)] at h1
    rw [same id' (hlow id' hl')] at h2
    exact hr.inj id id' b sh m sh' m' hl hl' ho h1 h2
  · have h15 : 15 ≤ id := hi
    unfold lawR
    rw [if_neg (by omega), if_neg (by omega), if_neg (by omega), if_neg (by omega)]
    exact glob8 W id (by omega)
/-- FROM THE TEXT ON the law is true. -/
theorem tail_wp {W : World} (hA : At W) {X0 X1 X2 : Nat} (h0 : X0 ≤ 29) (h1 : X1 ≤ 39) (h2 : X2 ≤ 39) {w : World} (hB : Below W.heap.size W w) {tmps : Array Value} (hsz : tmps.size = Tryz.f3.ntmps)
    (h9 : tmps.getD 9 undef = .string (srcOf X0 X1 X2)) (h10 : tmps.getD 10 undef = .int .i64 (wantOf X0 X1 X2 : Nat)) (hW : wantOf X0 X1 X2 ≤ 10006) :
    tailCode.wp Tryz.prog (fun e a w' => e = .ret ∧ a.defers = [] ∧ a.tmps.getD 6 undef = .bool true ∧ Below W.heap.size W w') { tmps := tmps, defers := [] } w := by
  have hrel := law_rel hA X0 X1 X2 hB.block
  have hgl : GRel Tryz.prog (lawR Tryz.prog W X0 X1 X2) := GRel.up (law_le W X0 X1 X2) hA.begins.gl
  have hnone : ∀ b, ¬ Own (lawR Tryz.prog W X0 X1 X2) hT b := fun b ho => by
    obtain ⟨id, sh, m, hi, hb, e⟩ := ho
    have hr := hA.begins.rel W (fun _ _ => rfl)
    obtain ⟨b', sh', m', e', _⟩ := hr.fit id hi (live_of_own hb)
    have := law_le W X0 X1 X2 _ _ e'
    rw [this] at e
    cases e
    exact hA.begins.none _ ⟨id, _, _, hi, hb, e'⟩
  have hba : Base W (lawR Tryz.prog W X0 X1 X2) hT w := ⟨hB.block, fun b ho => (hnone b ho).elim, hB.size⟩
  have hX : NmX (lawR Tryz.prog W X0 X1 X2) 124 X0 X1 X2 := ⟨rfl, rfl, rfl, rfl, h0, h1, h2, ⟨trivial, trivial, trivial⟩, trivial, trivial, trivial⟩
  have hsrc : VRel (lawR Tryz.prog W X0 X1 X2) (.cl1 0 531) (.string (srcOf X0 X1 X2)) := .nsrc (by decide) ⟨by decide, by decide, hX.np rfl⟩
  have hwant : VRel (lawR Tryz.prog W X0 X1 X2) (.cl1 0 12) (.int .i64 (wantOf X0 X1 X2 : Nat)) := Hd.kW_rel hX.n3 hW
  have hs : St Tryz.prog W w.heap.size Tryz.f3.ntmps (lawR Tryz.prog W X0 X1 X2) (fget tailF) [] hT { tmps := tmps, defers := [] } w := by
    refine ⟨hrel, hgl, hba, fun t => ?_, .nil, ⟨Nat.le_refl _, trivial⟩, ?_⟩
    · unfold tailF
      rw [fget_fset _ _ _ _ (by decide)]
      by_cases e : t = 10
      · rw [if_pos e, e, h10]; exact hwant
      · rw [if_neg e, fget_fset _ _ _ _ (by decide)]
        by_cases e : t = 9
        · rw [if_pos e, e, h9]; exact hsrc
        · rw [if_neg e, fr0_any]; exact .any _
    · exact Nat.le_of_eq hsz.symm
  have hd : Dim (mask 3) tailF := fun t ht => by
    unfold tailF
    rw [fget_fset _ _ _ _ (by decide)]
    by_cases e : t = 10
    · subst e; exact absurd ht (by rw [show kept (mask 3) 10 = true by decide +kernel]; decide)
    · rw [if_neg e, fget_fset _ _ _ _ (by decide)]
      by_cases e : t = 9
      · subst e; exact absurd ht (by rw [show kept (mask 3) 9 = true by decide +kernel]; decide)
      · rw [if_neg e, fr0_any]
  have hT := tailB_true
  unfold tailB at hT
  split at hT
  · rename_i f d h' he
    split at hT
    · rename_i hd0
      have hcall := ext3_sound hA
      rw [tail_eq] at he
      refine wp_mono (wpIn_wide.1 (den_sound (ro := none) hcall noNum (draws _ hcall) tailCode tailF f [] [] _ h' .ret (lawR Tryz.prog W X0 X1 X2) _ w tail_codeOk (.inl rfl) hd hs he)) ?_
      rintro e a1 w1 ⟨hx, _, r1, hs1, st1⟩
      have e1 : e = .ret := hx
      refine ⟨e1, ?_, ?_, ?_⟩
      · have := hs1.ds
        cases hq : a1.defers with
        | nil => rfl
        | cons _ _ => rw [hq] at this; cases this
      · have h6 := hs1.tm 6
        split at hT
        · rename_i b hb
          subst hT
          rw [hb] at h6
          show a1.tmps.getD 6 undef = _
          generalize a1.tmps.getD 6 undef = z at h6 ⊢
          cases h6
          rfl
        · cases hT
      · exact ⟨st1.os.trans hB.os, st1.tape.trans hB.tape, st1.out.trans hB.output, Nat.le_trans hB.size st1.size, fun k hk => (st1.keep k (Nat.lt_of_lt_of_le hk hB.size) (hnone k)).trans (hB.block k hk)⟩
    · cases hT
  · cases hT
/-! The law's numbers as texts; its example. -/
noncomputable def numB : Bool := (List.range 40).all fun x => match call1 5 [.int .i64 (.ofNat x)] h0 with | some (.str n l, _) => Nat.beq n (nTok x).2.1 && Nat.beq l (nTok x).2.2 | _ => false
theorem numB_true : numB = true := by decide +kernel
theorem num_calls {W : World} (hA : At W) {x : Nat} (hx : x < 40) {w : World} (hb : Below W.heap.size W w) : Calls Tryz.prog 5 #[.int .i64 x] w fun e w' => e = .returned (.string (sval (nTok x).2.1 (nTok x).2.2)) ∧ Below w.heap.size w w' := by
  have hB := List.all_eq_true.1 numB_true x (List.mem_range.2 hx)
  split at hB
  · rename_i n l h1 hc
    simp only [Bool.and_eq_true] at hB
    obtain rfl := Nat.eq_of_beq_eq_true hB.1
    obtain rfl := Nat.eq_of_beq_eq_true hB.2
    refine (ev_calls hA rfl hc hb (.cons (.int _ _) .nil)).mono ?_
    rintro e w' ⟨z, r', rfl, hv, _, _, hk⟩
    cases hv
    exact ⟨rfl, hk⟩
  · cases hB
theorem fit_calls {W : World} (hA : At W) {w : World} (hb : Below W.heap.size W w) : Calls Tryz.prog 4 #[] w fun e w' => e = .returned (.bool true) ∧ Below w.heap.size w w' := by
  refine (co_calls hA (fit_ok hA h0) hb .nil).mono ?_
  rintro e w' ⟨z, r', rfl, hv, _, _, hk⟩
  cases hv
  exact ⟨rfl, hk⟩
end Go.Proofs.YtgpogeemhaiicaaGreatDoor
