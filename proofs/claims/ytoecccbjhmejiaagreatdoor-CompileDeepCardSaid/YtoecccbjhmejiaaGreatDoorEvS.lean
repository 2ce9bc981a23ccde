/- The evaluator's functions are right, given that its regions that draw their order are. No condition. -/
import Derived.Test.YtoecccbjhmejiaaGreatDoorEvR
namespace Go.Ev

variable {P : Program}

theorem fr0_any (t : Nat) : fget fr0 t = .any := by
  unfold fget
  cases h : Nat.blt t 256
  · rfl
  · rw [Nat.blt_eq] at h
    simp only [cond_true]
    unfold fr0
    rw [T16.get_all _ _ (show Nat.div t 16 < 16 by show t / 16 < 16; omega), T16.get_all _ _ (show Nat.mod t 16 < 16 from Nat.mod_lt _ (by omega))]

theorem fset_dim {mask : Nat} {f : Fr} (hd : Dim mask f) {i : Nat} {v : V} (hk : kept mask i = true) : Dim mask (fset f i v) := by
  intro t ht
  by_cases hi : i < 256
  · rw [fget_fset _ _ _ _ hi, if_neg (fun e2 => by rw [e2, hk] at ht; cases ht)]
    exact hd t ht
  · have : Nat.blt i 256 = false := by rw [← Bool.not_eq_true, Nat.blt_eq]; exact hi
    unfold fset
    rw [this]
    exact hd t ht

theorem args0_sound {r : Emb} {mask : Nat} {tmps : Array Value} : ∀ (vs : List V) (i : Nat) (f : Fr), Dim mask f → TRel r (fget f) tmps → (∀ j v, vs[j]? = some v → VRel r v (tmps.getD (i + j) undef)) →
    Dim mask (args0 mask i vs f) ∧ TRel r (fget (args0 mask i vs f)) tmps := by
  intro vs
  induction vs with
  | nil => intro i f hd ht _; exact ⟨hd, ht⟩
  | cons v vs ih =>
    intro i f hd ht hv
    unfold args0
    refine ih (i + 1) _ ?_ ?_ (fun j u hu => by
      have := hv (j + 1) u (by simpa using hu)
      rwa [show i + (j + 1) = i + 1 + j by omega] at this)
    · cases hk : kept mask i
      · exact hd
      · exact fset_dim hd hk
    · cases hk : kept mask i
      · exact ht
      · simp only [cond_true]
        intro t
        by_cases hi : i < 256
        · rw [fget_fset _ _ _ _ hi]
          by_cases e : t = i
          · rw [if_pos e, e]
            exact hv 0 v rfl
          · rw [if_neg e]; exact ht t
        · have : Nat.blt i 256 = false := by rw [← Bool.not_eq_true, Nat.blt_eq]; exact hi
          unfold fset
          rw [this]
          exact ht t

/-- The state in which a function's body begins. -/
theorem St.enter {w0 : World} {n mask : Nat} {r : Emb} {h : H} {w : World} (hr : Rel r h w) (hg : GRel P r) (hb : Base w0 r h w) {vs : List V} {xs : Array Value} (hv : VsRel r vs xs.toList) :
    Dim mask (args0 mask 0 vs fr0) ∧ St P w0 w.heap.size n r (fget (args0 mask 0 vs fr0)) [] h { tmps := xs ++ Array.replicate (n - xs.size) undef, defers := [] } w := by
  have h0 : TRel r (fget fr0) (xs ++ Array.replicate (n - xs.size) undef) := fun t => by rw [fr0_any]; exact .any _
  have hd0 : Dim mask fr0 := fun t _ => fr0_any t
  obtain ⟨h1, h2⟩ := args0_sound (r := r) (mask := mask) (tmps := xs ++ Array.replicate (n - xs.size) undef) vs 0 fr0 hd0 h0 (fun j v hj => by
    obtain ⟨x, hx, hvx⟩ := hv.get j hj
    have hx' : xs[j]? = some x := by simpa using hx
    have hlt : j < xs.size := (Array.getElem?_eq_some_iff.1 hx').1
    rw [Nat.zero_add, Array.getD_eq_getD_getElem?, Array.getElem?_append_left hlt, hx']
    exact hvx)
  exact ⟨h1, hr, hg, hb, h2, .nil, ⟨Nat.le_refl _, trivial⟩, by simp; omega⟩

theorem resV_sound {r : Emb} {f : Fr} {h : H} {w : World} (hr : Rel r h w) {tmps : Array Value} (ht : TRel r (fget f) tmps) : ∀ (l : List ResultVar) (vs : List V), resV P f h l = some vs →
    ∃ xs, (l.mapM (fun (x : ResultVar) => match x with | .tmp t => pure (tmps.getD t undef) | .cell a t => do loadVar t (← asAddr (tmps.getD a undef)) : ResultVar → Sem Value)).run P w = .ok xs w ∧ VsRel r vs xs := by
  intro l
  induction l with
  | nil =>
    intro vs hv
    simp only [resV, Option.some.injEq] at hv
    subst hv
    exact ⟨[], rfl, .nil⟩
  | cons p l ih =>
    intro vs hv
    cases p with
    | tmp t =>
      simp only [resV] at hv
      cases hr2 : resV P f h l with
      | none => rw [hr2] at hv; simp at hv
      | some vs2 =>
        rw [hr2] at hv
        simp only [Option.map_some, Option.some.injEq] at hv
        subst hv
        obtain ⟨xs, h1, h2⟩ := ih vs2 hr2
        refine ⟨tmps.getD t undef :: xs, ?_, .cons (ht t) h2⟩
        rw [List.mapM_cons]
        simp only [Sem.run_bind, Sem.run_pure, Result.andThen_ok, h1]
    | cell a t =>
      simp only [resV] at hv
      cases hl : loadV P h t (fget f a) with
      | none => rw [hl] at hv; simp at hv
      | some v =>
        rw [hl] at hv
        simp only [Option.bind_some] at hv
        cases hr2 : resV P f h l with
        | none => rw [hr2] at hv; simp at hv
        | some vs2 =>
          rw [hr2] at hv
          simp only [Option.map_some, Option.some.injEq] at hv
          subst hv
          obtain ⟨xs, h1, h2⟩ := ih vs2 hr2
          obtain ⟨z, h3, h4⟩ := loadV_sound hr hl (ht a)
          refine ⟨z :: xs, ?_, .cons h4 h2⟩
          have hp : ∃ ad, tmps.getD a undef = .pointer (some ad) := by
            have h5 := ht a
            generalize hq : fget f a = q at hl h5
            unfold loadV at hl
            split at hl
            · generalize tmps.getD a undef = y at h5
              cases h5; exact ⟨_, rfl⟩
            · simp at hl
          obtain ⟨ad, hp⟩ := hp
          rw [hp] at h3
          have h6 : (loadVar t ad).run P w = .ok z w := by
            simpa [Instr.loadAt, Instr.sureAddr] using h3
          have h7 : (asAddr (tmps.getD a undef)).run P w = .ok ad w := by rw [hp]; rfl
          rw [List.mapM_cons]
          simp only [Sem.run_bind, Sem.run_pure, Result.andThen_ok, h7, h6, h1]

theorem oneRes_sound {r : Emb} {f : Fr} {h : H} {w : World} (hr : Rel r h w) {tmps : Array Value} (ht : TRel r (fget f) tmps) {fn : Func} {vs : List V} (hv : resV P f h fn.results.toList = some vs) :
    ∃ z, (results fn tmps).run P w = .ok z w ∧ VRel r (oneRes vs) z := by
  obtain ⟨xs, h1, h2⟩ := resV_sound hr ht fn.results.toList vs hv
  have h3 : (fn.results.mapM (fun (x : ResultVar) => match x with | .tmp t => pure (tmps.getD t undef) | .cell a t => do loadVar t (← asAddr (tmps.getD a undef)) : ResultVar → Sem Value)).run P w = .ok xs.toArray w := by
    rw [Array.mapM_eq_mapM_toList]
    simp only [map_eq_pure_bind, Sem.run_bind, h1, Result.andThen_ok, Sem.run_pure]
  have h4 : (results fn tmps).run P w = .ok (if h : xs.toArray.size = 1 then xs.toArray[0] else .tuple xs.toArray) w := by
    have e : results fn tmps = (do
        let vs ← (fn.results.mapM (fun (x : ResultVar) => match x with | .tmp t => pure (tmps.getD t undef) | .cell a t => do loadVar t (← asAddr (tmps.getD a undef)) : ResultVar → Sem Value))
        pure (if h : vs.size = 1 then vs[0] else .tuple vs)) := rfl
    rw [e]
    simp only [Sem.run_bind, h3, Result.andThen_ok, Sem.run_pure]
  refine ⟨_, h4, ?_⟩
  unfold oneRes
  cases h2 with
  | nil => exact .tup .nil
  | cons ha hs =>
    cases hs with
    | nil => exact ha
    | cons hb hs => exact .tup (.cons ha (.cons hb hs))

end Go.Ev
