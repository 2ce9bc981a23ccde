/- The evaluator's functions are right, given that its regions that draw their order are. The evaluator's functions, so many calls deep, are right, given that its regions that draw their order are. Regions that draw their order: the facts of their text. Regions that draw their order: what an operation hangs on. Regions that draw their order: whatever order is drawn, the same comes out. Regions that draw their order: whatever order is drawn, the same comes out. Regions that draw their order: whatever order is drawn, the same comes out; the evaluator is right. No condition. -/
import Derived.Test.YtgpogeemhaiicaaGreatDoorEvMd
import Derived.Still
set_option linter.all false
namespace Go.Ev

variable {P : Program}

theorem fr0_any (t : Nat) : fget fr0 t = .any := by
  unfold fget
  cases h : Nat.blt t 4096
  · rfl
  · rw [Nat.blt_eq] at h
    simp only [cond_true]
    unfold fr0
    rw [T16.get_all _ _ (show Nat.div t 256 < 16 by show t / 256 < 16; omega), T16.get_all _ _ (show Nat.mod (Nat.div t 16) 16 < 16 from Nat.mod_lt _ (by omega)), T16.get_all _ _ (show Nat.mod t 16 < 16 from Nat.mod_lt _ (by omega))]

theorem fset_dim {mask : Nat} {f : Fr} (hd : Dim mask f) {i : Nat} {v : V} (hk : kept mask i = true) : Dim mask (fset f i v) := by
  intro t ht
  by_cases hi : i < 4096
  · rw [fget_fset _ _ _ _ hi, if_neg (fun e2 => by rw [e2, hk] at ht; cases ht)]
    exact hd t ht
  · have : Nat.blt i 4096 = false := by rw [← Bool.not_eq_true, Nat.blt_eq]; exact hi
    unfold fset
    rw [this]
    exact hd t ht

theorem args0_sound {r : Emb} {mask : Nat} {tmps : Array Value} : ∀ (vs : List V) (i : Nat) (f : Fr), Dim mask f → TRel r (fget f) tmps → (∀ j v, vs[j]? = some v → VRel r v (tmps.getD (i + j) undef)) →
    Dim mask (args0 mask i vs f) ∧ TRel r (fget (args0 mask i vs f)) tmps := by
  intro vs
  induction vs with
  | nil => intro i f hd ht _; exact ⟨hd, ht⟩
  | cons v vs ih =>
    intro i f hd ht hv
    unfold args0
    refine ih (i + 1) _ ?_ ?_ (fun j u hu => by
      have := hv (j + 1) u (by simpa using hu)
      rwa [show i + (j + 1) = i + 1 + j by omega] at this)
    · cases hk : kept mask i
      · exact hd
      · exact fset_dim hd hk
    · cases hk : kept mask i
      · exact ht
      · simp only [cond_true]
        intro t
        by_cases hi : i < 4096
        · rw [fget_fset _ _ _ _ hi]
          by_cases e : t = i
          · rw [if_pos e, e]
            exact hv 0 v rfl
          · rw [if_neg e]; exact ht t
        · have : Nat.blt i 4096 = false := by rw [← Bool.not_eq_true, Nat.blt_eq]; exact hi
          unfold fset
          rw [this]
          exact ht t

/-- The state in which a function's body begins. -/
theorem St.enter {w0 : World} {n mask : Nat} {r : Emb} {h : H} {w : World} (hr : Rel r h w) (hg : GRel P r) (hb : Base w0 r h w) {vs : List V} {xs : Array Value} (hv : VsRel r vs xs.toList) :
    Dim mask (args0 mask 0 vs fr0) ∧ St P w0 w.heap.size n r (fget (args0 mask 0 vs fr0)) [] h { tmps := xs ++ Array.replicate (n - xs.size) undef, defers := [] } w := by
  have h0 : TRel r (fget fr0) (xs ++ Array.replicate (n - xs.size) undef) := fun t => by rw [fr0_any]; exact .any _
  have hd0 : Dim mask fr0 := fun t _ => fr0_any t
  obtain ⟨h1, h2⟩ := args0_sound (r := r) (mask := mask) (tmps := xs ++ Array.replicate (n - xs.size) undef) vs 0 fr0 hd0 h0 (fun j v hj => by
    obtain ⟨x, hx, hvx⟩ := hv.get j hj
    have hx' : xs[j]? = some x := by simpa using hx
    have hlt : j < xs.size := (Array.getElem?_eq_some_iff.1 hx').1
    rw [Nat.zero_add, Array.getD_eq_getD_getElem?, Array.getElem?_append_left hlt, hx']
    exact hvx)
  exact ⟨h1, hr, hg, hb, h2, .nil, ⟨Nat.le_refl _, trivial⟩, by simp; omega⟩

theorem resV_sound {r : Emb} {f : Fr} {h : H} {w : World} (hr : Rel r h w) {tmps : Array Value} (ht : TRel r (fget f) tmps) : ∀ (l : List ResultVar) (vs : List V), resV P f h l = some vs →
    ∃ xs, (l.mapM (fun (x : ResultVar) => match x with | .tmp t => pure (tmps.getD t undef) | .cell a t => do loadVar t (← asAddr (tmps.getD a undef)) : ResultVar → Sem Value)).run P w = .ok xs w ∧ VsRel r vs xs := by
  intro l
  induction l with
  | nil =>
    intro vs hv
    simp only [resV, Option.some.injEq] at hv
    subst hv
    exact ⟨[], rfl, .nil⟩
  | cons p l ih =>
    intro vs hv
    cases p with
    | tmp t =>
      simp only [resV] at hv
      cases hr2 : resV P f h l with
      | none => rw [hr2] at hv; simp at hv
      | some vs2 =>
        rw [hr2] at hv
        simp only [Option.map_some, Option.some.injEq] at hv
        subst hv
        obtain ⟨xs, h1, h2⟩ := ih vs2 hr2
        refine ⟨tmps.getD t undef :: xs, ?_, .cons (ht t) h2⟩
        rw [List.mapM_cons]
        simp only [Sem.run_bind, Sem.run_pure, Result.andThen_ok, h1]
    | cell a t =>
      simp only [resV] at hv
      cases hl : loadV P h t (fget f a) with
      | none => rw [hl] at hv; simp at hv
      | some v =>
        rw [hl] at hv
        simp only [Option.bind_some] at hv
        cases hr2 : resV P f h l with
        | none => rw [hr2] at hv; simp at hv
        | some vs2 =>
          rw [hr2] at hv
          simp only [Option.map_some, Option.some.injEq] at hv
          subst hv
          obtain ⟨xs, h1, h2⟩ := ih vs2 hr2
          obtain ⟨z, h3, h4⟩ := loadV_sound hr hl (ht a)
          refine ⟨z :: xs, ?_, .cons h4 h2⟩
          have hp : ∃ ad, tmps.getD a undef = .pointer (some ad) := by
            have h5 := ht a
            generalize hq : fget f a = q at hl h5
            unfold loadV at hl
            split at hl
            · generalize tmps.getD a undef = y at h5
              cases h5; exact ⟨_, rfl⟩
            · simp at hl
          obtain ⟨ad, hp⟩ := hp
          rw [hp] at h3
          have h6 : (loadVar t ad).run P w = .ok z w := by
            simpa [Instr.loadAt, Instr.sureAddr] using h3
          have h7 : (asAddr (tmps.getD a undef)).run P w = .ok ad w := by rw [hp]; rfl
          rw [List.mapM_cons]
          simp only [Sem.run_bind, Sem.run_pure, Result.andThen_ok, h7, h6, h1]

theorem oneRes_sound {r : Emb} {f : Fr} {h : H} {w : World} (hr : Rel r h w) {tmps : Array Value} (ht : TRel r (fget f) tmps) {fn : Func} {vs : List V} (hv : resV P f h fn.results.toList = some vs) :
    ∃ z, (results fn tmps).run P w = .ok z w ∧ VRel r (oneRes vs) z := by
  obtain ⟨xs, h1, h2⟩ := resV_sound hr ht fn.results.toList vs hv
  have h3 : (fn.results.mapM (fun (x : ResultVar) => match x with | .tmp t => pure (tmps.getD t undef) | .cell a t => do loadVar t (← asAddr (tmps.getD a undef)) : ResultVar → Sem Value)).run P w = .ok xs.toArray w := by
    rw [Array.mapM_eq_mapM_toList]
    simp only [map_eq_pure_bind, Sem.run_bind, h1, Result.andThen_ok, Sem.run_pure]
  have h4 : (results fn tmps).run P w = .ok (if h : xs.toArray.size = 1 then xs.toArray[0] else .tuple xs.toArray) w := by
    have e : results fn tmps = (do
        let vs ← (fn.results.mapM (fun (x : ResultVar) => match x with | .tmp t => pure (tmps.getD t undef) | .cell a t => do loadVar t (← asAddr (tmps.getD a undef)) : ResultVar → Sem Value))
        pure (if h : vs.size = 1 then vs[0] else .tuple vs)) := rfl
    rw [e]
    simp only [Sem.run_bind, h3, Result.andThen_ok, Sem.run_pure]
  refine ⟨_, h4, ?_⟩
  unfold oneRes
  cases h2 with
  | nil => exact .tup .nil
  | cons ha hs =>
    cases hs with
    | nil => exact ha
    | cons hb hs => exact .tup (.cons ha (.cons hb hs))

end Go.Ev

namespace Go.Ev

variable {P : Program}

/-- Each slot that a function's code writes is there. -/
def ProgOk (P : Program) : Prop := ∀ (f : FuncId) (fn : Func) (c : Code), P.funcs[f]? = some fn → fn.body = some c → codeOk fn.ntmps c = true

theorem runDs_sound {w0 : World} {callD : CallFn} (hD : CallFnDOk P w0 callD) (hnn : NoNum P) {fn : Func} {tmps : Array Value} {R : Ending → World → Prop} {h' : H} {r0 : Emb} {h0 : H} {w00 : World} :
    ∀ (ds : Ds) (dl : List Deferred) (h : H) (r : Emb) (w : World), runDs callD ds h = some h' → Step r0 h0 w00 r h w → GRel P r → Base w0 r0 h0 w00 → DRel P r ds dl → MarksOk w00.heap.size r h w dl →
      (∀ r' w', Step r0 h0 w00 r' h' w' → GRel P r' → r.le r' → LeavesInM Fence.wide 0 P fn tmps R [] .returning w') → LeavesInM Fence.wide 0 P fn tmps R dl .returning w := by
  intro ds
  induction ds with
  | nil =>
    intro dl h r w he hr hg hb hd hm hQ
    cases hd
    simp only [runDs, Option.some.injEq] at he
    subst he
    exact hQ r w hr hg r.le_refl
  | cons p ds ih =>
    intro dl h r w he hr hg hb hd hm hQ
    obtain ⟨g, vs⟩ := p
    simp only [runDs] at he
    cases hd with
    | @cons _ _ cap args _ dl hgm hbody hvs hd =>
      rw [hgm] at he
      simp only [cond_false] at he
      split at he
      · rename_i v h1 hc
        refine ⟨by simp, .inr ⟨fun hh => by simp [Fence.wide] at hh, .func g, cap, g, args ++ cap, rfl, run_invoke_func hnn hbody cap args w, fun _ _ => trivial, ?_⟩⟩
        refine (hD g vs h v h1 hc r w _ .returning hr.rel hg (hb.step hr) hvs).mono ?_
        rintro e u' w' ⟨rfl, z, r', rfl, st, hv⟩
        show LeavesInM Fence.wide 0 P fn tmps R dl (settle .returning) w'
        exact ih dl h1 r' w' he (hr.trans st) (GRel.up st.le hg) hb (hd.up st.le) (hm.2.step st) (fun r2 w2 a1 a2 a3 => hQ r2 w2 a1 a2 (Emb.le_trans st.le a3))
      · simp at he
    | @mark D _ dl hd =>
      have hmm : Nat.beq markG markG = true := by simp
      rw [hmm] at he
      simp only [cond_true] at he
      obtain ⟨k1, k2, k3, k4⟩ := hm.1 D rfl
      have hother : ∀ k, k ≠ D → (w.putObj D (.deferred none)).heap[k]? = w.heap[k]? := fun k hk => World.putObj_heap_other hk
      refine ⟨by simp, .inl ⟨D, _, rfl, run_takeDeferred k3, ?_⟩⟩
      exact ih dl h r _ he (hr.poke k2 k1 (by simp) hother rfl rfl rfl (hr.rel.poke k2 hother)) hg hb hd (hm.2.poke hother k4) hQ

theorem runFn_sound {w0 : World} {call callD : CallFn} (hcall : CallFnOk P w0 call) (hD : CallFnDOk P w0 callD) (hnn : NoNum P) (hdraw : DrawSound P w0 call) {mask fuel : Nat} {g : FuncId} {fn : Func} {c : Code}
    (hf : P.funcs[g]? = some fn) (hb : fn.body = some c) (hok : codeOk fn.ntmps c = true) {vs : List V} {h h' : H} {v : V} (he : runFn P call callD mask fuel fn c vs h = some (v, h')) : CallOk P w0 g vs h v h' := by
  intro r w xs hr hg hba hvs
  obtain ⟨hd, hs⟩ := St.enter (n := fn.ntmps) (mask := mask) hr hg hba hvs
  refine callsIn_wide.1 (callsIn_of_wp_marks (n := 0) hf hb trivial ?_)
  unfold runFn at he
  cases hden : den P call mask fuel c (args0 mask 0 vs fr0) [] h with
  | fail => rw [hden] at he; simp at he
  | ok x f1 d1 h1 =>
    rw [hden] at he
    simp only at he
    refine wpIn_mono (den_sound (ro := none) hcall hnn hdraw c _ f1 [] d1 h h1 x r _ w hok (.inl rfl) hd hs hden) ?_
    rintro e a1 w1 ⟨hx, hd1, r1, hs1, st1⟩
    have key : ((runDs callD d1 h1).bind fun h => (resV P f1 h fn.results.toList).map fun l => (oneRes l, h)) = some (v, h') →
        LeavesInM Fence.wide 0 P fn a1.tmps (fun e w' => ∃ z r', e = .returned z ∧ Step r h w r' h' w' ∧ VRel r' v z) a1.defers .returning w1 := by
      intro he
      cases hrd : runDs callD d1 h1 with
      | none => rw [hrd] at he; simp at he
      | some h2 =>
        rw [hrd] at he
        simp only [Option.bind_some] at he
        cases hrv : resV P f1 h2 fn.results.toList with
        | none => rw [hrv] at he; simp at he
        | some l =>
          rw [hrv] at he
          simp only [Option.map_some, Option.some.injEq, Prod.mk.injEq] at he
          obtain ⟨rfl, rfl⟩ := he
          refine runDs_sound hD hnn d1 a1.defers h1 r1 w1 hrd st1 hs1.gl hba hs1.ds hs1.mks.2 (fun r2 w2 st2 b2 le2 => ?_)
          obtain ⟨z, g1, g2⟩ := oneRes_sound st2.rel (hs1.tm.up le2) hrv
          exact ⟨z, g1, z, r2, rfl, st2, g2⟩
    cases x with
    | norm =>
      have e1 : e = .normal := hx
      subst e1
      exact key he
    | exit id => simp at he
    | ret =>
      have e1 : e = .ret := hx
      subst e1
      exact key he

theorem runFnD_sound {w0 : World} {call : CallFn} (hcall : CallFnOk P w0 call) (hnn : NoNum P) (hdraw : DrawSound P w0 call) {mask fuel : Nat} {g : FuncId} {fn : Func} {c : Code}
    (hf : P.funcs[g]? = some fn) (hb : fn.body = some c) (hok : codeOk fn.ntmps c = true) {vs : List V} {h h' : H} {v : V} (he : runFnD P call mask fuel fn c vs h = some (v, h')) : CallDOk P w0 g vs h v h' := by
  intro r w xs u hr hg hba hvs
  obtain ⟨hd, hs⟩ := St.enter (n := fn.ntmps) (mask := mask) hr hg hba hvs
  refine callsDIn_of_wp hf hb trivial ?_
  unfold runFnD at he
  cases hden : den P call mask fuel c (args0 mask 0 vs fr0) [] h with
  | fail => rw [hden] at he; simp at he
  | ok x f1 d1 h1 =>
    rw [hden] at he
    simp only at he
    cases d1 with
    | cons _ _ => simp at he
    | nil =>
      simp only at he
      refine wpIn_mono (den_sound (ro := none) hcall hnn hdraw c _ f1 [] [] h h1 x r _ w hok (.inl rfl) hd hs hden) ?_
      rintro e a1 w1 ⟨hx, hd1, r1, hs1, st1⟩
      have hdef : a1.defers = [] := by
        have := hs1.ds
        cases hq : a1.defers with
        | nil => rfl
        | cons _ _ => rw [hq] at this; cases this
      have key : ((resV P f1 h1 fn.results.toList).map fun l => (oneRes l, h1)) = some (v, h') →
          a1.defers = [] ∧ ∃ z, (results fn a1.tmps).run P w1 = .ok z w1 ∧ ∃ z' r', (Ending.returned z = .returned z') ∧ Step r h w r' h' w1 ∧ VRel r' v z' := by
        intro he
        cases hrv : resV P f1 h1 fn.results.toList with
        | none => rw [hrv] at he; simp at he
        | some l =>
          rw [hrv] at he
          simp only [Option.map_some, Option.some.injEq, Prod.mk.injEq] at he
          obtain ⟨rfl, rfl⟩ := he
          obtain ⟨z, g1, g2⟩ := oneRes_sound hs1.rel hs1.tm hrv
          exact ⟨hdef, z, g1, z, r1, rfl, st1, g2⟩
      cases x with
      | norm =>
        have e1 : e = .normal := hx
        subst e1
        exact key he
      | exit id => simp at he
      | ret =>
        have e1 : e = .ret := hx
        subst e1
        exact key he

/-! A round of a range over a function. -/
theorem putPs_sound {r : Emb} {mask n : Nat} : ∀ (ps : List Tmp) (args : List V) (xs : List Value) (f : Fr) (tmps : Array Value), ps.length = args.length → VsRel r args xs → (∀ t ∈ ps, t < n) → n ≤ tmps.size → Dim mask f → TRel r (fget f) tmps →
    Dim mask (putPs mask ps args f) ∧ TRel r (fget (putPs mask ps args f)) ((ps.zip xs).foldl (fun tmps p => tmps.setIfInBounds p.1 p.2) tmps) ∧ n ≤ ((ps.zip xs).foldl (fun tmps p => tmps.setIfInBounds p.1 p.2) tmps).size := by
  intro ps
  induction ps with
  | nil => intro args xs f tmps _ _ _ hn hd ht; exact ⟨hd, ht, hn⟩
  | cons t ps ih =>
    intro args xs f tmps hl hv hps hn hd ht
    cases hv with
    | nil => simp at hl
    | @cons v x vs xs hx hvs =>
      have htn : t < tmps.size := Nat.lt_of_lt_of_le (hps t (by simp)) hn
      show Dim mask (putPs mask ps vs (bif kept mask t then fset f t v else f)) ∧ TRel r (fget (putPs mask ps vs (bif kept mask t then fset f t v else f))) ((ps.zip xs).foldl (fun tmps p => tmps.setIfInBounds p.1 p.2) (tmps.setIfInBounds t x)) ∧ _
      refine ih vs xs _ _ (by simpa using hl) hvs (fun u hu => hps u (by simp [hu])) (by simpa using hn) ?_ ?_
      · cases hk : kept mask t
        · exact hd
        · exact fset_dim hd hk
      · intro u
        by_cases e : u = t
        · subst e
          rw [Array.getD_eq_getD_getElem?, Array.getElem?_setIfInBounds_self_of_lt htn]
          cases hk : kept mask u
          · simp only [cond_false]
            rw [hd u hk]
            exact .any _
          · simp only [cond_true]
            by_cases hi : u < 4096
            · rw [fget_fset _ _ _ _ hi, if_pos rfl]; exact hx
            · have hb : Nat.blt u 4096 = false := by rw [← Bool.not_eq_true, Nat.blt_eq]; exact hi
              unfold fget
              rw [hb]
              exact .any _
        · rw [Array.getD_eq_getD_getElem?, Array.getElem?_setIfInBounds_ne (fun e2 => e e2.symm), ← Array.getD_eq_getD_getElem?]
          cases hk : kept mask t
          · exact ht u
          · simp only [cond_true]
            by_cases hi : t < 4096
            · rw [fget_fset _ _ _ _ hi, if_neg e]; exact ht u
            · have hb : Nat.blt t 4096 = false := by rw [← Bool.not_eq_true, Nat.blt_eq]; exact hi
              unfold fset
              rw [hb]
              exact ht u

/-- A step, one block aside. -/
structure StepBut (b : Nat) (r : Emb) (h : H) (w : World) (r' : Emb) (h' : H) (w' : World) : Prop where
  le : r.le r'
  rel : Rel r' h' w'
  size : w.heap.size ≤ w'.heap.size
  keep : ∀ k, k < w.heap.size → k ≠ b → ¬ Own r h k → w'.heap[k]? = w.heap[k]?
  own : ∀ b, b < w.heap.size → Own r' h' b → Own r h b
  held : ∀ b, b < w.heap.size → Held r' h' b → Held r h b
  os : w'.os = w.os
  out : w'.output = w.output
  tape : w'.tape = w.tape

/-- A label that was dead comes to life again: the record of a range. -/
theorem Step.revive {r r' : Emb} {h h2 : H} {w w' : World} {id b sh m : Nat} (hid : id < 65536) (hlive : ownB (h.mem.blk id) = true) (hr : Rel r h w) (st : StepBut b r (h.kill id) w r' h2 w') (h1 : r id = some (b, sh, m)) {k : Blk} (hf : FitB r' k b sh m w') :
    Step r h w r' (h2.setB id k) w' := by
  have hidr : r' id = some (b, sh, m) := st.le _ _ h1
  have hlt : b < w.heap.size := by
    obtain ⟨b', sh', m', e1, e2⟩ := hr.fit id hid (live_of_own hlive)
    rw [h1] at e1
    cases e1
    exact e2.lt (live_of_own hlive)
  -- no live label of h2 speaks of b
  have hfree : ∀ i sh' m', Live h2 i → r' i ≠ some (b, sh', m') := fun i sh' m' hl e => by
    obtain ⟨j, sh2, m2, hl2, e2⟩ := st.held b hlt ⟨i, sh', m', hl, e⟩
    obtain ⟨hl3, hne⟩ := live_kill hid hl2
    exact hne (hr.inj j id b sh2 m2 sh m hl3 ⟨hid, live_of_own hlive⟩ (.inr hlive) e2 h1)
  have hsame : (h2.setB id k).mem.blk id = k := Mem.blk_put_same _ _ _ hid
  have hoth : ∀ i, i < 65536 → i ≠ id → (h2.setB id k).mem.blk i = h2.mem.blk i := fun i hi hne => Mem.blk_put_other _ _ _ _ hid hi hne
  have hliv : ∀ i, Live (h2.setB id k) i → i ≠ id → Live h2 i := fun i hl hne => by
    obtain ⟨q1, q2⟩ := hl
    rw [hoth i q1 hne] at q2
    exact ⟨q1, q2⟩
  have hown : Own r h b := ⟨id, sh, m, hid, hlive, h1⟩
  refine ⟨st.le, ⟨fun i hi hl => ?_, fun i i' b' sh1 m1 sh2 m2 hl hl' ho e e' => ?_, st.rel.new⟩, st.size, fun b' hb' hno => ?_, fun b' hb' ho => ?_, fun b' hb' ho => ?_, st.os, st.out, st.tape⟩
  · by_cases e : i = id
    · subst e
      rw [hsame]
      exact ⟨b, sh, m, hidr, hf⟩
    · rw [hoth i hi e] at hl ⊢
      exact st.rel.fit i hi hl
  · by_cases e1 : i = id
    · by_cases e2 : i' = id
      · rw [e1, e2]
      · subst e1
        rw [hidr] at e
        cases e
        exact absurd e' (hfree i' _ _ (hliv i' hl' e2))
    · by_cases e2 : i' = id
      · subst e2
        rw [hidr] at e'
        cases e'
        exact absurd e (hfree i _ _ (hliv i hl e1))
      · rw [hoth i hl.1 e1, hoth i' hl'.1 e2] at ho
        exact st.rel.inj i i' b' sh1 m1 sh2 m2 (hliv i hl e1) (hliv i' hl' e2) ho e e'
  · exact st.keep b' hb' (fun e => hno (e ▸ hown)) (fun ho => hno (own_kill hid ho))
  · obtain ⟨i, sh', m', hi, hb2, e⟩ := ho
    by_cases e1 : i = id
    · subst e1
      rw [hidr] at e
      cases e
      exact hown
    · rw [hoth i hi e1] at hb2
      exact own_kill hid (st.own b' hb' ⟨i, sh', m', hi, hb2, e⟩)
  · obtain ⟨i, sh', m', hl, e⟩ := ho
    by_cases e1 : i = id
    · subst e1
      rw [hidr] at e
      cases e
      exact hown.held
    · exact held_kill hid (st.held b' hb' ⟨i, sh', m', hliv i hl e1, e⟩)

theorem round_sound {w0 : World} {call : CallFn} (hcall : CallFnOk P w0 call) (hnn : NoNum P) (hdraw : DrawSound P w0 call) {fuel : Nat} {vs : List V} {h h' : H} {v : V} (he : roundV P call fuel vs h = some (v, h')) : RoundOk P w0 vs h v h' := by
  intro id0 args0 r w b sh m xs evs hr hg hba hid hxs
  subst evs
  unfold roundV at he
  split at he
  · rename_i id args heq
    simp only [List.cons.injEq, V.ptr.injEq] at heq
    obtain ⟨⟨rfl, _⟩, rfl⟩ := heq
    split at he
    · rename_i mask f ps assign body hblk
      cases hk : (Nat.blt id0 65536 && Nat.beq args0.length ps.length)
      · rw [hk] at he; simp at he
      · rw [hk] at he
        simp only [cond_true] at he
        simp only [Bool.and_eq_true, Nat.blt_eq] at hk
        obtain ⟨hid6, hlen⟩ := hk
        have hlen := Nat.eq_of_beq_eq_true hlen
        have hlive : ownB (h.mem.blk id0) = true := by rw [hblk]; rfl
        obtain ⟨b', sh', m', hq, hF⟩ := hr.fit id0 hid6 (live_of_own hlive)
        rw [hid] at hq
        cases hq
        rw [hblk] at hF
        obtain ⟨R, n, hRb, hps, has, hbo, hT, hdim, hn, hok1, hok2, hnd1, hnd2, hpn, hst, hpe⟩ := hF
        subst has
        subst hbo
        have hxl : xs.size = ps.length := by rw [← hlen, hxs.length]; simp
        refine ⟨R.fn, _, R.assign, R.body, run_yield hRb (by rw [hps, hxl]; simp), ?_⟩
        have hblt : b < w.heap.size := (Array.getElem?_eq_some_iff.1 hRb).1
        obtain ⟨tm, htm⟩ : ∃ tm, ((R.params.zip xs).foldl (fun tmps (t, a) => tmps.setIfInBounds t a) R.tmps) = tm := ⟨_, rfl⟩
        have htm2 : tm = (ps.zip xs.toList).foldl (fun tmps p => tmps.setIfInBounds p.1 p.2) R.tmps := by
          rw [← htm, hps, ← Array.foldl_toList, Array.toList_zip]
        obtain ⟨hd0, ht0, hn0⟩ := putPs_sound (r := r) (mask := mask) (n := n) ps args0 xs.toList f R.tmps hlen.symm hxs hpn hn hdim hT
        rw [← htm2] at ht0 hn0
        rw [htm]
        have stk := Step.kill hr hid6
        have hs0 : St P w0 w.heap.size n r (fget (putPs mask ps args0 f)) [] (h.kill id0) { tmps := tm, defers := [] } w :=
          ⟨stk.rel, hg, hba.step stk, ht0, .nil, ⟨Nat.le_refl _, trivial⟩, hn0⟩
        have hnown : ∀ {r2 : Emb} {h2 : H} {w2 : World}, Step r (h.kill id0) w r2 h2 w2 → ¬ Held r2 h2 b := fun {r2 h2 w2} st hh => by
          obtain ⟨j, sh2, m2, hl2, e2⟩ := st.held b hblt hh
          obtain ⟨hl3, hne⟩ := live_kill hid6 hl2
          exact hne (hr.inj j id0 b sh2 m2 sh m hl3 ⟨hid6, live_of_own hlive⟩ (.inr hlive) e2 hid)
        have hno0 : ¬ Own r (h.kill id0) b := fun ho => by
          obtain ⟨j, sh2, m2, hj, hb2, e2⟩ := ho
          have hl2 : Live (h.kill id0) j := ⟨hj, live_of_own hb2⟩
          obtain ⟨hl3, hne⟩ := live_kill hid6 hl2
          exact hne (hr.inj j id0 b sh2 m2 sh m hl3 ⟨hid6, live_of_own hlive⟩ (.inr hlive) e2 hid)
        cases hda : den P call mask fuel R.assign (putPs mask ps args0 f) [] (h.kill id0) with
        | fail => rw [hda] at he; simp at he
        | ok x1 f1 d1 h1 =>
        rw [hda] at he
        simp only at he
        split at he
        · cases hdb : den P call mask fuel R.body f1 [] h1 with
          | fail => rw [hdb] at he; simp at he
          | ok x2 f2 d2 h2 =>
          rw [hdb] at he
          simp only at he
          split at he
          · simp only [Option.some.injEq, Prod.mk.injEq] at he
            obtain ⟨rfl, rfl⟩ := he
            refine roundIn_of_wpIn (F := Fence.wide) trivial ?_
            refine wpIn_mono (den_sound (ro := some b) hcall hnn hdraw R.assign _ f1 [] [] (h.kill id0) h1 .norm r _ w hok1 (.inr hnd1) hd0 hs0 hda) ?_
            rintro e a1 w1 ⟨hx, hd1, r1, hs1, st1⟩
            obtain rfl : e = .normal := hx
            have hR1 : w1.heap[b]? = some (.loop R) := (st1.keep b hblt hno0).trans hRb
            have hrdy : R.state = .ready := hst
            refine ⟨_, run_beginRound hR1 hrdy, ?_⟩
            obtain ⟨w2, hw2⟩ : ∃ w2, w2 = w1.putObj b (.loop { R with state := .busy }) := ⟨_, rfl⟩
            rw [← hw2]
            have hoth2 : ∀ k, k ≠ b → w2.heap[k]? = w1.heap[k]? := fun k hk => by rw [hw2]; exact World.putObj_heap_other hk
            have hb1 : b < w1.heap.size := (Array.getElem?_eq_some_iff.1 hR1).1
            have hR2 : w2.heap[b]? = some (.loop { R with state := .busy }) := by rw [hw2]; exact World.putObj_heap_same hb1
            have hsz2 : w2.heap.size = w1.heap.size := by rw [hw2]; simp
            have hrel2 : Rel r1 h1 w2 := hs1.rel.poke (hnown st1) hoth2
            have hs2 : St P w0 w.heap.size n r1 (fget f1) [] h1 a1 w2 := by
              refine ⟨hrel2, hs1.gl, ⟨fun k hk => ?_, hs1.base.own, by rw [hsz2]; exact hs1.base.size⟩, hs1.tm, hs1.ds, ⟨by rw [hsz2]; exact hs1.mks.1, ?_⟩, hs1.sz⟩
              · have hkb : k ≠ b := fun e => by
                  subst e
                  have := hba.own k ⟨id0, sh, m, hid6, hlive, hid⟩
                  omega
                rw [hoth2 k hkb]
                exact hs1.base.same k hk
              · have h3 : a1.defers = [] := by
                  have := hs1.ds
                  generalize a1.defers = dd at this
                  cases this
                  rfl
                rw [h3]
                trivial
            refine wpIn_mono (den_sound (ro := some b) hcall hnn hdraw R.body f1 f2 [] [] h1 h2 x2 r1 a1 w2 hok2 (.inr hnd2) hd1 hs2 hdb) ?_
            rintro e a2 w3 ⟨hx, hd2, r2, hs3, st3⟩
            have hno1 : ¬ Own r1 h1 b := fun ho => hnown st1 ho.held
            have hR3 : w3.heap[b]? = some (.loop { R with state := .busy }) := (st3.keep b (by rw [hsz2]; exact hb1) hno1).trans hR2
            have hb3 : b < w3.heap.size := (Array.getElem?_eq_some_iff.1 hR3).1
            have hend : ∀ (jump : Option Code), (Instr.endRound b jump).run P w3 = .ok (.bool jump.isNone) (w3.putObj b (.loop { R with state := if jump.isNone then .ready else .done, pending := jump })) := fun jump => by
              have := run_endRound (P := P) jump hR3
              simpa using this
            -- the round's end, the record written
            have fin : ∀ (jump : Option Code), pendOf (stOf x2) = jump → ∃ z r', (Ending.returned (.bool jump.isNone) = .returned z) ∧ Step r h w r' (h2.setB id0 (.loopb (stOf x2) mask f ps R.assign R.body)) (w3.putObj b (.loop { R with state := if jump.isNone then .ready else .done, pending := jump })) ∧
                VRel r' (.bool (Nat.beq (stOf x2) 0)) z := by
              intro jump hj
              obtain ⟨w4, hw4⟩ : ∃ w4, w4 = w3.putObj b (.loop { R with state := if jump.isNone then .ready else .done, pending := jump }) := ⟨_, rfl⟩
              rw [← hw4]
              have hoth4 : ∀ k, k ≠ b → w4.heap[k]? = w3.heap[k]? := fun k hk => by rw [hw4]; exact World.putObj_heap_other hk
              have hR4 : w4.heap[b]? = some (.loop { R with state := if jump.isNone then .ready else .done, pending := jump }) := by rw [hw4]; exact World.putObj_heap_same hb3
              have hsz4 : w4.heap.size = w3.heap.size := by rw [hw4]; simp
              have hnb3 : ¬ Held r2 h2 b := fun hh => hnown st1 (st3.held b (by rw [hsz2]; exact hb1) hh)
              have hle2 : r.le r2 := Emb.le_trans st1.le st3.le
              have stb : StepBut b r (h.kill id0) w r2 h2 w4 := by
                refine ⟨hle2, st3.rel.poke hnb3 hoth4, Nat.le_trans st1.size (by rw [hsz4, ← hsz2]; exact st3.size), fun k hk ek ho => ?_, fun k hk ho => ?_, fun k hk ho => ?_, ?_, ?_, ?_⟩
                · rw [hoth4 k ek, st3.keep k (by rw [hsz2]; exact Nat.lt_of_lt_of_le hk st1.size) (fun ho2 => ho (st1.own k hk ho2)), hoth2 k ek]
                  exact st1.keep k hk ho
                · exact st1.own k hk (st3.own k (by rw [hsz2]; exact Nat.lt_of_lt_of_le hk st1.size) ho)
                · exact st1.held k hk (st3.held k (by rw [hsz2]; exact Nat.lt_of_lt_of_le hk st1.size) ho)
                · rw [hw4]; show w3.os = _; rw [st3.os, hw2]; exact st1.os
                · rw [hw4]; show w3.output = _; rw [st3.out, hw2]; exact st1.out
                · rw [hw4]; show w3.tape = _; rw [st3.tape, hw2]; exact st1.tape
              have hjs : jump.isNone = Nat.beq (stOf x2) 0 := by
                rw [← hj]
                cases x2 <;> rfl
              refine ⟨_, r2, rfl, Step.revive hid6 hlive hr stb hid ⟨_, n, hR4, hps, rfl, rfl, fun t => (hT t).up hle2, hdim, hn, ?_, ?_, ?_, ?_, hpn, ?_, hj.symm⟩, ?_⟩
              · exact hok1
              · exact hok2
              · exact hnd1
              · exact hnd2
              · show (if jump.isNone = true then LoopState.ready else LoopState.done) = if stOf x2 = 0 then LoopState.ready else LoopState.done
                rw [hjs]
                cases x2 <;> rfl
              · rw [hjs]; exact .bool _
            cases x2 with
            | norm =>
              obtain rfl : e = .normal := hx
              exact ⟨_, _, hend none, fin none rfl⟩
            | exit id =>
              obtain rfl : e = .exit id := hx
              exact ⟨_, _, hend (some (.exit id)), fin (some (.exit id)) rfl⟩
            | ret =>
              obtain rfl : e = .ret := hx
              exact ⟨_, _, hend (some .ret), fin (some .ret) rfl⟩
          · simp at he
        · simp at he
    · simp at he
  · simp at he

/-- THE EVALUATOR IS RIGHT: what it says a call comes to, the call comes to. -/
theorem callN_sound {w0 : World} {ext : CallFn} {isExt : FuncId → Bool} {mask : FuncId → Nat} {fuel : Nat} (hY : isExt yieldG = false) (hext : ∀ g, isExt g = true → ∀ vs h v h', ext g vs h = some (v, h') → CallOk P w0 g vs h v h')
    (hnn : NoNum P) (hok : ProgOk P) (hdraw : ∀ call, CallFnOk P w0 call → DrawSound P w0 call) : ∀ n, CallFnOk P w0 (callN P ext isExt mask fuel n) := by
  intro n
  induction n with
  | zero => intro g vs h v h' he; simp [callN] at he
  | succ n ih =>
    intro g vs h v h' he
    simp only [callN] at he
    cases hx : isExt g
    · rw [hx] at he
      simp only [cond_false] at he
      split at he
      · rename_i fn hf
        split at he
        · rename_i c hb
          have hD : CallFnDOk P w0 (callDof P mask fuel (callN P ext isExt mask fuel n)) := by
            intro g2 vs2 h2 v2 h2' he2
            unfold callDof at he2
            split at he2
            · rename_i fn2 hf2
              split at he2
              · rename_i c2 hb2
                exact runFnD_sound ih hnn (hdraw _ ih) hf2 hb2 (hok g2 fn2 c2 hf2 hb2) he2
              · simp at he2
            · simp at he2
          refine ⟨fun _ => runFn_sound ih hD hnn (hdraw _ ih) hf hb (hok g fn c hf hb) he, fun hg => ?_⟩
          have := body_ne hnn (show hasBody P g = true by unfold hasBody; rw [hf]; simp [hb])
          rw [this] at hg
          cases hg
        · simp at he
      · cases hg : Nat.beq g yieldG
        · rw [hg] at he; simp at he
        · rw [hg] at he
          exact ⟨fun q => (by rw [hg] at q; cases q), fun _ => round_sound ih hnn (hdraw _ ih) he⟩
    · rw [hx] at he
      simp only [cond_true] at he
      refine ⟨fun _ => hext g hx vs h v h' he, fun hg => ?_⟩
      obtain rfl := Nat.eq_of_beq_eq_true hg
      rw [hY] at hx
      cases hx

end Go.Ev

namespace Go.Ev

variable {P : Program}

/-! ### What stands ahead of what -/
theorem masks_prefix : ∀ (rest : List Oper) (acc : List Nat) (j : Nat), j < acc.length → (masks rest acc)[j]? = acc[j]?
  | [], _, _, _ => rfl
  | o :: rest, acc, j, h => by
    rw [masks, masks_prefix rest _ j (by simp; omega), List.getElem?_append_left h]

theorem masks_length : ∀ (rest : List Oper) (acc : List Nat), (masks rest acc).length = acc.length + rest.length
  | [], _ => rfl
  | o :: rest, acc => by rw [masks, masks_length]; simp; omega

theorem masks_get : ∀ (rest : List Oper) (acc : List Nat) (k : Nat) (o : Oper), rest[k]? = some o → ∃ acc', (masks rest acc)[acc.length + k]? = some (maskOf acc' o) ∧ ∀ j, acc'[j]? = if j < acc.length + k then (masks rest acc)[j]? else none
  | [], _, _, _, h => by simp at h
  | q :: rest, acc, 0, o, h => by
    simp only [List.getElem?_cons_zero, Option.some.injEq] at h
    subst h
    refine ⟨acc, ?_, fun j => ?_⟩
    · rw [masks, masks_prefix rest _ _ (by simp)]
      simp
    · rw [masks, Nat.add_zero]
      by_cases hj : j < acc.length
      · rw [if_pos hj, masks_prefix rest _ j (by simp; omega), List.getElem?_append_left hj]
      · rw [if_neg hj, List.getElem?_eq_none (by omega)]
  | q :: rest, acc, k + 1, o, h => by
    obtain ⟨acc', h1, h2⟩ := masks_get rest (acc ++ [maskOf acc q]) k o (by simpa using h)
    simp only [List.length_append, List.length_cons, List.length_nil] at h1 h2
    refine ⟨acc', ?_, fun j => ?_⟩
    · rw [masks, show acc.length + (k + 1) = acc.length + 0 + 1 + k by omega]; exact h1
    · rw [masks, h2 j, show acc.length + (k + 1) = acc.length + 0 + 1 + k by omega]

theorem maskOf_bit (acc : List Nat) (o : Oper) (i : Nat) (h : (maskOf acc o).testBit i = true) : ∃ e ∈ o.after.toList, Region.binds .any e = true ∧ (i = e.on ∨ (acc.getD e.on 0).testBit i = true) := by
  unfold maskOf at h
  have key : ∀ (l : List Edge) (s : Nat), (l.foldl (fun s e => if Region.binds .any e then s ||| 2 ^ e.on ||| acc.getD e.on 0 else s) s).testBit i = true →
      s.testBit i = true ∨ ∃ e ∈ l, Region.binds .any e = true ∧ (i = e.on ∨ (acc.getD e.on 0).testBit i = true) := by
    intro l
    induction l with
    | nil => intro s hs; exact .inl hs
    | cons e l ih =>
      intro s hs
      simp only [List.foldl_cons] at hs
      rcases ih _ hs with h1 | ⟨e', he, hb, hx⟩
      · by_cases hb : Region.binds .any e = true
        · rw [if_pos hb] at h1
          simp only [Nat.testBit_or, Bool.or_eq_true, Nat.testBit_two_pow, decide_eq_true_eq] at h1
          rcases h1 with (h1 | h1) | h1
          · exact .inl h1
          · exact .inr ⟨e, by simp, hb, .inl h1.symm⟩
          · exact .inr ⟨e, by simp, hb, .inr h1⟩
        · rw [if_neg hb] at h1
          exact .inl h1
      · exact .inr ⟨e', by simp [he], hb, hx⟩
  rcases key _ 0 h with h1 | h1
  · simp at h1
  · exact h1

/-- If i is ahead of j, then j has an edge to i, or to one that i is ahead of; and that one stands before j. -/
theorem ahead_step {ops : List Oper} {i j : Nat} (h : ahead (masks ops []) i j = true) : ∃ o e, ops[j]? = some o ∧ e ∈ o.after.toList ∧ Region.binds .any e = true ∧ (i = e.on ∨ (e.on < j ∧ ahead (masks ops []) i e.on = true)) := by
  unfold ahead at h
  by_cases hj : j < ops.length
  · obtain ⟨acc', h1, h2⟩ := masks_get ops [] j ops[j] (by simp)
    simp only [List.length_nil, Nat.zero_add] at h1 h2
    rw [List.getD_eq_getElem?_getD, h1] at h
    simp only [Option.getD_some] at h
    obtain ⟨e, he, hb, hx⟩ := maskOf_bit acc' _ i h
    refine ⟨ops[j], e, by simp, he, hb, ?_⟩
    rcases hx with hx | hx
    · exact .inl hx
    · right
      rw [List.getD_eq_getElem?_getD, h2 e.on] at hx
      by_cases hlt : e.on < j
      · rw [if_pos hlt] at hx
        exact ⟨hlt, by unfold ahead; rw [List.getD_eq_getElem?_getD]; exact hx⟩
      · rw [if_neg hlt] at hx
        simp at hx
  · rw [List.getD_eq_getElem?_getD, List.getElem?_eq_none (by rw [masks_length]; simp; omega)] at h
    simp at h

/-- A set of operations that holds with each all that its edges name. -/
def Closed (ops : List Oper) (S : Nat → Bool) : Prop := ∀ j o, ops[j]? = some o → S j = true → ∀ e ∈ o.after.toList, Region.binds .any e = true → S e.on = true

theorem closed_ahead {ops : List Oper} {S : Nat → Bool} (hc : Closed ops S) : ∀ (j i : Nat), ahead (masks ops []) i j = true → S j = true → S i = true := by
  intro j
  induction j using Nat.strongRecOn with
  | _ j ih =>
    intro i h hS
    obtain ⟨o, e, ho, he, hb, hx⟩ := ahead_step h
    have h1 := hc j o ho hS e he hb
    rcases hx with rfl | ⟨hlt, hx⟩
    · exact h1
    · exact ih e.on hlt i hx h1

/-- The facts of a region's text. -/
structure Facts (ops : List Oper) : Prop where
  back : ∀ j o, ops[j]? = some o → ∀ e ∈ o.after.toList, Region.binds .any e = true → e.on < j
  slots : ∀ i j oi oj t, i ≠ j → ops[i]? = some oi → ops[j]? = some oj → oi.dst = some t → (t ∈ readsOf ops oj ∨ oj.dst = some t) → if i < j then ahead (masks ops []) i j = true else ahead (masks ops []) j i = true
  chain : ∀ i j oi oj, i < j → ops[i]? = some oi → ops[j]? = some oj → isEff oi.op = true → isEff oj.op = true → isFl ops (masks ops []) j = false → ahead (masks ops []) i j = true
  float : ∀ p o, isFl ops (masks ops []) p = true → ops[p]? = some o → isAlloc o.op = true ∧ o.guard = none ∧ (∃ u, o.dst = some u) ∧
    ∀ k, k < ops.length → ahead (masks ops []) p k = true → ∀ x q, x < p → ops[x]? = some q → isEff q.op = true → ahead (masks ops []) x p = true ∨ ahead (masks ops []) x k = true

theorem facts_of {ops : List Oper} (h : drawOk ops = true) : Facts ops := by
  unfold drawOk at h
  simp only [List.all_eq_true, List.mem_range] at h
  have hj : ∀ j oj, ops[j]? = some oj → (!(isFl ops (masks ops []) j) || flOk ops (masks ops []) j) = true ∧ (∀ e ∈ oj.after.toList, (!(Region.binds .any e) || Nat.blt e.on j) = true) ∧ ∀ i oi, ops[i]? = some oi →
      (Nat.beq i j || ((!(match oi.dst with | some t => (readsOf ops oj).contains t || oj.dst == some t | none => false) || (bif Nat.blt i j then ahead (masks ops []) i j else ahead (masks ops []) j i)) && (!(isEff oi.op && isEff oj.op && Nat.blt i j) || (ahead (masks ops []) i j || isFl ops (masks ops []) j)))) = true := by
    intro j oj hoj
    have hlt : j < ops.length := (List.getElem?_eq_some_iff.1 hoj).1
    have h1 := h j hlt
    rw [hoj] at h1
    simp only [Bool.and_eq_true, List.all_eq_true, List.mem_range] at h1
    refine ⟨h1.1.1, h1.1.2, fun i oi hoi => ?_⟩
    have hlt' : i < ops.length := (List.getElem?_eq_some_iff.1 hoi).1
    have h2 := h1.2 i hlt'
    rw [hoi] at h2
    exact h2
  refine ⟨fun j o ho e he hb => ?_, fun i j oi oj t hne hoi hoj ht hr => ?_, fun i j oi oj hlt hoi hoj h1 h2 hnf => ?_, fun p o hfp ho => ?_⟩
  · have := (hj j o ho).2.1 e he
    rw [hb] at this
    simpa [Nat.blt_eq] using this
  · have h3 := (hj j oj hoj).2.2 i oi hoi
    have hb : Nat.beq i j = false := by
      cases hb : Nat.beq i j
      · rfl
      · exact absurd (Nat.eq_of_beq_eq_true hb) hne
    rw [hb, ht] at h3
    simp only [Bool.false_or, Bool.and_eq_true] at h3
    have hcond : ((readsOf ops oj).contains t || oj.dst == some t) = true := by
      rw [Bool.or_eq_true]
      rcases hr with hr | hr
      · left; simpa using hr
      · right; rw [hr]; simp
    have h4 := h3.1
    simp only [hcond, Bool.not_true, Bool.false_or] at h4
    by_cases hlt : i < j
    · rw [if_pos hlt]
      have : Nat.blt i j = true := by rw [Nat.blt_eq]; exact hlt
      rw [this] at h4
      exact h4
    · rw [if_neg hlt]
      have : Nat.blt i j = false := by rw [← Bool.not_eq_true, Nat.blt_eq]; exact hlt
      rw [this] at h4
      exact h4
  · have h3 := (hj j oj hoj).2.2 i oi hoi
    have hb : Nat.beq i j = false := by
      cases hb : Nat.beq i j
      · rfl
      · have := Nat.eq_of_beq_eq_true hb; omega
    have hl : Nat.blt i j = true := by rw [Nat.blt_eq]; exact hlt
    rw [hb] at h3
    simp only [Bool.false_or, Bool.and_eq_true] at h3
    have h4 := h3.2
    rw [h1, h2, hl] at h4
    rw [hnf] at h4
    simpa using h4
  · have hfl := (hj p o ho).1
    rw [hfp] at hfl
    simp only [Bool.not_true, Bool.false_or] at hfl
    unfold flOk at hfl
    rw [ho] at hfl
    simp only [Bool.and_eq_true, List.all_eq_true, List.mem_range] at hfl
    obtain ⟨⟨⟨g1, g2⟩, g3⟩, g4⟩ := hfl
    refine ⟨g1, by simpa using g2, Option.isSome_iff_exists.1 g3, fun k hk ha x q hx hq he => ?_⟩
    have h5 := g4 k hk
    rw [ha] at h5
    simp only [Bool.not_true, Bool.false_or, List.all_eq_true, List.mem_range] at h5
    have h6 := h5 x hx
    rw [hq] at h6
    simp only [he, Bool.not_true, Bool.false_or, Bool.or_eq_true] at h6
    exact h6

theorem ahead_lt {ops : List Oper} (hf : Facts ops) : ∀ (j i : Nat), ahead (masks ops []) i j = true → i < j := by
  intro j
  induction j using Nat.strongRecOn with
  | _ j ih =>
    intro i h
    obtain ⟨o, e, ho, he, hb, hx⟩ := ahead_step h
    have h1 := hf.back j o ho e he hb
    rcases hx with rfl | ⟨hlt, hx⟩
    · exact h1
    · have := ih e.on hlt i hx; omega

end Go.Ev

namespace Go.Ev

variable {P : Program}

theorem map_parts_congr {E E' : Operand → V} {l : List (Nat × Operand)} (h : ∀ p ∈ l, E p.2 = E' p.2) : (l.map fun (i, x) => (i, E x)) = l.map fun (i, x) => (i, E' x) := by
  apply List.map_congr_left
  intro p hp
  obtain ⟨i, x⟩ := p
  show (i, E x) = (i, E' x)
  rw [h (i, x) hp]

theorem valOp_congr {h : H} {E E' : Operand → V} {op : Op} (hE : ∀ x ∈ op.operands.toList, E x = E' x) : valOp P h E op = valOp P h E' op := by
  unfold valOp
  split <;> simp only [Op.operands] at hE
  · rw [hE _ (by simp)]
  · rw [hE _ (by simp)]
  · rename_i c a b
    rw [hE c (by simp), hE a (by simp), hE b (by simp)]
  · rw [hE _ (by simp)]
  · rename_i o t x y yt
    unfold binX
    rw [hE x (by simp), hE y (by simp)]
  · rw [hE _ (by simp)]
  · rw [hE _ (by simp)]
  · rw [hE _ (by simp)]
  · rw [hE _ (by simp)]
  · rename_i f first captured
    have h1 : first.toList.map E = first.toList.map E' := List.map_congr_left fun x hx => hE x (by simp at hx ⊢; exact .inl hx)
    have h2 : captured.toList.map E = captured.toList.map E' := List.map_congr_left fun x hx => hE x (by simp at hx ⊢; exact .inr hx)
    rw [h1, h2]
  · rename_i t x lo hi
    have h1 : lo.map E = lo.map E' := by
      cases lo with
      | none => rfl
      | some y => simp only [Option.map_some]; rw [hE y (by simp)]
    have h2 : hi.map E = hi.map E' := by
      cases hi with
      | none => rfl
      | some y => simp only [Option.map_some]; rw [hE y (by simp)]
    rw [hE x (by simp), h1, h2]
  · rw [hE _ (by simp)]
  · rw [hE _ (by simp)]
  · rename_i t x i
    rw [hE x (by simp), hE i (by simp)]
  · rename_i t x i
    rw [hE x (by simp), hE i (by simp)]
  · rw [hE _ (by simp)]
  · rename_i t parts
    rw [map_parts_congr (fun p hp => hE p.2 (by simp; exact ⟨p.1, by simpa using hp⟩))]
  · rw [hE _ (by simp)]
  · rename_i t x i ok
    rw [hE x (by simp), hE i (by simp)]
  · rename_i b args ts
    have h1 : args.toList.map E = args.toList.map E' := List.map_congr_left fun x hx => hE x (by simp [Call.operands] at hx ⊢; exact hx)
    rw [h1]
  · rfl

theorem memOp_congr {h : H} {E E' : Operand → V} {op : Op} (hE : ∀ x ∈ op.operands.toList, E x = E' x) : memOp P h E op = memOp P h E' op := by
  unfold memOp
  split <;> simp only [Op.operands] at hE
  · rfl
  · rw [hE _ (by simp)]
  · rename_i t len parts
    rw [map_parts_congr (fun p hp => hE p.2 (by simp; exact ⟨p.1, by simpa using hp⟩))]
  · rename_i t l c
    rw [hE l (by simp), hE c (by simp)]
  · rename_i t x y
    rw [hE x (by simp), hE y (by simp)]
  · rename_i args ts
    split
    · rename_i x y t tx ha ht
      rw [hE x (by simp [Call.operands]; have : x ∈ args.toList := by rw [ha]; simp
                   simpa using this), hE y (by simp [Call.operands]; have : y ∈ args.toList := by rw [ha]; simp
                                               simpa using this)]
    · rfl
  · rename_i args ts
    split
    · rename_i x y t tx ha ht
      rw [hE x (by simp [Call.operands]; have : x ∈ args.toList := by rw [ha]; simp
                   simpa using this), hE y (by simp [Call.operands]; have : y ∈ args.toList := by rw [ha]; simp
                                               simpa using this)]
    · rfl
  · rfl
  · rename_i t m k x
    rw [hE m (by simp), hE k (by simp), hE x (by simp)]
  · rename_i t m k x
    rw [hE m (by simp), hE k (by simp), hE x (by simp)]
  · rfl

theorem evO_congr {T T' : Tm} {x : Operand} (h : ∀ t, x = .tmp t → T t = T' t) : evO P T x = evO P T' x := by
  cases x with
  | tmp t => exact h t rfl
  | const v => rfl
  | global g => rfl
  | func f => rfl

theorem newOf_congr {T T' : Tm} {op : Op} (hT : ∀ t, Operand.tmp t ∈ op.operands.toList → T t = T' t) : newOf P (evO P T) op = newOf P (evO P T') op := by
  have hE : ∀ x ∈ op.operands.toList, evO P T x = evO P T' x := fun x hx => evO_congr fun t e => hT t (e ▸ hx)
  unfold newOf
  split <;> simp only [Op.operands] at hE
  · rfl
  · rename_i t len parts
    rw [map_parts_congr (fun p hp => hE p.2 (by simp; exact ⟨p.1, by simpa using hp⟩))]
  · rename_i t x y
    rw [hE x (by simp), hE y (by simp)]
  · rfl

theorem oneOp_congr {call : CallFn} {T T' : Tm} {d : Ds} {h : H} {op : Op} (hT : ∀ t, Operand.tmp t ∈ op.operands.toList → T t = T' t) : oneOp P call op T d h = oneOp P call op T' d h := by
  have hE : ∀ x ∈ op.operands.toList, evO P T x = evO P T' x := fun x hx => evO_congr fun t e => hT t (e ▸ hx)
  unfold oneOp
  split
  · rename_i x args tys
    simp only [Op.operands, Call.operands] at hE
    have h1 : args.toList.map (evO P T) = args.toList.map (evO P T') := List.map_congr_left fun y hy => hE y (by simp at hy ⊢; exact .inr hy)
    unfold callOp
    rw [hE x (by simp), h1]
  · rename_i x name args tys
    simp only [Op.operands, Call.operands] at hE
    have h1 : args.toList.map (evO P T) = args.toList.map (evO P T') := List.map_congr_left fun y hy => hE y (by simp at hy ⊢; exact .inr hy)
    rw [hE x (by simp), h1]
  · rename_i x args tys
    simp only [Op.operands, Call.operands] at hE
    have h1 : args.toList.map (evO P T) = args.toList.map (evO P T') := List.map_congr_left fun y hy => hE y (by simp at hy ⊢; exact .inr hy)
    rw [hE x (by simp), h1]
  · unfold plainOp
    rw [memOp_congr hE, valOp_congr hE]

/-- An operation that does not read hangs on no memory. -/
theorem valOp_heap {h h' : H} {E : Operand → V} {op : Op} (hr : isRead op = false) : valOp P h E op = valOp P h' E op := by
  unfold valOp
  split <;> first
    | rfl
    | skip
  · rename_i o t x y yt
    unfold binX
    split
    · rfl
    unfold binV
    cases o <;> first
      | (simp [isRead] at hr; done)
      | rfl
  · simp [isRead] at hr
  · simp [isRead] at hr
  · simp [isRead] at hr
  · rename_i b args argTypes
    unfold builtinV
    generalize argTypes.toList = ts
    generalize args.toList.map E = xs
    have key : ∀ (b : Builtin), b ≠ .len → builtinV P h b ts xs = builtinV P h' b ts xs := by
      intro b hb
      unfold builtinV
      split
      · exact absurd rfl hb
      · rfl
      · rfl
      · rfl
    refine key b (fun e => ?_)
    subst e
    simp [isRead] at hr

theorem valOpP_heap {h h' : H} {E : Operand → V} {op : Op} (hr : isRead op = false) : valOpP P h E op = valOpP P h' E op := by
  unfold valOpP
  split
  · rfl
  · exact valOp_heap hr
theorem valOpP_read {h : H} {E : Operand → V} {op : Op} (hr : isRead op = true) : valOpP P h E op = valOp P h E op := by
  unfold valOpP
  split
  · simp [isRead] at hr
  · rfl

/-- An operation without effect, at any memory. -/
theorem oneOp_noeff {call : CallFn} {T : Tm} {d : Ds} {h : H} {op : Op} (he : isEff op = false) : oneOp P call op T d h = (valOpP P h (evO P T) op).map fun v => (v, d, h) := by
  unfold oneOp
  split
  · rename_i x args tys
    cases x with
    | func g =>
      have hp : Nat.beq g pureF = true := by simpa [isEff] using he
      obtain rfl := Nat.eq_of_beq_eq_true hp
      unfold callOp valOpP
      simp only [evO, calleeV, List.nil_append, List.append_nil, hp, Bool.true_and]
      cases hb : hasBody P pureF
      · rfl
      · simp only [cond_true]
        unfold callP
        rw [hp]
        simp only [cond_true]
        cases args.toList with
        | nil => rfl
        | cons _ _ => rfl
    | tmp t => simp [isEff] at he
    | const c => simp [isEff] at he
    | global g => simp [isEff] at he
  · simp [isEff] at he
  · simp [isEff] at he
  · rename_i h1 h2 h3
    have hm : isMem op = false := by
      unfold isEff at he
      split at he
      · rename_i g args tys
        exact absurd rfl (h1 _ _ _)
      · cases he
      · cases he
      · cases he
      · exact he
    have hv : valOpP P h (evO P T) op = valOp P h (evO P T) op := by
      unfold valOpP
      split
      · rename_i g args tys
        exact absurd rfl (h1 _ _ _)
      · rfl
    unfold plainOp
    rw [hm, hv]
    cases valOp P h (evO P T) op <;> rfl

end Go.Ev

namespace Go.Ev

variable {P : Program}

/-- What a region's evaluation came to, place by place. -/
structure Trail (P : Program) (call : CallFn) (f : Fr) (all rest : List Oper) (tr : List Tr) (E : Nat → Env) (D : Nat → Ds) (M : Nat → H) (val : Nat → V) (W : Nat → Bool) : Prop where
  len : tr.length = rest.length
  at_ : ∀ k o, rest[k]? = some o → tr[k]? = some (⟨E k, D k, M k, W k, val k, D (k + 1), M (k + 1)⟩ : Tr)
  want : ∀ k o, rest[k]? = some o → wantedV all (look (E k) f) o.guard = some (W k)
  env : ∀ k o, rest[k]? = some o → E (k + 1) = putE o.dst (val k) (E k)
  yes : ∀ k o, rest[k]? = some o → W k = true → oneOp P call o.op (look (E k) f) (D k) (M k) = some (val k, D (k + 1), M (k + 1))
  no : ∀ k o, rest[k]? = some o → W k = false → val k = .tup [] ∧ D (k + 1) = D k ∧ M (k + 1) = M k

theorem trace_of {call : CallFn} {f : Fr} {all : List Oper} : ∀ (rest : List Oper) (e : Env) (d : Ds) (h : H) (tr : List Tr), evTr P call f all rest e d h = some tr →
    ∃ E D M val W, E 0 = e ∧ D 0 = d ∧ M 0 = h ∧ Trail P call f all rest tr E D M val W := by
  intro rest
  induction rest with
  | nil =>
    intro e d h tr he
    simp only [evTr, Option.some.injEq] at he
    subst he
    exact ⟨fun _ => e, fun _ => d, fun _ => h, fun _ => .any, fun _ => true, rfl, rfl, rfl, rfl, fun k o hk => by simp at hk, fun k o hk => by simp at hk, fun k o hk => by simp at hk, fun k o hk => by simp at hk, fun k o hk => by simp at hk⟩
  | cons o rest ih =>
    intro e d h tr he
    have build : ∀ (w : Bool) (v : V) (d1 : Ds) (h1 : H), wantedV all (look e f) o.guard = some w → (w = true → oneOp P call o.op (look e f) d h = some (v, d1, h1)) → (w = false → v = .tup [] ∧ d1 = d ∧ h1 = h) →
        (evTr P call f all rest (putE o.dst v e) d1 h1).map (fun l => (⟨e, d, h, w, v, d1, h1⟩ : Tr) :: l) = some tr →
        ∃ E D M val W, E 0 = e ∧ D 0 = d ∧ M 0 = h ∧ Trail P call f all (o :: rest) tr E D M val W := by
      intro w v d1 h1 hw hy hn hm
      cases hr : evTr P call f all rest (putE o.dst v e) d1 h1 with
      | none => rw [hr] at hm; simp at hm
      | some l =>
        rw [hr] at hm
        simp only [Option.map_some, Option.some.injEq] at hm
        subst hm
        obtain ⟨E, D, M, val, W, e0, d0, m0, ht⟩ := ih _ _ _ l hr
        refine ⟨fun i => Nat.casesOn i e E, fun i => Nat.casesOn i d D, fun i => Nat.casesOn i h M, fun i => Nat.casesOn i v val, fun i => Nat.casesOn i w W, rfl, rfl, rfl, ?_, ?_, ?_, ?_, ?_, ?_⟩
        · simp [ht.len]
        · intro k q hk
          cases k with
          | zero =>
            show some (⟨e, d, h, w, v, d1, h1⟩ : Tr) = some ⟨e, d, h, w, v, D 0, M 0⟩
            rw [d0, m0]
          | succ k => simpa using ht.at_ k q (by simpa using hk)
        · intro k q hk
          cases k with
          | zero => simp at hk; subst hk; exact hw
          | succ k => exact ht.want k q (by simpa using hk)
        · intro k q hk
          cases k with
          | zero => simp at hk; subst hk; exact e0
          | succ k => exact ht.env k q (by simpa using hk)
        · intro k q hk hwk
          cases k with
          | zero =>
            simp at hk
            subst hk
            show oneOp P call o.op (look e f) d h = some (v, D 0, M 0)
            rw [d0, m0]
            exact hy hwk
          | succ k => exact ht.yes k q (by simpa using hk) hwk
        · intro k q hk hwk
          cases k with
          | zero =>
            show v = .tup [] ∧ D 0 = d ∧ M 0 = h
            rw [d0, m0]
            exact hn hwk
          | succ k => exact ht.no k q (by simpa using hk) hwk
    simp only [evTr] at he
    split at he
    · rename_i hw
      split at he
      · rename_i v d1 h1 h2
        exact build true v d1 h1 hw (fun _ => h2) (fun hh => by cases hh) he
      · simp at he
    · rename_i hw
      exact build false (.tup []) d h hw (fun hh => by cases hh) (fun _ => ⟨rfl, rfl, rfl⟩) he
    · simp at he

theorem lastTr_irrel : ∀ (ops : List Oper) (l : List Tr), l.length = ops.length → ops ≠ [] → ∀ (e e' : Env) (d d' : Ds) (h h' : H), lastTr ops l e d h = lastTr ops l e' d' h'
  | [], _, _, hne => absurd rfl hne
  | [_], [], hl, _ => by simp at hl
  | [_], [_], _, _ => fun _ _ _ _ _ _ => rfl
  | [_], _ :: _ :: _, hl, _ => by simp at hl
  | _ :: _ :: _, [], hl, _ => by simp at hl
  | _ :: q :: ops, _ :: l, hl, _ => fun e e' d d' h h' => lastTr_irrel (q :: ops) l (by simpa using hl) (by simp) e e' d d' h h'

theorem lastTr_cons {o : Oper} {t : Tr} {ops : List Oper} {l : List Tr} {e : Env} {d : Ds} {h : H} (hl : l.length = ops.length) :
    lastTr (o :: ops) (t :: l) e d h = lastTr ops l (putE o.dst t.v t.env) t.ds' t.h' := by
  cases ops with
  | nil =>
    cases l with
    | nil => rfl
    | cons _ _ => simp at hl
  | cons q qs => exact lastTr_irrel (q :: qs) l hl (by simp) e _ d _ h _

theorem lastTr_of {call : CallFn} {f : Fr} {all : List Oper} : ∀ (rest : List Oper) (tr : List Tr) (E : Nat → Env) (D : Nat → Ds) (M : Nat → H) (val : Nat → V) (W : Nat → Bool), Trail P call f all rest tr E D M val W →
    lastTr rest tr (E 0) (D 0) (M 0) = .ok (E rest.length) (D rest.length) (M rest.length) := by
  intro rest
  induction rest with
  | nil =>
    intro tr E D M val W ht
    have : tr = [] := List.eq_nil_of_length_eq_zero (by rw [ht.len]; rfl)
    subst this
    rfl
  | cons o rest ih =>
    intro tr E D M val W ht
    cases tr with
    | nil => have := ht.len; simp at this
    | cons t l =>
      have hlen : l.length = rest.length := by simpa using ht.len
      rw [lastTr_cons hlen]
      have h0 := ht.at_ 0 o rfl
      simp only [List.getElem?_cons_zero, Option.some.injEq] at h0
      subst h0
      have he := ht.env 0 o rfl
      show lastTr rest l (putE o.dst (val 0) (E 0)) (D 1) (M 1) = _
      rw [← he]
      have := ih l (fun i => E (i + 1)) (fun i => D (i + 1)) (fun i => M (i + 1)) (fun i => val (i + 1)) (fun i => W (i + 1)) ⟨hlen, fun k q hk => by simpa using ht.at_ (k + 1) q (by simpa using hk), fun k q hk => ht.want (k + 1) q (by simpa using hk), fun k q hk => ht.env (k + 1) q (by simpa using hk),
        fun k q hk => ht.yes (k + 1) q (by simpa using hk), fun k q hk => ht.no (k + 1) q (by simpa using hk)⟩
      exact this

end Go.Ev

namespace Go.Ev

variable {P : Program}

def dstAt (L : List Oper) (k : Nat) : Option Tmp := (L[k]?).bind (·.dst)
def effAt (L : List Oper) (k : Nat) : Bool := match L[k]? with | some o => isEff o.op | none => false

/-- The slots once a set of operations is done. -/
def slotsOf (f : Fr) (L : List Oper) (val : Nat → V) (S : Nat → Bool) : Nat → Tm
  | 0 => fget f
  | k + 1 => bif S k then putT (slotsOf f L val S k) (dstAt L k) (val k) else slotsOf f L val S k
/-- One behind the last effect that is done. -/
def lastOf (L : List Oper) (S : Nat → Bool) : Nat → Nat
  | 0 => 0
  | k + 1 => bif S k && effAt L k then k + 1 else lastOf L S k

theorem putT_ne {T : Tm} {dst : Option Tmp} {v : V} {t : Nat} (h : dst ≠ some t) : putT T dst v t = T t := by
  unfold putT
  cases dst with
  | none => rfl
  | some u =>
    have : t ≠ u := fun e => h (by rw [e])
    simp [this]
theorem putT_eq {T : Tm} {dst : Option Tmp} {v : V} {t : Nat} (h : dst = some t) : putT T dst v t = v := by
  unfold putT
  subst h
  simp

theorem slots_const {f : Fr} {L : List Oper} {val : Nat → V} {S : Nat → Bool} {t : Nat} {a : Nat} : ∀ b, a ≤ b → (∀ k, a ≤ k → k < b → S k = true → dstAt L k ≠ some t) → slotsOf f L val S b t = slotsOf f L val S a t := by
  intro b
  induction b with
  | zero => intro hab _; have : a = 0 := by omega
            subst this; rfl
  | succ b ih =>
    intro hab h
    by_cases e : a = b + 1
    · subst e; rfl
    · have h1 := ih (by omega) (fun k h1 h2 => h k h1 (by omega))
      rw [← h1]
      show (bif S b then _ else _ : Tm) t = _
      cases hs : S b
      · rfl
      · exact putT_ne (h b (by omega) (by omega) hs)

theorem slots_agree {f : Fr} {L : List Oper} {val : Nat → V} {S S' : Nat → Bool} {t : Nat} : ∀ b, (∀ k, k < b → dstAt L k = some t → S k = S' k) → slotsOf f L val S b t = slotsOf f L val S' b t := by
  intro b
  induction b with
  | zero => intro _; rfl
  | succ b ih =>
    intro h
    have h1 := ih (fun k hk => h k (by omega))
    show (bif S b then putT _ _ _ else _ : Tm) t = (bif S' b then putT _ _ _ else _ : Tm) t
    by_cases hd : dstAt L b = some t
    · rw [h b (by omega) hd]
      cases S' b
      · exact h1
      · simp only [cond_true]
        rw [putT_eq hd, putT_eq hd]
    · have e1 : (bif S b then putT (slotsOf f L val S b) (dstAt L b) (val b) else slotsOf f L val S b : Tm) t = slotsOf f L val S b t := by
        cases S b
        · rfl
        · exact putT_ne hd
      have e2 : (bif S' b then putT (slotsOf f L val S' b) (dstAt L b) (val b) else slotsOf f L val S' b : Tm) t = slotsOf f L val S' b t := by
        cases S' b
        · rfl
        · exact putT_ne hd
      rw [e1, e2, h1]

theorem look_slots {call : CallFn} {f : Fr} {all L : List Oper} {tr : List Tr} {E : Nat → Env} {D : Nat → Ds} {M : Nat → H} {val : Nat → V} {W : Nat → Bool} (ht : Trail P call f all L tr E D M val W) (h0 : E 0 = []) (t : Nat) :
    ∀ k, k ≤ L.length → look (E k) f t = slotsOf f L val (fun _ => true) k t := by
  intro k
  induction k with
  | zero => intro _; rw [h0]; rfl
  | succ k ih =>
    intro hk
    have hlt : k < L.length := by omega
    have he := ht.env k L[k] (by simp)
    rw [he, look_put]
    show putT (look (E k) f) L[k].dst (val k) t = putT (slotsOf f L val (fun _ => true) k) (dstAt L k) (val k) t
    have hd : dstAt L k = L[k].dst := by simp [dstAt, hlt]
    rw [hd]
    unfold putT
    cases L[k].dst with
    | none => exact ih (by omega)
    | some u =>
      show (if t = u then _ else _) = (if t = u then _ else _)
      rw [ih (by omega)]

theorem noeff_mem {call : CallFn} {f : Fr} {all L : List Oper} {tr : List Tr} {E : Nat → Env} {D : Nat → Ds} {M : Nat → H} {val : Nat → V} {W : Nat → Bool} (ht : Trail P call f all L tr E D M val W) {k : Nat} (hk : k < L.length) (he : effAt L k = false) :
    M (k + 1) = M k ∧ D (k + 1) = D k := by
  have ho : L[k]? = some L[k] := by simp
  have he' : isEff L[k].op = false := by simpa [effAt, ho] using he
  cases hw : W k
  · obtain ⟨_, h1, h2⟩ := ht.no k _ ho hw
    exact ⟨h2, h1⟩
  · have h1 := ht.yes k _ ho hw
    rw [oneOp_noeff he'] at h1
    cases hv : valOpP P (M k) (evO P (look (E k) f)) L[k].op with
    | none => rw [hv] at h1; simp at h1
    | some v =>
      rw [hv] at h1
      simp only [Option.map_some, Option.some.injEq, Prod.mk.injEq] at h1
      exact ⟨h1.2.2.symm, h1.2.1.symm⟩

/-- An operation that may come up. -/
structure Ready (L : List Oper) (S : Nat → Bool) (i : Nat) : Prop where
  not : S i = false
  lt : i < L.length
  before : ∀ x, ahead (masks L []) x i = true → S x = true

section
variable {L : List Oper} {S : Nat → Bool} {i : Nat} (hf : Facts L) (hc : Closed L S) (hr : Ready L S i)
include hf hc hr

omit hf in
/-- No operation that is done, and stands behind i, is one that i is ahead of. -/
theorem not_behind {k : Nat} (hk : S k = true) : ahead (masks L []) i k = false := by
  cases h : ahead (masks L []) i k
  · rfl
  · have := closed_ahead hc k i h hk
    rw [hr.not] at this
    cases this

theorem slots_read {f : Fr} {val : Nat → V} {t : Nat} {oi : Oper} (hoi : L[i]? = some oi) (ht : t ∈ readsOf L oi ∨ oi.dst = some t) : slotsOf f L val S L.length t = slotsOf f L val (fun _ => true) i t := by
  have hconf : ∀ k, k ≠ i → dstAt L k = some t → if k < i then ahead (masks L []) k i = true else ahead (masks L []) i k = true := by
    intro k hne hd
    cases hk : L[k]? with
    | none => simp [dstAt, hk] at hd
    | some ok =>
      have hdk : ok.dst = some t := by simpa [dstAt, hk] using hd
      exact hf.slots k i ok oi t hne hk hoi hdk ht
  rw [slots_const (a := i) L.length (by have := hr.lt; omega) (fun k h1 h2 hs hd => ?_)]
  · apply slots_agree i
    intro k hk hd
    have := hconf k (by omega) hd
    rw [if_pos hk] at this
    exact hr.before k this
  · by_cases e : k = i
    · subst e; rw [hr.not] at hs; cases hs
    · have := hconf k e hd
      rw [if_neg (by omega)] at this
      rw [not_behind hc hr hs] at this
      cases this

theorem slots_put {f : Fr} {val : Nat → V} {oi : Oper} (hoi : L[i]? = some oi) (t : Nat) : slotsOf f L val (fun k => Nat.beq k i || S k) L.length t = putT (slotsOf f L val S L.length) oi.dst (val i) t := by
  have hdi : dstAt L i = oi.dst := by simp [dstAt, hoi]
  by_cases hd : oi.dst = some t
  · rw [putT_eq hd]
    rw [slots_const (a := i + 1) L.length (by have := hr.lt; omega) (fun k h1 h2 hs hdk => ?_)]
    · show (bif (Nat.beq i i || S i) then putT _ _ _ else _ : Tm) t = val i
      have : Nat.beq i i = true := Nat.beq_refl i
      rw [this]
      simp only [Bool.true_or, cond_true]
      exact putT_eq (by rw [hdi]; exact hd)
    · cases hk : L[k]? with
      | none => simp [dstAt, hk] at hdk
      | some ok =>
        have hdk' : ok.dst = some t := by simpa [dstAt, hk] using hdk
        have := hf.slots k i ok oi t (by omega) hk hoi hdk' (.inr hd)
        rw [if_neg (by omega)] at this
        have hb : Nat.beq k i = false := by
          cases hb : Nat.beq k i
          · rfl
          · have := Nat.eq_of_beq_eq_true hb; omega
        rw [hb, Bool.false_or] at hs
        rw [not_behind hc hr hs] at this
        cases this
  · rw [putT_ne hd]
    apply slots_agree
    intro k _ hdk
    have hne : k ≠ i := fun e => hd (by rw [← hdi, ← e]; exact hdk)
    have hb : Nat.beq k i = false := by
      cases hb : Nat.beq k i
      · rfl
      · exact absurd (Nat.eq_of_beq_eq_true hb) hne
    simp [hb]
end

theorem last_le (L : List Oper) (S : Nat → Bool) : ∀ k, lastOf L S k ≤ k := by
  intro k
  induction k with
  | zero => exact Nat.le_refl _
  | succ k ih =>
    unfold lastOf
    cases S k && effAt L k
    · exact Nat.le_succ_of_le ih
    · exact Nat.le_refl _
theorem last_above (L : List Oper) (S : Nat → Bool) : ∀ k x, x < k → S x = true → effAt L x = true → x < lastOf L S k := by
  intro k
  induction k with
  | zero => intro x h; omega
  | succ k ih =>
    intro x hx hs he
    unfold lastOf
    cases hc : (S k && effAt L k)
    · have : x ≠ k := fun e => by rw [← e, hs, he] at hc; cases hc
      exact ih x (by omega) hs he
    · show x < k + 1; omega
theorem last_is (L : List Oper) (S : Nat → Bool) : ∀ k, lastOf L S k = 0 ∨ ∃ y, lastOf L S k = y + 1 ∧ y < k ∧ S y = true ∧ effAt L y = true := by
  intro k
  induction k with
  | zero => exact .inl rfl
  | succ k ih =>
    unfold lastOf
    cases hc : (S k && effAt L k)
    · rcases ih with h | ⟨y, h1, h2, h3⟩
      · exact .inl h
      · exact .inr ⟨y, h1, by omega, h3⟩
    · simp only [Bool.and_eq_true] at hc
      exact .inr ⟨k, rfl, by omega, hc.1, hc.2⟩
theorem last_same (L : List Oper) {S S' : Nat → Bool} : ∀ k, (∀ x, x < k → effAt L x = true → S x = S' x) → lastOf L S k = lastOf L S' k := by
  intro k
  induction k with
  | zero => intro _; rfl
  | succ k ih =>
    intro h
    unfold lastOf
    rw [ih (fun x hx => h x (by omega))]
    cases he : effAt L k
    · simp
    · rw [h k (by omega) he]

end Go.Ev

namespace Go.Ev

variable {P : Program}

/-- With each effect all that stand before it are done. -/
def EC (L : List Oper) (S : Nat → Bool) : Prop := ∀ x y, x < y → effAt L x = true → effAt L y = true → S y = true → S x = true

section
variable {call : CallFn} {f : Fr} {L : List Oper} {tr : List Tr} {E : Nat → Env} {D : Nat → Ds} {M : Nat → H} {val : Nat → V} {W : Nat → Bool} (ht : Trail P call f L L tr E D M val W)
include ht

/-- From b to i without an effect: the same memory. -/
theorem mem_same {b : Nat} : ∀ i, b ≤ i → i ≤ L.length → (∀ x, b ≤ x → x < i → effAt L x = false) → M i = M b ∧ D i = D b := by
  intro i
  induction i with
  | zero => intro h _ _; have : b = 0 := by omega
            subst this; exact ⟨rfl, rfl⟩
  | succ i ih =>
    intro h1 h2 h3
    by_cases e : b = i + 1
    · subst e; exact ⟨rfl, rfl⟩
    · obtain ⟨g1, g2⟩ := ih (by omega) (by omega) (fun x a b => h3 x a (by omega))
      obtain ⟨k1, k2⟩ := noeff_mem ht (show i < L.length by omega) (h3 i (by omega) (by omega))
      exact ⟨k1.trans g1, k2.trans g2⟩

/-- If what is read is there at each effect from b to i, and at i, it is there at b. -/
theorem scan_back (R : H → Prop) {i : Nat} (hi : i ≤ L.length) (hR : R (M i)) : ∀ n b, b + n = i → (∀ x, b ≤ x → x < i → effAt L x = true → R (M x)) → R (M b) := by
  intro n
  induction n with
  | zero => intro b hb _; have : b = i := by omega
            subst this; exact hR
  | succ n ih =>
    intro b hb h
    cases he : effAt L b
    · rw [← (noeff_mem ht (show b < L.length by omega) he).1]
      exact ih (b + 1) (by omega) (fun x h1 h2 h3 => h x (by omega) h2 h3)
    · exact h b (Nat.le_refl _) (by omega) he

variable {S : Nat → Bool} {i : Nat} (hf : Facts L) (hc : Closed L S) (hr : Ready L S i)
include hf hc hr

omit hf hc in
/-- An effect that comes up finds the memory that it found in the text's order. -/
theorem eff_mem (hec : EC L S) (her : ∀ x, x < i → effAt L x = true → S x = true) (he : effAt L i = true) : M (lastOf L S L.length) = M i ∧ D (lastOf L S L.length) = D i := by
  have hb : lastOf L S L.length ≤ i := by
    rcases last_is L S L.length with h | ⟨y, h1, h2, h3, h4⟩
    · omega
    · by_cases hlt : i < y
      · have := hec i y hlt he h4 h3
        rw [hr.not] at this
        cases this
      · have : y ≠ i := fun e => by rw [e, hr.not] at h3; cases h3
        omega
  obtain ⟨h1, h2⟩ := mem_same ht i hb (Nat.le_of_lt hr.lt) (fun x hx1 hx2 => by
    cases hex : effAt L x
    · rfl
    · have hil := hr.lt
      have hxl : x < L.length := by omega
      have := last_above L S L.length x hxl (her x hx2 hex) hex
      omega)
  exact ⟨h1.symm, h2.symm⟩

omit ht hf hc in
theorem eff_last (hec : EC L S) (he : effAt L i = true) : lastOf L (fun k => Nat.beq k i || S k) L.length = i + 1 := by
  have h1 := last_above L (fun k => Nat.beq k i || S k) L.length i hr.lt (by simp) he
  rcases last_is L (fun k => Nat.beq k i || S k) L.length with h | ⟨y, h2, h3, h4, h5⟩
  · omega
  · by_cases e : y = i
    · omega
    · have hlt : i < y := by omega
      have hb : Nat.beq y i = false := by
        cases hb : Nat.beq y i
        · rfl
        · exact absurd (Nat.eq_of_beq_eq_true hb) e
      have hs : S y = true := by simpa [hb] using h4
      have := hec i y hlt he h5 hs
      rw [hr.not] at this
      cases this

omit ht hf hc hr in
theorem noeff_last (he : effAt L i = false) : lastOf L (fun k => Nat.beq k i || S k) L.length = lastOf L S L.length := by
  apply last_same
  intro x _ hx
  have : x ≠ i := fun e => by rw [e, he] at hx; cases hx
  have hb : Nat.beq x i = false := by
    cases hb : Nat.beq x i
    · rfl
    · exact absurd (Nat.eq_of_beq_eq_true hb) this
  simp [hb]

/-- A read that comes up yields what it yielded in the text's order. -/
theorem read_mem (R : H → Prop) (hR : R (M i)) (hask : ∀ x, x < L.length → effAt L x = true → ahead (masks L []) i x = false → ahead (masks L []) x i = false → R (M x) ∧ R (M (x + 1))) :
    R (M (lastOf L S L.length)) := by
  have hbetween : ∀ b, b = lastOf L S L.length → b ≤ i → R (M b) := by
    intro b hb hle
    refine scan_back ht R (Nat.le_of_lt hr.lt) hR (i - b) b (by omega) (fun x h1 h2 h3 => ?_)
    have hxl : x < L.length := by have := hr.lt; omega
    refine (hask x hxl h3 ?_ ?_).1
    · cases h : ahead (masks L []) i x
      · rfl
      · have := ahead_lt hf x i h; omega
    · cases h : ahead (masks L []) x i
      · rfl
      · have := last_above L S L.length x hxl (hr.before x h) h3
        omega
  rcases last_is L S L.length with h | ⟨y, h1, h2, h3, h4⟩
  · exact hbetween _ rfl (by omega)
  · by_cases hlt : y < i
    · exact hbetween _ rfl (by omega)
    · have hne : y ≠ i := fun e => by rw [e, hr.not] at h3; cases h3
      rw [h1]
      refine (hask y h2 h4 (not_behind hc hr h3) ?_).2
      cases h : ahead (masks L []) y i
      · rfl
      · have := ahead_lt hf i y h; omega
end

theorem pairs_mem {ops : List Oper} {i x : Nat} {o q : Oper} (hi : ops[i]? = some o) (hx : ops[x]? = some q) (hr : isRead o.op = true) (he : isEff q.op = true) (h1 : ahead (masks ops []) i x = false) (h2 : ahead (masks ops []) x i = false) : (i, x) ∈ pairs ops := by
  have hil : i < ops.length := (List.getElem?_eq_some_iff.1 hi).1
  have hxl : x < ops.length := (List.getElem?_eq_some_iff.1 hx).1
  unfold pairs
  simp only [List.mem_flatMap, List.mem_range]
  refine ⟨i, hil, ?_⟩
  rw [hi]
  simp only [hr, cond_true, List.mem_filterMap, List.mem_range]
  refine ⟨x, hxl, ?_⟩
  rw [hx]
  simp [he, h1, h2]

theorem askPairs_mem {f : Fr} {ops : List Oper} {tr : List Tr} : ∀ {ps : List (Nat × Nat)}, askPairs P f ops tr ps = true → ∀ p ∈ ps, askPair P f ops tr p = true
  | [], _, p, hp => by cases hp
  | q :: ps, h, p, hp => by
    unfold askPairs at h
    cases hq : askPair P f ops tr q
    · rw [hq] at h; cases h
    · rw [hq] at h
      rcases List.mem_cons.1 hp with rfl | hp
      · exact hq
      · exact askPairs_mem h p hp

/-! The same operations, written in another order. -/
structure PermOf (ops ops' : Array Oper) (π σ : List Nat) : Prop where
  size : ops'.size = ops.size
  pi : ∀ k, k < ops.size → π.getD k ops.size < ops.size ∧ σ.getD (π.getD k ops.size) ops.size = k
  si : ∀ k, k < ops.size → σ.getD k ops.size < ops.size ∧ π.getD (σ.getD k ops.size) ops.size = k
  at_ : ∀ (i : Nat) (o : Oper), ops[i]? = some o → ops'[σ.getD i ops.size]? = some (mapEdge σ o)
  edge : ∀ (i : Nat) (o : Oper), ops[i]? = some o → ∀ e ∈ o.after, e.on < ops.size
  guard : ∀ (i : Nat) (o : Oper), ops[i]? = some o → ∀ p, o.guard = some p → p.1 < ops.size
  len : σ.length = ops.size

theorem permOf_of {ops : Array Oper} {π σ : List Nat} (h : permOk ops.toList π σ = true) : PermOf ops (permL ops.toList π σ).toArray π σ := by
  unfold permOk at h
  simp only [Bool.and_eq_true, List.all_eq_true, List.mem_range, Nat.blt_eq] at h
  obtain ⟨⟨⟨h1, h2⟩, h3⟩, h4⟩ := h
  have h1' := Nat.eq_of_beq_eq_true h1
  have h2' := Nat.eq_of_beq_eq_true h2
  have hlen : ops.toList.length = ops.size := by simp
  rw [hlen] at h1' h2' h3
  have hp : ∀ k, k < ops.size → π.getD k ops.size < ops.size ∧ σ.getD (π.getD k ops.size) ops.size = k := fun k hk => ⟨(h3 k hk).1.1.1, Nat.eq_of_beq_eq_true (h3 k hk).1.1.2⟩
  have hs : ∀ k, k < ops.size → σ.getD k ops.size < ops.size ∧ π.getD (σ.getD k ops.size) ops.size = k := fun k hk => ⟨(h3 k hk).1.2, Nat.eq_of_beq_eq_true (h3 k hk).2⟩
  refine ⟨by simp [permL, h1'], hp, hs, fun i o ho => ?_, fun i o ho e he => ?_, fun i o ho p hg => ?_, h2'⟩
  · have hi : i < ops.size := (Array.getElem?_eq_some_iff.1 ho).1
    obtain ⟨g1, g2⟩ := hs i hi
    have hl : σ.getD i ops.size < π.length := by omega
    have e1 : π[σ.getD i ops.size] = i := by
      rw [List.getD_eq_getElem?_getD, List.getElem?_eq_getElem hl] at g2
      exact g2
    have e2 : ops.toList.getD i default = o := by
      rw [List.getD_eq_getElem?_getD, Array.getElem?_toList, ho]
      rfl
    rw [List.getElem?_toArray]
    unfold permL
    rw [List.getElem?_map, List.getElem?_eq_getElem hl, e1]
    show some (mapEdge σ (ops.toList.getD i default)) = _
    rw [e2]
  · have hm : o ∈ ops.toList := by
      rw [← Array.getElem?_toList] at ho
      exact List.mem_of_getElem? ho
    have := (h4 o hm).1 e (by simpa using he)
    omega
  · have hm : o ∈ ops.toList := by
      rw [← Array.getElem?_toList] at ho
      exact List.mem_of_getElem? ho
    have := (h4 o hm).2
    rw [hg] at this
    simp only [Nat.blt_eq] at this
    omega

theorem execOp_mapEdge (σ : List Nat) (ρ : Operand → Value) (o : Oper) : execOp ρ (mapEdge σ o) = execOp ρ o := by
  obtain ⟨dst, op, type, pos, after, guard⟩ := o
  cases op <;> rfl

section
variable {ops ops' : Array Oper} {π σ : List Nat} (hp : PermOf ops ops' π σ) {Q : Exit → Act → World → Prop}
include hp

theorem perm_lt {i : Nat} (h : i < ops.size) : σ.getD i 0 = σ.getD i ops.size := by
  have : i < σ.length := by rw [hp.len]; exact h
  rw [List.getD_eq_getElem?_getD, List.getD_eq_getElem?_getD, List.getElem?_eq_getElem this]
  rfl

theorem perm_yielded {j : Nat} (hj : j < ops.size) (tmps : Array Value) : yielded ops' tmps (σ.getD j 0) = yielded ops tmps j := by
  unfold yielded
  have ho : ops[j]? = some ops[j] := by simp
  rw [perm_lt hp hj, hp.at_ j _ ho, ho]
  rfl

theorem perm_wanted {i : Nat} {o : Oper} (ho : ops[i]? = some o) (tmps : Array Value) : Region.wanted (mapEdge σ o) (yielded ops' tmps) = Region.wanted o (yielded ops tmps) := by
  have hg := hp.guard i o ho
  unfold Region.wanted
  show (match o.guard.map (fun p => (σ.getD p.1 0, p.2)) with | none => true | some (j, w) => _) = _
  cases hgo : o.guard with
  | none => rfl
  | some p =>
    obtain ⟨j, b⟩ := p
    simp only [Option.map_some]
    rw [perm_yielded hp (hg _ hgo)]

theorem perm_wpOp {ro : Option Nat} {i : Nat} (hi : i < ops.size) {K : Act → World → Prop} {a : Act} {w : World} (h : wpOpIn (wideR ro) 0 P ops' Q (σ.getD i ops.size) K a w) : wpOpIn (wideR ro) 0 P ops Q i K a w := by
  have ho : ops[i]? = some ops[i] := by simp
  unfold wpOpIn at h ⊢
  rw [hp.at_ i _ ho] at h
  rw [ho]
  simp only at h ⊢
  rw [perm_wanted hp ho] at h
  split
  · rename_i hw
    rw [if_pos hw] at h
    refine ⟨fun _ _ => trivial, ?_⟩
    have h2 := h.2
    have e1 : (mapEdge σ ops[i]).semAt ro a.eval = (ops[i]).semAt ro a.eval := by
      unfold Oper.semAt
      rw [execOp_mapEdge]
      rfl
    have h3 : (mapEdge σ ops[i]).uponIn (wideR ro) 0 P a K Q (((mapEdge σ ops[i]).semAt ro a.eval).run P w) := h2
    rw [e1] at h3
    exact h3
  · rename_i hw
    rw [if_neg hw] at h
    exact ⟨fun _ _ => trivial, h.2⟩

theorem perm_ready {listed listed' : Array Bool} (h1 : listed.size = ops.size) (h2 : listed'.size = ops.size) (hl : ∀ i, i < ops.size → listed'.getD (σ.getD i ops.size) false = listed.getD i false) {i : Nat} (hi : i < ops.size) :
    σ.getD i ops.size ∈ Region.ready .any ops' listed' ↔ i ∈ Region.ready .any ops listed := by
  have ho : ops[i]? = some ops[i] := by simp
  have ho' := hp.at_ i _ ho
  have hs := (hp.si i hi).1
  have hv : ∀ (l : Array Bool) k, k < l.size → l.getD k true = l.getD k false := fun l k hk => by
    rw [Array.getD_eq_getD_getElem?, Array.getD_eq_getD_getElem?, Array.getElem?_eq_getElem hk]; rfl
  unfold Region.ready
  rw [List.mem_filter, List.mem_filter, List.mem_range, List.mem_range, ho', ho, hp.size]
  have e1 : listed'.getD (σ.getD i ops.size) true = listed.getD i true := by
    rw [hv _ _ (by omega), hv _ _ (by omega), hl i hi]
  rw [e1]
  have e2 : (mapEdge σ ops[i]).after.all (fun e => !Region.binds .any e || listed'.getD e.on false) = (ops[i]).after.all (fun e => !Region.binds .any e || listed.getD e.on false) := by
    show ((ops[i]).after.map fun e => { e with on := σ.getD e.on 0 }).all (fun e => !Region.binds .any e || listed'.getD e.on false) = _
    rw [Array.all_map]
    have hedge := hp.edge i _ ho
    rw [Bool.eq_iff_iff, Array.all_eq_true_iff_forall_mem, Array.all_eq_true_iff_forall_mem]
    constructor
    · intro h e he
      have h3 := h e he
      have e3 := hl e.on (hedge e he)
      rw [← perm_lt hp (hedge e he)] at e3
      rw [← e3]
      exact h3
    · intro h e he
      have h3 := h e he
      have e3 := hl e.on (hedge e he)
      rw [← perm_lt hp (hedge e he)] at e3
      rw [← e3] at h3
      exact h3
  simp only [Option.map_some, Option.getD_some]
  rw [e2]
  exact ⟨fun h => ⟨hi, h.2⟩, fun h => ⟨hs, h.2⟩⟩

theorem perm_any {ro : Option Nat} : ∀ (fuel : Nat) (listed listed' : Array Bool) (a : Act) (w : World), listed.size = ops.size → listed'.size = ops.size → (∀ i, i < ops.size → listed'.getD (σ.getD i ops.size) false = listed.getD i false) →
    wpAnyIn (wideR ro) 0 P .any ops' Q fuel listed' a w → wpAnyIn (wideR ro) 0 P .any ops Q fuel listed a w := by
  intro fuel
  have hnil : ∀ (listed listed' : Array Bool), listed.size = ops.size → listed'.size = ops.size → (∀ i, i < ops.size → listed'.getD (σ.getD i ops.size) false = listed.getD i false) →
      (Region.ready .any ops' listed' = [] ↔ Region.ready .any ops listed = []) := by
    intro listed listed' h1 h2 hl
    rw [List.eq_nil_iff_forall_not_mem, List.eq_nil_iff_forall_not_mem]
    constructor
    · intro h i hi
      have hlt : i < ops.size := by
        have := (List.mem_filter.1 hi).1
        simpa using this
      exact h _ ((perm_ready hp h1 h2 hl hlt).2 hi)
    · intro h i hi
      have hlt : i < ops.size := by
        have := (List.mem_filter.1 hi).1
        rw [hp.size] at this
        simpa using this
      obtain ⟨g1, g2⟩ := hp.pi i hlt
      rw [← g2] at hi
      exact h _ ((perm_ready hp h1 h2 hl g1).1 hi)
  induction fuel with
  | zero =>
    intro listed listed' a w h1 h2 hl h
    exact ⟨(hnil listed listed' h1 h2 hl).1 h.1, h.2⟩
  | succ fuel ih =>
    intro listed listed' a w h1 h2 hl h
    refine ⟨fun hr => h.1 ((hnil listed listed' h1 h2 hl).2 hr), fun i hi => ?_⟩
    have hlt : i < ops.size := by
      have := (List.mem_filter.1 hi).1
      simpa using this
    refine wpOpIn_mono ?_ (perm_wpOp hp hlt (h.2 _ ((perm_ready hp h1 h2 hl hlt).2 hi)))
    intro a w hk
    refine ih _ _ a w (by simp [h1]) (by simp [h2]) (fun k hk' => ?_) hk
    obtain ⟨g1, g2⟩ := hp.si i hlt
    obtain ⟨g3, g4⟩ := hp.si k hk'
    rw [Array.getD_eq_getD_getElem?, Array.getD_eq_getD_getElem?]
    by_cases e : i = k
    · subst e
      rw [Array.getElem?_setIfInBounds_self_of_lt (by omega), Array.getElem?_setIfInBounds_self_of_lt (by omega)]
    · have hne : σ.getD i ops.size ≠ σ.getD k ops.size := fun e2 => e (by rw [← g2, ← g4, e2])
      rw [Array.getElem?_setIfInBounds_ne hne, Array.getElem?_setIfInBounds_ne e]
      rw [← Array.getD_eq_getD_getElem?, ← Array.getD_eq_getD_getElem?]
      exact hl k hk'
end

end Go.Ev
