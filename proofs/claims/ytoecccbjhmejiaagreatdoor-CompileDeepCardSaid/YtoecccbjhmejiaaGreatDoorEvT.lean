/- The evaluator's functions, so many calls deep, are right, given that its regions that draw their order are. No condition. -/
import Derived.Test.YtoecccbjhmejiaaGreatDoorEvS
namespace Go.Ev

variable {P : Program}

/-- Each slot that a function's code writes is there. -/
def ProgOk (P : Program) : Prop := ∀ (f : FuncId) (fn : Func) (c : Code), P.funcs[f]? = some fn → fn.body = some c → codeOk fn.ntmps c = true

theorem runDs_sound {w0 : World} {callD : CallFn} (hD : CallFnDOk P w0 callD) (hnn : NoNum P) {fn : Func} {tmps : Array Value} {R : Ending → World → Prop} {h' : H} {r0 : Emb} {h0 : H} {w00 : World} :
    ∀ (ds : Ds) (dl : List Deferred) (h : H) (r : Emb) (w : World), runDs callD ds h = some h' → Step r0 h0 w00 r h w → GRel P r → Base w0 r0 h0 w00 → DRel P r ds dl → MarksOk w00.heap.size r h w dl →
      (∀ r' w', Step r0 h0 w00 r' h' w' → GRel P r' → r.le r' → LeavesInM Fence.wide 0 P fn tmps R [] .returning w') → LeavesInM Fence.wide 0 P fn tmps R dl .returning w := by
  intro ds
  induction ds with
  | nil =>
    intro dl h r w he hr hg hb hd hm hQ
    cases hd
    simp only [runDs, Option.some.injEq] at he
    subst he
    exact hQ r w hr hg r.le_refl
  | cons p ds ih =>
    intro dl h r w he hr hg hb hd hm hQ
    obtain ⟨g, vs⟩ := p
    simp only [runDs] at he
    cases hd with
    | @cons _ _ cap args _ dl hgm hbody hvs hd =>
      rw [hgm] at he
      simp only [cond_false] at he
      split at he
      · rename_i v h1 hc
        refine ⟨by simp, .inr ⟨fun hh => by simp [Fence.wide] at hh, .func g, cap, g, args ++ cap, rfl, run_invoke_func hnn hbody cap args w, fun _ _ => trivial, ?_⟩⟩
        refine (hD g vs h v h1 hc r w _ .returning hr.rel hg (hb.step hr) hvs).mono ?_
        rintro e u' w' ⟨rfl, z, r', rfl, st, hv⟩
        show LeavesInM Fence.wide 0 P fn tmps R dl (settle .returning) w'
        exact ih dl h1 r' w' he (hr.trans st) (GRel.up st.le hg) hb (hd.up st.le) (hm.2.step st) (fun r2 w2 a1 a2 a3 => hQ r2 w2 a1 a2 (Emb.le_trans st.le a3))
      · simp at he
    | @mark D _ dl hd =>
      have hmm : Nat.beq markG markG = true := by simp
      rw [hmm] at he
      simp only [cond_true] at he
      obtain ⟨k1, k2, k3, k4⟩ := hm.1 D rfl
      have hother : ∀ k, k ≠ D → (w.putObj D (.deferred none)).heap[k]? = w.heap[k]? := fun k hk => World.putObj_heap_other hk
      refine ⟨by simp, .inl ⟨D, _, rfl, run_takeDeferred k3, ?_⟩⟩
      exact ih dl h r _ he (hr.poke k2 k1 (by simp) hother rfl rfl rfl (hr.rel.poke k2 hother)) hg hb hd (hm.2.poke hother k4) hQ

theorem runFn_sound {w0 : World} {call callD : CallFn} (hcall : CallFnOk P w0 call) (hD : CallFnDOk P w0 callD) (hnn : NoNum P) (hdraw : DrawSound P w0 call) {mask fuel : Nat} {g : FuncId} {fn : Func} {c : Code}
    (hf : P.funcs[g]? = some fn) (hb : fn.body = some c) (hok : codeOk fn.ntmps c = true) {vs : List V} {h h' : H} {v : V} (he : runFn P call callD mask fuel fn c vs h = some (v, h')) : CallOk P w0 g vs h v h' := by
  intro r w xs hr hg hba hvs
  obtain ⟨hd, hs⟩ := St.enter (n := fn.ntmps) (mask := mask) hr hg hba hvs
  refine callsIn_wide.1 (callsIn_of_wp_marks (n := 0) hf hb trivial (wpIn_wide.2 ?_))
  unfold runFn at he
  cases hden : den P call mask fuel c (args0 mask 0 vs fr0) [] h with
  | fail => rw [hden] at he; simp at he
  | ok x f1 d1 h1 =>
    rw [hden] at he
    simp only at he
    refine wp_mono (den_sound hcall hnn hdraw c _ f1 [] d1 h h1 x r _ w hok hd hs hden) ?_
    rintro e a1 w1 ⟨hx, hd1, r1, hs1, st1⟩
    have key : ((runDs callD d1 h1).bind fun h => (resV P f1 h fn.results.toList).map fun l => (oneRes l, h)) = some (v, h') →
        LeavesInM Fence.wide 0 P fn a1.tmps (fun e w' => ∃ z r', e = .returned z ∧ Step r h w r' h' w' ∧ VRel r' v z) a1.defers .returning w1 := by
      intro he
      cases hrd : runDs callD d1 h1 with
      | none => rw [hrd] at he; simp at he
      | some h2 =>
        rw [hrd] at he
        simp only [Option.bind_some] at he
        cases hrv : resV P f1 h2 fn.results.toList with
        | none => rw [hrv] at he; simp at he
        | some l =>
          rw [hrv] at he
          simp only [Option.map_some, Option.some.injEq, Prod.mk.injEq] at he
          obtain ⟨rfl, rfl⟩ := he
          refine runDs_sound hD hnn d1 a1.defers h1 r1 w1 hrd st1 hs1.gl hba hs1.ds hs1.mks.2 (fun r2 w2 st2 b2 le2 => ?_)
          obtain ⟨z, g1, g2⟩ := oneRes_sound st2.rel (hs1.tm.up le2) hrv
          exact ⟨z, g1, z, r2, rfl, st2, g2⟩
    cases x with
    | norm =>
      have e1 : e = .normal := hx
      subst e1
      exact key he
    | exit id => simp at he
    | ret =>
      have e1 : e = .ret := hx
      subst e1
      exact key he

theorem runFnD_sound {w0 : World} {call : CallFn} (hcall : CallFnOk P w0 call) (hnn : NoNum P) (hdraw : DrawSound P w0 call) {mask fuel : Nat} {g : FuncId} {fn : Func} {c : Code}
    (hf : P.funcs[g]? = some fn) (hb : fn.body = some c) (hok : codeOk fn.ntmps c = true) {vs : List V} {h h' : H} {v : V} (he : runFnD P call mask fuel fn c vs h = some (v, h')) : CallDOk P w0 g vs h v h' := by
  intro r w xs u hr hg hba hvs
  obtain ⟨hd, hs⟩ := St.enter (n := fn.ntmps) (mask := mask) hr hg hba hvs
  refine callsDIn_of_wp hf hb trivial (wpIn_wide.2 ?_)
  unfold runFnD at he
  cases hden : den P call mask fuel c (args0 mask 0 vs fr0) [] h with
  | fail => rw [hden] at he; simp at he
  | ok x f1 d1 h1 =>
    rw [hden] at he
    simp only at he
    cases d1 with
    | cons _ _ => simp at he
    | nil =>
      simp only at he
      refine wp_mono (den_sound hcall hnn hdraw c _ f1 [] [] h h1 x r _ w hok hd hs hden) ?_
      rintro e a1 w1 ⟨hx, hd1, r1, hs1, st1⟩
      have hdef : a1.defers = [] := by
        have := hs1.ds
        cases hq : a1.defers with
        | nil => rfl
        | cons _ _ => rw [hq] at this; cases this
      have key : ((resV P f1 h1 fn.results.toList).map fun l => (oneRes l, h1)) = some (v, h') →
          a1.defers = [] ∧ ∃ z, (results fn a1.tmps).run P w1 = .ok z w1 ∧ ∃ z' r', (Ending.returned z = .returned z') ∧ Step r h w r' h' w1 ∧ VRel r' v z' := by
        intro he
        cases hrv : resV P f1 h1 fn.results.toList with
        | none => rw [hrv] at he; simp at he
        | some l =>
          rw [hrv] at he
          simp only [Option.map_some, Option.some.injEq, Prod.mk.injEq] at he
          obtain ⟨rfl, rfl⟩ := he
          obtain ⟨z, g1, g2⟩ := oneRes_sound hs1.rel hs1.tm hrv
          exact ⟨hdef, z, g1, z, r1, rfl, st1, g2⟩
      cases x with
      | norm =>
        have e1 : e = .normal := hx
        subst e1
        exact key he
      | exit id => simp at he
      | ret =>
        have e1 : e = .ret := hx
        subst e1
        exact key he

/-- THE EVALUATOR IS RIGHT: what it says a call comes to, the call comes to. -/
theorem callN_sound {w0 : World} {ext : CallFn} {isExt : FuncId → Bool} {mask : FuncId → Nat} {fuel : Nat} (hext : ∀ g, isExt g = true → ∀ vs h v h', ext g vs h = some (v, h') → CallOk P w0 g vs h v h')
    (hnn : NoNum P) (hok : ProgOk P) (hdraw : ∀ call, CallFnOk P w0 call → DrawSound P w0 call) : ∀ n, CallFnOk P w0 (callN P ext isExt mask fuel n) := by
  intro n
  induction n with
  | zero => intro g vs h v h' he; simp [callN] at he
  | succ n ih =>
    intro g vs h v h' he
    simp only [callN] at he
    cases hx : isExt g
    · rw [hx] at he
      simp only [cond_false] at he
      split at he
      · rename_i fn hf
        split at he
        · rename_i c hb
          have hD : CallFnDOk P w0 (callDof P mask fuel (callN P ext isExt mask fuel n)) := by
            intro g2 vs2 h2 v2 h2' he2
            unfold callDof at he2
            split at he2
            · rename_i fn2 hf2
              split at he2
              · rename_i c2 hb2
                exact runFnD_sound ih hnn (hdraw _ ih) hf2 hb2 (hok g2 fn2 c2 hf2 hb2) he2
              · simp at he2
            · simp at he2
          exact runFn_sound ih hD hnn (hdraw _ ih) hf hb (hok g fn c hf hb) he
        · simp at he
      · simp at he
    · rw [hx] at he
      simp only [cond_true] at he
      exact hext g hx vs h v h' he

end Go.Ev
