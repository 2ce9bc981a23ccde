/- The evaluator's functions, so many calls deep, are right, given that its regions that draw their order are. No condition. -/
import Derived.Test.YtpjgdllpljmacaaGreatDoorEwS
namespace Go.Ev

variable {P : Program}

/-- Each slot that a function's code writes is there. -/
def ProgOk (P : Program) : Prop := ∀ (f : FuncId) (fn : Func) (c : Code), P.funcs[f]? = some fn → fn.body = some c → codeOk fn.ntmps c = true

theorem runDs_sound {w0 : World} {callD : CallFn} (hD : CallFnDOk P w0 callD) (hnn : NoNum P) {fn : Func} {tmps : Array Value} {R : Ending → World → Prop} {h' : H} :
    ∀ (ds : Ds) (dl : List Deferred) (h : H) (r : Emb) (w : World), runDs callD ds h = some h' → Rel r h w → GRel P r → Base w0 r h w → DRel P r ds dl →
      (∀ r' w', Rel r' h' w' → GRel P r' → Base w0 r' h' w' → Step r h w r' h' w' → Leaves P fn tmps R [] .returning w') → Leaves P fn tmps R dl .returning w := by
  intro ds
  induction ds with
  | nil =>
    intro dl h r w he hr hg hb hd hQ
    cases hd
    simp only [runDs, Option.some.injEq] at he
    subst he
    exact hQ r w hr hg hb (Step.refl hr)
  | cons p ds ih =>
    intro dl h r w he hr hg hb hd hQ
    obtain ⟨g, vs⟩ := p
    simp only [runDs] at he
    split at he
    · rename_i v h1 hc
      cases hd with
      | @cons _ _ cap args _ dl hbody hvs hd =>
        refine leaves_cons (by simp) (run_invoke_func hnn hbody cap args w) ?_
        refine (hD g vs h v h1 hc r w _ .returning hr hg hb hvs).mono ?_
        rintro e u' w' ⟨rfl, z, r', rfl, st, hv⟩
        show Leaves P fn tmps R dl (settle .returning) w'
        exact ih dl h1 r' w' he st.rel (GRel.up st.le hg) (hb.step st) (hd.up st.le) (fun r2 w2 a1 a2 a3 st2 => hQ r2 w2 a1 a2 a3 (st.trans st2))
    · simp at he

theorem runFn_sound {w0 : World} {call callD : CallFn} (hcall : CallFnOk P w0 call) (hD : CallFnDOk P w0 callD) (hnn : NoNum P) (hdraw : DrawSound P w0 call) {mask fuel : Nat} {g : FuncId} {fn : Func} {c : Code}
    (hf : P.funcs[g]? = some fn) (hb : fn.body = some c) (hok : codeOk fn.ntmps c = true) {vs : List V} {h h' : H} {v : V} (he : runFn P call callD mask fuel fn c vs h = some (v, h')) : CallOk P w0 g vs h v h' := by
  intro r w xs hr hg hba hvs
  obtain ⟨hd, hs⟩ := St.enter (n := fn.ntmps) (mask := mask) hr hg hba hvs
  refine calls_of_wp_defers hf hb ?_
  unfold runFn at he
  cases hden : den P call mask fuel c (args0 mask 0 vs fr0) [] h with
  | fail => rw [hden] at he; simp at he
  | ok x f1 d1 h1 =>
    rw [hden] at he
    simp only at he
    refine wp_mono (den_sound hcall hnn hdraw c _ f1 [] d1 h h1 x r _ w hok hd hs hden) ?_
    rintro e a1 w1 ⟨hx, hd1, r1, hs1, st1⟩
    have key : ((runDs callD d1 h1).bind fun h => (resV P f1 h fn.results.toList).map fun l => (oneRes l, h)) = some (v, h') →
        Leaves P fn a1.tmps (fun e w' => ∃ z r', e = .returned z ∧ Step r h w r' h' w' ∧ VRel r' v z) a1.defers .returning w1 := by
      intro he
      cases hrd : runDs callD d1 h1 with
      | none => rw [hrd] at he; simp at he
      | some h2 =>
        rw [hrd] at he
        simp only [Option.bind_some] at he
        cases hrv : resV P f1 h2 fn.results.toList with
        | none => rw [hrv] at he; simp at he
        | some l =>
          rw [hrv] at he
          simp only [Option.map_some, Option.some.injEq, Prod.mk.injEq] at he
          obtain ⟨rfl, rfl⟩ := he
          refine runDs_sound hD hnn d1 a1.defers h1 r1 w1 hrd hs1.rel hs1.gl hs1.base hs1.ds (fun r2 w2 b1 b2 b3 st2 => ?_)
          obtain ⟨z, g1, g2⟩ := oneRes_sound b1 (hs1.tm.up st2.le) hrv
          exact ⟨z, g1, z, r2, rfl, st1.trans st2, g2⟩
    cases x with
    | norm =>
      have e1 : e = .normal := hx
      subst e1
      exact key he
    | exit id => simp at he
    | ret =>
      have e1 : e = .ret := hx
      subst e1
      exact key he

theorem runFnD_sound {w0 : World} {call : CallFn} (hcall : CallFnOk P w0 call) (hnn : NoNum P) (hdraw : DrawSound P w0 call) {mask fuel : Nat} {g : FuncId} {fn : Func} {c : Code}
    (hf : P.funcs[g]? = some fn) (hb : fn.body = some c) (hok : codeOk fn.ntmps c = true) {vs : List V} {h h' : H} {v : V} (he : runFnD P call mask fuel fn c vs h = some (v, h')) : CallDOk P w0 g vs h v h' := by
  intro r w xs u hr hg hba hvs
  obtain ⟨hd, hs⟩ := St.enter (n := fn.ntmps) (mask := mask) hr hg hba hvs
  refine callsD_of_wp hf hb ?_
  unfold runFnD at he
  cases hden : den P call mask fuel c (args0 mask 0 vs fr0) [] h with
  | fail => rw [hden] at he; simp at he
  | ok x f1 d1 h1 =>
    rw [hden] at he
    simp only at he
    cases d1 with
    | cons _ _ => simp at he
    | nil =>
      simp only at he
      refine wp_mono (den_sound hcall hnn hdraw c _ f1 [] [] h h1 x r _ w hok hd hs hden) ?_
      rintro e a1 w1 ⟨hx, hd1, r1, hs1, st1⟩
      have hdef : a1.defers = [] := by
        have := hs1.ds
        cases hq : a1.defers with
        | nil => rfl
        | cons _ _ => rw [hq] at this; cases this
      have key : ((resV P f1 h1 fn.results.toList).map fun l => (oneRes l, h1)) = some (v, h') →
          a1.defers = [] ∧ ∃ z, (results fn a1.tmps).run P w1 = .ok z w1 ∧ ∃ z' r', (Ending.returned z = .returned z') ∧ Step r h w r' h' w1 ∧ VRel r' v z' := by
        intro he
        cases hrv : resV P f1 h1 fn.results.toList with
        | none => rw [hrv] at he; simp at he
        | some l =>
          rw [hrv] at he
          simp only [Option.map_some, Option.some.injEq, Prod.mk.injEq] at he
          obtain ⟨rfl, rfl⟩ := he
          obtain ⟨z, g1, g2⟩ := oneRes_sound hs1.rel hs1.tm hrv
          exact ⟨hdef, z, g1, z, r1, rfl, st1, g2⟩
      cases x with
      | norm =>
        have e1 : e = .normal := hx
        subst e1
        exact key he
      | exit id => simp at he
      | ret =>
        have e1 : e = .ret := hx
        subst e1
        exact key he

/-- THE EVALUATOR IS RIGHT: what it says a call comes to, the call comes to. -/
theorem callN_sound {w0 : World} {ext : CallFn} {isExt : FuncId → Bool} {mask : FuncId → Nat} {fuel : Nat} (hext : ∀ g, isExt g = true → ∀ vs h v h', ext g vs h = some (v, h') → CallOk P w0 g vs h v h')
    (hnn : NoNum P) (hok : ProgOk P) (hdraw : ∀ call, CallFnOk P w0 call → DrawSound P w0 call) : ∀ n, CallFnOk P w0 (callN P ext isExt mask fuel n) := by
  intro n
  induction n with
  | zero => intro g vs h v h' he; simp [callN] at he
  | succ n ih =>
    intro g vs h v h' he
    simp only [callN] at he
    cases hx : isExt g
    · rw [hx] at he
      simp only [cond_false] at he
      split at he
      · rename_i fn hf
        split at he
        · rename_i c hb
          have hD : CallFnDOk P w0 (callDof P mask fuel (callN P ext isExt mask fuel n)) := by
            intro g2 vs2 h2 v2 h2' he2
            unfold callDof at he2
            split at he2
            · rename_i fn2 hf2
              split at he2
              · rename_i c2 hb2
                exact runFnD_sound ih hnn (hdraw _ ih) hf2 hb2 (hok g2 fn2 c2 hf2 hb2) he2
              · simp at he2
            · simp at he2
          exact runFn_sound ih hD hnn (hdraw _ ih) hf hb (hok g fn c hf hb) he
        · simp at he
      · simp at he
    · rw [hx] at he
      simp only [cond_true] at he
      exact hext g hx vs h v h' he

end Go.Ev
