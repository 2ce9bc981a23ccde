/- The evaluator's code and functions are right, given that its regions that draw their order are. No condition. -/
import Derived.Test.YtoecccbjhmejiaaGreatDoorEvQ
namespace Go.Ev

variable {P : Program}

/-- Each slot that code writes is there. -/
def codeOk (n : Nat) : Code → Bool
  | .region _ ops _ => ops.toList.all (opOk n)
  | .seq a b => codeOk n a && codeOk n b
  | .cond _ a b => codeOk n a && codeOk n b
  | .block _ c => codeOk n c
  | .loop c => codeOk n c
  | _ => true

/-- A region that draws its order: what is asked of the evaluator. -/
def DrawSound (P : Program) (w0 : World) (call : CallFn) : Prop :=
  ∀ (nb n : Nat) (f : Fr) (ops : Array Oper) (L : List Oper) (id : Nat) (e' : Env) (d d' : Ds) (h h' : H) (r : Emb) (a : Act) (w : World) (Q : Exit → Act → World → Prop),
    drawList ops.toList = some L → ops.toList.all (opOk n) = true → St P w0 nb n r (fget f) d h a w →
    evDraw P call f (pairs L) L d h = .ok e' d' h' →
    (∀ r' a' w', St P w0 nb n r' (look e' f) d' h' a' w' → Step r h w r' h' w' → Q .normal a' w') → (Code.region id ops true).wp P Q a w

def XRel : X → Exit → Prop
  | .norm, e => e = .normal
  | .exit id, e => e = .exit id
  | .ret, e => e = .ret

/-- What code that the evaluator has gone through leaves. -/
def Post (P : Program) (w0 : World) (nb n mask : Nat) (r : Emb) (h : H) (w : World) (x : X) (f' : Fr) (d' : Ds) (h' : H) : Exit → Act → World → Prop :=
  fun e a' w' => XRel x e ∧ Dim mask f' ∧ ∃ r', St P w0 nb n r' (fget f') d' h' a' w' ∧ Step r h w r' h' w'

theorem rounds_mono {c : Code} {Q Q' : Exit → Act → World → Prop} (h : ∀ e a w, Q e a w → Q' e a w) : ∀ (k : Nat) (a : Act) (w : World), Code.rounds P c Q k a w → Code.rounds P c Q' k a w := by
  intro k
  induction k with
  | zero => intro a w hh; exact hh
  | succ k ih =>
    intro a w hh
    rw [rounds_succ] at hh ⊢
    refine wp_mono hh (fun e a w he => ?_)
    cases e with
    | normal => exact ih a w he
    | exit id => exact h _ _ _ he
    | goto l => exact h _ _ _ he
    | ret => exact h _ _ _ he
    | panic ch => exact h _ _ _ he
    | outgrown => exact h _ _ _ he

theorem loop_sound {w0 : World} {nb n mask : Nat} {c : Code} {body : Fr → Ds → H → RC}
    (hbody : ∀ (f f' : Fr) (d d' : Ds) (h h' : H) (x : X) (r : Emb) (a : Act) (w : World), Dim mask f → St P w0 nb n r (fget f) d h a w → body f d h = .ok x f' d' h' → c.wp P (Post P w0 nb n mask r h w x f' d' h') a w) :
    ∀ (k : Nat) (f f' : Fr) (d d' : Ds) (h h' : H) (x : X) (r : Emb) (a : Act) (w : World), Dim mask f → St P w0 nb n r (fget f) d h a w → loopN body k f d h = .ok x f' d' h' →
      Code.rounds P c (Post P w0 nb n mask r h w x f' d' h') k a w := by
  intro k
  induction k with
  | zero => intro f f' d d' h h' x r a w _ _ he; simp [loopN] at he
  | succ k ih =>
    intro f f' d d' h h' x r a w hd hs he
    simp only [loopN] at he
    cases hb : body f d h with
    | fail => rw [hb] at he; simp at he
    | ok x1 f1 d1 h1 =>
      rw [hb] at he
      simp only at he
      rw [rounds_succ]
      refine wp_mono (hbody f f1 d d1 h h1 x1 r a w hd hs hb) ?_
      rintro e a1 w1 ⟨hx, hd1, r1, hs1, st1⟩
      cases x1 with
      | norm =>
        simp only at he
        have e1 : e = .normal := hx
        subst e1
        have := ih f1 f' d1 d' h1 h' x r1 a1 w1 hd1 hs1 he
        exact rounds_mono (fun e a w ⟨p, q, r2, s2, t2⟩ => ⟨p, q, r2, s2, st1.trans t2⟩) k a1 w1 this
      | exit id =>
        simp only [RC.ok.injEq] at he
        obtain ⟨rfl, rfl, rfl, rfl⟩ := he
        have e1 : e = .exit id := hx
        subst e1
        exact ⟨rfl, hd1, r1, hs1, st1⟩
      | ret =>
        simp only [RC.ok.injEq] at he
        obtain ⟨rfl, rfl, rfl, rfl⟩ := he
        have e1 : e = .ret := hx
        subst e1
        exact ⟨rfl, hd1, r1, hs1, st1⟩

theorem after_sound {w0 : World} {nb n mask : Nat} {f f' : Fr} {r : Emb} {h h' : H} {w : World} {d' : Ds} {x : X} {ro : RO} (hd : Dim mask f) (he : afterOps mask f ro = .ok x f' d' h') :
    ∃ e', ro = .ok e' d' h' ∧ ∀ r' a' w', St P w0 nb n r' (look e' f) d' h' a' w' → Step r h w r' h' w' → Post P w0 nb n mask r h w x f' d' h' .normal a' w' := by
  unfold afterOps at he
  cases ro with
  | fail => simp at he
  | ok e2 d2 h2 =>
    simp only [RC.ok.injEq] at he
    obtain ⟨rfl, rfl, rfl, rfl⟩ := he
    exact ⟨e2, rfl, fun r' a' w' hs st => ⟨rfl, flush_dim hd e2, r', ⟨hs.rel, hs.gl, hs.base, trel_flush hd hs.tm, hs.ds, hs.mks, hs.sz⟩, st⟩⟩

theorem den_sound {w0 : World} {nb n mask fuel : Nat} {call : CallFn} (hcall : CallFnOk P w0 call) (hnn : NoNum P) (hdraw : DrawSound P w0 call) :
    ∀ (c : Code) (f f' : Fr) (d d' : Ds) (h h' : H) (x : X) (r : Emb) (a : Act) (w : World), codeOk n c = true → Dim mask f → St P w0 nb n r (fget f) d h a w →
      den P call mask fuel c f d h = .ok x f' d' h' → c.wp P (Post P w0 nb n mask r h w x f' d' h') a w := by
  intro c
  induction c with
  | skip =>
    intro f f' d d' h h' x r a w _ hd hs he
    simp only [den, RC.ok.injEq] at he
    obtain ⟨rfl, rfl, rfl, rfl⟩ := he
    exact wp_skip ⟨rfl, hd, r, hs, Step.refl hs.rel⟩
  | label l =>
    intro f f' d d' h h' x r a w _ hd hs he
    simp only [den, RC.ok.injEq] at he
    obtain ⟨rfl, rfl, rfl, rfl⟩ := he
    exact wp_label ⟨rfl, hd, r, hs, Step.refl hs.rel⟩
  | region id ops draw =>
    intro f f' d d' h h' x r a w hok hd hs he
    simp only [den] at he
    cases draw with
    | false =>
      simp only [cond_false] at he
      obtain ⟨e', h1, h2⟩ := after_sound (P := P) (w0 := w0) (nb := nb) (n := n) (r := r) (w := w) (h := h) hd he
      have hx : x = .norm := by
        rw [h1] at he
        simp only [afterOps, RC.ok.injEq] at he
        exact he.1.symm
      refine wp_region ?_
      have := evOps_sound hcall hnn (f := f) (ops := ops) (Q := Post P w0 nb n mask r h w x f' d' h') ops.toList 0 [] e' d d' h h' r a w (fun j => by simp) hok hs h1 h2
      simpa using this
    | true =>
      simp only [cond_true] at he
      cases hdo : drawList ops.toList with
      | none => rw [hdo] at he; simp at he
      | some L =>
        rw [hdo] at he
        simp only at he
        obtain ⟨e', h1, h2⟩ := after_sound (P := P) (w0 := w0) (nb := nb) (n := n) (r := r) (w := w) (h := h) hd he
        exact hdraw nb n f ops L id e' d d' h h' r a w _ hdo hok hs h1 h2
  | seq p q ihp ihq =>
    intro f f' d d' h h' x r a w hok hd hs he
    simp only [codeOk, Bool.and_eq_true] at hok
    simp only [den] at he
    cases hp : den P call mask fuel p f d h with
    | fail => rw [hp] at he; simp at he
    | ok x1 f1 d1 h1 =>
      rw [hp] at he
      simp only at he
      refine wp_seq (wp_mono (ihp f f1 d d1 h h1 x1 r a w hok.1 hd hs hp) ?_)
      rintro e a1 w1 ⟨hx, hd1, r1, hs1, st1⟩
      cases x1 with
      | norm =>
        simp only at he
        have e1 : e = .normal := hx
        subst e1
        exact wp_mono (ihq f1 f' d1 d' h1 h' x r1 a1 w1 hok.2 hd1 hs1 he) (fun e a w ⟨p, q, r2, s2, t2⟩ => ⟨p, q, r2, s2, st1.trans t2⟩)
      | exit id =>
        simp only [RC.ok.injEq] at he
        obtain ⟨rfl, rfl, rfl, rfl⟩ := he
        have e1 : e = .exit id := hx
        subst e1
        exact ⟨rfl, hd1, r1, hs1, st1⟩
      | ret =>
        simp only [RC.ok.injEq] at he
        obtain ⟨rfl, rfl, rfl, rfl⟩ := he
        have e1 : e = .ret := hx
        subst e1
        exact ⟨rfl, hd1, r1, hs1, st1⟩
  | cond c p q ihp ihq =>
    intro f f' d d' h h' x r a w hok hd hs he
    simp only [codeOk, Bool.and_eq_true] at hok
    simp only [den] at he
    split at he
    · rename_i t hc
      have h1 := erel_of hs c
      rw [hc] at h1
      have h2 : a.eval c = .bool t := by
        generalize a.eval c = z at h1
        cases h1; rfl
      refine wp_cond h2 ?_
      cases t
      · exact ihq f f' d d' h h' x r a w hok.2 hd hs he
      · exact ihp f f' d d' h h' x r a w hok.1 hd hs he
    · simp at he
  | block id p ihp =>
    intro f f' d d' h h' x r a w hok hd hs he
    simp only [den] at he
    cases hp : den P call mask fuel p f d h with
    | fail => rw [hp] at he; simp at he
    | ok x1 f1 d1 h1 =>
      rw [hp] at he
      simp only at he
      refine wp_block (wp_mono (ihp f f1 d d1 h h1 x1 r a w hok hd hs hp) ?_)
      rintro e a1 w1 ⟨hx, hd1, r1, hs1, st1⟩
      cases x1 with
      | norm =>
        simp only [RC.ok.injEq] at he
        obtain ⟨rfl, rfl, rfl, rfl⟩ := he
        have e1 : e = .normal := hx
        subst e1
        exact ⟨rfl, hd1, r1, hs1, st1⟩
      | exit id' =>
        have e1 : e = .exit id' := hx
        subst e1
        simp only at he
        show Exit.inBlock id _ (.exit id') a1 w1
        unfold Exit.inBlock
        cases hb : Nat.beq id' id
        · rw [hb] at he
          simp only [cond_false, RC.ok.injEq] at he
          obtain ⟨rfl, rfl, rfl, rfl⟩ := he
          have hne : id' ≠ id := fun e2 => by rw [e2] at hb; simp at hb
          simp only [hne, if_false]
          exact ⟨rfl, hd1, r1, hs1, st1⟩
        · rw [hb] at he
          simp only [cond_true, RC.ok.injEq] at he
          obtain ⟨rfl, rfl, rfl, rfl⟩ := he
          have e2 := Nat.eq_of_beq_eq_true hb
          simp only [e2, if_true]
          exact ⟨rfl, hd1, r1, hs1, st1⟩
      | ret =>
        simp only [RC.ok.injEq] at he
        obtain ⟨rfl, rfl, rfl, rfl⟩ := he
        have e1 : e = .ret := hx
        subst e1
        exact ⟨rfl, hd1, r1, hs1, st1⟩
  | loop p ihp =>
    intro f f' d d' h h' x r a w hok hd hs he
    simp only [den] at he
    refine wp_loop_rounds fuel (loop_sound (body := den P call mask fuel p) ?_ fuel f f' d d' h h' x r a w hd hs he)
    intro f f' d d' h h' x r a w hd hs he
    exact ihp f f' d d' h h' x r a w hok hd hs he
  | exit id =>
    intro f f' d d' h h' x r a w _ hd hs he
    simp only [den, RC.ok.injEq] at he
    obtain ⟨rfl, rfl, rfl, rfl⟩ := he
    exact wp_exit ⟨rfl, hd, r, hs, Step.refl hs.rel⟩
  | ret =>
    intro f f' d d' h h' x r a w _ hd hs he
    simp only [den, RC.ok.injEq] at he
    obtain ⟨rfl, rfl, rfl, rfl⟩ := he
    exact wp_ret ⟨rfl, hd, r, hs, Step.refl hs.rel⟩
  | rangeFunc g ps assign body =>
    intro f f' d d' h h' x r a w _ hd hs he
    simp only [den] at he
    unfold rangeV at he
    split at he
    · rename_i gf first cap hg
      cases hb : hasBody P gf
      · rw [hb] at he; simp at he
      · rw [hb] at he
        simp only [cond_true] at he
        split at he
        · rename_i v h1 hc
          simp only [RC.ok.injEq] at he
          obtain ⟨rfl, rfl, rfl, rfl⟩ := he
          have hE := erel_of hs g
          rw [hg] at hE
          generalize hax : a.eval g = ax at hE
          cases hE with
          | @fn _ _ _ xs ys g1 g2 =>
            have hnh : ∀ b, w.heap.size ≤ b → ¬ Held r h b := fun b hb hh => by have := hs.rel.held_lt hh; omega
            refine wpIn_wide.1 (wpIn_rangeFunc (n := 0) ?_)
            intro fn _
            obtain ⟨W1, hW1⟩ : ∃ W1, ((w.alloc (.deferred (some []))).alloc (.loop { state := .ready, pending := none, fn, tmps := a.tmps, params := ps, assign, body, defers := w.heap.size })) = W1 := ⟨_, rfl⟩
            have hent : (Instr.enterLoop fn a.tmps ps assign body none).run P w = .ok (w.heap.size + 1, [{ target := .collected w.heap.size, args := #[] }]) W1 := by
              rw [← hW1]; exact run_enterLoop_outer fn a.tmps ps assign body
            have st1 : Step r h w r h W1 := by rw [← hW1]; exact (Step.extraO hs.rel _).trans (Step.extraO (Step.extraO hs.rel _).rel _)
            have hz : W1.heap.size = w.heap.size + 2 := by rw [← hW1]; simp
            have hl0 : W1.heap[w.heap.size + 1]? = some (.loop { state := .ready, pending := none, fn, tmps := a.tmps, params := ps, assign, body, defers := w.heap.size }) := by
              rw [← hW1]
              have := World.alloc_heap_new (w.alloc (.deferred (some []))) (.loop { state := .ready, pending := none, fn, tmps := a.tmps, params := ps, assign, body, defers := w.heap.size })
              rwa [World.size_alloc] at this
            have hd0 : W1.heap[w.heap.size]? = some (.deferred (some [])) := by
              rw [← hW1]
              exact (heap_alloc_old (w.alloc (.deferred (some []))) _ w.heap.size (by simp)).trans (World.alloc_heap_new w _)
            refine ⟨w.heap.size + 1, [{ target := .collected w.heap.size, args := #[] }], W1, { target := .fn (.func gf) ys, args := xs ++ #[.func (.yield (w.heap.size + 1)) #[] #[]] }, W1, gf, (xs ++ #[.func (.yield (w.heap.size + 1)) #[] #[]]) ++ ys, W1,
              hent, ?_, fun _ _ => trivial, run_invoke_func hnn hb ys _ _, fun hh => by simp [Fence.wide] at hh, ?_⟩
            · have e1 : a.eval (.const (.func (.yield (w.heap.size + 1)) #[] #[])) = .func (.yield (w.heap.size + 1)) #[] #[] := rfl
              simp [resolve, hax, Deferred.ofValue, e1]
            · refine callsIn_wide.2 ?_
              have hvs : VsRel r (first ++ [.any] ++ cap) ((xs ++ #[Value.func (.yield (w.heap.size + 1)) #[] #[]]) ++ ys).toList := by
                simp only [Array.toList_append]
                exact (g1.append (.cons (.any _) .nil)).append g2
              refine (hcall gf _ h v h1 hc r _ _ st1.rel hs.gl (hs.base.step st1) hvs).mono ?_
              rintro e w3 ⟨z, r', rfl, st, hv⟩
              have hn1 : ¬ Held r' h1 (w.heap.size + 1) := fun hh => hnh _ (by omega) (st.held _ (by rw [hz]; omega) hh)
              have hn0 : ¬ Held r' h1 w.heap.size := fun hh => hnh _ (by omega) (st.held _ (by rw [hz]; omega) hh)
              have hL := (st.keep (w.heap.size + 1) (by rw [hz]; omega) (fun ho => hnh _ (by omega) ho.held)).trans hl0
              have hD := (st.keep w.heap.size (by rw [hz]; omega) (fun ho => hnh _ (by omega) ho.held)).trans hd0
              refine ⟨none, _, run_endLoop hL (by simp), ?_⟩
              have stA : Step r h w r' h1 w3 := st1.trans st
              have hother : ∀ k, k ≠ w.heap.size + 1 → (w3.putObj (w.heap.size + 1) (.loop { state := .exhausted, pending := none, fn, tmps := a.tmps, params := ps, assign, body, defers := w.heap.size })).heap[k]? = w3.heap[k]? := fun k hk => World.putObj_heap_other hk
              have stB := stA.poke (w' := w3.putObj (w.heap.size + 1) (.loop { state := .exhausted, pending := none, fn, tmps := a.tmps, params := ps, assign, body, defers := w.heap.size })) hn1 (by omega) (by simp) hother rfl rfl rfl
                (stA.rel.poke hn1 hother)
              refine ⟨rfl, hd, r', ⟨stB.rel, GRel.up stB.le hs.gl, hs.base.step stB, hs.tm.up stB.le, .mark (hs.ds.up stB.le), ⟨Nat.le_trans hs.mks.1 stB.size, ⟨fun D hDe => ?_, (hs.mks.step stB).2⟩⟩, hs.sz⟩, stB⟩
              simp only [Target.collected.injEq] at hDe
              subst hDe
              refine ⟨hs.mks.1, hn0, (hother _ (by omega)).trans hD, fun e he hte => ?_⟩
              have := hs.mks.2.there e he hte
              have := (Array.getElem?_eq_some_iff.1 this).1
              omega
        · simp at he
    · simp at he
  | scope _ => intro f f' d d' h h' x r a w _ hd hs he; simp [den] at he
  | goto _ => intro f f' d d' h h' x r a w _ hd hs he; simp [den] at he
  | refuse _ => intro f f' d d' h h' x r a w _ hd hs he; simp [den] at he

end Go.Ev
