/- The evaluator's code and functions are right, given that its regions that draw their order are. No condition. -/
import Derived.Test.YtboloofhmpfeiaaGreatDoorEvQ
import Derived.LoopNIn
import Derived.Scope
namespace Go.Ev

variable {P : Program}


/-- A region that draws its order: what is asked of the evaluator. -/
def DrawSound (P : Program) (w0 : World) (call : CallFn) : Prop :=
  ∀ (ro : Option Nat) (nb n : Nat) (f : Fr) (ops : Array Oper) (L : List Oper) (id : Nat) (e' : Env) (d d' : Ds) (h h' : H) (r : Emb) (a : Act) (w : World) (Q : Exit → Act → World → Prop),
    drawList ops.toList = some L → ops.toList.all (opOk n) = true → (ro = none ∨ ops.toList.all opNd = true) → St P w0 nb n r (fget f) d h a w →
    evDraw P call f (pairs L) L d h = .ok e' d' h' →
    (∀ r' a' w', St P w0 nb n r' (look e' f) d' h' a' w' → Step r h w r' h' w' → Q .normal a' w') → (Code.region id ops true).wpIn (wideR ro) 0 P Q a w

def XRel : X → Exit → Prop
  | .norm, e => e = .normal
  | .exit id, e => e = .exit id
  | .ret, e => e = .ret

/-- What code that the evaluator has gone through leaves. -/
def Post (P : Program) (w0 : World) (nb n mask : Nat) (r : Emb) (h : H) (w : World) (x : X) (f' : Fr) (d' : Ds) (h' : H) : Exit → Act → World → Prop :=
  fun e a' w' => XRel x e ∧ Dim mask f' ∧ ∃ r', St P w0 nb n r' (fget f') d' h' a' w' ∧ Step r h w r' h' w'

theorem rounds_mono {ro : Option Nat} {c : Code} {Q Q' : Exit → Act → World → Prop} (h : ∀ e a w, Q e a w → Q' e a w) : ∀ (k : Nat) (a : Act) (w : World), Code.roundsIn (wideR ro) 0 P c Q k a w → Code.roundsIn (wideR ro) 0 P c Q' k a w := by
  intro k
  induction k with
  | zero => intro a w hh; exact hh
  | succ k ih =>
    intro a w hh
    rw [roundsIn_succ] at hh ⊢
    refine wpIn_mono hh (fun e a w he => ?_)
    cases e with
    | normal => exact ih a w he
    | exit id => exact h _ _ _ he
    | goto l => exact h _ _ _ he
    | ret => exact h _ _ _ he
    | panic ch => exact h _ _ _ he
    | outgrown => exact h _ _ _ he

theorem loop_sound {ro : Option Nat} {w0 : World} {nb n mask : Nat} {c : Code} {body : Fr → Ds → H → RC}
    (hbody : ∀ (f f' : Fr) (d d' : Ds) (h h' : H) (x : X) (r : Emb) (a : Act) (w : World), Dim mask f → St P w0 nb n r (fget f) d h a w → body f d h = .ok x f' d' h' → c.wpIn (wideR ro) 0 P (Post P w0 nb n mask r h w x f' d' h') a w) :
    ∀ (k : Nat) (f f' : Fr) (d d' : Ds) (h h' : H) (x : X) (r : Emb) (a : Act) (w : World), Dim mask f → St P w0 nb n r (fget f) d h a w → loopN body k f d h = .ok x f' d' h' →
      Code.roundsIn (wideR ro) 0 P c (Post P w0 nb n mask r h w x f' d' h') k a w := by
  intro k
  induction k with
  | zero => intro f f' d d' h h' x r a w _ _ he; simp [loopN] at he
  | succ k ih =>
    intro f f' d d' h h' x r a w hd hs he
    simp only [loopN] at he
    cases hb : body f d h with
    | fail => rw [hb] at he; simp at he
    | ok x1 f1 d1 h1 =>
      rw [hb] at he
      simp only at he
      rw [roundsIn_succ]
      refine wpIn_mono (hbody f f1 d d1 h h1 x1 r a w hd hs hb) ?_
      rintro e a1 w1 ⟨hx, hd1, r1, hs1, st1⟩
      cases x1 with
      | norm =>
        simp only at he
        have e1 : e = .normal := hx
        subst e1
        have := ih f1 f' d1 d' h1 h' x r1 a1 w1 hd1 hs1 he
        exact rounds_mono (fun e a w ⟨p, q, r2, s2, t2⟩ => ⟨p, q, r2, s2, st1.trans t2⟩) k a1 w1 this
      | exit id =>
        simp only [RC.ok.injEq] at he
        obtain ⟨rfl, rfl, rfl, rfl⟩ := he
        have e1 : e = .exit id := hx
        subst e1
        exact ⟨rfl, hd1, r1, hs1, st1⟩
      | ret =>
        simp only [RC.ok.injEq] at he
        obtain ⟨rfl, rfl, rfl, rfl⟩ := he
        have e1 : e = .ret := hx
        subst e1
        exact ⟨rfl, hd1, r1, hs1, st1⟩

theorem after_sound {w0 : World} {nb n mask : Nat} {f f' : Fr} {r : Emb} {h h' : H} {w : World} {d' : Ds} {x : X} {ro : RO} (hd : Dim mask f) (he : afterOps mask f ro = .ok x f' d' h') :
    ∃ e', ro = .ok e' d' h' ∧ ∀ r' a' w', St P w0 nb n r' (look e' f) d' h' a' w' → Step r h w r' h' w' → Post P w0 nb n mask r h w x f' d' h' .normal a' w' := by
  unfold afterOps at he
  cases ro with
  | fail => simp at he
  | ok e2 d2 h2 =>
    simp only [RC.ok.injEq] at he
    obtain ⟨rfl, rfl, rfl, rfl⟩ := he
    exact ⟨e2, rfl, fun r' a' w' hs st => ⟨rfl, flush_dim hd e2, r', ⟨hs.rel, hs.gl, hs.base, trel_flush hd hs.tm, hs.ds, hs.mks, hs.sz⟩, st⟩⟩

theorem den_sound {ro : Option Nat} {w0 : World} {nb n mask fuel : Nat} {call : CallFn} (hcall : CallFnOk P w0 call) (hnn : NoNum P) (hdraw : DrawSound P w0 call) :
    ∀ (c : Code) (f f' : Fr) (d d' : Ds) (h h' : H) (x : X) (r : Emb) (a : Act) (w : World), codeOk n c = true → (ro = none ∨ noDef c = true) → Dim mask f → St P w0 nb n r (fget f) d h a w →
      den P call mask fuel c f d h = .ok x f' d' h' → c.wpIn (wideR ro) 0 P (Post P w0 nb n mask r h w x f' d' h') a w := by
  intro c
  induction c with
  | skip =>
    intro f f' d d' h h' x r a w _ hnd hd hs he
    simp only [den, RC.ok.injEq] at he
    obtain ⟨rfl, rfl, rfl, rfl⟩ := he
    exact wpIn_skip ⟨rfl, hd, r, hs, Step.refl hs.rel⟩
  | label l =>
    intro f f' d d' h h' x r a w _ hnd hd hs he
    simp only [den, RC.ok.injEq] at he
    obtain ⟨rfl, rfl, rfl, rfl⟩ := he
    exact wpIn_label ⟨rfl, hd, r, hs, Step.refl hs.rel⟩
  | region id ops draw =>
    intro f f' d d' h h' x r a w hok hnd hd hs he
    simp only [den] at he
    cases draw with
    | false =>
      simp only [cond_false] at he
      obtain ⟨e', h1, h2⟩ := after_sound (P := P) (w0 := w0) (nb := nb) (n := n) (r := r) (w := w) (h := h) hd he
      have hx : x = .norm := by
        rw [h1] at he
        simp only [afterOps, RC.ok.injEq] at he
        exact he.1.symm
      refine wpIn_region ?_
      have := evOps_sound (ro := ro) hcall hnn (f := f) (ops := ops) (Q := Post P w0 nb n mask r h w x f' d' h') ops.toList 0 [] e' d d' h h' r a w (fun j => by simp) hok hnd hs h1 h2
      simpa using this
    | true =>
      simp only [cond_true] at he
      cases hdo : drawList ops.toList with
      | none => rw [hdo] at he; simp at he
      | some L =>
        rw [hdo] at he
        simp only at he
        obtain ⟨e', h1, h2⟩ := after_sound (P := P) (w0 := w0) (nb := nb) (n := n) (r := r) (w := w) (h := h) hd he
        exact hdraw ro nb n f ops L id e' d d' h h' r a w _ hdo hok hnd hs h1 h2
  | seq p q ihp ihq =>
    intro f f' d d' h h' x r a w hok hnd hd hs he
    simp only [codeOk, Bool.and_eq_true] at hok
    have n1 : ro = none ∨ noDef p = true := hnd.imp id (fun q0 => by simp only [noDef, Bool.and_eq_true] at q0; exact q0.1)
    have n2 : ro = none ∨ noDef q = true := hnd.imp id (fun q0 => by simp only [noDef, Bool.and_eq_true] at q0; exact q0.2)
    simp only [den] at he
    cases hp : den P call mask fuel p f d h with
    | fail => rw [hp] at he; simp at he
    | ok x1 f1 d1 h1 =>
      rw [hp] at he
      simp only at he
      refine wpIn_seq (wpIn_mono (ihp f f1 d d1 h h1 x1 r a w hok.1 n1 hd hs hp) ?_)
      rintro e a1 w1 ⟨hx, hd1, r1, hs1, st1⟩
      cases x1 with
      | norm =>
        simp only at he
        have e1 : e = .normal := hx
        subst e1
        exact wpIn_mono (ihq f1 f' d1 d' h1 h' x r1 a1 w1 hok.2 n2 hd1 hs1 he) (fun e a w ⟨p, q, r2, s2, t2⟩ => ⟨p, q, r2, s2, st1.trans t2⟩)
      | exit id =>
        simp only [RC.ok.injEq] at he
        obtain ⟨rfl, rfl, rfl, rfl⟩ := he
        have e1 : e = .exit id := hx
        subst e1
        exact ⟨rfl, hd1, r1, hs1, st1⟩
      | ret =>
        simp only [RC.ok.injEq] at he
        obtain ⟨rfl, rfl, rfl, rfl⟩ := he
        have e1 : e = .ret := hx
        subst e1
        exact ⟨rfl, hd1, r1, hs1, st1⟩
  | cond c p q ihp ihq =>
    intro f f' d d' h h' x r a w hok hnd hd hs he
    simp only [codeOk, Bool.and_eq_true] at hok
    have n1 : ro = none ∨ noDef p = true := hnd.imp id (fun q0 => by simp only [noDef, Bool.and_eq_true] at q0; exact q0.1)
    have n2 : ro = none ∨ noDef q = true := hnd.imp id (fun q0 => by simp only [noDef, Bool.and_eq_true] at q0; exact q0.2)
    simp only [den] at he
    split at he
    · rename_i t hc
      have h1 := erel_of hs c
      rw [hc] at h1
      have h2 : a.eval c = .bool t := by
        generalize a.eval c = z at h1
        cases h1; rfl
      refine wpIn_cond h2 ?_
      cases t
      · exact ihq f f' d d' h h' x r a w hok.2 n2 hd hs he
      · exact ihp f f' d d' h h' x r a w hok.1 n1 hd hs he
    · simp at he
  | block id p ihp =>
    intro f f' d d' h h' x r a w hok hnd hd hs he
    simp only [den] at he
    cases hp : den P call mask fuel p f d h with
    | fail => rw [hp] at he; simp at he
    | ok x1 f1 d1 h1 =>
      rw [hp] at he
      simp only at he
      refine wpIn_block (wpIn_mono (ihp f f1 d d1 h h1 x1 r a w hok hnd hd hs hp) ?_)
      rintro e a1 w1 ⟨hx, hd1, r1, hs1, st1⟩
      cases x1 with
      | norm =>
        simp only [RC.ok.injEq] at he
        obtain ⟨rfl, rfl, rfl, rfl⟩ := he
        have e1 : e = .normal := hx
        subst e1
        exact ⟨rfl, hd1, r1, hs1, st1⟩
      | exit id' =>
        have e1 : e = .exit id' := hx
        subst e1
        simp only at he
        show Exit.inBlock id _ (.exit id') a1 w1
        unfold Exit.inBlock
        cases hb : Nat.beq id' id
        · rw [hb] at he
          simp only [cond_false, RC.ok.injEq] at he
          obtain ⟨rfl, rfl, rfl, rfl⟩ := he
          have hne : id' ≠ id := fun e2 => by rw [e2] at hb; simp at hb
          simp only [hne, if_false]
          exact ⟨rfl, hd1, r1, hs1, st1⟩
        · rw [hb] at he
          simp only [cond_true, RC.ok.injEq] at he
          obtain ⟨rfl, rfl, rfl, rfl⟩ := he
          have e2 := Nat.eq_of_beq_eq_true hb
          simp only [e2, if_true]
          exact ⟨rfl, hd1, r1, hs1, st1⟩
      | ret =>
        simp only [RC.ok.injEq] at he
        obtain ⟨rfl, rfl, rfl, rfl⟩ := he
        have e1 : e = .ret := hx
        subst e1
        exact ⟨rfl, hd1, r1, hs1, st1⟩
  | loop p ihp =>
    intro f f' d d' h h' x r a w hok hnd hd hs he
    simp only [den] at he
    refine wpIn_loop_rounds fuel (loop_sound (body := den P call mask fuel p) ?_ fuel f f' d d' h h' x r a w hd hs he)
    intro f f' d d' h h' x r a w hd hs he
    exact ihp f f' d d' h h' x r a w hok hnd hd hs he
  | exit id =>
    intro f f' d d' h h' x r a w _ hnd hd hs he
    simp only [den, RC.ok.injEq] at he
    obtain ⟨rfl, rfl, rfl, rfl⟩ := he
    exact wpIn_exit ⟨rfl, hd, r, hs, Step.refl hs.rel⟩
  | ret =>
    intro f f' d d' h h' x r a w _ hnd hd hs he
    simp only [den, RC.ok.injEq] at he
    obtain ⟨rfl, rfl, rfl, rfl⟩ := he
    exact wpIn_ret ⟨rfl, hd, r, hs, Step.refl hs.rel⟩
  | rangeFunc g ps assign body =>
    intro f f' d d' h h' x r a w hok hnd hd hs he
    obtain rfl : ro = none := by
      rcases hnd with q | q
      · exact q
      · cases q
    simp only [codeOk, Bool.and_eq_true] at hok
    simp only [den] at he
    unfold rangeV at he
    split at he
    · rename_i gf first cap hg
      cases hbb : (hasBody P gf && (noDef assign && (noDef body && Nat.blt h.next 65536)))
      · rw [hbb] at he; simp at he
      · rw [hbb] at he
        simp only [cond_true] at he
        simp only [Bool.and_eq_true, Nat.blt_eq] at hbb
        obtain ⟨hb, hb2, hb3, hnx⟩ := hbb
        split at he
        · rename_i v h1 hc
          split at he
          · rename_i st mk2 f2 ps2 as2 bo2 hblk
            have hE := erel_of hs g
            rw [hg] at hE
            generalize hax : a.eval g = ax at hE
            cases hE with
            | @fn _ _ _ xs ys _ g1 g2 =>
              have hnh : ∀ b, w.heap.size ≤ b → ¬ Held r h b := fun b hb hh => by have := hs.rel.held_lt hh; omega
              refine wpIn_rangeFunc (n := 0) ?_
              intro fn _
              obtain ⟨R0, hR0⟩ : ∃ R0 : Loop, R0 = { state := .ready, pending := none, fn, tmps := a.tmps, params := ps, assign, body, defers := w.heap.size } := ⟨_, rfl⟩
              obtain ⟨W1, hW1⟩ : ∃ W1, ((w.alloc (.deferred (some []))).alloc (.loop R0)) = W1 := ⟨_, rfl⟩
              have hent : (Instr.enterLoop fn a.tmps ps assign body none).run P w = .ok (w.heap.size + 1, [{ target := .collected w.heap.size, args := #[] }]) W1 := by
                rw [← hW1, hR0]; exact run_enterLoop_outer fn a.tmps ps assign body
              have hz : W1.heap.size = w.heap.size + 2 := by rw [← hW1]; simp
              have hl0 : W1.heap[w.heap.size + 1]? = some (.loop R0) := by
                rw [← hW1]
                have := World.alloc_heap_new (w.alloc (.deferred (some []))) (.loop R0)
                rwa [World.size_alloc] at this
              have hd0 : W1.heap[w.heap.size]? = some (.deferred (some [])) := by
                rw [← hW1]
                exact (heap_alloc_old (w.alloc (.deferred (some []))) _ w.heap.size (by simp)).trans (World.alloc_heap_new w _)
              have hold : ∀ k, k < w.heap.size → W1.heap[k]? = w.heap[k]? := fun k hk => by
                rw [← hW1]
                exact (heap_alloc_old (w.alloc (.deferred (some []))) _ k (by simp; omega)).trans (heap_alloc_old w _ k hk)
              obtain ⟨r1, hr1⟩ : ∃ r1, r1 = r.put h.next (w.heap.size + 1, 0, 0) := ⟨_, rfl⟩
              have hle1 : r.le r1 := by rw [hr1]; exact r.le_put h.next _ (hs.rel.new _ (Nat.le_refl _))
              have st1 : Step r h w r1 (h.layB (.loopb 0 mask f ps.toList assign body)) W1 := by
                rw [hr1]
                refine Step.layB hs.rel (fun _ ho => ho) (fun _ ho => ho) hnx (fun id sh' m' hl' e' => ?_) (fun hlt => by omega) (fun k hk _ => hold k hk) (by omega) (by rw [← hW1]; rfl) (by rw [← hW1]; rfl) (by rw [← hW1]; rfl) ?_
                · exact hnh _ (by omega) ⟨id, sh', m', hl', e'⟩
                · rw [← hr1]
                  refine ⟨R0, n, hl0, ?_, ?_, ?_, ?_, hd, ?_, hok.1.1, hok.1.2, hb2, hb3, ?_, ?_, ?_⟩
                  · rw [hR0]
                  · rw [hR0]
                  · rw [hR0]
                  · intro t; rw [hR0]; exact (hs.tm t).up hle1
                  · rw [hR0]; exact hs.sz
                  · intro t ht
                    have := List.all_eq_true.1 hok.2 t ht
                    simpa [Nat.blt_eq] using this
                  · rw [hR0]; rfl
                  · rw [hR0]; rfl
              have hid1 : r1 h.next = some (w.heap.size + 1, 0, 0) := by rw [hr1]; exact Emb.put_same _ _ _
              refine ⟨w.heap.size + 1, [{ target := .collected w.heap.size, args := #[] }], W1, { target := .fn (.func gf) ys, args := xs ++ #[.func (.yield (w.heap.size + 1)) #[] #[]] }, W1, gf, (xs ++ #[.func (.yield (w.heap.size + 1)) #[] #[]]) ++ ys, W1,
                hent, ?_, fun _ _ => trivial, run_invoke_func hnn hb ys _ _, fun hh => by simp [wideR, Fence.wide] at hh, ?_⟩
              · have e1 : a.eval (.const (.func (.yield (w.heap.size + 1)) #[] #[])) = .func (.yield (w.heap.size + 1)) #[] #[] := rfl
                simp [resolve, hax, Deferred.ofValue, e1]
              · refine callsIn_ro.2 ?_
                have hvs : VsRel r1 (first ++ [.fn (.yield h.next) [] []] ++ cap) ((xs ++ #[Value.func (.yield (w.heap.size + 1)) #[] #[]]) ++ ys).toList := by
                  simp only [Array.toList_append]
                  exact ((g1.up hle1).append (.cons (.yld hid1) .nil)).append (g2.up hle1)
                refine ((hcall gf _ _ v h1 hc).1 (body_ne hnn hb) r1 _ _ st1.rel (GRel.up hle1 hs.gl) (hs.base.step st1) hvs).mono ?_
                rintro e w3 ⟨z, r', rfl, st2, hv⟩
                have stA : Step r h w r' h1 w3 := st1.trans st2
                have hidr : r' h.next = some (w.heap.size + 1, 0, 0) := st2.le _ _ hid1
                obtain ⟨b', sh', m', hq, hF⟩ := st2.rel.fit h.next hnx (by rw [hblk]; rfl)
                rw [hidr] at hq
                cases hq
                rw [hblk] at hF
                obtain ⟨R, n', hRb, _, _, _, _, _, _, _, _, _, _, _, hstate, hpend⟩ := hF
                have hn0 : ¬ Held r' h1 w.heap.size := fun hh => by
                  have h2 := st2.held _ (by rw [hz]; omega) hh
                  obtain ⟨i, sh2, m2, hl2, e2⟩ := h2
                  rw [hr1] at e2
                  by_cases ei : i = h.next
                  · subst ei
                    rw [Emb.put_same] at e2
                    simp at e2
                  · rw [Emb.put_other _ _ _ _ ei] at e2
                    obtain ⟨q1, q2⟩ := hl2
                    have q3 : (h.layB (.loopb 0 mask f ps.toList assign body)).mem.blk i = h.mem.blk i := Mem.blk_put_other _ _ _ _ hnx q1 ei
                    rw [q3] at q2
                    exact hnh _ (Nat.le_refl _) ⟨i, sh2, m2, ⟨q1, q2⟩, e2⟩
                have hno : ¬ Own r1 (h.layB (.loopb 0 mask f ps.toList assign body)) w.heap.size := fun ho => by
                  obtain ⟨i, sh2, m2, hi2, hb2', e2⟩ := ho
                  rw [hr1] at e2
                  by_cases ei : i = h.next
                  · subst ei
                    rw [Emb.put_same] at e2
                    simp at e2
                  · rw [Emb.put_other _ _ _ _ ei] at e2
                    have q3 : (h.layB (.loopb 0 mask f ps.toList assign body)).mem.blk i = h.mem.blk i := Mem.blk_put_other _ _ _ _ hnx hi2 ei
                    rw [q3] at hb2'
                    exact hnh _ (Nat.le_refl _) ⟨i, sh2, m2, ⟨hi2, live_of_own hb2'⟩, e2⟩
                have hD := (st2.keep w.heap.size (by rw [hz]; omega) hno).trans hd0
                have hnb : R.state ≠ .busy := by
                  rw [hstate]
                  split <;> simp
                -- the record is given up
                have stB : Step r h w r' (h1.kill h.next) w3 := stA.trans (Step.kill st2.rel hnx)
                have hn1 : ¬ Held r' (h1.kill h.next) (w.heap.size + 1) := fun hh => by
                  obtain ⟨i, sh2, m2, hl2, e2⟩ := hh
                  obtain ⟨hl3, hne⟩ := live_kill hnx hl2
                  exact hne (st2.rel.inj i h.next _ sh2 m2 0 0 hl3 ⟨hnx, by rw [hblk]; rfl⟩ e2 hidr)
                have hother : ∀ k, k ≠ w.heap.size + 1 → (w3.putObj (w.heap.size + 1) (.loop { R with state := .exhausted })).heap[k]? = w3.heap[k]? := fun k hk => World.putObj_heap_other hk
                have stC := stB.poke (w' := w3.putObj (w.heap.size + 1) (.loop { R with state := .exhausted })) hn1 (by omega) (by simp) hother rfl rfl rfl (stB.rel.poke hn1 hother)
                have hsz3 : w.heap.size < w3.heap.size := (Array.getElem?_eq_some_iff.1 hD).1
                have key : ∀ (fx : Fr), fx = f → ∃ r2, St P w0 nb n r2 (fget fx) ((markG, []) :: d) (h1.kill h.next) { a with defers := { target := .collected w.heap.size, args := #[] } :: a.defers } (w3.putObj (w.heap.size + 1) (.loop { R with state := .exhausted })) ∧
                    Step r h w r2 (h1.kill h.next) (w3.putObj (w.heap.size + 1) (.loop { R with state := .exhausted })) := by
                  intro fx efx
                  subst efx
                  refine ⟨r', ⟨stC.rel, GRel.up stC.le hs.gl, hs.base.step stC, hs.tm.up stC.le, .mark (hs.ds.up stC.le), ⟨Nat.le_trans hs.mks.1 stC.size, ⟨fun D hDe => ?_, (hs.mks.step stC).2⟩⟩, hs.sz⟩, stC⟩
                  simp only [Target.collected.injEq] at hDe
                  subst hDe
                  refine ⟨hs.mks.1, fun hh => ?_, (hother _ (by omega)).trans hD, fun e he hte => ?_⟩
                  · obtain ⟨i, sh2, m2, hl2, e2⟩ := hh
                    exact hn0 ⟨i, sh2, m2, (live_kill hnx hl2).1, e2⟩
                  · have := hs.mks.2.there e he hte
                    have := (Array.getElem?_eq_some_iff.1 this).1
                    omega
                refine ⟨pendOf st, w3.putObj (w.heap.size + 1) (.loop { R with state := .exhausted }), ?_, ?_⟩
                · have := run_endLoop (P := P) hRb hnb
                  rw [this, hpend]
                split at he
                · simp only [RC.ok.injEq] at he
                  obtain ⟨rfl, rfl, rfl, rfl⟩ := he
                  obtain ⟨r2, k1, k2⟩ := key _ rfl
                  exact ⟨rfl, hd, r2, k1, k2⟩
                · simp only [RC.ok.injEq] at he
                  obtain ⟨rfl, rfl, rfl, rfl⟩ := he
                  obtain ⟨r2, k1, k2⟩ := key _ rfl
                  exact wpIn_ret ⟨rfl, hd, r2, k1, k2⟩
                · simp only [RC.ok.injEq] at he
                  obtain ⟨rfl, rfl, rfl, rfl⟩ := he
                  obtain ⟨r2, k1, k2⟩ := key _ rfl
                  exact wpIn_exit ⟨rfl, hd, r2, k1, k2⟩
          · simp at he
        · simp at he
    · simp at he
  | scope p ihp =>
    intro f f' d d' h h' x r a w hok hnd hd hs he
    obtain rfl : ro = none := by
      rcases hnd with q | q
      · exact q
      · cases q
    simp only [den] at he
    refine (wpIn_wide (n := 0)).2 (wp_scope_straight (wp_mono (wpIn_wide.1 (ihp f f' d d' h h' x r a w hok (.inl rfl) hd hs he)) ?_))
    rintro e a1 w1 hp
    have hx := hp.1
    cases x with
    | norm => obtain rfl : e = .normal := hx; exact hp
    | exit id => obtain rfl : e = .exit id := hx; exact hp
    | ret => obtain rfl : e = .ret := hx; exact hp
  | goto _ => intro f f' d d' h h' x r a w _ _ hd hs he; simp [den] at he
  | refuse _ => intro f f' d d' h h' x r a w _ _ hd hs he; simp [den] at he

end Go.Ev
