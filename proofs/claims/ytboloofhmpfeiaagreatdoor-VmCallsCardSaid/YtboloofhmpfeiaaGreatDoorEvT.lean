/- The evaluator's functions, so many calls deep, are right, given that its regions that draw their order are. No condition. -/
import Derived.Test.YtboloofhmpfeiaaGreatDoorEvS
namespace Go.Ev

variable {P : Program}

/-- Each slot that a function's code writes is there. -/
def ProgOk (P : Program) : Prop := ∀ (f : FuncId) (fn : Func) (c : Code), P.funcs[f]? = some fn → fn.body = some c → codeOk fn.ntmps c = true

theorem runDs_sound {w0 : World} {callD : CallFn} (hD : CallFnDOk P w0 callD) (hnn : NoNum P) {fn : Func} {tmps : Array Value} {R : Ending → World → Prop} {h' : H} {r0 : Emb} {h0 : H} {w00 : World} :
    ∀ (ds : Ds) (dl : List Deferred) (h : H) (r : Emb) (w : World), runDs callD ds h = some h' → Step r0 h0 w00 r h w → GRel P r → Base w0 r0 h0 w00 → DRel P r ds dl → MarksOk w00.heap.size r h w dl →
      (∀ r' w', Step r0 h0 w00 r' h' w' → GRel P r' → r.le r' → LeavesInM Fence.wide 0 P fn tmps R [] .returning w') → LeavesInM Fence.wide 0 P fn tmps R dl .returning w := by
  intro ds
  induction ds with
  | nil =>
    intro dl h r w he hr hg hb hd hm hQ
    cases hd
    simp only [runDs, Option.some.injEq] at he
    subst he
    exact hQ r w hr hg r.le_refl
  | cons p ds ih =>
    intro dl h r w he hr hg hb hd hm hQ
    obtain ⟨g, vs⟩ := p
    simp only [runDs] at he
    cases hd with
    | @cons _ _ cap args _ dl hgm hbody hvs hd =>
      rw [hgm] at he
      simp only [cond_false] at he
      split at he
      · rename_i v h1 hc
        refine ⟨by simp, .inr ⟨fun hh => by simp [Fence.wide] at hh, .func g, cap, g, args ++ cap, rfl, run_invoke_func hnn hbody cap args w, fun _ _ => trivial, ?_⟩⟩
        refine (hD g vs h v h1 hc r w _ .returning hr.rel hg (hb.step hr) hvs).mono ?_
        rintro e u' w' ⟨rfl, z, r', rfl, st, hv⟩
        show LeavesInM Fence.wide 0 P fn tmps R dl (settle .returning) w'
        exact ih dl h1 r' w' he (hr.trans st) (GRel.up st.le hg) hb (hd.up st.le) (hm.2.step st) (fun r2 w2 a1 a2 a3 => hQ r2 w2 a1 a2 (Emb.le_trans st.le a3))
      · simp at he
    | @mark D _ dl hd =>
      have hmm : Nat.beq markG markG = true := by simp
      rw [hmm] at he
      simp only [cond_true] at he
      obtain ⟨k1, k2, k3, k4⟩ := hm.1 D rfl
      have hother : ∀ k, k ≠ D → (w.putObj D (.deferred none)).heap[k]? = w.heap[k]? := fun k hk => World.putObj_heap_other hk
      refine ⟨by simp, .inl ⟨D, _, rfl, run_takeDeferred k3, ?_⟩⟩
      exact ih dl h r _ he (hr.poke k2 k1 (by simp) hother rfl rfl rfl (hr.rel.poke k2 hother)) hg hb hd (hm.2.poke hother k4) hQ

theorem runFn_sound {w0 : World} {call callD : CallFn} (hcall : CallFnOk P w0 call) (hD : CallFnDOk P w0 callD) (hnn : NoNum P) (hdraw : DrawSound P w0 call) {mask fuel : Nat} {g : FuncId} {fn : Func} {c : Code}
    (hf : P.funcs[g]? = some fn) (hb : fn.body = some c) (hok : codeOk fn.ntmps c = true) {vs : List V} {h h' : H} {v : V} (he : runFn P call callD mask fuel fn c vs h = some (v, h')) : CallOk P w0 g vs h v h' := by
  intro r w xs hr hg hba hvs
  obtain ⟨hd, hs⟩ := St.enter (n := fn.ntmps) (mask := mask) hr hg hba hvs
  refine callsIn_wide.1 (callsIn_of_wp_marks (n := 0) hf hb trivial ?_)
  unfold runFn at he
  cases hden : den P call mask fuel c (args0 mask 0 vs fr0) [] h with
  | fail => rw [hden] at he; simp at he
  | ok x f1 d1 h1 =>
    rw [hden] at he
    simp only at he
    refine wpIn_mono (den_sound (ro := none) hcall hnn hdraw c _ f1 [] d1 h h1 x r _ w hok (.inl rfl) hd hs hden) ?_
    rintro e a1 w1 ⟨hx, hd1, r1, hs1, st1⟩
    have key : ((runDs callD d1 h1).bind fun h => (resV P f1 h fn.results.toList).map fun l => (oneRes l, h)) = some (v, h') →
        LeavesInM Fence.wide 0 P fn a1.tmps (fun e w' => ∃ z r', e = .returned z ∧ Step r h w r' h' w' ∧ VRel r' v z) a1.defers .returning w1 := by
      intro he
      cases hrd : runDs callD d1 h1 with
      | none => rw [hrd] at he; simp at he
      | some h2 =>
        rw [hrd] at he
        simp only [Option.bind_some] at he
        cases hrv : resV P f1 h2 fn.results.toList with
        | none => rw [hrv] at he; simp at he
        | some l =>
          rw [hrv] at he
          simp only [Option.map_some, Option.some.injEq, Prod.mk.injEq] at he
          obtain ⟨rfl, rfl⟩ := he
          refine runDs_sound hD hnn d1 a1.defers h1 r1 w1 hrd st1 hs1.gl hba hs1.ds hs1.mks.2 (fun r2 w2 st2 b2 le2 => ?_)
          obtain ⟨z, g1, g2⟩ := oneRes_sound st2.rel (hs1.tm.up le2) hrv
          exact ⟨z, g1, z, r2, rfl, st2, g2⟩
    cases x with
    | norm =>
      have e1 : e = .normal := hx
      subst e1
      exact key he
    | exit id => simp at he
    | ret =>
      have e1 : e = .ret := hx
      subst e1
      exact key he

theorem runFnD_sound {w0 : World} {call : CallFn} (hcall : CallFnOk P w0 call) (hnn : NoNum P) (hdraw : DrawSound P w0 call) {mask fuel : Nat} {g : FuncId} {fn : Func} {c : Code}
    (hf : P.funcs[g]? = some fn) (hb : fn.body = some c) (hok : codeOk fn.ntmps c = true) {vs : List V} {h h' : H} {v : V} (he : runFnD P call mask fuel fn c vs h = some (v, h')) : CallDOk P w0 g vs h v h' := by
  intro r w xs u hr hg hba hvs
  obtain ⟨hd, hs⟩ := St.enter (n := fn.ntmps) (mask := mask) hr hg hba hvs
  refine callsDIn_of_wp hf hb trivial ?_
  unfold runFnD at he
  cases hden : den P call mask fuel c (args0 mask 0 vs fr0) [] h with
  | fail => rw [hden] at he; simp at he
  | ok x f1 d1 h1 =>
    rw [hden] at he
    simp only at he
    cases d1 with
    | cons _ _ => simp at he
    | nil =>
      simp only at he
      refine wpIn_mono (den_sound (ro := none) hcall hnn hdraw c _ f1 [] [] h h1 x r _ w hok (.inl rfl) hd hs hden) ?_
      rintro e a1 w1 ⟨hx, hd1, r1, hs1, st1⟩
      have hdef : a1.defers = [] := by
        have := hs1.ds
        cases hq : a1.defers with
        | nil => rfl
        | cons _ _ => rw [hq] at this; cases this
      have key : ((resV P f1 h1 fn.results.toList).map fun l => (oneRes l, h1)) = some (v, h') →
          a1.defers = [] ∧ ∃ z, (results fn a1.tmps).run P w1 = .ok z w1 ∧ ∃ z' r', (Ending.returned z = .returned z') ∧ Step r h w r' h' w1 ∧ VRel r' v z' := by
        intro he
        cases hrv : resV P f1 h1 fn.results.toList with
        | none => rw [hrv] at he; simp at he
        | some l =>
          rw [hrv] at he
          simp only [Option.map_some, Option.some.injEq, Prod.mk.injEq] at he
          obtain ⟨rfl, rfl⟩ := he
          obtain ⟨z, g1, g2⟩ := oneRes_sound hs1.rel hs1.tm hrv
          exact ⟨hdef, z, g1, z, r1, rfl, st1, g2⟩
      cases x with
      | norm =>
        have e1 : e = .normal := hx
        subst e1
        exact key he
      | exit id => simp at he
      | ret =>
        have e1 : e = .ret := hx
        subst e1
        exact key he

/-! A round of a range over a function. -/
theorem putPs_sound {r : Emb} {mask n : Nat} : ∀ (ps : List Tmp) (args : List V) (xs : List Value) (f : Fr) (tmps : Array Value), ps.length = args.length → VsRel r args xs → (∀ t ∈ ps, t < n) → n ≤ tmps.size → Dim mask f → TRel r (fget f) tmps →
    Dim mask (putPs mask ps args f) ∧ TRel r (fget (putPs mask ps args f)) ((ps.zip xs).foldl (fun tmps p => tmps.setIfInBounds p.1 p.2) tmps) ∧ n ≤ ((ps.zip xs).foldl (fun tmps p => tmps.setIfInBounds p.1 p.2) tmps).size := by
  intro ps
  induction ps with
  | nil => intro args xs f tmps _ _ _ hn hd ht; exact ⟨hd, ht, hn⟩
  | cons t ps ih =>
    intro args xs f tmps hl hv hps hn hd ht
    cases hv with
    | nil => simp at hl
    | @cons v x vs xs hx hvs =>
      have htn : t < tmps.size := Nat.lt_of_lt_of_le (hps t (by simp)) hn
      show Dim mask (putPs mask ps vs (bif kept mask t then fset f t v else f)) ∧ TRel r (fget (putPs mask ps vs (bif kept mask t then fset f t v else f))) ((ps.zip xs).foldl (fun tmps p => tmps.setIfInBounds p.1 p.2) (tmps.setIfInBounds t x)) ∧ _
      refine ih vs xs _ _ (by simpa using hl) hvs (fun u hu => hps u (by simp [hu])) (by simpa using hn) ?_ ?_
      · cases hk : kept mask t
        · exact hd
        · exact fset_dim hd hk
      · intro u
        by_cases e : u = t
        · subst e
          rw [Array.getD_eq_getD_getElem?, Array.getElem?_setIfInBounds_self_of_lt htn]
          cases hk : kept mask u
          · simp only [cond_false]
            rw [hd u hk]
            exact .any _
          · simp only [cond_true]
            by_cases hi : u < 4096
            · rw [fget_fset _ _ _ _ hi, if_pos rfl]; exact hx
            · have hb : Nat.blt u 4096 = false := by rw [← Bool.not_eq_true, Nat.blt_eq]; exact hi
              unfold fget
              rw [hb]
              exact .any _
        · rw [Array.getD_eq_getD_getElem?, Array.getElem?_setIfInBounds_ne (fun e2 => e e2.symm), ← Array.getD_eq_getD_getElem?]
          cases hk : kept mask t
          · exact ht u
          · simp only [cond_true]
            by_cases hi : t < 4096
            · rw [fget_fset _ _ _ _ hi, if_neg e]; exact ht u
            · have hb : Nat.blt t 4096 = false := by rw [← Bool.not_eq_true, Nat.blt_eq]; exact hi
              unfold fset
              rw [hb]
              exact ht u

/-- A step, one block aside. -/
structure StepBut (b : Nat) (r : Emb) (h : H) (w : World) (r' : Emb) (h' : H) (w' : World) : Prop where
  le : r.le r'
  rel : Rel r' h' w'
  size : w.heap.size ≤ w'.heap.size
  keep : ∀ k, k < w.heap.size → k ≠ b → ¬ Own r h k → w'.heap[k]? = w.heap[k]?
  own : ∀ b, b < w.heap.size → Own r' h' b → Own r h b
  held : ∀ b, b < w.heap.size → Held r' h' b → Held r h b
  os : w'.os = w.os
  out : w'.output = w.output
  tape : w'.tape = w.tape

/-- A label that was dead comes to life again: the record of a range. -/
theorem Step.revive {r r' : Emb} {h h2 : H} {w w' : World} {id b sh m : Nat} (hid : id < 65536) (hlive : ownB (h.mem.blk id) = true) (hr : Rel r h w) (st : StepBut b r (h.kill id) w r' h2 w') (h1 : r id = some (b, sh, m)) {k : Blk} (hf : FitB r' k b sh m w') :
    Step r h w r' (h2.setB id k) w' := by
  have hidr : r' id = some (b, sh, m) := st.le _ _ h1
  have hlt : b < w.heap.size := by
    obtain ⟨b', sh', m', e1, e2⟩ := hr.fit id hid (live_of_own hlive)
    rw [h1] at e1
    cases e1
    exact e2.lt (live_of_own hlive)
  -- no live label of h2 speaks of b
  have hfree : ∀ i sh' m', Live h2 i → r' i ≠ some (b, sh', m') := fun i sh' m' hl e => by
    obtain ⟨j, sh2, m2, hl2, e2⟩ := st.held b hlt ⟨i, sh', m', hl, e⟩
    obtain ⟨hl3, hne⟩ := live_kill hid hl2
    exact hne (hr.inj j id b sh2 m2 sh m hl3 ⟨hid, live_of_own hlive⟩ e2 h1)
  have hsame : (h2.setB id k).mem.blk id = k := Mem.blk_put_same _ _ _ hid
  have hoth : ∀ i, i < 65536 → i ≠ id → (h2.setB id k).mem.blk i = h2.mem.blk i := fun i hi hne => Mem.blk_put_other _ _ _ _ hid hi hne
  have hliv : ∀ i, Live (h2.setB id k) i → i ≠ id → Live h2 i := fun i hl hne => by
    obtain ⟨q1, q2⟩ := hl
    rw [hoth i q1 hne] at q2
    exact ⟨q1, q2⟩
  have hown : Own r h b := ⟨id, sh, m, hid, hlive, h1⟩
  refine ⟨st.le, ⟨fun i hi hl => ?_, fun i i' b' sh1 m1 sh2 m2 hl hl' e e' => ?_, st.rel.new⟩, st.size, fun b' hb' hno => ?_, fun b' hb' ho => ?_, fun b' hb' ho => ?_, st.os, st.out, st.tape⟩
  · by_cases e : i = id
    · subst e
      rw [hsame]
      exact ⟨b, sh, m, hidr, hf⟩
    · rw [hoth i hi e] at hl ⊢
      exact st.rel.fit i hi hl
  · by_cases e1 : i = id
    · by_cases e2 : i' = id
      · rw [e1, e2]
      · subst e1
        rw [hidr] at e
        cases e
        exact absurd e' (hfree i' _ _ (hliv i' hl' e2))
    · by_cases e2 : i' = id
      · subst e2
        rw [hidr] at e'
        cases e'
        exact absurd e (hfree i _ _ (hliv i hl e1))
      · exact st.rel.inj i i' b' sh1 m1 sh2 m2 (hliv i hl e1) (hliv i' hl' e2) e e'
  · exact st.keep b' hb' (fun e => hno (e ▸ hown)) (fun ho => hno (own_kill hid ho))
  · obtain ⟨i, sh', m', hi, hb2, e⟩ := ho
    by_cases e1 : i = id
    · subst e1
      rw [hidr] at e
      cases e
      exact hown
    · rw [hoth i hi e1] at hb2
      exact own_kill hid (st.own b' hb' ⟨i, sh', m', hi, hb2, e⟩)
  · obtain ⟨i, sh', m', hl, e⟩ := ho
    by_cases e1 : i = id
    · subst e1
      rw [hidr] at e
      cases e
      exact hown.held
    · exact held_kill hid (st.held b' hb' ⟨i, sh', m', hliv i hl e1, e⟩)

theorem round_sound {w0 : World} {call : CallFn} (hcall : CallFnOk P w0 call) (hnn : NoNum P) (hdraw : DrawSound P w0 call) {fuel : Nat} {vs : List V} {h h' : H} {v : V} (he : roundV P call fuel vs h = some (v, h')) : RoundOk P w0 vs h v h' := by
  intro id0 args0 r w b sh m xs evs hr hg hba hid hxs
  subst evs
  unfold roundV at he
  split at he
  · rename_i id args heq
    simp only [List.cons.injEq, V.ptr.injEq] at heq
    obtain ⟨⟨rfl, _⟩, rfl⟩ := heq
    split at he
    · rename_i mask f ps assign body hblk
      cases hk : (Nat.blt id0 65536 && Nat.beq args0.length ps.length)
      · rw [hk] at he; simp at he
      · rw [hk] at he
        simp only [cond_true] at he
        simp only [Bool.and_eq_true, Nat.blt_eq] at hk
        obtain ⟨hid6, hlen⟩ := hk
        have hlen := Nat.eq_of_beq_eq_true hlen
        have hlive : ownB (h.mem.blk id0) = true := by rw [hblk]; rfl
        obtain ⟨b', sh', m', hq, hF⟩ := hr.fit id0 hid6 (live_of_own hlive)
        rw [hid] at hq
        cases hq
        rw [hblk] at hF
        obtain ⟨R, n, hRb, hps, has, hbo, hT, hdim, hn, hok1, hok2, hnd1, hnd2, hpn, hst, hpe⟩ := hF
        subst has
        subst hbo
        have hxl : xs.size = ps.length := by rw [← hlen, hxs.length]; simp
        refine ⟨R.fn, _, R.assign, R.body, run_yield hRb (by rw [hps, hxl]; simp), ?_⟩
        have hblt : b < w.heap.size := (Array.getElem?_eq_some_iff.1 hRb).1
        obtain ⟨tm, htm⟩ : ∃ tm, ((R.params.zip xs).foldl (fun tmps (t, a) => tmps.setIfInBounds t a) R.tmps) = tm := ⟨_, rfl⟩
        have htm2 : tm = (ps.zip xs.toList).foldl (fun tmps p => tmps.setIfInBounds p.1 p.2) R.tmps := by
          rw [← htm, hps, ← Array.foldl_toList, Array.toList_zip]
        obtain ⟨hd0, ht0, hn0⟩ := putPs_sound (r := r) (mask := mask) (n := n) ps args0 xs.toList f R.tmps hlen.symm hxs hpn hn hdim hT
        rw [← htm2] at ht0 hn0
        rw [htm]
        have stk := Step.kill hr hid6
        have hs0 : St P w0 w.heap.size n r (fget (putPs mask ps args0 f)) [] (h.kill id0) { tmps := tm, defers := [] } w :=
          ⟨stk.rel, hg, hba.step stk, ht0, .nil, ⟨Nat.le_refl _, trivial⟩, hn0⟩
        have hnown : ∀ {r2 : Emb} {h2 : H} {w2 : World}, Step r (h.kill id0) w r2 h2 w2 → ¬ Held r2 h2 b := fun {r2 h2 w2} st hh => by
          obtain ⟨j, sh2, m2, hl2, e2⟩ := st.held b hblt hh
          obtain ⟨hl3, hne⟩ := live_kill hid6 hl2
          exact hne (hr.inj j id0 b sh2 m2 sh m hl3 ⟨hid6, live_of_own hlive⟩ e2 hid)
        have hno0 : ¬ Own r (h.kill id0) b := fun ho => by
          obtain ⟨j, sh2, m2, hj, hb2, e2⟩ := ho
          have hl2 : Live (h.kill id0) j := ⟨hj, live_of_own hb2⟩
          obtain ⟨hl3, hne⟩ := live_kill hid6 hl2
          exact hne (hr.inj j id0 b sh2 m2 sh m hl3 ⟨hid6, live_of_own hlive⟩ e2 hid)
        cases hda : den P call mask fuel R.assign (putPs mask ps args0 f) [] (h.kill id0) with
        | fail => rw [hda] at he; simp at he
        | ok x1 f1 d1 h1 =>
        rw [hda] at he
        simp only at he
        split at he
        · cases hdb : den P call mask fuel R.body f1 [] h1 with
          | fail => rw [hdb] at he; simp at he
          | ok x2 f2 d2 h2 =>
          rw [hdb] at he
          simp only at he
          split at he
          · simp only [Option.some.injEq, Prod.mk.injEq] at he
            obtain ⟨rfl, rfl⟩ := he
            refine roundIn_of_wpIn (F := Fence.wide) trivial ?_
            refine wpIn_mono (den_sound (ro := some b) hcall hnn hdraw R.assign _ f1 [] [] (h.kill id0) h1 .norm r _ w hok1 (.inr hnd1) hd0 hs0 hda) ?_
            rintro e a1 w1 ⟨hx, hd1, r1, hs1, st1⟩
            obtain rfl : e = .normal := hx
            have hR1 : w1.heap[b]? = some (.loop R) := (st1.keep b hblt hno0).trans hRb
            have hrdy : R.state = .ready := hst
            refine ⟨_, run_beginRound hR1 hrdy, ?_⟩
            obtain ⟨w2, hw2⟩ : ∃ w2, w2 = w1.putObj b (.loop { R with state := .busy }) := ⟨_, rfl⟩
            rw [← hw2]
            have hoth2 : ∀ k, k ≠ b → w2.heap[k]? = w1.heap[k]? := fun k hk => by rw [hw2]; exact World.putObj_heap_other hk
            have hb1 : b < w1.heap.size := (Array.getElem?_eq_some_iff.1 hR1).1
            have hR2 : w2.heap[b]? = some (.loop { R with state := .busy }) := by rw [hw2]; exact World.putObj_heap_same hb1
            have hsz2 : w2.heap.size = w1.heap.size := by rw [hw2]; simp
            have hrel2 : Rel r1 h1 w2 := hs1.rel.poke (hnown st1) hoth2
            have hs2 : St P w0 w.heap.size n r1 (fget f1) [] h1 a1 w2 := by
              refine ⟨hrel2, hs1.gl, ⟨fun k hk => ?_, hs1.base.own, by rw [hsz2]; exact hs1.base.size⟩, hs1.tm, hs1.ds, ⟨by rw [hsz2]; exact hs1.mks.1, ?_⟩, hs1.sz⟩
              · have hkb : k ≠ b := fun e => by
                  subst e
                  have := hba.own k ⟨id0, sh, m, hid6, hlive, hid⟩
                  omega
                rw [hoth2 k hkb]
                exact hs1.base.same k hk
              · have h3 : a1.defers = [] := by
                  have := hs1.ds
                  generalize a1.defers = dd at this
                  cases this
                  rfl
                rw [h3]
                trivial
            refine wpIn_mono (den_sound (ro := some b) hcall hnn hdraw R.body f1 f2 [] [] h1 h2 x2 r1 a1 w2 hok2 (.inr hnd2) hd1 hs2 hdb) ?_
            rintro e a2 w3 ⟨hx, hd2, r2, hs3, st3⟩
            have hno1 : ¬ Own r1 h1 b := fun ho => hnown st1 ho.held
            have hR3 : w3.heap[b]? = some (.loop { R with state := .busy }) := (st3.keep b (by rw [hsz2]; exact hb1) hno1).trans hR2
            have hb3 : b < w3.heap.size := (Array.getElem?_eq_some_iff.1 hR3).1
            have hend : ∀ (jump : Option Code), (Instr.endRound b jump).run P w3 = .ok (.bool jump.isNone) (w3.putObj b (.loop { R with state := if jump.isNone then .ready else .done, pending := jump })) := fun jump => by
              have := run_endRound (P := P) jump hR3
              simpa using this
            -- the round's end, the record written
            have fin : ∀ (jump : Option Code), pendOf (stOf x2) = jump → ∃ z r', (Ending.returned (.bool jump.isNone) = .returned z) ∧ Step r h w r' (h2.setB id0 (.loopb (stOf x2) mask f ps R.assign R.body)) (w3.putObj b (.loop { R with state := if jump.isNone then .ready else .done, pending := jump })) ∧
                VRel r' (.bool (Nat.beq (stOf x2) 0)) z := by
              intro jump hj
              obtain ⟨w4, hw4⟩ : ∃ w4, w4 = w3.putObj b (.loop { R with state := if jump.isNone then .ready else .done, pending := jump }) := ⟨_, rfl⟩
              rw [← hw4]
              have hoth4 : ∀ k, k ≠ b → w4.heap[k]? = w3.heap[k]? := fun k hk => by rw [hw4]; exact World.putObj_heap_other hk
              have hR4 : w4.heap[b]? = some (.loop { R with state := if jump.isNone then .ready else .done, pending := jump }) := by rw [hw4]; exact World.putObj_heap_same hb3
              have hsz4 : w4.heap.size = w3.heap.size := by rw [hw4]; simp
              have hnb3 : ¬ Held r2 h2 b := fun hh => hnown st1 (st3.held b (by rw [hsz2]; exact hb1) hh)
              have hle2 : r.le r2 := Emb.le_trans st1.le st3.le
              have stb : StepBut b r (h.kill id0) w r2 h2 w4 := by
                refine ⟨hle2, st3.rel.poke hnb3 hoth4, Nat.le_trans st1.size (by rw [hsz4, ← hsz2]; exact st3.size), fun k hk ek ho => ?_, fun k hk ho => ?_, fun k hk ho => ?_, ?_, ?_, ?_⟩
                · rw [hoth4 k ek, st3.keep k (by rw [hsz2]; exact Nat.lt_of_lt_of_le hk st1.size) (fun ho2 => ho (st1.own k hk ho2)), hoth2 k ek]
                  exact st1.keep k hk ho
                · exact st1.own k hk (st3.own k (by rw [hsz2]; exact Nat.lt_of_lt_of_le hk st1.size) ho)
                · exact st1.held k hk (st3.held k (by rw [hsz2]; exact Nat.lt_of_lt_of_le hk st1.size) ho)
                · rw [hw4]; show w3.os = _; rw [st3.os, hw2]; exact st1.os
                · rw [hw4]; show w3.output = _; rw [st3.out, hw2]; exact st1.out
                · rw [hw4]; show w3.tape = _; rw [st3.tape, hw2]; exact st1.tape
              have hjs : jump.isNone = Nat.beq (stOf x2) 0 := by
                rw [← hj]
                cases x2 <;> rfl
              refine ⟨_, r2, rfl, Step.revive hid6 hlive hr stb hid ⟨_, n, hR4, hps, rfl, rfl, fun t => (hT t).up hle2, hdim, hn, ?_, ?_, ?_, ?_, hpn, ?_, hj.symm⟩, ?_⟩
              · exact hok1
              · exact hok2
              · exact hnd1
              · exact hnd2
              · show (if jump.isNone = true then LoopState.ready else LoopState.done) = if stOf x2 = 0 then LoopState.ready else LoopState.done
                rw [hjs]
                cases x2 <;> rfl
              · rw [hjs]; exact .bool _
            cases x2 with
            | norm =>
              obtain rfl : e = .normal := hx
              exact ⟨_, _, hend none, fin none rfl⟩
            | exit id =>
              obtain rfl : e = .exit id := hx
              exact ⟨_, _, hend (some (.exit id)), fin (some (.exit id)) rfl⟩
            | ret =>
              obtain rfl : e = .ret := hx
              exact ⟨_, _, hend (some .ret), fin (some .ret) rfl⟩
          · simp at he
        · simp at he
    · simp at he
  · simp at he

/-- THE EVALUATOR IS RIGHT: what it says a call comes to, the call comes to. -/
theorem callN_sound {w0 : World} {ext : CallFn} {isExt : FuncId → Bool} {mask : FuncId → Nat} {fuel : Nat} (hY : isExt yieldG = false) (hext : ∀ g, isExt g = true → ∀ vs h v h', ext g vs h = some (v, h') → CallOk P w0 g vs h v h')
    (hnn : NoNum P) (hok : ProgOk P) (hdraw : ∀ call, CallFnOk P w0 call → DrawSound P w0 call) : ∀ n, CallFnOk P w0 (callN P ext isExt mask fuel n) := by
  intro n
  induction n with
  | zero => intro g vs h v h' he; simp [callN] at he
  | succ n ih =>
    intro g vs h v h' he
    simp only [callN] at he
    cases hx : isExt g
    · rw [hx] at he
      simp only [cond_false] at he
      split at he
      · rename_i fn hf
        split at he
        · rename_i c hb
          have hD : CallFnDOk P w0 (callDof P mask fuel (callN P ext isExt mask fuel n)) := by
            intro g2 vs2 h2 v2 h2' he2
            unfold callDof at he2
            split at he2
            · rename_i fn2 hf2
              split at he2
              · rename_i c2 hb2
                exact runFnD_sound ih hnn (hdraw _ ih) hf2 hb2 (hok g2 fn2 c2 hf2 hb2) he2
              · simp at he2
            · simp at he2
          refine ⟨fun _ => runFn_sound ih hD hnn (hdraw _ ih) hf hb (hok g fn c hf hb) he, fun hg => ?_⟩
          have := body_ne hnn (show hasBody P g = true by unfold hasBody; rw [hf]; simp [hb])
          rw [this] at hg
          cases hg
        · simp at he
      · cases hg : Nat.beq g yieldG
        · rw [hg] at he; simp at he
        · rw [hg] at he
          exact ⟨fun q => (by rw [hg] at q; cases q), fun _ => round_sound ih hnn (hdraw _ ih) he⟩
    · rw [hx] at he
      simp only [cond_true] at he
      refine ⟨fun _ => hext g hx vs h v h' he, fun hg => ?_⟩
      obtain rfl := Nat.eq_of_beq_eq_true hg
      rw [hY] at hx
      cases hx

end Go.Ev
