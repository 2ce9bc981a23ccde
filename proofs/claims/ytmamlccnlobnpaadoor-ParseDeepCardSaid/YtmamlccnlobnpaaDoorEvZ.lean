/- Regions that draw their order: the evaluator is right. No condition but the program's own. -/
import Derived.Test.YtmamlccnlobnpaaDoorEvY
namespace Go.Ev

variable {P : Program}

def listedB (listed : Array Bool) (k : Nat) : Bool := listed.getD k false
def todo (n : Nat) (listed : Array Bool) : Nat := (List.range n).countP fun k => !(listedB listed k)

theorem listed_set {listed : Array Bool} {i : Nat} (h : i < listed.size) (k : Nat) : listedB (listed.setIfInBounds i true) k = (Nat.beq k i || listedB listed k) := by
  unfold listedB
  by_cases e : k = i
  · subst e
    rw [Array.getD_eq_getD_getElem?, Array.getElem?_setIfInBounds_self_of_lt h]
    simp
  · have hb : Nat.beq k i = false := by
      cases hb : Nat.beq k i
      · rfl
      · exact absurd (Nat.eq_of_beq_eq_true hb) e
    rw [Array.getD_eq_getD_getElem?, Array.getElem?_setIfInBounds_ne (fun e2 => e e2.symm), ← Array.getD_eq_getD_getElem?, hb, Bool.false_or]

theorem countP_lt {p q : Nat → Bool} {l : List Nat} {i : Nat} (hi : i ∈ l) (hp : p i = true) (hq : q i = false) (h : ∀ k, q k = true → p k = true) : l.countP q < l.countP p := by
  induction l with
  | nil => cases hi
  | cons x l ih =>
    have hle : l.countP q ≤ l.countP p := List.countP_mono_left fun k _ => h k
    rcases List.mem_cons.1 hi with rfl | hi
    · rw [List.countP_cons_of_pos hp, List.countP_cons_of_neg (by rw [hq]; simp)]
      omega
    · have h1 := ih hi
      rw [List.countP_cons, List.countP_cons]
      have : (if q x = true then 1 else 0) ≤ (if p x = true then 1 else 0 : Nat) := by
        by_cases hx : q x = true
        · rw [if_pos hx, if_pos (h x hx)]; exact Nat.le_refl _
        · rw [if_neg hx]; exact Nat.zero_le _
      omega

section
variable {w0 : World} {call : CallFn} (hcall : CallFnOk P w0 call) (hnn : NoNum P) {n : Nat} {f : Fr} {ops : Array Oper} (hok : ops.toList.all (opOk n) = true)
variable {tr : List Tr} {E : Nat → Env} {D : Nat → Ds} {M : Nat → H} {val : Nat → V} {W : Nat → Bool} (ht : Trail P call f ops.toList ops.toList tr E D M val W) (h0 : E 0 = []) (hf : Facts ops.toList)
variable (hask : ∀ p ∈ pairs ops.toList, askPair P f ops.toList tr p = true)
variable {Q : Exit → Act → World → Prop} {r0 : Emb} {hh : H} {w00 : World}
  (hQ : ∀ r' a' w', St P w0 n r' (look (E ops.size) f) (D ops.size) (M ops.size) a' w' → Step r0 hh w00 r' (M ops.size) w' → Q .normal a' w')
include hcall hnn hok ht h0 hf hask hQ

omit hcall hnn hok hf hask in
/-- All done: what the text's order leaves. -/
theorem all_done {listed : Array Bool} (hall : ∀ k, k < ops.size → listedB listed k = true) {r : Emb} {a : Act} {w : World}
    (hs : St P w0 n r (slotsOf f ops.toList val (listedB listed) ops.size) (D (lastOf ops.toList (listedB listed) ops.size)) (M (lastOf ops.toList (listedB listed) ops.size)) a w)
    (st : Step r0 hh w00 r (M (lastOf ops.toList (listedB listed) ops.size)) w) : Q .normal a w := by
  have hlen : ops.toList.length = ops.size := by simp
  have e1 : slotsOf f ops.toList val (listedB listed) ops.size = look (E ops.size) f := by
    funext t
    rw [look_slots ht h0 t ops.size (by rw [hlen]; exact Nat.le_refl _)]
    exact slots_agree ops.size (fun k hk _ => hall k hk)
  obtain ⟨e2, e3⟩ := mem_same ht (b := lastOf ops.toList (listedB listed) ops.size) ops.size (last_le _ _ _) (by rw [hlen]; exact Nat.le_refl _) (fun x h1 h2 => by
    cases he : effAt ops.toList x
    · rfl
    · have := last_above ops.toList (listedB listed) ops.size x h2 (hall x h2) he
      omega)
  rw [e1, ← e2, ← e3] at hs
  rw [← e2] at st
  exact hQ r a w hs st

omit hcall hnn hok ht h0 hask hQ in
theorem none_ready {listed : Array Bool} (hsz : listed.size = ops.size) (hr : Region.ready .any ops listed = []) : ∀ k, k < ops.size → listedB listed k = true := by
  intro k
  induction k using Nat.strongRecOn with
  | _ k ih =>
    intro hk
    cases hl : listedB listed k
    · have hmem : k ∈ Region.ready .any ops listed := by
        refine mem_ready.2 ⟨?_, ops[k], by simp, fun e he hb => ?_⟩
        · unfold listedB at hl
          rw [Array.getD_eq_getD_getElem?, Array.getElem?_eq_getElem (by omega)] at hl ⊢
          simpa using hl
        · have hlt := hf.back k ops[k] (by simp) e (by simpa using he) hb
          exact ih e.on hlt (by omega)
      rw [hr] at hmem
      cases hmem
    · rfl

theorem draw_any : ∀ (fuel : Nat) (listed : Array Bool) (r : Emb) (a : Act) (w : World), listed.size = ops.size → todo ops.size listed ≤ fuel → Closed ops.toList (listedB listed) →
    St P w0 n r (slotsOf f ops.toList val (listedB listed) ops.size) (D (lastOf ops.toList (listedB listed) ops.size)) (M (lastOf ops.toList (listedB listed) ops.size)) a w →
    Step r0 hh w00 r (M (lastOf ops.toList (listedB listed) ops.size)) w → wpAny P .any ops Q fuel listed a w := by
  intro fuel
  have hlen : ops.toList.length = ops.size := by simp
  induction fuel with
  | zero =>
    intro listed r a w hsz htd hc hs st
    have hall : ∀ k, k < ops.size → listedB listed k = true := by
      intro k hk
      cases hl : listedB listed k
      · have : 0 < todo ops.size listed := List.countP_pos_iff.2 ⟨k, List.mem_range.2 hk, by rw [hl]; rfl⟩
        omega
      · rfl
    refine ⟨?_, all_done ht h0 hQ hall hs st⟩
    apply List.eq_nil_iff_forall_not_mem.2
    intro i hi
    obtain ⟨h1, o, ho, _⟩ := mem_ready.1 hi
    have hlt : i < ops.size := (Array.getElem?_eq_some_iff.1 ho).1
    have h2 := hall i hlt
    unfold listedB at h2
    rw [Array.getD_eq_getD_getElem?, Array.getElem?_eq_getElem (by omega)] at h1 h2
    simp at h1 h2
    rw [h1] at h2
    cases h2
  | succ fuel ih =>
    intro listed r a w hsz htd hc hs st
    refine ⟨fun hr => all_done ht h0 hQ (none_ready hf hsz hr) hs st, fun i hi => ?_⟩
    obtain ⟨h1, o, ho, hedge⟩ := mem_ready.1 hi
    have hlt : i < ops.size := (Array.getElem?_eq_some_iff.1 ho).1
    have ho' : ops.toList[i]? = some o := by rw [Array.getElem?_toList]; exact ho
    have hnot : listedB listed i = false := by
      unfold listedB
      rw [Array.getD_eq_getD_getElem?, Array.getElem?_eq_getElem (by omega)] at h1 ⊢
      simpa using h1
    have hrd : Ready ops.toList (listedB listed) i := by
      refine ⟨hnot, by omega, fun x hx => ?_⟩
      obtain ⟨o2, e, he1, he2, he3, he4⟩ := ahead_step hx
      rw [ho'] at he1
      cases he1
      have h2 : listedB listed e.on = true := hedge e (by simpa using he2) he3
      rcases he4 with rfl | ⟨_, he4⟩
      · exact h2
      · exact closed_ahead hc e.on x he4 h2
    -- the set with i in it
    have hS : listedB (listed.setIfInBounds i true) = fun k => Nat.beq k i || listedB listed k := funext fun k => listed_set (by omega) k
    have hc' : Closed ops.toList (listedB (listed.setIfInBounds i true)) := by
      intro j oj hoj hj e he hb
      rw [hS] at hj ⊢
      simp only [Bool.or_eq_true] at hj ⊢
      rcases hj with hj | hj
      · have hji := Nat.eq_of_beq_eq_true hj
        subst hji
        rw [ho'] at hoj
        cases hoj
        exact .inr (hedge e (by simpa using he) hb)
      · exact .inr (hc j oj hoj hj e he hb)
    have htd' : todo ops.size (listed.setIfInBounds i true) ≤ fuel := by
      have : todo ops.size (listed.setIfInBounds i true) < todo ops.size listed := by
        refine countP_lt (List.mem_range.2 hlt) (by rw [hnot]; rfl) (by rw [hS]; simp) (fun k hk => ?_)
        rw [hS] at hk
        simp only [Bool.not_eq_true', Bool.or_eq_false_iff] at hk
        rw [hk.2]; rfl
      omega
    have hsz' : (listed.setIfInBounds i true).size = ops.size := by simp [hsz]
    -- the operation sees what it saw
    have hreads : ∀ t, t ∈ readsOf ops.toList o → slotsOf f ops.toList val (listedB listed) ops.size t = look (E i) f t := fun t htr => by
      rw [← hlen, slots_read hf hc hrd ho' (.inl htr), look_slots ht h0 t i (by omega)]
    have hslots : ∀ t, slotsOf f ops.toList val (listedB (listed.setIfInBounds i true)) ops.size t = putT (slotsOf f ops.toList val (listedB listed) ops.size) o.dst (val i) t := fun t => by
      rw [hS, ← hlen]
      exact slots_put hf hc hrd ho' t
    have hwant : Region.wanted o (yielded ops a.tmps) = W i := by
      refine wantedV_sound hs ?_
      have hw := ht.want i o ho'
      rw [← hw]
      unfold wantedV
      cases hg : o.guard with
      | none => rfl
      | some p =>
        obtain ⟨j, want⟩ := p
        simp only
        cases hb : (ops.toList[j]?).bind (·.dst) with
        | none => rfl
        | some t =>
          simp only
          have hmem : t ∈ readsOf ops.toList o := by
            unfold readsOf
            rw [hg]
            refine List.mem_append.2 (.inr ?_)
            show t ∈ ((ops.toList[j]?).bind (·.dst)).toList
            rw [hb]
            simp
          rw [hreads t hmem]
    have hopok : opOk n o = true := by
      rw [List.all_eq_true] at hok
      exact hok o (List.mem_of_getElem? ho')
    show wpOp P ops Q i (wpAny P .any ops Q fuel (listed.setIfInBounds i true)) a w
    unfold wpOp
    rw [ho]
    simp only
    rw [hwant]
    cases hWi : W i
    · -- not wanted
      simp only [Bool.false_eq_true, if_false]
      obtain ⟨hv, hd, hm⟩ := ht.no i o ho' hWi
      have hdst : ∀ u, o.dst = some u → u < n := by
        intro u e2
        unfold opOk at hopok
        rw [e2] at hopok
        simpa [Nat.blt_eq] using hopok
      have hM : M (lastOf ops.toList (listedB (listed.setIfInBounds i true)) ops.size) = M (lastOf ops.toList (listedB listed) ops.size) ∧ D (lastOf ops.toList (listedB (listed.setIfInBounds i true)) ops.size) = D (lastOf ops.toList (listedB listed) ops.size) := by
        rw [hS, ← hlen]
        cases he : effAt ops.toList i
        · rw [noeff_last he]; exact ⟨rfl, rfl⟩
        · rw [eff_last hf hc hrd he, hm, hd]
          obtain ⟨g1, g2⟩ := eff_mem ht hf hc hrd he
          exact ⟨g1.symm, g2.symm⟩
      refine ih _ r _ w hsz' htd' hc' ?_ (by rw [hM.1]; exact st)
      rw [hM.1, hM.2]
      refine hs.put (Step.refl hs.rel) (v := .tup []) (.tup .nil) hdst (fun t => ?_)
      rw [hslots t, hv]
    · -- wanted
      simp only [if_true]
      left
      have hyes := ht.yes i o ho' hWi
      -- what it yields now
      have hnow : oneOp P call o.op (slotsOf f ops.toList val (listedB listed) ops.size) (D (lastOf ops.toList (listedB listed) ops.size)) (M (lastOf ops.toList (listedB listed) ops.size)) =
          some (val i, D (lastOf ops.toList (listedB (listed.setIfInBounds i true)) ops.size), M (lastOf ops.toList (listedB (listed.setIfInBounds i true)) ops.size)) := by
        have hcongr : ∀ t, Operand.tmp t ∈ o.op.operands.toList → slotsOf f ops.toList val (listedB listed) ops.size t = look (E i) f t := fun t hm => hreads t (by
          unfold readsOf
          rw [List.mem_append]
          left
          rw [List.mem_filterMap]
          exact ⟨_, hm, rfl⟩)
        rw [oneOp_congr hcongr]
        cases he : effAt ops.toList i
        · have he' : isEff o.op = false := by simpa [effAt, ho'] using he
          rw [hS]
          have hl := noeff_last (S := listedB listed) he
          rw [hlen] at hl
          rw [hl]
          rw [oneOp_noeff he'] at hyes ⊢
          have hv : valOp P (M i) (evO P (look (E i) f)) o.op = some (val i) := by
            cases hv : valOp P (M i) (evO P (look (E i) f)) o.op with
            | none => rw [hv] at hyes; simp at hyes
            | some v =>
              rw [hv] at hyes
              simp only [Option.map_some, Option.some.injEq, Prod.mk.injEq] at hyes
              rw [hyes.1]
          have hv2 : valOp P (M (lastOf ops.toList (listedB listed) ops.size)) (evO P (look (E i) f)) o.op = some (val i) := by
            cases hrd2 : isRead o.op
            · rw [valOp_heap hrd2 (h' := M i)]; exact hv
            · have := read_mem ht hf hc hrd (fun m => valOp P m (evO P (look (E i) f)) o.op = some (val i)) hv (fun x hx hex ha1 ha2 => by
                have hox : ops.toList[x]? = some ops.toList[x] := List.getElem?_eq_getElem hx
                have hex' : isEff ops.toList[x].op = true := by simpa [effAt, hox] using hex
                have hp := hask (i, x) (pairs_mem ho' hox hrd2 hex' ha1 ha2)
                unfold askPair at hp
                rw [ho', ht.at_ i o ho', ht.at_ x _ hox] at hp
                simp only [hWi, cond_true, Bool.and_eq_true] at hp
                constructor
                · have := hp.1
                  split at this
                  · rename_i v hv3
                    rw [hv3, veq_eq this]
                  · cases this
                · have := hp.2
                  split at this
                  · rename_i v hv3
                    rw [hv3, veq_eq this]
                  · cases this)
              rw [hlen] at this
              exact this
          rw [hv2]
          rfl
        · obtain ⟨g1, g2⟩ := eff_mem ht hf hc hrd he
          rw [hlen] at g1 g2
          rw [g1, g2, hyes, hS]
          have hl := eff_last hf hc hrd he
          rw [hlen] at hl
          rw [hl]
      refine oneOp_sound hcall hnn hs hopok hnow (fun r' a' w' T' hT hs' st' _ => ?_)
      have e1 : T' = slotsOf f ops.toList val (listedB (listed.setIfInBounds i true)) ops.size := funext fun t => by rw [hT t, hslots t]
      rw [e1] at hs'
      exact ih _ r' a' w' hsz' htd' hc' hs' (st.trans st')
end

/-- A REGION THAT DRAWS ITS ORDER: the evaluator is right. -/
theorem draw_sound (hm : P.follows .mixedOrders = true) {w0 : World} (hnn : NoNum P) (call : CallFn) (hcall : CallFnOk P w0 call) : DrawSound P w0 call := by
  intro n f ops id e' d d' h h' r a w Q hdo hok hs he hQ
  unfold evDraw at he
  split at he
  · rename_i tr htr
    cases ha : askPairs P f ops.toList tr (pairs ops.toList)
    · rw [ha] at he; cases he
    · rw [ha] at he
      simp only [cond_true] at he
      obtain ⟨E, D, M, val, W, e0, d0, m0, ht⟩ := trace_of ops.toList [] d h tr htr
      have hl := lastTr_of ops.toList tr E D M val W ht
      rw [e0, d0, m0, he] at hl
      simp only [RO.ok.injEq] at hl
      have hlen : ops.toList.length = ops.size := by simp
      rw [hlen] at hl
      obtain ⟨rfl, rfl, rfl⟩ := hl
      have hf := facts_of hdo
      refine wp_region_any hm ?_
      have hS : ∀ k, listedB (Array.replicate ops.size false) k = false := fun k => by
        unfold listedB
        rw [Array.getD_eq_getD_getElem?, Array.getElem?_replicate]
        by_cases hk : k < ops.size <;> simp [hk]
      have hslot : ∀ m t, slotsOf f ops.toList val (listedB (Array.replicate ops.size false)) m t = fget f t := by
        intro m t
        have := slots_const (f := f) (L := ops.toList) (val := val) (S := listedB (Array.replicate ops.size false)) (t := t) (a := 0) m (Nat.zero_le _) (fun k _ _ hk => by rw [hS k] at hk; cases hk)
        rw [this]
        rfl
      have hlast : lastOf ops.toList (listedB (Array.replicate ops.size false)) ops.size = 0 := by
        rcases last_is ops.toList (listedB (Array.replicate ops.size false)) ops.size with h1 | ⟨y, _, _, h3, _⟩
        · exact h1
        · rw [hS y] at h3; cases h3
      have hw : St P w0 n r (fget f) d h a { w with drawn := w.drawn + 1 } := ⟨hs.rel.drew _, hs.gl, ⟨hs.base.same, hs.base.own, hs.base.size⟩, hs.tm, hs.ds, hs.sz⟩
      refine draw_any hcall hnn hok ht e0 hf (askPairs_mem ha) (r0 := r) (hh := h) (w00 := w) hQ ops.size _ r a _ (by simp) ?_ ?_ ?_ ?_
      · exact Nat.le_trans List.countP_le_length (by simp)
      · intro j o _ hj
        rw [hS j] at hj
        cases hj
      · have e1 : slotsOf f ops.toList val (listedB (Array.replicate ops.size false)) ops.size = fget f := funext fun t => hslot _ t
        rw [e1, hlast, d0, m0]
        exact hw
      · rw [hlast, m0]
        exact Step.drew hs.rel _
  · cases he

end Go.Ev
