/- Regions that draw their order: the evaluator is right. No condition but the program's own. -/
import Derived.Test.YtoecccbjhmejiaaGreatDoorEvY
namespace Go.Ev

variable {P : Program}

def listedB (listed : Array Bool) (k : Nat) : Bool := listed.getD k false
def todo (n : Nat) (listed : Array Bool) : Nat := (List.range n).countP fun k => !(listedB listed k)

theorem listed_set {listed : Array Bool} {i : Nat} (h : i < listed.size) (k : Nat) : listedB (listed.setIfInBounds i true) k = (Nat.beq k i || listedB listed k) := by
  unfold listedB
  by_cases e : k = i
  · subst e
    rw [Array.getD_eq_getD_getElem?, Array.getElem?_setIfInBounds_self_of_lt h]
    simp
  · have hb : Nat.beq k i = false := by
      cases hb : Nat.beq k i
      · rfl
      · exact absurd (Nat.eq_of_beq_eq_true hb) e
    rw [Array.getD_eq_getD_getElem?, Array.getElem?_setIfInBounds_ne (fun e2 => e e2.symm), ← Array.getD_eq_getD_getElem?, hb, Bool.false_or]

theorem countP_lt {p q : Nat → Bool} {l : List Nat} {i : Nat} (hi : i ∈ l) (hp : p i = true) (hq : q i = false) (h : ∀ k, q k = true → p k = true) : l.countP q < l.countP p := by
  induction l with
  | nil => cases hi
  | cons x l ih =>
    have hle : l.countP q ≤ l.countP p := List.countP_mono_left fun k _ => h k
    rcases List.mem_cons.1 hi with rfl | hi
    · rw [List.countP_cons_of_pos hp, List.countP_cons_of_neg (by rw [hq]; simp)]
      omega
    · have h1 := ih hi
      rw [List.countP_cons, List.countP_cons]
      have : (if q x = true then 1 else 0) ≤ (if p x = true then 1 else 0 : Nat) := by
        by_cases hx : q x = true
        · rw [if_pos hx, if_pos (h x hx)]; exact Nat.le_refl _
        · rw [if_neg hx]; exact Nat.zero_le _
      omega

/-- A set without one place. -/
def less (fl : Nat) (S : Nat → Bool) (k : Nat) : Bool := S k && !(Nat.beq k fl)
theorem beq_false {a b : Nat} (h : a ≠ b) : Nat.beq a b = false := by
  cases hb : Nat.beq a b
  · rfl
  · exact absurd (Nat.eq_of_beq_eq_true hb) h
theorem less_ne {fl : Nat} {S : Nat → Bool} {k : Nat} (h : k ≠ fl) : less fl S k = S k := by simp [less, beq_false h]
theorem less_same {fl : Nat} {S : Nat → Bool} : less fl S fl = false := by simp [less]
theorem less_sub {fl : Nat} {S : Nat → Bool} {k : Nat} (h : less fl S k = true) : S k = true ∧ k ≠ fl := by
  unfold less at h
  simp only [Bool.and_eq_true, Bool.not_eq_true'] at h
  exact ⟨h.1, fun e => by rw [e, Nat.beq_refl] at h; cases h.2⟩
theorem less_back {fl : Nat} {S : Nat → Bool} (h : S fl = true) : (fun k => Nat.beq k fl || less fl S k) = S := by
  funext k
  by_cases e : k = fl
  · subst e; simp [h]
  · rw [beq_false e, less_ne e]; rfl
theorem less_add {fl i : Nat} {S : Nat → Bool} (h : i ≠ fl) : less fl (fun k => Nat.beq k i || S k) = fun k => Nat.beq k i || less fl S k := by
  funext k
  by_cases e : k = fl
  · subst e
    rw [less_same, less_same, beq_false (fun e => h e.symm)]; rfl
  · rw [less_ne e, less_ne e]
theorem less_new {fl : Nat} {S : Nat → Bool} (h : S fl = false) : less fl (fun k => Nat.beq k fl || S k) = S := by
  funext k
  by_cases e : k = fl
  · subst e; rw [less_same, h]
  · rw [less_ne e, beq_false e]; rfl

theorem maskOf_edge (acc : List Nat) (o : Oper) (e : Edge) (he : e ∈ o.after.toList) (hb : Region.binds .any e = true) : (maskOf acc o).testBit e.on = true := by
  unfold maskOf
  have keep : ∀ (l : List Edge) (s : Nat), s.testBit e.on = true → (l.foldl (fun s e => if Region.binds .any e then s ||| 2 ^ e.on ||| acc.getD e.on 0 else s) s).testBit e.on = true := by
    intro l
    induction l with
    | nil => intro s h; exact h
    | cons q l ih =>
      intro s h
      rw [List.foldl_cons]
      apply ih
      split
      · simp [h]
      · exact h
  have key : ∀ (l : List Edge) (s : Nat), e ∈ l → (l.foldl (fun s e => if Region.binds .any e then s ||| 2 ^ e.on ||| acc.getD e.on 0 else s) s).testBit e.on = true := by
    intro l
    induction l with
    | nil => intro s h; cases h
    | cons q l ih =>
      intro s h
      rw [List.foldl_cons]
      rcases List.mem_cons.1 h with rfl | h
      · apply keep
        rw [if_pos hb]
        simp
      · exact ih _ h
  exact key _ 0 he
theorem ahead_edge {ops : List Oper} {j : Nat} {o : Oper} (ho : ops[j]? = some o) {e : Edge} (he : e ∈ o.after.toList) (hb : Region.binds .any e = true) : ahead (masks ops []) e.on j = true := by
  obtain ⟨acc', h1, _⟩ := masks_get ops [] j o ho
  simp only [List.length_nil, Nat.zero_add] at h1
  unfold ahead
  rw [List.getD_eq_getElem?_getD, h1]
  exact maskOf_edge acc' o e he hb

/-- A block of which no label speaks. -/
theorem Step.extra {r : Emb} {h : H} {w : World} (hr : Rel r h w) (c : Array Value) (t : TypeId) : Step r h w r h (w.alloc (.cells c t)) := by
  refine ⟨r.le_refl, ⟨fun id hi hl => ?_, hr.inj, hr.new⟩, by simp, fun b hlt _ => heap_alloc_old w _ b hlt, fun _ _ h => h, fun _ _ h => h, rfl, rfl, rfl⟩
  obtain ⟨b, sh, m, h1, h2⟩ := hr.fit id hi hl
  exact ⟨b, sh, m, h1, h2.keep r.le_refl (heap_alloc_old w _ b (h2.lt hl))⟩
/-- A new block was made ahead of its turn: no label speaks of it yet. -/
structure Pend (P : Program) (w0 : World) (nb n : Nat) (f : Fr) (L : List Oper) (E : Nat → Env) (val : Nat → V) (D : Nat → Ds) (M : Nat → H) (r0 : Emb) (hh : H) (w00 : World) (S : Nat → Bool) (r : Emb) (a : Act) (w : World)
    (o : Oper) (u : Tmp) (b : Nat) (t : TypeId) (k : Option (Nat × Nat × Nat)) (z : Array Value) (zs : List V) : Prop where
  fl : S (floatOf L) = true
  op : L[floatOf L]? = some o
  is : isAlloc o.op = true
  dst : o.dst = some u
  nw : newOf P (evO P (look (E (floatOf L)) f)) o.op = some (zs, t, k)
  closed : Closed L (less (floatOf L) S)
  ec : EC L (less (floatOf L) S)
  st : St P w0 nb n r (putT (slotsOf f L val (less (floatOf L) S) L.length) (some u) .any) (D (lastOf L (less (floatOf L) S) L.length)) (M (lastOf L (less (floatOf L) S) L.length)) a w
  step : Step r0 hh w00 r (M (lastOf L (less (floatOf L) S) L.length)) w
  tmp : a.tmps.getD u undef = newAt k b
  held : ¬ Held r (M (lastOf L (less (floatOf L) S) L.length)) b
  new : w00.heap.size ≤ b
  new0 : w0.heap.size ≤ b
  cell : w.heap[b]? = some (.cells z t)
  zero : VsRel r zs z.toList
  room : newFit k z.size

section
variable {w0 : World} {call : CallFn} (hcall : CallFnOk P w0 call) (hnn : NoNum P) {nb n : Nat} {f : Fr} {ops : Array Oper} (hok : ops.toList.all (opOk n) = true)
variable {tr : List Tr} {E : Nat → Env} {D : Nat → Ds} {M : Nat → H} {val : Nat → V} {W : Nat → Bool} (ht : Trail P call f ops.toList ops.toList tr E D M val W) (h0 : E 0 = []) (hf : Facts ops.toList)
variable (hask : ∀ p ∈ pairs ops.toList, askPair P f ops.toList tr p = true)
variable {Q : Exit → Act → World → Prop} {r0 : Emb} {hh : H} {w00 : World}
include ht hf

omit hf in
theorem float_want {o : Oper} (ho : ops.toList[floatOf ops.toList]? = some o) (hg : o.guard = none) : W (floatOf ops.toList) = true := by
  have := ht.want _ o ho
  rw [hg] at this
  simpa [wantedV] using this.symm

omit ht hf in
theorem alloc_eff {op : Op} (h : isAlloc op = true) : isEff op = true := by
  unfold isAlloc at h
  split at h
  · rfl
  · rfl
  · rfl
  · cases h

/-- Its turn has come: a label speaks of it. -/
theorem adopt {S : Nat → Bool} (hc : Closed ops.toList S) {r : Emb} {a : Act} {w : World} {o : Oper} {u : Tmp} {b : Nat} {t : TypeId} {k : Option (Nat × Nat × Nat)} {z : Array Value} {zs : List V} (hp : Pend P w0 nb n f ops.toList E val D M r0 hh w00 S r a w o u b t k z zs)
    (hfull : ∀ x, x < floatOf ops.toList → effAt ops.toList x = true → S x = true) :
    ∃ r', EC ops.toList S ∧ St P w0 nb n r' (slotsOf f ops.toList val S ops.toList.length) (D (lastOf ops.toList S ops.toList.length)) (M (lastOf ops.toList S ops.toList.length)) a w ∧ Step r0 hh w00 r' (M (lastOf ops.toList S ops.toList.length)) w := by
  have hlt : floatOf ops.toList < ops.toList.length := (List.getElem?_eq_some_iff.1 hp.op).1
  have hrd : Ready ops.toList (less (floatOf ops.toList) S) (floatOf ops.toList) := ⟨less_same, hlt, fun x hx => by
    have h1 := ahead_lt hf _ x hx
    rw [less_ne (by omega)]
    exact closed_ahead hc _ x hx hp.fl⟩
  have heff : effAt ops.toList (floatOf ops.toList) = true := by
    unfold effAt
    rw [hp.op]
    exact alloc_eff hp.is
  have her : ∀ x, x < floatOf ops.toList → effAt ops.toList x = true → less (floatOf ops.toList) S x = true := fun x hx he => by
    rw [less_ne (by omega)]; exact hfull x hx he
  obtain ⟨m1, d1⟩ := eff_mem ht hrd hp.ec her heff
  have hl := eff_last hrd hp.ec heff
  rw [less_back hp.fl] at hl
  obtain ⟨_, hg, _, _⟩ := hf.float o hp.op
  have hy := ht.yes _ o hp.op (float_want ht hp.op hg)
  rw [newOf_oneOp hp.is, hp.nw] at hy
  simp only [Option.bind_some] at hy
  cases hn : newV (M (floatOf ops.toList)) zs.length t zs with
  | none => rw [hn] at hy; simp at hy
  | some h' =>
    rw [hn] at hy
    simp only [Option.map_some, Option.some.injEq, Prod.mk.injEq] at hy
    obtain ⟨hv, hd, hm⟩ := hy
    unfold newV at hn
    cases hcd : (Nat.blt (M (floatOf ops.toList)).next 65536 && Nat.ble zs.length 4096)
    · rw [hcd] at hn; simp at hn
    · rw [hcd] at hn
      simp only [cond_true, Option.some.injEq] at hn
      simp only [Bool.and_eq_true, Nat.blt_eq] at hcd
      have hle4 := Nat.le_of_ble_eq_true hcd.2
      have hst := hp.st
      have hstep := hp.step
      have hheld := hp.held
      rw [m1] at hstep hheld hst
      rw [d1] at hst
      have hnone := hst.rel.new _ (Nat.le_refl _)
      have hrle := r.le_put (M (floatOf ops.toList)).next (b, 0, z.size) hnone
      have hzl : zs.length = z.size := by simpa using hp.zero.length
      have hfits : Fits (r.put (M (floatOf ops.toList)).next (b, 0, z.size)) zs.length t false true (cellsOf zs) b 0 z.size w := by
        refine ⟨⟨z, (0, 0), ⟨t, hp.cell, fun _ => rfl⟩, rfl, fun _ x _ hx => Nat.not_lt_zero _ hx.2, fun _ => rfl, fun k hk => ?_⟩, by omega, cellsOf_room _ hle4⟩
        obtain ⟨x, hx, hvx⟩ := hp.zero.get k (v := zs[k]) (by simp)
        refine ⟨x, by simpa using hx, ?_⟩
        rw [cellsOf_get _ hle4 k hk]
        exact hvx.up hrle
      have hstep' := hstep.adopt hcd.1 hheld hp.new hfits
      refine ⟨r.put (M (floatOf ops.toList)).next (b, 0, z.size), fun x y hxy hex hey hsy => ?_, ?_, ?_⟩
      · by_cases e : y = floatOf ops.toList
        · subst e; exact hfull x hxy hex
        · exact (less_sub (hp.ec x y hxy hex hey (by rw [less_ne e]; exact hsy))).1
      · rw [hl, ← hm, ← hd, ← hn]
        refine ⟨hstep'.rel, GRel.up hrle hst.gl, ⟨hst.base.same, fun k ho => ?_, hst.base.size⟩, fun t' => ?_, hst.ds.up hrle, ⟨hst.mks.1, hst.mks.2.adopt (b := b) (fun D hx => held_layB (k := .live zs.length t false true (cellsOf zs)) hcd.1 hx) (by rw [hp.cell]; simp)⟩, hst.sz⟩
        · rcases own_lay hcd.1 ho with rfl | ho
          · exact hp.new0
          · exact hst.base.own k ho
        · have hsl := slots_put (f := f) (val := val) hf hp.closed hrd hp.op t'
          rw [less_back hp.fl] at hsl
          rw [hsl]
          by_cases e : t' = u
          · subst e
            rw [putT_eq hp.dst, ← hv, hp.tmp]
            exact newTo_rel (Emb.put_same _ _ _) hp.room
          · have h1 := hst.tm t'
            rw [putT_ne (by intro e2; exact e (Option.some.inj e2).symm)] at h1
            rw [putT_ne (by rw [hp.dst]; intro e2; exact e (Option.some.inj e2).symm)]
            exact h1.up hrle
      · rw [hl, ← hm, ← hn]
        exact hstep'

include hcall hnn hok h0 hask

/-- ONE OPERATION that comes up. -/
theorem draw_step {S : Nat → Bool} (hc : Closed ops.toList S) {i : Nat} (hrd : Ready ops.toList S i) (hec : EC ops.toList S) (her : effAt ops.toList i = true → ∀ x, x < i → effAt ops.toList x = true → S x = true)
    {o : Oper} (ho' : ops.toList[i]? = some o) {r : Emb} {a : Act} {w : World} {T : Tm} (hT : ∀ t, t ∈ readsOf ops.toList o → T t = slotsOf f ops.toList val S ops.toList.length t)
    (hs : St P w0 nb n r T (D (lastOf ops.toList S ops.toList.length)) (M (lastOf ops.toList S ops.toList.length)) a w) {K : Act → World → Prop}
    (hK : ∀ r' a' w', St P w0 nb n r' (putT T o.dst (val i)) (D (lastOf ops.toList (fun k => Nat.beq k i || S k) ops.toList.length)) (M (lastOf ops.toList (fun k => Nat.beq k i || S k) ops.toList.length)) a' w' →
      Step r (M (lastOf ops.toList S ops.toList.length)) w r' (M (lastOf ops.toList (fun k => Nat.beq k i || S k) ops.toList.length)) w' → (∃ z, a'.tmps = (a.put o.dst z).tmps) → K a' w') : wpOp P ops Q i K a w := by
  have ho : ops[i]? = some o := by rw [← Array.getElem?_toList]; exact ho'
  -- the operation sees what it saw
  have hreads : ∀ t, t ∈ readsOf ops.toList o → T t = look (E i) f t := fun t htr => by
    rw [hT t htr, slots_read hf hc hrd ho' (.inl htr), look_slots ht h0 t i (by have := hrd.lt; omega)]
  have hwant : Region.wanted o (yielded ops a.tmps) = W i := by
    refine wantedV_sound hs ?_
    have hw := ht.want i o ho'
    rw [← hw]
    unfold wantedV
    cases hg : o.guard with
    | none => rfl
    | some p =>
      obtain ⟨j, want⟩ := p
      simp only
      cases hb : (ops.toList[j]?).bind (·.dst) with
      | none => rfl
      | some t =>
        simp only
        have hmem : t ∈ readsOf ops.toList o := by
          unfold readsOf
          rw [hg]
          refine List.mem_append.2 (.inr ?_)
          show t ∈ ((ops.toList[j]?).bind (·.dst)).toList
          rw [hb]
          simp
        rw [hreads t hmem]
  have hopok : opOk n o = true := by
    rw [List.all_eq_true] at hok
    exact hok o (List.mem_of_getElem? ho')
  unfold wpOp
  rw [ho]
  simp only
  rw [hwant]
  cases hWi : W i
  · -- not wanted
    simp only [Bool.false_eq_true, if_false]
    obtain ⟨hv, hd, hm⟩ := ht.no i o ho' hWi
    have hdst : ∀ u, o.dst = some u → u < n := by
      intro u e2
      unfold opOk at hopok
      rw [e2] at hopok
      simpa [Nat.blt_eq] using hopok
    have hM : M (lastOf ops.toList (fun k => Nat.beq k i || S k) ops.toList.length) = M (lastOf ops.toList S ops.toList.length) ∧ D (lastOf ops.toList (fun k => Nat.beq k i || S k) ops.toList.length) = D (lastOf ops.toList S ops.toList.length) := by
      cases he : effAt ops.toList i
      · rw [noeff_last he]; exact ⟨rfl, rfl⟩
      · rw [eff_last hrd hec he, hm, hd]
        obtain ⟨g1, g2⟩ := eff_mem ht hrd hec (her he) he
        exact ⟨g1.symm, g2.symm⟩
    refine hK r _ w ?_ (by rw [hM.1]; exact Step.refl hs.rel) ⟨undef, rfl⟩
    rw [hM.1, hM.2]
    refine hs.put (Step.refl hs.rel) (v := .tup []) (.tup .nil) hdst (fun t => ?_)
    rw [hv]
  · -- wanted
    simp only [if_true]
    left
    have hyes := ht.yes i o ho' hWi
    -- what it yields now
    have hnow : oneOp P call o.op T (D (lastOf ops.toList S ops.toList.length)) (M (lastOf ops.toList S ops.toList.length)) =
        some (val i, D (lastOf ops.toList (fun k => Nat.beq k i || S k) ops.toList.length), M (lastOf ops.toList (fun k => Nat.beq k i || S k) ops.toList.length)) := by
      have hcongr : ∀ t, Operand.tmp t ∈ o.op.operands.toList → T t = look (E i) f t := fun t hm => hreads t (by
        unfold readsOf
        rw [List.mem_append]
        left
        rw [List.mem_filterMap]
        exact ⟨_, hm, rfl⟩)
      rw [oneOp_congr hcongr]
      cases he : effAt ops.toList i
      · have he' : isEff o.op = false := by simpa [effAt, ho'] using he
        rw [noeff_last (S := S) he]
        rw [oneOp_noeff he'] at hyes ⊢
        have hv : valOp P (M i) (evO P (look (E i) f)) o.op = some (val i) := by
          cases hv : valOp P (M i) (evO P (look (E i) f)) o.op with
          | none => rw [hv] at hyes; simp at hyes
          | some v =>
            rw [hv] at hyes
            simp only [Option.map_some, Option.some.injEq, Prod.mk.injEq] at hyes
            rw [hyes.1]
        have hv2 : valOp P (M (lastOf ops.toList S ops.toList.length)) (evO P (look (E i) f)) o.op = some (val i) := by
          cases hrd2 : isRead o.op
          · rw [valOp_heap hrd2 (h' := M i)]; exact hv
          · exact read_mem ht hf hc hrd (fun m => valOp P m (evO P (look (E i) f)) o.op = some (val i)) hv (fun x hx hex ha1 ha2 => by
              have hox : ops.toList[x]? = some ops.toList[x] := List.getElem?_eq_getElem hx
              have hex' : isEff ops.toList[x].op = true := by simpa [effAt, hox] using hex
              have hp := hask (i, x) (pairs_mem ho' hox hrd2 hex' ha1 ha2)
              unfold askPair at hp
              rw [ho', ht.at_ i o ho', ht.at_ x _ hox] at hp
              simp only [hWi, cond_true, Bool.and_eq_true] at hp
              constructor
              · have := hp.1
                split at this
                · rename_i v hv3
                  rw [hv3, veq_eq this]
                · cases this
              · have := hp.2
                split at this
                · rename_i v hv3
                  rw [hv3, veq_eq this]
                · cases this)
        rw [hv2]
        rfl
      · obtain ⟨g1, g2⟩ := eff_mem ht hrd hec (her he) he
        rw [g1, g2, hyes, eff_last hrd hec he]
    refine oneOp_sound hcall hnn hs hopok hnow (fun r' a' w' T' hT' hs' st' hz => ?_)
    have e1 : T' = putT T o.dst (val i) := funext hT'
    rw [e1] at hs'
    obtain ⟨z, _, hz⟩ := hz
    exact hK r' a' w' hs' st' ⟨z, hz⟩

/-- What holds while a region's operations come up. -/
def Mid (P : Program) (w0 : World) (nb n : Nat) (f : Fr) (L : List Oper) (E : Nat → Env) (val : Nat → V) (D : Nat → Ds) (M : Nat → H) (r0 : Emb) (hh : H) (w00 : World) (S : Nat → Bool) (a : Act) (w : World) : Prop :=
  (∃ r, EC L S ∧ St P w0 nb n r (slotsOf f L val S L.length) (D (lastOf L S L.length)) (M (lastOf L S L.length)) a w ∧ Step r0 hh w00 r (M (lastOf L S L.length)) w) ∨
  (∃ r o u b t k z zs, Pend P w0 nb n f L E val D M r0 hh w00 S r a w o u b t k z zs ∧ ∃ x, x < floatOf L ∧ effAt L x = true ∧ S x = false)

omit hcall hnn hok h0 hask in
theorem mid_of_pend {S : Nat → Bool} (hc : Closed ops.toList S) {r : Emb} {a : Act} {w : World} {o : Oper} {u : Tmp} {b : Nat} {t : TypeId} {k : Option (Nat × Nat × Nat)} {z : Array Value} {zs : List V} (hp : Pend P w0 nb n f ops.toList E val D M r0 hh w00 S r a w o u b t k z zs) :
    Mid P w0 nb n f ops.toList E val D M r0 hh w00 S a w := by
  by_cases hm : ∃ x, x < floatOf ops.toList ∧ effAt ops.toList x = true ∧ S x = false
  · exact .inr ⟨r, o, u, b, t, k, z, zs, hp, hm⟩
  · refine .inl (adopt ht hf hc hp (fun x hx he => ?_))
    cases hs : S x
    · exact (hm ⟨x, hx, he, hs⟩).elim
    · rfl

/-- One operation more. -/
theorem mid_step (hw0 : w0.heap.size ≤ w00.heap.size) {S : Nat → Bool} (hc : Closed ops.toList S) {i : Nat} (hrd : Ready ops.toList S i) (hc' : Closed ops.toList (fun k => Nat.beq k i || S k)) {a : Act} {w : World}
    (hm : Mid P w0 nb n f ops.toList E val D M r0 hh w00 S a w) {K : Act → World → Prop} (hK : ∀ a' w', Mid P w0 nb n f ops.toList E val D M r0 hh w00 (fun k => Nat.beq k i || S k) a' w' → K a' w') : wpOp P ops Q i K a w := by
  obtain ⟨o, ho'⟩ : ∃ o, ops.toList[i]? = some o := ⟨_, List.getElem?_eq_getElem hrd.lt⟩
  have herne : i ≠ floatOf ops.toList → effAt ops.toList i = true → ∀ x, x < i → effAt ops.toList x = true → ahead (masks ops.toList []) x i = true := by
    intro hne he x hx hex
    have hxl : x < ops.toList.length := by have := hrd.lt; omega
    have hox : ops.toList[x]? = some ops.toList[x] := List.getElem?_eq_getElem hxl
    exact hf.chain x i _ o hx hox ho' (by simpa [effAt, hox] using hex) (by simpa [effAt, ho'] using he) hne
  have ecadd : ∀ S' : Nat → Bool, EC ops.toList S' → (effAt ops.toList i = true → ∀ x, x < i → effAt ops.toList x = true → S' x = true) → EC ops.toList (fun k => Nat.beq k i || S' k) := by
    intro S' h1 h2 x y hxy hex hey hsy
    simp only [Bool.or_eq_true] at hsy ⊢
    rcases hsy with hsy | hsy
    · have := Nat.eq_of_beq_eq_true hsy
      subst this
      exact .inr (h2 hey x hxy hex)
    · exact .inr (h1 x y hxy hex hey hsy)
  rcases hm with ⟨r, hec, hs, st⟩ | ⟨r, ofl, u, b, t, k, z, zs, hp, x0, hx0, hex0, hsx0⟩
  · by_cases hdec : i = floatOf ops.toList ∧ ∃ x, x < floatOf ops.toList ∧ effAt ops.toList x = true ∧ S x = false
    · -- ahead of its turn
      obtain ⟨hi, hmiss⟩ := hdec
      subst hi
      obtain ⟨hal, hg, ⟨u, hu⟩, _⟩ := hf.float o ho'
      have hWi := float_want ht ho' hg
      have hyes := ht.yes _ o ho' hWi
      rw [newOf_oneOp hal] at hyes
      have ho : ops[floatOf ops.toList]? = some o := by rw [← Array.getElem?_toList]; exact ho'
      have hwant : Region.wanted o (yielded ops a.tmps) = true := wantedV_sound hs (by rw [hg]; rfl)
      have hdst : ∀ v, o.dst = some v → v < n := by
        intro v e2
        rw [List.all_eq_true] at hok
        have := hok o (List.mem_of_getElem? ho')
        unfold opOk at this
        rw [e2] at this
        simpa [Nat.blt_eq] using this
      -- the operation sees what it saw
      have hreads : ∀ t, Operand.tmp t ∈ o.op.operands.toList → slotsOf f ops.toList val S ops.toList.length t = look (E (floatOf ops.toList)) f t := fun t hm => by
        have htr : t ∈ readsOf ops.toList o := by
          unfold readsOf
          rw [List.mem_append]
          left
          rw [List.mem_filterMap]
          exact ⟨_, hm, rfl⟩
        rw [slots_read hf hc hrd ho' (.inl htr), look_slots ht h0 t (floatOf ops.toList) (by have := hrd.lt; omega)]
      cases hz : newOf P (evO P (look (E (floatOf ops.toList)) f)) o.op with
      | none => rw [hz] at hyes; simp at hyes
      | some q =>
        obtain ⟨zs, t, k⟩ := q
        have hz2 := hz
        rw [← newOf_congr hreads] at hz2
        obtain ⟨z, h4, hrun, hroom⟩ := newOf_run (w := w) (erel_of hs) hz2
        unfold wpOp
        rw [ho]
        simp only
        rw [hwant, if_pos rfl]
        left
        unfold Oper.wp
        rw [hrun]
        have hex := Step.extra hs.rel z t
        have hput := hs.put (dst := o.dst) (v := .any) (z := newAt k w.heap.size) hex (.any _) hdst (fun _ => rfl)
        refine hK _ _ (mid_of_pend ht hf hc' (r := r) (o := o) (u := u) (b := w.heap.size) (t := t) (k := k) (z := z) (zs := zs) ⟨by simp, ho', hal, hu, hz, ?_, ?_, ?_, ?_, ?_, ?_, ?_, ?_, ?_, h4, hroom⟩)
        · rw [less_new hrd.not]; exact hc
        · rw [less_new hrd.not]; exact hec
        · rw [less_new hrd.not]
          rw [hu] at hput
          rw [hu]
          exact hput
        · rw [less_new hrd.not]; exact st.trans hex
        · rw [hu]
          show (a.tmps.setIfInBounds u _).getD u undef = _
          rw [Array.getD_eq_getD_getElem?, Array.getElem?_setIfInBounds_self_of_lt (Nat.lt_of_lt_of_le (hdst u hu) hs.sz)]
          rfl
        · rw [less_new hrd.not]
          intro hh2
          exact Nat.lt_irrefl _ (hs.rel.held_lt hh2)
        · exact st.size
        · exact Nat.le_trans hw0 st.size
        · exact heap_alloc_new w _
    · -- in its turn
      have her : effAt ops.toList i = true → ∀ x, x < i → effAt ops.toList x = true → S x = true := by
        intro he x hx hex
        by_cases e : i = floatOf ops.toList
        · cases hsx : S x
          · exact (hdec ⟨e, x, by omega, hex, hsx⟩).elim
          · rfl
        · exact hrd.before x (herne e he x hx hex)
      refine draw_step hcall hnn hok ht h0 hf hask hc hrd hec her ho' (T := slotsOf f ops.toList val S ops.toList.length) (fun _ _ => rfl) hs (fun r' a' w' hs' st' _ => hK a' w' (.inl ⟨r', ecadd S hec her, ?_, st.trans st'⟩))
      have e1 : slotsOf f ops.toList val (fun k => Nat.beq k i || S k) ops.toList.length = putT (slotsOf f ops.toList val S ops.toList.length) o.dst (val i) := funext fun t => slots_put hf hc hrd ho' t
      rw [e1]
      exact hs'
  · -- a block waits for its label
    have hflt : floatOf ops.toList < ops.toList.length := (List.getElem?_eq_some_iff.1 hp.op).1
    obtain ⟨_, _, _, hfar⟩ := hf.float ofl hp.op
    have hox0 : ops.toList[x0]? = some (ops.toList[x0]'(by omega)) := List.getElem?_eq_getElem (by omega)
    have hnofl : ∀ k, k < ops.toList.length → ahead (masks ops.toList []) (floatOf ops.toList) k = true → ahead (masks ops.toList []) x0 k = true := by
      intro k hk ha
      rcases hfar k hk ha x0 _ hx0 hox0 (by simpa [effAt, hox0] using hex0) with h1 | h1
      · have := closed_ahead hc _ x0 h1 hp.fl
        rw [hsx0] at this
        cases this
      · exact h1
    have hne : i ≠ floatOf ops.toList := fun e => by
      have := hrd.not
      rw [e, hp.fl] at this
      cases this
    have hnob : ahead (masks ops.toList []) (floatOf ops.toList) i = false := by
      cases ha : ahead (masks ops.toList []) (floatOf ops.toList) i
      · rfl
      · have := hrd.before x0 (hnofl i hrd.lt ha)
        rw [hsx0] at this
        cases this
    have hrd0 : Ready ops.toList (less (floatOf ops.toList) S) i := ⟨by rw [less_ne hne]; exact hrd.not, hrd.lt, fun x hx => by
      have : x ≠ floatOf ops.toList := fun e => by rw [e, hnob] at hx; cases hx
      rw [less_ne this]
      exact hrd.before x hx⟩
    have huntouched : ∀ t', (t' ∈ readsOf ops.toList o ∨ o.dst = some t') → t' ≠ u := by
      intro t' ht' e
      subst e
      have := hf.slots (floatOf ops.toList) i ofl o t' (fun e => hne e.symm) hp.op ho' hp.dst ht'
      by_cases hlt : floatOf ops.toList < i
      · rw [if_pos hlt, hnob] at this
        cases this
      · rw [if_neg hlt] at this
        have := closed_ahead hc _ i this hp.fl
        rw [hrd.not] at this
        cases this
    have her0 : effAt ops.toList i = true → ∀ x, x < i → effAt ops.toList x = true → less (floatOf ops.toList) S x = true := fun he x hx hex => hrd0.before x (herne hne he x hx hex)
    refine draw_step hcall hnn hok ht h0 hf hask hp.closed hrd0 hp.ec her0 ho' (fun t' ht' => putT_ne (fun e => huntouched t' (.inl ht') (Option.some.inj e).symm)) hp.st (fun r' a' w' hs' st' hz => hK a' w' ?_)
    obtain ⟨y, hy⟩ := hz
    have hcl0 : Closed ops.toList (fun k => Nat.beq k i || less (floatOf ops.toList) S k) := by
      intro j oj hoj hj e he hb
      simp only [Bool.or_eq_true] at hj ⊢
      rcases hj with hj | hj
      · have hji := Nat.eq_of_beq_eq_true hj
        subst hji
        exact .inr (hrd0.before e.on (ahead_edge hoj he hb))
      · exact .inr (hp.closed j oj hoj hj e he hb)
    refine mid_of_pend ht hf hc' (r := r') (o := ofl) (u := u) (b := b) (t := t) (k := k) (z := z) (zs := zs) ⟨by simp [hp.fl], hp.op, hp.is, hp.dst, hp.nw, ?_, ?_, ?_, ?_, ?_, ?_, hp.new, hp.new0, ?_, hp.zero.up st'.le, hp.room⟩
    · rw [less_add hne]; exact hcl0
    · rw [less_add hne]; exact ecadd _ hp.ec her0
    · rw [less_add hne]
      have e1 : putT (slotsOf f ops.toList val (fun k => Nat.beq k i || less (floatOf ops.toList) S k) ops.toList.length) (some u) .any =
          putT (putT (slotsOf f ops.toList val (less (floatOf ops.toList) S) ops.toList.length) (some u) .any) o.dst (val i) := by
        funext t'
        by_cases e : t' = u
        · subst e
          rw [putT_eq rfl, putT_ne (fun e2 => huntouched t' (.inr e2) rfl), putT_eq rfl]
        · rw [putT_ne (fun e2 => e (Option.some.inj e2).symm), slots_put hf hp.closed hrd0 ho' t']
          by_cases e3 : o.dst = some t'
          · rw [putT_eq e3, putT_eq e3]
          · rw [putT_ne e3, putT_ne e3, putT_ne (fun e2 => e (Option.some.inj e2).symm)]
      rw [e1]
      exact hs'
    · rw [less_add hne]; exact hp.step.trans st'
    · rw [hy, ← hp.tmp]
      cases hd : o.dst with
      | none => rfl
      | some v =>
        have hvu : v ≠ u := huntouched v (.inr hd)
        show (a.tmps.setIfInBounds v y).getD u undef = _
        rw [Array.getD_eq_getD_getElem?, Array.getElem?_setIfInBounds_ne hvu, ← Array.getD_eq_getD_getElem?]
    · rw [less_add hne]
      intro hh2
      exact hp.held (st'.held b (Array.getElem?_eq_some_iff.1 hp.cell).1 hh2)
    · rw [st'.keep b (Array.getElem?_eq_some_iff.1 hp.cell).1 (fun ho => hp.held ho.held)]
      exact hp.cell

variable (hQ : ∀ r' a' w', St P w0 nb n r' (look (E ops.size) f) (D ops.size) (M ops.size) a' w' → Step r0 hh w00 r' (M ops.size) w' → Q .normal a' w')
include hQ

omit hcall hnn hok hf hask in
/-- All done: what the text's order leaves. -/
theorem all_done {S : Nat → Bool} (hall : ∀ k, k < ops.size → S k = true) {a : Act} {w : World} (hm : Mid P w0 nb n f ops.toList E val D M r0 hh w00 S a w) : Q .normal a w := by
  have hlen : ops.toList.length = ops.size := by simp
  rcases hm with ⟨r, _, hs, st⟩ | ⟨_, _, _, _, _, _, _, _, hp, x0, hx0, _, hsx0⟩
  · have e1 : slotsOf f ops.toList val S ops.toList.length = look (E ops.size) f := by
      funext t
      rw [look_slots ht h0 t ops.size (by rw [hlen]; exact Nat.le_refl _), hlen]
      exact slots_agree ops.size (fun k hk _ => hall k hk)
    rw [hlen] at st hs e1
    obtain ⟨e2, e3⟩ := mem_same ht (b := lastOf ops.toList S ops.size) ops.size (last_le _ _ _) (by rw [hlen]; exact Nat.le_refl _) (fun x h1 h2 => by
      cases he : effAt ops.toList x
      · rfl
      · have := last_above ops.toList S ops.size x h2 (hall x h2) he
        omega)
    rw [e1, ← e2, ← e3] at hs
    rw [← e2] at st
    exact hQ r a w hs st
  · have h1 : floatOf ops.toList < ops.toList.length := (List.getElem?_eq_some_iff.1 hp.op).1
    have := hall x0 (by omega)
    rw [hsx0] at this
    cases this

omit hcall hnn hok ht h0 hask hQ in
theorem none_ready {listed : Array Bool} (hsz : listed.size = ops.size) (hr : Region.ready .any ops listed = []) : ∀ k, k < ops.size → listedB listed k = true := by
  intro k
  induction k using Nat.strongRecOn with
  | _ k ih =>
    intro hk
    cases hl : listedB listed k
    · have hmem : k ∈ Region.ready .any ops listed := by
        refine mem_ready.2 ⟨?_, ops[k], by simp, fun e he hb => ?_⟩
        · unfold listedB at hl
          rw [Array.getD_eq_getD_getElem?, Array.getElem?_eq_getElem (by omega)] at hl ⊢
          simpa using hl
        · have hlt := hf.back k ops[k] (by simp) e (by simpa using he) hb
          exact ih e.on hlt (by omega)
      rw [hr] at hmem
      cases hmem
    · rfl

theorem draw_any (hw0 : w0.heap.size ≤ w00.heap.size) : ∀ (fuel : Nat) (listed : Array Bool) (a : Act) (w : World), listed.size = ops.size → todo ops.size listed ≤ fuel → Closed ops.toList (listedB listed) →
    Mid P w0 nb n f ops.toList E val D M r0 hh w00 (listedB listed) a w → wpAny P .any ops Q fuel listed a w := by
  intro fuel
  have hlen : ops.toList.length = ops.size := by simp
  induction fuel with
  | zero =>
    intro listed a w hsz htd hc hm
    have hall : ∀ k, k < ops.size → listedB listed k = true := by
      intro k hk
      cases hl : listedB listed k
      · have : 0 < todo ops.size listed := List.countP_pos_iff.2 ⟨k, List.mem_range.2 hk, by rw [hl]; rfl⟩
        omega
      · rfl
    refine ⟨?_, all_done ht h0 hQ hall hm⟩
    apply List.eq_nil_iff_forall_not_mem.2
    intro i hi
    obtain ⟨h1, o, ho, _⟩ := mem_ready.1 hi
    have hlt : i < ops.size := (Array.getElem?_eq_some_iff.1 ho).1
    have h2 := hall i hlt
    unfold listedB at h2
    rw [Array.getD_eq_getD_getElem?, Array.getElem?_eq_getElem (by omega)] at h1 h2
    simp at h1 h2
    rw [h1] at h2
    cases h2
  | succ fuel ih =>
    intro listed a w hsz htd hc hm
    refine ⟨fun hr => all_done ht h0 hQ (none_ready hf hsz hr) hm, fun i hi => ?_⟩
    obtain ⟨h1, o, ho, hedge⟩ := mem_ready.1 hi
    have hlt : i < ops.size := (Array.getElem?_eq_some_iff.1 ho).1
    have ho' : ops.toList[i]? = some o := by rw [Array.getElem?_toList]; exact ho
    have hnot : listedB listed i = false := by
      unfold listedB
      rw [Array.getD_eq_getD_getElem?, Array.getElem?_eq_getElem (by omega)] at h1 ⊢
      simpa using h1
    have hrd : Ready ops.toList (listedB listed) i := by
      refine ⟨hnot, by omega, fun x hx => ?_⟩
      obtain ⟨o2, e, he1, he2, he3, he4⟩ := ahead_step hx
      rw [ho'] at he1
      cases he1
      have h2 : listedB listed e.on = true := hedge e (by simpa using he2) he3
      rcases he4 with rfl | ⟨_, he4⟩
      · exact h2
      · exact closed_ahead hc e.on x he4 h2
    -- the set with i in it
    have hS : listedB (listed.setIfInBounds i true) = fun k => Nat.beq k i || listedB listed k := funext fun k => listed_set (by omega) k
    have hc' : Closed ops.toList (listedB (listed.setIfInBounds i true)) := by
      intro j oj hoj hj e he hb
      rw [hS] at hj ⊢
      simp only [Bool.or_eq_true] at hj ⊢
      rcases hj with hj | hj
      · have hji := Nat.eq_of_beq_eq_true hj
        subst hji
        rw [ho'] at hoj
        cases hoj
        exact .inr (hedge e (by simpa using he) hb)
      · exact .inr (hc j oj hoj hj e he hb)
    have htd' : todo ops.size (listed.setIfInBounds i true) ≤ fuel := by
      have : todo ops.size (listed.setIfInBounds i true) < todo ops.size listed := by
        refine countP_lt (List.mem_range.2 hlt) (by rw [hnot]; rfl) (by rw [hS]; simp) (fun k hk => ?_)
        rw [hS] at hk
        simp only [Bool.not_eq_true', Bool.or_eq_false_iff] at hk
        rw [hk.2]; rfl
      omega
    have hsz' : (listed.setIfInBounds i true).size = ops.size := by simp [hsz]
    refine mid_step hcall hnn hok ht h0 hf hask hw0 hc hrd (by rw [← hS]; exact hc') hm (fun a' w' hm' => ih _ a' w' hsz' htd' hc' ?_)
    rw [hS]
    exact hm'
end

/-- A REGION THAT DRAWS ITS ORDER: the evaluator is right. -/
theorem draw_order {w0 : World} (hnn : NoNum P) (call : CallFn) (hcall : CallFnOk P w0 call) (nb n : Nat) (f : Fr) (ops : Array Oper) (e' : Env) (d d' : Ds) (h h' : H) (r : Emb) (a : Act) (w : World) (Q : Exit → Act → World → Prop)
    (hdo : drawOk ops.toList = true) (hok : ops.toList.all (opOk n) = true) (hs : St P w0 nb n r (fget f) d h a w) (he : evDraw P call f (pairs ops.toList) ops.toList d h = .ok e' d' h')
    (hQ : ∀ r' a' w', St P w0 nb n r' (look e' f) d' h' a' w' → Step r h w r' h' w' → Q .normal a' w') : wpAny P .any ops Q ops.size (Array.replicate ops.size false) a { w with drawn := w.drawn + 1 } := by
  unfold evDraw at he
  split at he
  · rename_i tr htr
    cases ha : askPairs P f ops.toList tr (pairs ops.toList)
    · rw [ha] at he; cases he
    · rw [ha] at he
      simp only [cond_true] at he
      obtain ⟨E, D, M, val, W, e0, d0, m0, ht⟩ := trace_of ops.toList [] d h tr htr
      have hl := lastTr_of ops.toList tr E D M val W ht
      rw [e0, d0, m0, he] at hl
      simp only [RO.ok.injEq] at hl
      have hlen : ops.toList.length = ops.size := by simp
      rw [hlen] at hl
      obtain ⟨rfl, rfl, rfl⟩ := hl
      have hf := facts_of hdo
      have hS : ∀ k, listedB (Array.replicate ops.size false) k = false := fun k => by
        unfold listedB
        rw [Array.getD_eq_getD_getElem?, Array.getElem?_replicate]
        by_cases hk : k < ops.size <;> simp [hk]
      have hslot : ∀ m t, slotsOf f ops.toList val (listedB (Array.replicate ops.size false)) m t = fget f t := by
        intro m t
        have := slots_const (f := f) (L := ops.toList) (val := val) (S := listedB (Array.replicate ops.size false)) (t := t) (a := 0) m (Nat.zero_le _) (fun k _ _ hk => by rw [hS k] at hk; cases hk)
        rw [this]
        rfl
      have hlast : lastOf ops.toList (listedB (Array.replicate ops.size false)) ops.size = 0 := by
        rcases last_is ops.toList (listedB (Array.replicate ops.size false)) ops.size with h1 | ⟨y, _, _, h3, _⟩
        · exact h1
        · rw [hS y] at h3; cases h3
      have hw : St P w0 nb n r (fget f) d h a { w with drawn := w.drawn + 1 } := ⟨hs.rel.drew _, hs.gl, ⟨hs.base.same, hs.base.own, hs.base.size⟩, hs.tm, hs.ds, ⟨hs.mks.1, MarksOk.heap (w := w) (w' := { w with drawn := w.drawn + 1 }) rfl hs.mks.2⟩, hs.sz⟩
      refine draw_any hcall hnn hok ht e0 hf (askPairs_mem ha) (r0 := r) (hh := h) (w00 := w) hQ hs.base.size ops.size _ a _ (by simp) ?_ ?_ (.inl ⟨r, ?_, ?_, ?_⟩)
      · exact Nat.le_trans List.countP_le_length (by simp)
      · intro j o _ hj
        rw [hS j] at hj
        cases hj
      · intro x y _ _ _ hsy
        rw [hS y] at hsy
        cases hsy
      · have e1 : slotsOf f ops.toList val (listedB (Array.replicate ops.size false)) ops.toList.length = fget f := funext fun t => hslot _ t
        rw [e1, hlen, hlast, d0, m0]
        exact hw
      · rw [hlen, hlast, m0]
        exact Step.drew hs.rel _
  · cases he

theorem draw_sound (hm : P.follows .mixedOrders = true) {w0 : World} (hnn : NoNum P) (call : CallFn) (hcall : CallFnOk P w0 call) : DrawSound P w0 call := by
  intro nb n f ops L id e' d d' h h' r a w Q hL hok hs he hQ
  refine wp_region_any hm ?_
  unfold drawList at hL
  cases hdo : drawOk ops.toList
  · rw [hdo] at hL
    simp only [cond_false] at hL
    generalize latePi ops.toList = π at hL
    generalize invOf ops.toList.length π = σ at hL
    cases hp : permOk ops.toList π σ && drawOk (permL ops.toList π σ)
    · rw [hp] at hL; cases hL
    · rw [hp] at hL
      simp only [cond_true, Option.some.injEq] at hL
      subst hL
      simp only [Bool.and_eq_true] at hp
      have hpo := permOf_of hp.1
      have hok' : (permL ops.toList π σ).toArray.toList.all (opOk n) = true := by
        rw [List.all_eq_true] at hok ⊢
        intro o ho
        have ho2 : o ∈ permL ops.toList π σ := by simpa using ho
        unfold permL at ho2
        obtain ⟨i, hi, rfl⟩ := List.mem_map.1 ho2
        show opOk n (ops.toList.getD i default) = true
        rw [List.getD_eq_getElem?_getD]
        cases hq : ops.toList[i]? with
        | none => rfl
        | some q => exact hok q (List.mem_of_getElem? hq)
      have := draw_order hnn call hcall nb n f (permL ops.toList π σ).toArray e' d d' h h' r a w Q (by simpa using hp.2) hok' hs (by simpa using he) hQ
      rw [hpo.size] at this
      refine perm_any hpo ops.size _ _ a _ (by simp) (by simp) (fun i hi => ?_) this
      obtain ⟨g1, _⟩ := hpo.si i hi
      rw [Array.getD_eq_getD_getElem?, Array.getD_eq_getD_getElem?, Array.getElem?_replicate, Array.getElem?_replicate, if_pos g1, if_pos hi]
  · rw [hdo] at hL
    simp only [cond_true, Option.some.injEq] at hL
    subst hL
    exact draw_order hnn call hcall nb n f ops e' d d' h h' r a w Q hdo hok hs he hQ

end Go.Ev
