/- Regions that draw their order: the evaluator is right. No condition but the program's own. Where a run may begin, and a call that began with no memory of its own: it leaves every old block. Contracts of single functions in the evaluator's words: a fresh slice, strings.HasPrefix, strings.Contains. A body in pieces: what its first pieces leave may be forgotten in part before the rest is evaluated. text.Of, in the evaluator's words; a call that leaves each old block as it was. A call whose two numbers are known by their remainders at 1000 alone, and by two names for them: what it comes to. No condition. -/
import Derived.Test.YtgpogeemhaiicaaGreatDoorEvMe
import Derived.Lib.IndexMore
import Derived.RowKit
import Derived.Below
set_option linter.all false
namespace Go.Ev

variable {P : Program}

def listedB (listed : Array Bool) (k : Nat) : Bool := listed.getD k false
def todo (n : Nat) (listed : Array Bool) : Nat := (List.range n).countP fun k => !(listedB listed k)

theorem listed_set {listed : Array Bool} {i : Nat} (h : i < listed.size) (k : Nat) : listedB (listed.setIfInBounds i true) k = (Nat.beq k i || listedB listed k) := by
  unfold listedB
  by_cases e : k = i
  · subst e
    rw [Array.getD_eq_getD_getElem?, Array.getElem?_setIfInBounds_self_of_lt h]
    simp
  · have hb : Nat.beq k i = false := by
      cases hb : Nat.beq k i
      · rfl
      · exact absurd (Nat.eq_of_beq_eq_true hb) e
    rw [Array.getD_eq_getD_getElem?, Array.getElem?_setIfInBounds_ne (fun e2 => e e2.symm), ← Array.getD_eq_getD_getElem?, hb, Bool.false_or]

theorem countP_lt {p q : Nat → Bool} {l : List Nat} {i : Nat} (hi : i ∈ l) (hp : p i = true) (hq : q i = false) (h : ∀ k, q k = true → p k = true) : l.countP q < l.countP p := by
  induction l with
  | nil => cases hi
  | cons x l ih =>
    have hle : l.countP q ≤ l.countP p := List.countP_mono_left fun k _ => h k
    rcases List.mem_cons.1 hi with rfl | hi
    · rw [List.countP_cons_of_pos hp, List.countP_cons_of_neg (by rw [hq]; simp)]
      omega
    · have h1 := ih hi
      rw [List.countP_cons, List.countP_cons]
      have : (if q x = true then 1 else 0) ≤ (if p x = true then 1 else 0 : Nat) := by
        by_cases hx : q x = true
        · rw [if_pos hx, if_pos (h x hx)]; exact Nat.le_refl _
        · rw [if_neg hx]; exact Nat.zero_le _
      omega

theorem beq_false {a b : Nat} (h : a ≠ b) : Nat.beq a b = false := by
  cases hb : Nat.beq a b
  · rfl
  · exact absurd (Nat.eq_of_beq_eq_true hb) h
theorem maskOf_edge (acc : List Nat) (o : Oper) (e : Edge) (he : e ∈ o.after.toList) (hb : Region.binds .any e = true) : (maskOf acc o).testBit e.on = true := by
  unfold maskOf
  have keep : ∀ (l : List Edge) (s : Nat), s.testBit e.on = true → (l.foldl (fun s e => if Region.binds .any e then s ||| 2 ^ e.on ||| acc.getD e.on 0 else s) s).testBit e.on = true := by
    intro l
    induction l with
    | nil => intro s h; exact h
    | cons q l ih =>
      intro s h
      rw [List.foldl_cons]
      apply ih
      split
      · simp [h]
      · exact h
  have key : ∀ (l : List Edge) (s : Nat), e ∈ l → (l.foldl (fun s e => if Region.binds .any e then s ||| 2 ^ e.on ||| acc.getD e.on 0 else s) s).testBit e.on = true := by
    intro l
    induction l with
    | nil => intro s h; cases h
    | cons q l ih =>
      intro s h
      rw [List.foldl_cons]
      rcases List.mem_cons.1 h with rfl | h
      · apply keep
        rw [if_pos hb]
        simp
      · exact ih _ h
  exact key _ 0 he
theorem ahead_edge {ops : List Oper} {j : Nat} {o : Oper} (ho : ops[j]? = some o) {e : Edge} (he : e ∈ o.after.toList) (hb : Region.binds .any e = true) : ahead (masks ops []) e.on j = true := by
  obtain ⟨acc', h1, _⟩ := masks_get ops [] j o ho
  simp only [List.length_nil, Nat.zero_add] at h1
  unfold ahead
  rw [List.getD_eq_getElem?_getD, h1]
  exact maskOf_edge acc' o e he hb

/-- A block of which no label speaks. -/
theorem Step.extra {r : Emb} {h : H} {w : World} (hr : Rel r h w) (c : Array Value) (t : TypeId) : Step r h w r h (w.alloc (.cells c t)) := by
  refine ⟨r.le_refl, ⟨fun id hi hl => ?_, hr.inj, hr.new⟩, by simp, fun b hlt _ => heap_alloc_old w _ b hlt, fun _ _ h => h, fun _ _ h => h, rfl, rfl, rfl⟩
  obtain ⟨b, sh, m, h1, h2⟩ := hr.fit id hi hl
  exact ⟨b, sh, m, h1, h2.keep r.le_refl (heap_alloc_old w _ b (h2.lt hl))⟩
/-- A new block was made ahead of its turn: no label speaks of it yet. -/
structure PdR where
  p : Nat
  o : Oper
  u : Tmp
  b : Nat
  t : TypeId
  k : Option (Nat × Nat × Nat)
  z : Array Value
  zs : List V
structure Pd (P : Program) (w0 : World) (f : Fr) (L : List Oper) (E : Nat → Env) (w00 : World) (B : Nat → Bool) (r : Emb) (h : H) (a : Act) (w : World) (q : PdR) : Prop where
  fl : isFl L (masks L []) q.p = true
  no : B q.p = false
  op : L[q.p]? = some q.o
  is : isAlloc q.o.op = true
  dst : q.o.dst = some q.u
  nw : newOf P (evO P (look (E q.p) f)) q.o.op = some (q.zs, q.t, q.k)
  tmp : a.tmps.getD q.u undef = newAt q.k q.b
  held : ¬ Held r h q.b
  new : w00.heap.size ≤ q.b
  new0 : w0.heap.size ≤ q.b
  cell : w.heap[q.b]? = some (.cells q.z q.t)
  zero : VsRel r q.zs q.z.toList
  room : newFit q.k q.z.size
/-- Those that wait are not one another. -/
def Apart (x y : PdR) : Prop := x.p ≠ y.p ∧ x.b ≠ y.b ∧ x.u ≠ y.u
/-- What holds while a region's operations come up, but that some may wait that need not. -/
structure Pre (P : Program) (w0 : World) (nb n : Nat) (f : Fr) (L : List Oper) (E : Nat → Env) (val : Nat → V) (D : Nat → Ds) (M : Nat → H) (r0 : Emb) (hh : H) (w00 : World) (S B : Nat → Bool) (pl : List PdR) (r : Emb) (T : Tm) (a : Act) (w : World) : Prop where
  set : ∀ k, S k = true ↔ B k = true ∨ ∃ q ∈ pl, q.p = k
  apart : pl.Pairwise Apart
  pds : ∀ q ∈ pl, Pd P w0 f L E w00 B r (M (lastOf L B L.length)) a w q
  closed : Closed L B
  ec : EC L B
  st : St P w0 nb n r T (D (lastOf L B L.length)) (M (lastOf L B L.length)) a w
  step : Step r0 hh w00 r (M (lastOf L B L.length)) w
  tm : ∀ t, (∀ q ∈ pl, q.u ≠ t) → T t = slotsOf f L val B L.length t

section
variable {w0 : World} {call : CallFn} (hcall : CallFnOk P w0 call) (hnn : NoNum P) {nb n : Nat} {f : Fr} {ops : Array Oper} {ro : Option Nat} (hok : ops.toList.all (opOk n) = true) (hnd : ro = none ∨ ops.toList.all opNd = true)
variable {tr : List Tr} {E : Nat → Env} {D : Nat → Ds} {M : Nat → H} {val : Nat → V} {W : Nat → Bool} (ht : Trail P call f ops.toList ops.toList tr E D M val W) (h0 : E 0 = []) (hf : Facts ops.toList)
variable (hask : ∀ p ∈ pairs ops.toList, askPair P f ops.toList tr p = true)
variable {Q : Exit → Act → World → Prop} {r0 : Emb} {hh : H} {w00 : World}
include ht hf

omit hf in
theorem float_want {p : Nat} {o : Oper} (ho : ops.toList[p]? = some o) (hg : o.guard = none) : W p = true := by
  have := ht.want _ o ho
  rw [hg] at this
  simpa [wantedV] using this.symm

omit ht hf in
theorem alloc_eff {op : Op} (h : isAlloc op = true) : isEff op = true := by
  unfold isAlloc at h
  split at h
  · rfl
  · rfl
  · rfl
  · cases h

/-- Its turn has come: a label speaks of it. -/
theorem adopt {S B : Nat → Bool} (hc : Closed ops.toList S) {pl : List PdR} {r : Emb} {T : Tm} {a : Act} {w : World} (hp : Pre P w0 nb n f ops.toList E val D M r0 hh w00 S B pl r T a w) {q : PdR} {l1 l2 : List PdR} (hq : pl = l1 ++ q :: l2)
    (hfull : ∀ x, x < q.p → effAt ops.toList x = true → B x = true) :
    ∃ r', Pre P w0 nb n f ops.toList E val D M r0 hh w00 S (fun k => Nat.beq k q.p || B k) (l1 ++ l2) r' (putT T (some q.u) (val q.p)) a w := by
  have hmq : q ∈ pl := by rw [hq]; simp
  have pd := hp.pds q hmq
  have hlt : q.p < ops.toList.length := (List.getElem?_eq_some_iff.1 pd.op).1
  have hSq : S q.p = true := (hp.set _).2 (.inr ⟨q, hmq, rfl⟩)
  have hB : ∀ x, S x = true → x < q.p → B x = true := fun x hx hlt' => by
    rcases (hp.set x).1 hx with h1 | ⟨y, hy, rfl⟩
    · exact h1
    · refine hfull _ hlt' ?_
      unfold effAt
      rw [(hp.pds y hy).op]
      exact alloc_eff (hp.pds y hy).is
  have hrd : Ready ops.toList B q.p := ⟨pd.no, hlt, fun x hx => hB x (closed_ahead hc _ x hx hSq) (ahead_lt hf _ x hx)⟩
  have heff : effAt ops.toList q.p = true := by
    unfold effAt
    rw [pd.op]
    exact alloc_eff pd.is
  obtain ⟨m1, d1⟩ := eff_mem ht hrd hp.ec hfull heff
  have hl := eff_last hrd hp.ec heff
  obtain ⟨_, hg, _, _⟩ := hf.float q.p q.o pd.fl pd.op
  have hy := ht.yes _ q.o pd.op (float_want ht pd.op hg)
  rw [newOf_oneOp pd.is, pd.nw] at hy
  simp only [Option.bind_some] at hy
  have hap := hp.apart
  rw [hq, List.pairwise_append, List.pairwise_cons] at hap
  obtain ⟨hap1, ⟨hap2, hap3⟩, hap4⟩ := hap
  -- the others
  have hoth : ∀ y ∈ l1 ++ l2, y ∈ pl ∧ y.p ≠ q.p ∧ y.b ≠ q.b ∧ y.u ≠ q.u := fun y hy => by
    rcases List.mem_append.1 hy with hy | hy
    · obtain ⟨g1, g2, g3⟩ := hap4 y hy q (by simp)
      exact ⟨by rw [hq]; simp [hy], g1, g2, g3⟩
    · obtain ⟨g1, g2, g3⟩ := hap2 y hy
      exact ⟨by rw [hq]; simp [hy], g1.symm, g2.symm, g3.symm⟩
  cases hn : newV (M q.p) q.zs.length q.t q.zs with
  | none => rw [hn] at hy; simp at hy
  | some h' =>
    rw [hn] at hy
    simp only [Option.map_some, Option.some.injEq, Prod.mk.injEq] at hy
    obtain ⟨hv, hd, hm⟩ := hy
    unfold newV at hn
    cases hcd : (Nat.blt (M q.p).next 65536 && Nat.ble q.zs.length 4096)
    · rw [hcd] at hn; simp at hn
    · rw [hcd] at hn
      simp only [cond_true, Option.some.injEq] at hn
      simp only [Bool.and_eq_true, Nat.blt_eq] at hcd
      have hle4 := Nat.le_of_ble_eq_true hcd.2
      have hst := hp.st
      have hstep := hp.step
      have hheld := pd.held
      rw [m1] at hstep hheld hst
      rw [d1] at hst
      have hnone := hst.rel.new _ (Nat.le_refl _)
      have hrle := r.le_put (M q.p).next (q.b, 0, q.z.size) hnone
      have hzl : q.zs.length = q.z.size := by simpa using pd.zero.length
      have hfits : Fits (r.put (M q.p).next (q.b, 0, q.z.size)) q.zs.length q.t false true (cellsOf q.zs) q.b 0 q.z.size w := by
        refine ⟨⟨q.z, (0, 0), ⟨q.t, pd.cell, fun _ => rfl⟩, rfl, fun _ x _ hx => Nat.not_lt_zero _ hx.2, fun _ => rfl, fun k hk => ?_⟩, by omega, cellsOf_room _ hle4, fun _ _ => ⟨rfl, hzl⟩⟩
        obtain ⟨x, hx, hvx⟩ := pd.zero.get k (v := q.zs[k]) (by simp)
        refine ⟨x, by simpa using hx, ?_⟩
        rw [cellsOf_get _ hle4 k hk]
        exact hvx.up hrle
      have hstep' := hstep.adopt hcd.1 hheld pd.new hfits
      refine ⟨r.put (M q.p).next (q.b, 0, q.z.size), fun k => ?_, ?_, fun y hy => ?_, ?_, fun x y hxy hex hey hsy => ?_, ?_, ?_, fun t' ht' => ?_⟩
      · rw [hp.set k, hq]
        simp only [Bool.or_eq_true, List.mem_append, List.mem_cons]
        constructor
        · rintro (h1 | ⟨y, h1 | rfl | h1, h2⟩)
          · exact .inl (.inr h1)
          · exact .inr ⟨y, .inl h1, h2⟩
          · exact .inl (.inl (by rw [h2, Nat.beq_refl]))
          · exact .inr ⟨y, .inr h1, h2⟩
        · rintro ((h1 | h1) | ⟨y, h1, h2⟩)
          · exact .inr ⟨q, .inr (.inl rfl), (Nat.eq_of_beq_eq_true h1).symm⟩
          · exact .inl h1
          · exact .inr ⟨y, h1.elim .inl (fun h => .inr (.inr h)), h2⟩
      · exact List.pairwise_append.2 ⟨hap1, hap3, fun x hx y hy => hap4 x hx y (by simp [hy])⟩
      · obtain ⟨g0, g1, g2, g3⟩ := hoth y hy
        have py := hp.pds y g0
        refine ⟨py.fl, by simp [beq_false g1, py.no], py.op, py.is, py.dst, py.nw, py.tmp, ?_, py.new, py.new0, py.cell, py.zero.up hrle, py.room⟩
        rw [hl, ← hm, ← hn]
        intro hh2
        rcases held_layB (k := .live q.zs.length q.t false true (cellsOf q.zs)) hcd.1 hh2 with h1 | h1
        · exact g2 h1
        · exact py.held (by rw [m1]; exact h1)
      · intro j oj hoj hj e he hb
        simp only [Bool.or_eq_true] at hj ⊢
        rcases hj with hj | hj
        · have hji := Nat.eq_of_beq_eq_true hj
          subst hji
          exact .inr (hrd.before e.on (ahead_edge hoj he hb))
        · exact .inr (hp.closed j oj hoj hj e he hb)
      · simp only [Bool.or_eq_true] at hsy ⊢
        rcases hsy with hsy | hsy
        · have := Nat.eq_of_beq_eq_true hsy
          subst this
          exact .inr (hfull x hxy hex)
        · exact .inr (hp.ec x y hxy hex hey hsy)
      · rw [hl, ← hm, ← hd, ← hn]
        refine ⟨hstep'.rel, GRel.up hrle hst.gl, ⟨hst.base.same, fun k ho => ?_, hst.base.size⟩, fun t' => ?_, hst.ds.up hrle, ⟨hst.mks.1, hst.mks.2.adopt (b := q.b) (fun D hx => held_layB (k := .live q.zs.length q.t false true (cellsOf q.zs)) hcd.1 hx) (by rw [pd.cell]; simp)⟩, hst.sz⟩
        · rcases own_lay hcd.1 ho with rfl | ho
          · exact pd.new0
          · exact hst.base.own k ho
        · by_cases e : t' = q.u
          · subst e
            rw [putT_eq rfl, ← hv, pd.tmp]
            exact newTo_rel (Emb.put_same _ _ _) pd.room
          · have h1 := hst.tm t'
            rw [putT_ne (fun e2 => e (Option.some.inj e2).symm)]
            exact h1.up hrle
      · rw [hl, ← hm, ← hn]
        exact hstep'
      · rw [slots_put (f := f) (val := val) hf hp.closed hrd pd.op t', pd.dst]
        by_cases e : q.u = t'
        · rw [putT_eq (by rw [e]), putT_eq (by rw [e])]
        · rw [putT_ne (fun e2 => e (Option.some.inj e2)), putT_ne (fun e2 => e (Option.some.inj e2))]
          refine hp.tm t' (fun y hy => ?_)
          rw [hq] at hy
          rcases List.mem_append.1 hy with hy | hy
          · exact ht' y (by simp [hy])
          · rcases List.mem_cons.1 hy with rfl | hy
            · exact e
            · exact ht' y (by simp [hy])

include hcall hnn hok hnd h0 hask

/-- ONE OPERATION that comes up. -/
theorem draw_step {S : Nat → Bool} (hc : Closed ops.toList S) {i : Nat} (hrd : Ready ops.toList S i) (hec : EC ops.toList S) (her : effAt ops.toList i = true → ∀ x, x < i → effAt ops.toList x = true → S x = true)
    {o : Oper} (ho' : ops.toList[i]? = some o) {r : Emb} {a : Act} {w : World} {T : Tm} (hT : ∀ t, t ∈ readsOf ops.toList o → T t = slotsOf f ops.toList val S ops.toList.length t)
    (hs : St P w0 nb n r T (D (lastOf ops.toList S ops.toList.length)) (M (lastOf ops.toList S ops.toList.length)) a w) {K : Act → World → Prop}
    (hK : ∀ r' a' w', St P w0 nb n r' (putT T o.dst (val i)) (D (lastOf ops.toList (fun k => Nat.beq k i || S k) ops.toList.length)) (M (lastOf ops.toList (fun k => Nat.beq k i || S k) ops.toList.length)) a' w' →
      Step r (M (lastOf ops.toList S ops.toList.length)) w r' (M (lastOf ops.toList (fun k => Nat.beq k i || S k) ops.toList.length)) w' → (∃ z, a'.tmps = (a.put o.dst z).tmps) → K a' w') : wpOpIn (wideR ro) 0 P ops Q i K a w := by
  have ho : ops[i]? = some o := by rw [← Array.getElem?_toList]; exact ho'
  -- the operation sees what it saw
  have hreads : ∀ t, t ∈ readsOf ops.toList o → T t = look (E i) f t := fun t htr => by
    rw [hT t htr, slots_read hf hc hrd ho' (.inl htr), look_slots ht h0 t i (by have := hrd.lt; omega)]
  have hwant : Region.wanted o (yielded ops a.tmps) = W i := by
    refine wantedV_sound hs ?_
    have hw := ht.want i o ho'
    rw [← hw]
    unfold wantedV
    cases hg : o.guard with
    | none => rfl
    | some p =>
      obtain ⟨j, want⟩ := p
      simp only
      cases hb : (ops.toList[j]?).bind (·.dst) with
      | none => rfl
      | some t =>
        simp only
        have hmem : t ∈ readsOf ops.toList o := by
          unfold readsOf
          rw [hg]
          refine List.mem_append.2 (.inr ?_)
          show t ∈ ((ops.toList[j]?).bind (·.dst)).toList
          rw [hb]
          simp
        rw [hreads t hmem]
  have hopok : opOk n o = true := by
    rw [List.all_eq_true] at hok
    exact hok o (List.mem_of_getElem? ho')
  unfold wpOpIn
  rw [ho]
  simp only
  rw [hwant]
  cases hWi : W i
  · -- not wanted
    simp only [Bool.false_eq_true, if_false]
    obtain ⟨hv, hd, hm⟩ := ht.no i o ho' hWi
    have hdst : ∀ u, o.dst = some u → u < n := by
      intro u e2
      unfold opOk at hopok
      rw [e2] at hopok
      simpa [Nat.blt_eq] using hopok
    have hM : M (lastOf ops.toList (fun k => Nat.beq k i || S k) ops.toList.length) = M (lastOf ops.toList S ops.toList.length) ∧ D (lastOf ops.toList (fun k => Nat.beq k i || S k) ops.toList.length) = D (lastOf ops.toList S ops.toList.length) := by
      cases he : effAt ops.toList i
      · rw [noeff_last he]; exact ⟨rfl, rfl⟩
      · rw [eff_last hrd hec he, hm, hd]
        obtain ⟨g1, g2⟩ := eff_mem ht hrd hec (her he) he
        exact ⟨g1.symm, g2.symm⟩
    refine ⟨fun _ _ => trivial, hK r _ w ?_ (by rw [hM.1]; exact Step.refl hs.rel) ⟨undef, rfl⟩⟩
    rw [hM.1, hM.2]
    refine hs.put (Step.refl hs.rel) (v := .tup []) (.tup .nil) hdst (fun t => ?_)
    rw [hv]
  · -- wanted
    simp only [if_true]
    have hnd1 : ro = none ∨ opNd o = true := hnd.imp id (fun q => List.all_eq_true.1 q o (List.mem_of_getElem? ho'))
    have hyes := ht.yes i o ho' hWi
    -- what it yields now
    have hnow : oneOp P call o.op T (D (lastOf ops.toList S ops.toList.length)) (M (lastOf ops.toList S ops.toList.length)) =
        some (val i, D (lastOf ops.toList (fun k => Nat.beq k i || S k) ops.toList.length), M (lastOf ops.toList (fun k => Nat.beq k i || S k) ops.toList.length)) := by
      have hcongr : ∀ t, Operand.tmp t ∈ o.op.operands.toList → T t = look (E i) f t := fun t hm => hreads t (by
        unfold readsOf
        rw [List.mem_append]
        left
        rw [List.mem_filterMap]
        exact ⟨_, hm, rfl⟩)
      rw [oneOp_congr hcongr]
      cases he : effAt ops.toList i
      · have he' : isEff o.op = false := by simpa [effAt, ho'] using he
        rw [noeff_last (S := S) he]
        rw [oneOp_noeff he'] at hyes ⊢
        have hv : valOpP P (M i) (evO P (look (E i) f)) o.op = some (val i) := by
          cases hv : valOpP P (M i) (evO P (look (E i) f)) o.op with
          | none => rw [hv] at hyes; simp at hyes
          | some v =>
            rw [hv] at hyes
            simp only [Option.map_some, Option.some.injEq, Prod.mk.injEq] at hyes
            rw [hyes.1]
        have hv2 : valOpP P (M (lastOf ops.toList S ops.toList.length)) (evO P (look (E i) f)) o.op = some (val i) := by
          cases hrd2 : isRead o.op
          · rw [valOpP_heap hrd2 (h' := M i)]; exact hv
          · rw [valOpP_read hrd2] at hv ⊢
            exact read_mem ht hf hc hrd (fun m => valOp P m (evO P (look (E i) f)) o.op = some (val i)) hv (fun x hx hex ha1 ha2 => by
              have hox : ops.toList[x]? = some ops.toList[x] := List.getElem?_eq_getElem hx
              have hex' : isEff ops.toList[x].op = true := by simpa [effAt, hox] using hex
              have hp := hask (i, x) (pairs_mem ho' hox hrd2 hex' ha1 ha2)
              unfold askPair at hp
              rw [ho', ht.at_ i o ho', ht.at_ x _ hox] at hp
              simp only [hWi, cond_true, Bool.and_eq_true] at hp
              constructor
              · have := hp.1
                split at this
                · rename_i v hv3
                  rw [hv3, veq_eq this]
                · cases this
              · have := hp.2
                split at this
                · rename_i v hv3
                  rw [hv3, veq_eq this]
                · cases this)
        rw [hv2]
        rfl
      · obtain ⟨g1, g2⟩ := eff_mem ht hrd hec (her he) he
        rw [g1, g2, hyes, eff_last hrd hec he]
    refine oneOp_sound hcall hnn hs hopok hnd1 hnow (fun r' a' w' T' hT' hs' st' hz => ?_)
    have e1 : T' = putT T o.dst (val i) := funext hT'
    rw [e1] at hs'
    obtain ⟨z, _, hz⟩ := hz
    exact hK r' a' w' hs' st' ⟨z, hz⟩

/-- What holds while a region's operations come up. -/
def Mid (P : Program) (w0 : World) (nb n : Nat) (f : Fr) (L : List Oper) (E : Nat → Env) (val : Nat → V) (D : Nat → Ds) (M : Nat → H) (r0 : Emb) (hh : H) (w00 : World) (S : Nat → Bool) (a : Act) (w : World) : Prop :=
  ∃ B pl r T, Pre P w0 nb n f L E val D M r0 hh w00 S B pl r T a w ∧ ∀ q ∈ pl, ∃ x, x < q.p ∧ effAt L x = true ∧ S x = false

omit hcall hnn hok hnd h0 hask ht hf in
/-- Of those that wait and need not, the first. -/
theorem first_done {S : Nat → Bool} : ∀ (m : Nat) (pl : List PdR) (q : PdR), q.p < m → q ∈ pl → (∀ x, x < q.p → effAt ops.toList x = true → S x = true) →
    ∃ y ∈ pl, (∀ x, x < y.p → effAt ops.toList x = true → S x = true) ∧ ∀ x ∈ pl, x.p < y.p → ∃ e, e < x.p ∧ effAt ops.toList e = true ∧ S e = false := by
  intro m
  induction m with
  | zero => intro pl q h; omega
  | succ m ih =>
    intro pl q hlt hm hall
    by_cases hx : ∃ x ∈ pl, x.p < q.p ∧ ∀ e, e < x.p → effAt ops.toList e = true → S e = true
    · obtain ⟨x, hx1, hx2, hx3⟩ := hx
      exact ih pl x (by omega) hx1 hx3
    · refine ⟨q, hm, hall, fun x hx1 hx2 => ?_⟩
      refine Classical.byContradiction fun hno => hx ⟨x, hx1, hx2, fun e he1 he2 => ?_⟩
      cases hs : S e
      · exact (hno ⟨e, he1, he2, hs⟩).elim
      · rfl

omit hcall hnn hok hnd h0 hask in
theorem mid_of {S : Nat → Bool} (hc : Closed ops.toList S) {a : Act} {w : World} : ∀ (m : Nat) {B : Nat → Bool} {pl : List PdR} {r : Emb} {T : Tm}, pl.length ≤ m → Pre P w0 nb n f ops.toList E val D M r0 hh w00 S B pl r T a w →
    Mid P w0 nb n f ops.toList E val D M r0 hh w00 S a w := by
  intro m
  induction m with
  | zero =>
    intro B pl r T hlen hp
    refine ⟨B, pl, r, T, hp, fun q hq => ?_⟩
    have : pl = [] := List.eq_nil_of_length_eq_zero (by omega)
    rw [this] at hq
    cases hq
  | succ m ih =>
    intro B pl r T hlen hp
    by_cases hm : ∃ q ∈ pl, ∀ x, x < q.p → effAt ops.toList x = true → S x = true
    · obtain ⟨q0, hq0, hall0⟩ := hm
      obtain ⟨q, hq, hall, hmin⟩ := first_done (S := S) (ops := ops) (q0.p + 1) pl q0 (by omega) hq0 hall0
      have hfull : ∀ x, x < q.p → effAt ops.toList x = true → B x = true := fun x hx he => by
        rcases (hp.set x).1 (hall x hx he) with h1 | ⟨y, hy, rfl⟩
        · exact h1
        · obtain ⟨e, e1, e2, e3⟩ := hmin y hy hx
          rw [hall e (by omega) e2] at e3
          cases e3
      obtain ⟨l1, l2, hpl⟩ := List.append_of_mem hq
      obtain ⟨r', hp'⟩ := adopt ht hf hc hp hpl hfull
      refine ih ?_ hp'
      rw [hpl] at hlen
      simp only [List.length_append, List.length_cons] at hlen ⊢
      omega
    · refine ⟨B, pl, r, T, hp, fun q hq => ?_⟩
      refine Classical.byContradiction fun hno => hm ⟨q, hq, fun x hx he => ?_⟩
      cases hs : S x
      · exact (hno ⟨x, hx, he, hs⟩).elim
      · rfl

/-- One operation more. -/
theorem mid_step (hw0 : w0.heap.size ≤ w00.heap.size) {S : Nat → Bool} (hc : Closed ops.toList S) {i : Nat} (hrdS : Ready ops.toList S i) (hc' : Closed ops.toList (fun k => Nat.beq k i || S k)) {a : Act} {w : World}
    (hm : Mid P w0 nb n f ops.toList E val D M r0 hh w00 S a w) {K : Act → World → Prop} (hK : ∀ a' w', Mid P w0 nb n f ops.toList E val D M r0 hh w00 (fun k => Nat.beq k i || S k) a' w' → K a' w') : wpOpIn (wideR ro) 0 P ops Q i K a w := by
  obtain ⟨o, ho'⟩ : ∃ o, ops.toList[i]? = some o := ⟨_, List.getElem?_eq_getElem hrdS.lt⟩
  obtain ⟨B, pl, r, T, hp, hmiss⟩ := hm
  -- it does not hang on one that waits
  have hnob : ∀ q ∈ pl, ahead (masks ops.toList []) q.p i = false := fun q hq => by
    cases ha : ahead (masks ops.toList []) q.p i
    · rfl
    · exfalso
      have pd := hp.pds q hq
      obtain ⟨x0, hx0, hex0, hsx0⟩ := hmiss q hq
      have hlt : q.p < ops.toList.length := (List.getElem?_eq_some_iff.1 pd.op).1
      have hox0 : ops.toList[x0]? = some (ops.toList[x0]'(by omega)) := List.getElem?_eq_getElem (by omega)
      obtain ⟨_, _, _, hfar⟩ := hf.float q.p q.o pd.fl pd.op
      rcases hfar i hrdS.lt ha x0 _ hx0 hox0 (by simpa [effAt, hox0] using hex0) with h1 | h1
      · have := closed_ahead hc _ x0 h1 ((hp.set _).2 (.inr ⟨q, hq, rfl⟩))
        rw [hsx0] at this
        cases this
      · have := hrdS.before x0 h1
        rw [hsx0] at this
        cases this
  have hBi : B i = false := by
    cases hb : B i
    · rfl
    · have := (hp.set i).2 (.inl hb)
      rw [hrdS.not] at this
      cases this
  have hne : ∀ q ∈ pl, i ≠ q.p := fun q hq e => by
    have := (hp.set i).2 (.inr ⟨q, hq, e.symm⟩)
    rw [hrdS.not] at this
    cases this
  have hrd : Ready ops.toList B i := ⟨hBi, hrdS.lt, fun x hx => by
    rcases (hp.set x).1 (hrdS.before x hx) with h1 | ⟨q, hq, rfl⟩
    · exact h1
    · rw [hnob q hq] at hx
      cases hx⟩
  have huntouched : ∀ q ∈ pl, ∀ t', (t' ∈ readsOf ops.toList o ∨ o.dst = some t') → q.u ≠ t' := by
    intro q hq t' ht' e
    subst e
    have pd := hp.pds q hq
    have := hf.slots q.p i q.o o q.u (fun e => hne q hq e.symm) pd.op ho' pd.dst ht'
    by_cases hlt : q.p < i
    · rw [if_pos hlt, hnob q hq] at this
      cases this
    · rw [if_neg hlt] at this
      have := closed_ahead hc _ i this ((hp.set _).2 (.inr ⟨q, hq, rfl⟩))
      rw [hrdS.not] at this
      cases this
  have hTr : ∀ t, t ∈ readsOf ops.toList o → T t = slotsOf f ops.toList val B ops.toList.length t := fun t ht' => hp.tm t (fun q hq => huntouched q hq t (.inl ht'))
  by_cases hdec : isFl ops.toList (masks ops.toList []) i = true ∧ ∃ x, x < i ∧ effAt ops.toList x = true ∧ B x = false
  · -- ahead of its turn
    obtain ⟨hfl, -⟩ := hdec
    obtain ⟨hal, hg, ⟨u, hu⟩, _⟩ := hf.float i o hfl ho'
    have hWi := float_want ht ho' hg
    have hyes := ht.yes _ o ho' hWi
    rw [newOf_oneOp hal] at hyes
    have ho : ops[i]? = some o := by rw [← Array.getElem?_toList]; exact ho'
    have hwant : Region.wanted o (yielded ops a.tmps) = true := wantedV_sound hp.st (by rw [hg]; rfl)
    have hdst : ∀ v, o.dst = some v → v < n := by
      intro v e2
      rw [List.all_eq_true] at hok
      have := hok o (List.mem_of_getElem? ho')
      unfold opOk at this
      rw [e2] at this
      simpa [Nat.blt_eq] using this
    -- the operation sees what it saw
    have hreads : ∀ t, Operand.tmp t ∈ o.op.operands.toList → T t = look (E i) f t := fun t hm => by
      have htr : t ∈ readsOf ops.toList o := by
        unfold readsOf
        rw [List.mem_append]
        left
        rw [List.mem_filterMap]
        exact ⟨_, hm, rfl⟩
      rw [hTr t htr, slots_read hf hp.closed hrd ho' (.inl htr), look_slots ht h0 t i (by have := hrd.lt; omega)]
    cases hz : newOf P (evO P (look (E i) f)) o.op with
    | none => rw [hz] at hyes; simp at hyes
    | some q =>
      obtain ⟨zs, t, k⟩ := q
      have hz2 := hz
      rw [← newOf_congr hreads] at hz2
      obtain ⟨z, h4, hrun, hroom⟩ := newOf_run (w := w) (erel_of hp.st) hz2
      unfold wpOpIn
      rw [ho]
      simp only
      rw [hwant, if_pos rfl]
      refine ⟨fun _ _ => trivial, ?_⟩
      show o.uponIn (wideR ro) 0 P a K Q ((o.semAt ro a.eval).run P w)
      rw [Oper.semAt_eq _ _ _ (fun c hc => by rw [hc] at hal; cases hal), hrun]
      have hex := Step.extra hp.st.rel z t
      have hput := hp.st.put (dst := o.dst) (v := .any) (z := newAt k w.heap.size) hex (.any _) hdst (fun _ => rfl)
      refine hK _ _ (mid_of ht hf hc' _ (Nat.le_refl _) (B := B) (pl := ⟨i, o, u, w.heap.size, t, k, z, zs⟩ :: pl) (r := r) ⟨fun k' => ?_, ?_, fun y hy => ?_, hp.closed, hp.ec, hput, hp.step.trans hex, fun t' ht' => ?_⟩)
      · simp only [Bool.or_eq_true, List.mem_cons]
        constructor
        · rintro (h1 | h1)
          · exact .inr ⟨_, .inl rfl, (Nat.eq_of_beq_eq_true h1).symm⟩
          · rcases (hp.set k').1 h1 with h2 | ⟨y, h2, h3⟩
            · exact .inl h2
            · exact .inr ⟨y, .inr h2, h3⟩
        · rintro (h1 | ⟨y, rfl | h1, h2⟩)
          · exact .inr ((hp.set k').2 (.inl h1))
          · exact .inl (by rw [← h2, Nat.beq_refl])
          · exact .inr ((hp.set k').2 (.inr ⟨y, h1, h2⟩))
      · refine List.pairwise_cons.2 ⟨fun y hy => ⟨hne y hy, fun e => ?_, fun e => huntouched y hy u (.inr hu) e.symm⟩, hp.apart⟩
        have hc2 := (hp.pds y hy).cell
        have : y.b < w.heap.size := (Array.getElem?_eq_some_iff.1 hc2).1
        have e' : w.heap.size = y.b := e
        omega
      · rcases List.mem_cons.1 hy with rfl | hy
        · refine ⟨hfl, hBi, ho', hal, hu, hz, ?_, ?_, hp.step.size, Nat.le_trans hw0 hp.step.size, heap_alloc_new w _, h4, hroom⟩
          · rw [hu]
            show (a.tmps.setIfInBounds u _).getD u undef = _
            rw [Array.getD_eq_getD_getElem?, Array.getElem?_setIfInBounds_self_of_lt (Nat.lt_of_lt_of_le (hdst u hu) hp.st.sz)]
            rfl
          · intro hh2
            exact Nat.lt_irrefl _ (hp.st.rel.held_lt hh2)
        · have py := hp.pds y hy
          refine ⟨py.fl, py.no, py.op, py.is, py.dst, py.nw, ?_, py.held, py.new, py.new0, ?_, py.zero, py.room⟩
          · rw [hu, ← py.tmp]
            show (a.tmps.setIfInBounds u _).getD y.u undef = _
            rw [Array.getD_eq_getD_getElem?, Array.getElem?_setIfInBounds_ne (fun e => huntouched y hy u (.inr hu) e.symm), ← Array.getD_eq_getD_getElem?]
          · rw [heap_alloc_old w _ y.b (Array.getElem?_eq_some_iff.1 py.cell).1]
            exact py.cell
      · have hne2 : u ≠ t' := ht' _ (List.mem_cons_self ..)
        rw [hu, putT_ne (fun e => hne2 (Option.some.inj e))]
        exact hp.tm t' (fun y hy => ht' y (List.mem_cons_of_mem _ hy))
  · -- in its turn
    have her : effAt ops.toList i = true → ∀ x, x < i → effAt ops.toList x = true → B x = true := by
      intro he x hx hex
      cases hfl : isFl ops.toList (masks ops.toList []) i
      · have hxl : x < ops.toList.length := by have := hrd.lt; omega
        have hox : ops.toList[x]? = some ops.toList[x] := List.getElem?_eq_getElem hxl
        exact hrd.before x (hf.chain x i _ o hx hox ho' (by simpa [effAt, hox] using hex) (by simpa [effAt, ho'] using he) hfl)
      · cases hsx : B x
        · exact (hdec ⟨hfl, x, hx, hex, hsx⟩).elim
        · rfl
    refine draw_step hcall hnn hok hnd ht h0 hf hask hp.closed hrd hp.ec her ho' hTr hp.st (fun r' a' w' hs' st' hz => hK a' w' ?_)
    obtain ⟨y, hy⟩ := hz
    refine mid_of ht hf hc' _ (Nat.le_refl _) (B := fun k => Nat.beq k i || B k) (pl := pl) (r := r') ⟨fun k' => ?_, hp.apart, fun q hq => ?_, ?_, ?_, hs', hp.step.trans st', fun t' ht' => ?_⟩
    · simp only [Bool.or_eq_true]
      constructor
      · rintro (h1 | h1)
        · exact .inl (.inl h1)
        · rcases (hp.set k').1 h1 with h2 | h2
          · exact .inl (.inr h2)
          · exact .inr h2
      · rintro ((h1 | h1) | h1)
        · exact .inl h1
        · exact .inr ((hp.set k').2 (.inl h1))
        · exact .inr ((hp.set k').2 (.inr h1))
    · have pd := hp.pds q hq
      refine ⟨pd.fl, by simp [beq_false (fun e => hne q hq e.symm), pd.no], pd.op, pd.is, pd.dst, pd.nw, ?_, ?_, pd.new, pd.new0, ?_, pd.zero.up st'.le, pd.room⟩
      · rw [hy, ← pd.tmp]
        cases hd : o.dst with
        | none => rfl
        | some v =>
          have hvu : v ≠ q.u := fun e => huntouched q hq v (.inr hd) e.symm
          show (a.tmps.setIfInBounds v y).getD q.u undef = _
          rw [Array.getD_eq_getD_getElem?, Array.getElem?_setIfInBounds_ne hvu, ← Array.getD_eq_getD_getElem?]
      · intro hh2
        exact pd.held (st'.held q.b (Array.getElem?_eq_some_iff.1 pd.cell).1 hh2)
      · rw [st'.keep q.b (Array.getElem?_eq_some_iff.1 pd.cell).1 (fun ho => pd.held ho.held)]
        exact pd.cell
    · intro j oj hoj hj e he hb
      simp only [Bool.or_eq_true] at hj ⊢
      rcases hj with hj | hj
      · have hji := Nat.eq_of_beq_eq_true hj
        subst hji
        exact .inr (hrd.before e.on (ahead_edge hoj he hb))
      · exact .inr (hp.closed j oj hoj hj e he hb)
    · intro x y' hxy hex hey hsy
      simp only [Bool.or_eq_true] at hsy ⊢
      rcases hsy with hsy | hsy
      · have := Nat.eq_of_beq_eq_true hsy
        subst this
        exact .inr (her hey x hxy hex)
      · exact .inr (hp.ec x y' hxy hex hey hsy)
    · rw [slots_put (f := f) (val := val) hf hp.closed hrd ho' t']
      by_cases e3 : o.dst = some t'
      · rw [putT_eq e3, putT_eq e3]
      · rw [putT_ne e3, putT_ne e3]
        exact hp.tm t' ht'

variable (hQ : ∀ r' a' w', St P w0 nb n r' (look (E ops.size) f) (D ops.size) (M ops.size) a' w' → Step r0 hh w00 r' (M ops.size) w' → Q .normal a' w')
include hQ

omit hcall hnn hok hnd hf hask in
/-- All done: what the text's order leaves. -/
theorem all_done {S : Nat → Bool} (hall : ∀ k, k < ops.size → S k = true) {a : Act} {w : World} (hm : Mid P w0 nb n f ops.toList E val D M r0 hh w00 S a w) : Q .normal a w := by
  have hlen : ops.toList.length = ops.size := by simp
  obtain ⟨B, pl, r, T, hp, hmiss⟩ := hm
  have hnil : pl = [] := by
    cases pl with
    | nil => rfl
    | cons q l =>
      obtain ⟨x0, hx0, _, hsx0⟩ := hmiss q (List.mem_cons_self ..)
      have h1 : q.p < ops.toList.length := (List.getElem?_eq_some_iff.1 (hp.pds q (List.mem_cons_self ..)).op).1
      have := hall x0 (by omega)
      rw [hsx0] at this
      cases this
  subst hnil
  have hB : ∀ k, k < ops.size → B k = true := fun k hk => by
    rcases (hp.set k).1 (hall k hk) with h1 | ⟨_, h1, _⟩
    · exact h1
    · cases h1
  have hs := hp.st
  have st := hp.step
  have e1 : T = look (E ops.size) f := by
    funext t
    rw [hp.tm t (fun q hq => by cases hq), look_slots ht h0 t ops.size (by rw [hlen]; exact Nat.le_refl _), hlen]
    exact slots_agree ops.size (fun k hk _ => hB k hk)
  rw [hlen] at st hs
  obtain ⟨e2, e3⟩ := mem_same ht (b := lastOf ops.toList B ops.size) ops.size (last_le _ _ _) (by rw [hlen]; exact Nat.le_refl _) (fun x h1 h2 => by
    cases he : effAt ops.toList x
    · rfl
    · have := last_above ops.toList B ops.size x h2 (hB x h2) he
      omega)
  rw [e1, ← e2, ← e3] at hs
  rw [← e2] at st
  exact hQ r a w hs st

omit hcall hnn hok hnd ht h0 hask hQ in
theorem none_ready {listed : Array Bool} (hsz : listed.size = ops.size) (hr : Region.ready .any ops listed = []) : ∀ k, k < ops.size → listedB listed k = true := by
  intro k
  induction k using Nat.strongRecOn with
  | _ k ih =>
    intro hk
    cases hl : listedB listed k
    · have hmem : k ∈ Region.ready .any ops listed := by
        refine mem_ready.2 ⟨?_, ops[k], by simp, fun e he hb => ?_⟩
        · unfold listedB at hl
          rw [Array.getD_eq_getD_getElem?, Array.getElem?_eq_getElem (by omega)] at hl ⊢
          simpa using hl
        · have hlt := hf.back k ops[k] (by simp) e (by simpa using he) hb
          exact ih e.on hlt (by omega)
      rw [hr] at hmem
      cases hmem
    · rfl

theorem draw_any (hw0 : w0.heap.size ≤ w00.heap.size) : ∀ (fuel : Nat) (listed : Array Bool) (a : Act) (w : World), listed.size = ops.size → todo ops.size listed ≤ fuel → Closed ops.toList (listedB listed) →
    Mid P w0 nb n f ops.toList E val D M r0 hh w00 (listedB listed) a w → wpAnyIn (wideR ro) 0 P .any ops Q fuel listed a w := by
  intro fuel
  have hlen : ops.toList.length = ops.size := by simp
  induction fuel with
  | zero =>
    intro listed a w hsz htd hc hm
    have hall : ∀ k, k < ops.size → listedB listed k = true := by
      intro k hk
      cases hl : listedB listed k
      · have : 0 < todo ops.size listed := List.countP_pos_iff.2 ⟨k, List.mem_range.2 hk, by rw [hl]; rfl⟩
        omega
      · rfl
    refine ⟨?_, all_done ht h0 hQ hall hm⟩
    apply List.eq_nil_iff_forall_not_mem.2
    intro i hi
    obtain ⟨h1, o, ho, _⟩ := mem_ready.1 hi
    have hlt : i < ops.size := (Array.getElem?_eq_some_iff.1 ho).1
    have h2 := hall i hlt
    unfold listedB at h2
    rw [Array.getD_eq_getD_getElem?, Array.getElem?_eq_getElem (by omega)] at h1 h2
    simp at h1 h2
    rw [h1] at h2
    cases h2
  | succ fuel ih =>
    intro listed a w hsz htd hc hm
    refine ⟨fun hr => all_done ht h0 hQ (none_ready hf hsz hr) hm, fun i hi => ?_⟩
    obtain ⟨h1, o, ho, hedge⟩ := mem_ready.1 hi
    have hlt : i < ops.size := (Array.getElem?_eq_some_iff.1 ho).1
    have ho' : ops.toList[i]? = some o := by rw [Array.getElem?_toList]; exact ho
    have hnot : listedB listed i = false := by
      unfold listedB
      rw [Array.getD_eq_getD_getElem?, Array.getElem?_eq_getElem (by omega)] at h1 ⊢
      simpa using h1
    have hrd : Ready ops.toList (listedB listed) i := by
      refine ⟨hnot, by omega, fun x hx => ?_⟩
      obtain ⟨o2, e, he1, he2, he3, he4⟩ := ahead_step hx
      rw [ho'] at he1
      cases he1
      have h2 : listedB listed e.on = true := hedge e (by simpa using he2) he3
      rcases he4 with rfl | ⟨_, he4⟩
      · exact h2
      · exact closed_ahead hc e.on x he4 h2
    -- the set with i in it
    have hS : listedB (listed.setIfInBounds i true) = fun k => Nat.beq k i || listedB listed k := funext fun k => listed_set (by omega) k
    have hc' : Closed ops.toList (listedB (listed.setIfInBounds i true)) := by
      intro j oj hoj hj e he hb
      rw [hS] at hj ⊢
      simp only [Bool.or_eq_true] at hj ⊢
      rcases hj with hj | hj
      · have hji := Nat.eq_of_beq_eq_true hj
        subst hji
        rw [ho'] at hoj
        cases hoj
        exact .inr (hedge e (by simpa using he) hb)
      · exact .inr (hc j oj hoj hj e he hb)
    have htd' : todo ops.size (listed.setIfInBounds i true) ≤ fuel := by
      have : todo ops.size (listed.setIfInBounds i true) < todo ops.size listed := by
        refine countP_lt (List.mem_range.2 hlt) (by rw [hnot]; rfl) (by rw [hS]; simp) (fun k hk => ?_)
        rw [hS] at hk
        simp only [Bool.not_eq_true', Bool.or_eq_false_iff] at hk
        rw [hk.2]; rfl
      omega
    have hsz' : (listed.setIfInBounds i true).size = ops.size := by simp [hsz]
    refine mid_step hcall hnn hok hnd ht h0 hf hask hw0 hc hrd (by rw [← hS]; exact hc') hm (fun a' w' hm' => ih _ a' w' hsz' htd' hc' ?_)
    rw [hS]
    exact hm'
end

/-- A REGION THAT DRAWS ITS ORDER: the evaluator is right. -/
theorem draw_order {ro : Option Nat} {w0 : World} (hnn : NoNum P) (call : CallFn) (hcall : CallFnOk P w0 call) (nb n : Nat) (f : Fr) (ops : Array Oper) (e' : Env) (d d' : Ds) (h h' : H) (r : Emb) (a : Act) (w : World) (Q : Exit → Act → World → Prop)
    (hdo : drawOk ops.toList = true) (hok : ops.toList.all (opOk n) = true) (hnd : ro = none ∨ ops.toList.all opNd = true) (hs : St P w0 nb n r (fget f) d h a w) (he : evDraw P call f (pairs ops.toList) ops.toList d h = .ok e' d' h')
    (hQ : ∀ r' a' w', St P w0 nb n r' (look e' f) d' h' a' w' → Step r h w r' h' w' → Q .normal a' w') : wpAnyIn (wideR ro) 0 P .any ops Q ops.size (Array.replicate ops.size false) a { w with drawn := w.drawn + 1 } := by
  unfold evDraw at he
  split at he
  · rename_i tr htr
    cases ha : askPairs P f ops.toList tr (pairs ops.toList)
    · rw [ha] at he; cases he
    · rw [ha] at he
      simp only [cond_true] at he
      obtain ⟨E, D, M, val, W, e0, d0, m0, ht⟩ := trace_of ops.toList [] d h tr htr
      have hl := lastTr_of ops.toList tr E D M val W ht
      rw [e0, d0, m0, he] at hl
      simp only [RO.ok.injEq] at hl
      have hlen : ops.toList.length = ops.size := by simp
      rw [hlen] at hl
      obtain ⟨rfl, rfl, rfl⟩ := hl
      have hf := facts_of hdo
      have hS : ∀ k, listedB (Array.replicate ops.size false) k = false := fun k => by
        unfold listedB
        rw [Array.getD_eq_getD_getElem?, Array.getElem?_replicate]
        by_cases hk : k < ops.size <;> simp [hk]
      have hslot : ∀ m t, slotsOf f ops.toList val (listedB (Array.replicate ops.size false)) m t = fget f t := by
        intro m t
        have := slots_const (f := f) (L := ops.toList) (val := val) (S := listedB (Array.replicate ops.size false)) (t := t) (a := 0) m (Nat.zero_le _) (fun k _ _ hk => by rw [hS k] at hk; cases hk)
        rw [this]
        rfl
      have hlast : lastOf ops.toList (listedB (Array.replicate ops.size false)) ops.size = 0 := by
        rcases last_is ops.toList (listedB (Array.replicate ops.size false)) ops.size with h1 | ⟨y, _, _, h3, _⟩
        · exact h1
        · rw [hS y] at h3; cases h3
      have hw : St P w0 nb n r (fget f) d h a { w with drawn := w.drawn + 1 } := ⟨hs.rel.drew _, hs.gl, ⟨hs.base.same, hs.base.own, hs.base.size⟩, hs.tm, hs.ds, ⟨hs.mks.1, MarksOk.heap (w := w) (w' := { w with drawn := w.drawn + 1 }) rfl hs.mks.2⟩, hs.sz⟩
      refine draw_any hcall hnn hok hnd ht e0 hf (askPairs_mem ha) (r0 := r) (hh := h) (w00 := w) hQ hs.base.size ops.size _ a _ (by simp) ?_ ?_ ⟨listedB (Array.replicate ops.size false), [], r, fget f, ⟨fun k => (by simp), .nil, fun q hq => (by cases hq), ?_, ?_, ?_, ?_, fun t _ => (hslot _ t).symm⟩, fun q hq => (by cases hq)⟩
      · exact Nat.le_trans List.countP_le_length (by simp)
      · intro j o _ hj
        rw [hS j] at hj
        cases hj
      · intro j o _ hj
        rw [hS j] at hj
        cases hj
      · intro x y _ _ _ hsy
        rw [hS y] at hsy
        cases hsy
      · rw [hlen, hlast, d0, m0]
        exact hw
      · rw [hlen, hlast, m0]
        exact Step.drew hs.rel _
  · cases he

theorem draw_sound (hm : P.follows .mixedOrders = true) {w0 : World} (hnn : NoNum P) (call : CallFn) (hcall : CallFnOk P w0 call) : DrawSound P w0 call := by
  intro ro nb n f ops L id e' d d' h h' r a w Q hL hok hnd hs he hQ
  refine wpIn_region_any hm ?_
  unfold drawList at hL
  cases hdo : drawOk ops.toList
  · rw [hdo] at hL
    simp only [cond_false] at hL
    generalize latePi ops.toList = π at hL
    generalize invOf ops.toList.length π = σ at hL
    cases hp : permOk ops.toList π σ && drawOk (permL ops.toList π σ)
    · rw [hp] at hL; cases hL
    · rw [hp] at hL
      simp only [cond_true, Option.some.injEq] at hL
      subst hL
      simp only [Bool.and_eq_true] at hp
      have hpo := permOf_of hp.1
      have hok' : (permL ops.toList π σ).toArray.toList.all (opOk n) = true := by
        rw [List.all_eq_true] at hok ⊢
        intro o ho
        have ho2 : o ∈ permL ops.toList π σ := by simpa using ho
        unfold permL at ho2
        obtain ⟨i, hi, rfl⟩ := List.mem_map.1 ho2
        show opOk n (ops.toList.getD i default) = true
        rw [List.getD_eq_getElem?_getD]
        cases hq : ops.toList[i]? with
        | none => rfl
        | some q => exact hok q (List.mem_of_getElem? hq)
      have hnd' : ro = none ∨ (permL ops.toList π σ).toArray.toList.all opNd = true := hnd.imp (fun q => q) (fun hh => by
        rw [List.all_eq_true] at hh ⊢
        intro o ho
        have ho2 : o ∈ permL ops.toList π σ := by simpa using ho
        unfold permL at ho2
        obtain ⟨i, hi, rfl⟩ := List.mem_map.1 ho2
        show opNd (ops.toList.getD i default) = true
        rw [List.getD_eq_getElem?_getD]
        cases hq : ops.toList[i]? with
        | none => rfl
        | some q => exact hh q (List.mem_of_getElem? hq))
      have := draw_order hnn call hcall nb n f (permL ops.toList π σ).toArray e' d d' h h' r a w Q (by simpa using hp.2) hok' hnd' hs (by simpa using he) hQ
      rw [hpo.size] at this
      refine perm_any hpo ops.size _ _ a _ (by simp) (by simp) (fun i hi => ?_) this
      obtain ⟨g1, _⟩ := hpo.si i hi
      rw [Array.getD_eq_getD_getElem?, Array.getD_eq_getD_getElem?, Array.getElem?_replicate, Array.getElem?_replicate, if_pos g1, if_pos hi]
  · rw [hdo] at hL
    simp only [cond_true, Option.some.injEq] at hL
    subst hL
    exact draw_order hnn call hcall nb n f ops e' d d' h h' r a w Q hdo hok hnd hs he hQ

end Go.Ev

namespace Go.Ev

variable {P : Program}

/-- A heap at which a run may begin: it owns nothing. -/
structure Begin (P : Program) (w0 : World) (r0 : Emb) (h0 : H) : Prop where
  gl : GRel P r0
  rel : ∀ w : World, (∀ b, b < w0.heap.size → w.heap[b]? = w0.heap[b]?) → Rel r0 h0 w
  none : ∀ b, ¬ Own r0 h0 b

theorem Begin.base {w0 w : World} {r0 : Emb} {h0 : H} (hb : Begin P w0 r0 h0) (h1 : ∀ b, b < w0.heap.size → w.heap[b]? = w0.heap[b]?) (h2 : w0.heap.size ≤ w.heap.size) : Base w0 r0 h0 w :=
  ⟨h1, fun b ho => (hb.none b ho).elim, h2⟩

/-- A value that speaks of no block. -/
def plain1 (v : V) : Bool :=
  match v with
  | .bool _ => true
  | .int _ _ => true
  | .str _ _ => true
  | .nilp => true
  | .nils => true
  | .nilFn => true
  | .nilI => true
  | .any => true
  | _ => false
def plains : List V → Bool
  | [] => true
  | v :: vs => plain1 v && plains vs

theorem plain1_turn {r r' : Emb} {v : V} {x : Value} (hp : plain1 v = true) (h : VRel r v x) : VRel r' v x := by
  cases h <;> first | (simp [plain1] at hp; done) | (constructor <;> assumption)
theorem plains_turn {r r' : Emb} : ∀ {vs : List V} {xs : List Value}, plains vs = true → VsRel r vs xs → VsRel r' vs xs := by
  intro vs
  induction vs with
  | nil => intro xs _ h; cases h; exact .nil
  | cons v vs ih =>
    intro xs hp h
    simp only [plains, Bool.and_eq_true] at hp
    cases h with | cons h hs => exact .cons (plain1_turn hp.1 h) (ih hp.2 hs)

/-- Plain, or a tuple or composite of plain ones. -/
def plain3 (v : V) : Bool := match v with | .tup vs => plains vs | .agg vs => plains vs | v => plain1 v
def plain3s : List V → Bool
  | [] => true
  | v :: vs => plain3 v && plain3s vs
def plain4 (v : V) : Bool := match v with | .tup vs => plain3s vs | v => plain3 v
theorem plain3_turn {r r' : Emb} {v : V} {x : Value} (hp : plain3 v = true) (h : VRel r v x) : VRel r' v x := by
  unfold plain3 at hp
  split at hp
  · cases h with | tup h => exact .tup (plains_turn hp h)
  · cases h with | agg h => exact .agg (plains_turn hp h)
  · exact plain1_turn hp h
theorem plain3s_turn {r r' : Emb} : ∀ {vs : List V} {xs : List Value}, plain3s vs = true → VsRel r vs xs → VsRel r' vs xs := by
  intro vs
  induction vs with
  | nil => intro xs _ h; cases h; exact .nil
  | cons v vs ih =>
    intro xs hp h
    simp only [plain3s, Bool.and_eq_true] at hp
    cases h with | cons h hs => exact .cons (plain3_turn hp.1 h) (ih hp.2 hs)
theorem plain4_turn {r r' : Emb} {v : V} {x : Value} (hp : plain4 v = true) (h : VRel r v x) : VRel r' v x := by
  unfold plain4 at hp
  split at hp
  · cases h with | tup h => exact .tup (plain3s_turn hp h)
  · exact plain3_turn hp h

/-- What began with no memory of its own has left each block. -/
theorem Step.left {r0 r0' : Emb} {h0 h' : H} {w w' : World} (hn : ∀ b, ¬ Own r0 h0 b) (st : Step r0 h0 w r0' h' w') {r : Emb} {h : H} (hr : Rel r h w) : Step r h w r h w' := by
  refine ⟨r.le_refl, ⟨fun id hi hl => ?_, hr.inj, hr.new⟩, st.size, fun b hlt _ => st.keep b hlt (hn b), fun b _ ho => ho, fun b _ ho => ho, st.os, st.out, st.tape⟩
  obtain ⟨b, sh, m, h1, h2⟩ := hr.fit id hi hl
  exact ⟨b, sh, m, h1, h2.keep r.le_refl (st.keep b (h2.lt hl) (hn b))⟩

/-- A CALL THAT WAS EVALUATED FROM THE BEGINNING MAY BE USED ANYWHERE. -/
theorem absorb {w0 : World} {r0 : Emb} {h0 h' : H} (hb : Begin P w0 r0 h0) {g : FuncId} {vs : List V} {v u : V} (hc : CallOk P w0 g vs h0 u h') (hvs : plains vs = true) (hv : plain4 v = true)
    (huv : ∀ r x, VRel r u x → VRel r v x) (h : H) : CallOk P w0 g vs h v h := by
  intro r w xs hr hg hba hx
  refine (hc r0 w xs (hb.rel w hba.same) hb.gl (hb.base hba.same hba.size) (plains_turn hvs hx)).mono ?_
  rintro e w' ⟨z, r', rfl, st, hz⟩
  exact ⟨z, r, rfl, st.left hb.none hr, plain4_turn hv (huv _ _ hz)⟩

theorem absorb3 {w0 : World} {r0 : Emb} {h0 h' : H} (hb : Begin P w0 r0 h0) {g : FuncId} {vs : List V} {v : V} (hc : CallOk P w0 g vs h0 v h') (hvs : plain3s vs = true) (hv : plain4 v = true)
    (h : H) : CallOk P w0 g vs h v h := by
  intro r w xs hr hg hba hx
  refine (hc r0 w xs (hb.rel w hba.same) hb.gl (hb.base hba.same hba.size) (plain3s_turn hvs hx)).mono ?_
  rintro e w' ⟨z, r', rfl, st, hz⟩
  exact ⟨z, r, rfl, st.left hb.none hr, plain4_turn hv hz⟩

/-- What a run that began with no memory of its own has done to the world. -/
theorem Begin.grown {w w' : World} {r0 r' : Emb} {h0 h' : H} (hn : ∀ b, ¬ Own r0 h0 b) (st : Step r0 h0 w r' h' w') :
    w.heap.size ≤ w'.heap.size ∧ (∀ b, b < w.heap.size → w'.heap[b]? = w.heap[b]?) ∧ w'.os = w.os ∧ w'.output = w.output ∧ w'.tape = w.tape :=
  ⟨st.size, fun b hlt => st.keep b hlt (hn b), st.os, st.out, st.tape⟩

/-- How many cells a block has. -/
def cellsAt (w : World) (g : Nat) : Nat := match w.heap[g]? with | some (.cells cs _ _) => cs.size | _ => 0

def globEmb (P : Program) (w : World) : Emb := fun g => if g < P.globals.size then some (g, 0, cellsAt w g) else none
theorem globEmb_gl (P : Program) (w : World) : GRel P (globEmb P w) := fun g hlt => ⟨cellsAt w g, by simp [globEmb, hlt]⟩

theorem m4_dead (id : Nat) (h : id < 65536) : m4.blk id = .dead := by
  unfold Mem.blk m4 m3 m2 m1
  have h1 : Nat.div id 4096 < 16 := by show id / 4096 < 16; omega
  have h2 : Nat.mod (Nat.div id 256) 16 < 16 := Nat.mod_lt _ (by omega)
  have h3 : Nat.mod (Nat.div id 16) 16 < 16 := Nat.mod_lt _ (by omega)
  have h4 : Nat.mod id 16 < 16 := Nat.mod_lt _ (by omega)
  rw [T16.get_all _ _ h1, T16.get_all _ _ h2, T16.get_all _ _ h3, T16.get_all _ _ h4]

/-- NO BLOCK KNOWN. -/
theorem begin_none (w0 : World) {N : Nat} (hN : P.globals.size ≤ N) : Begin P w0 (globEmb P w0) ⟨N, m4⟩ where
  gl := globEmb_gl P w0
  rel w _ := by
    refine ⟨fun id hi hl => ?_, fun id id' b sh m sh' m' hl => ?_, fun id hle => ?_⟩
    · rw [m4_dead id hi] at hl; cases hl
    · obtain ⟨hi, hb⟩ := hl
      rw [m4_dead id hi] at hb; cases hb
    · have : N ≤ id := hle
      simp [globEmb, show ¬ id < P.globals.size by omega]
  none b := by
    rintro ⟨id, sh, m, hi, hb, _⟩
    rw [m4_dead id hi] at hb; cases hb

/-- ONE TABLE KNOWN, never written. -/
theorem begin_table (w0 : World) {N k n : Nat} {t : TypeId} {c : Cells} (hN : P.globals.size ≤ N) (hN' : N ≤ 65536) (hk : k < P.globals.size) (hroom : n ≤ c.room) {cs : Array Value} {t' : TypeId} {fz : Nat × Nat}
    (hw : w0.heap[k]? = some (.cells cs t' fz)) (hn : n ≤ cs.size) (hc : ∀ o, o < n → ∃ x, cs[o]? = some x ∧ VRel (globEmb P w0) (c.get o) x) : Begin P w0 (globEmb P w0) ⟨N, m4.put k (.live n t true false c)⟩ where
  gl := globEmb_gl P w0
  rel w hsame := by
    have hk' : k < 65536 := by omega
    have only : ∀ id, id < 65536 → liveB ((m4.put k (.live n t true false c)).blk id) = true → id = k := by
      intro id hi hb
      by_cases e : id = k
      · exact e
      · rw [Mem.blk_put_other _ _ _ _ hk' hi e, m4_dead id hi] at hb; cases hb
    refine ⟨fun id hi hb => ?_, fun id id' b sh m sh' m' hl hl' _ _ _ => ?_, fun id hle => ?_⟩
    · obtain rfl := only id hi hb
      show ∃ b sh m, _ ∧ FitB _ ((m4.put id (.live n t true false c)).blk id) b sh m w
      rw [Mem.blk_put_same _ _ _ hk']
      refine ⟨id, 0, cs.size, by simp [globEmb, hk, cellsAt, hw], ⟨⟨cs, fz, ⟨t', ?_, fun h => Bool.noConfusion h⟩, rfl, fun h => Bool.noConfusion h, fun h => Bool.noConfusion h, fun o ho => by simpa using hc o ho⟩, by omega, hroom, fun h => Bool.noConfusion h⟩⟩
      rw [hsame id (Array.getElem?_eq_some_iff.1 hw).1]
      exact hw
    · rw [only id hl.1 hl.2, only id' hl'.1 hl'.2]
    · have : N ≤ id := hle
      simp [globEmb, show ¬ id < P.globals.size by omega]
  none b := by
    have hk' : k < 65536 := by omega
    rintro ⟨id, sh, m, hi, hb, _⟩
    by_cases e : id = k
    · subst e
      have hb' : ownB ((m4.put id (.live n t true false c)).blk id) = true := hb
      rw [Mem.blk_put_same _ _ _ hk'] at hb'
      cases hb'
    · have hb' : ownB ((m4.put k (.live n t true false c)).blk id) = true := hb
      rw [Mem.blk_put_other _ _ _ _ hk' hi e, m4_dead id hi] at hb'
      cases hb'

/-- ONE TABLE MORE, never written. -/
theorem begin_add {w0 : World} {N k n : Nat} {t : TypeId} {c : Cells} {mm : Mem} (hB : Begin P w0 (globEmb P w0) ⟨N, mm⟩) (hN : P.globals.size ≤ N) (hN' : N ≤ 65536) (hk : k < P.globals.size) (hroom : n ≤ c.room) {cs : Array Value} {t' : TypeId} {fz : Nat × Nat}
    (hw : w0.heap[k]? = some (.cells cs t' fz)) (hn : n ≤ cs.size) (hc : ∀ o, o < n → ∃ x, cs[o]? = some x ∧ VRel (globEmb P w0) (c.get o) x) : Begin P w0 (globEmb P w0) ⟨N, mm.put k (.live n t true false c)⟩ where
  gl := globEmb_gl P w0
  rel w hsame := by
    have hk' : k < 65536 := by omega
    refine ⟨fun id hi hb => ?_, fun id id' b sh m sh' m' _ _ _ h1 h2 => ?_, fun id hle => ?_⟩
    · by_cases e : id = k
      · subst e
        show ∃ b sh m, _ ∧ FitB _ ((mm.put id (.live n t true false c)).blk id) b sh m w
        rw [Mem.blk_put_same _ _ _ hk']
        refine ⟨id, 0, cs.size, by simp [globEmb, hk, cellsAt, hw], ⟨⟨cs, fz, ⟨t', ?_, fun h => Bool.noConfusion h⟩, rfl, fun h => Bool.noConfusion h, fun h => Bool.noConfusion h, fun o ho => by simpa using hc o ho⟩, by omega, hroom, fun h => Bool.noConfusion h⟩⟩
        rw [hsame id (Array.getElem?_eq_some_iff.1 hw).1]
        exact hw
      · have hb' : liveB ((mm.put k (.live n t true false c)).blk id) = true := hb
        show ∃ b sh m, _ ∧ FitB _ ((mm.put k (.live n t true false c)).blk id) b sh m w
        rw [Mem.blk_put_other _ _ _ _ hk' hi e] at hb' ⊢
        exact (hB.rel w hsame).fit id hi hb'
    · unfold globEmb at h1 h2
      split at h1
      · split at h2
        · simp only [Option.some.injEq, Prod.mk.injEq] at h1 h2
          rw [h1.1, h2.1]
        · cases h2
      · cases h1
    · have : N ≤ id := hle
      simp [globEmb, show ¬ id < P.globals.size by omega]
  none b := by
    have hk' : k < 65536 := by omega
    rintro ⟨id, sh, m, hi, hb, hr⟩
    have hb' : ownB ((mm.put k (.live n t true false c)).blk id) = true := hb
    by_cases e : id = k
    · subst e
      rw [Mem.blk_put_same _ _ _ hk'] at hb'
      cases hb'
    · rw [Mem.blk_put_other _ _ _ _ hk' hi e] at hb'
      exact hB.none b ⟨id, sh, m, hi, hb', hr⟩

end Go.Ev

namespace Go.Ev

variable {P : Program}

theorem readFrom_at (c : Cells) (n : Nat) : ∀ (o j : Nat), j < n → (readFrom c o n)[j]? = some (c.get (o + j)) := by
  induction n with
  | zero => intro o j h; omega
  | succ n ih =>
    intro o j h
    cases j with
    | zero => rfl
    | succ j =>
      rw [readFrom, List.getElem?_cons_succ, ih (o + 1) j (by omega), show o + 1 + j = o + (j + 1) by omega]

theorem plains_get {vs : List V} (h : plains vs = true) (j : Nat) (hj : j < vs.length) : plain1 vs[j] = true := by
  induction vs generalizing j with
  | nil => simp at hj
  | cons v vs ih =>
    simp only [plains, Bool.and_eq_true] at h
    cases j with
    | zero => exact h.1
    | succ j => exact ih h.2 j (by simpa using hj)

/-- A CALL FROM THE BEGINNING THAT YIELDS A NEW SLICE OF PLAIN CELLS MAY BE USED ANYWHERE. -/
theorem absorb_slice {w0 : World} {r0 : Emb} {h0 h' : H} (hb : Begin P w0 r0 h0) {g : FuncId} {vs cells : List V} {id n esz : Nat} {t : TypeId} {pl : Bool} {c : Cells}
    (hc : CallOk P w0 g vs h0 (.slice id 0 n n esz) h') (hvs : plains vs = true) (hpos : 0 < n) (hid : id < 65536) (hblk : h'.mem.blk id = .live n t false pl c)
    (hcells : veqs (readFrom c 0 n) cells = true) (hpl : plains cells = true) (hlen : Nat.ble n 4096 = true) (h : H) (hnext : Nat.blt h.next 65536 = true) :
    CallOk P w0 g vs h (.slice h.next 0 n n esz) (h.lay n t pl (cellsOf cells)) := by
  have hcl : cells = readFrom c 0 n := (veqs_eq hcells).symm
  have hl : cells.length = n := by rw [hcl, readFrom_length]
  intro r w xs hr hg hba hx
  refine (hc r0 w xs (hb.rel w hba.same) hb.gl (hb.base hba.same hba.size) (plains_turn hvs hx)).mono ?_
  rintro e w' ⟨z, r', rfl, st, hz⟩
  obtain ⟨b, sh, m, hr1, hf⟩ := st.rel.blk id n t false pl c hid hblk
  have hge : w.heap.size ≤ b := by
    apply Nat.le_of_not_lt
    intro hlt
    exact hb.none b (st.own b hlt (own_of hid hblk hr1))
  have hn4 : n ≤ 4096 := Nat.le_of_ble_eq_true hlen
  have hnx : h.next < 65536 := by rwa [Nat.blt_eq] at hnext
  have hle := r.le_put h.next (b, sh, m) (hr.new _ (Nat.le_refl _))
  have hfit : Fits (r.put h.next (b, sh, m)) n t false pl (cellsOf cells) b sh m w' := by
    obtain ⟨⟨cs, fz, h2, h3, h4, h5, h6⟩, h7, h8, h9⟩ := hf
    refine ⟨⟨cs, fz, h2, h3, h4, h5, fun o ho => ?_⟩, h7, by rw [← hl]; exact cellsOf_room _ (by rw [hl]; exact hn4), h9⟩
    obtain ⟨x, hx1, hx2⟩ := h6 o ho
    refine ⟨x, hx1, ?_⟩
    have ho' : o < cells.length := by rw [hl]; exact ho
    rw [cellsOf_get cells (by rw [hl]; exact hn4) o ho']
    have he : cells[o] = c.get o := by
      have h1 := readFrom_at c n 0 o ho
      rw [← hcl, List.getElem?_eq_getElem ho', Nat.zero_add] at h1
      exact Option.some.inj h1
    have hp := plains_get hpl o ho'
    rw [he] at hp ⊢
    exact plain1_turn hp hx2
  cases hz with
  | slice0 => omega
  | slice g1 g2 g3 g4 =>
    rw [hr1] at g1
    cases g1
    refine ⟨_, r.put h.next (b, sh, m), rfl, ?_, .slice (Emb.put_same _ _ _) g2 g3 g4⟩
    exact Step.lay hr (fun _ ho => ho) (fun _ ho => ho) hnx (fun i sh' m' hl' e => by have := hr.lt hl' e; omega) (fun hlt => by omega) (fun k hk _ => st.keep k hk (hb.none k)) st.size st.os st.out st.tape hfit

/-- strings.HasPrefix of numbers. -/
def prefN (n l m k : Nat) : Bool := bif Nat.ble k l then Nat.beq (Nat.mod n (Nat.pow 256 k)) m else false

theorem prefN_eq {n l m k : Nat} (hm : m < 256 ^ k) : (sdec m k).isPrefixOf (sdec n l) = prefN n l m k := by
  unfold prefN
  rw [Bool.eq_iff_iff, List.isPrefixOf_iff_prefix, List.prefix_iff_eq_take, sdec_length]
  cases hkl : Nat.ble k l
  · have : ¬ k ≤ l := fun h => by rw [Nat.ble_eq_true_of_le h] at hkl; cases hkl
    simp only [cond_false, Bool.false_eq_true, iff_false]
    intro h
    have := congrArg List.length h
    rw [sdec_length, List.length_take, sdec_length] at this
    omega
  · have hk : k ≤ l := Nat.le_of_ble_eq_true hkl
    have hp := sdec_piece n l 0 k hk (Nat.zero_le _)
    simp only [Nat.pow_zero, Nat.div_one, Nat.sub_zero, List.drop_zero] at hp
    rw [← hp]
    simp only [cond_true]
    constructor
    · intro h
      have := sdec_inj k _ _ hm (Nat.mod_lt _ (Nat.pow_pos (by omega))) h
      exact Nat.beq_eq ▸ this.symm
    · intro h
      have := Nat.eq_of_beq_eq_true h
      rw [← this]
      rfl

theorem vsrel2 {r : Emb} {n l m k : Nat} {xs : Array Value} (h : VsRel r [.str n l, .str m k] xs.toList) : n < 256 ^ l ∧ m < 256 ^ k ∧ xs = #[.string (sval n l), .string (sval m k)] := by
  obtain ⟨xs⟩ := xs
  cases h with
  | cons h1 h =>
    cases h with
    | cons h2 h =>
      cases h
      cases h1 with
      | str h1 =>
        cases h2 with
        | str h2 => exact ⟨h1, h2, rfl⟩

def prefV : List V → Option V
  | [.str n l, .str m k] => some (.bool (prefN n l m k))
  | _ => none
theorem prefV_sound {w0 : World} {g : FuncId} (hc : ∀ (s p : ByteArray) (w : World), Calls P g #[.string s, .string p] w fun e w' => e = .returned (.bool (p.data.toList.isPrefixOf s.data.toList)) ∧ w' = w)
    {vs : List V} {v : V} (he : prefV vs = some v) (h : H) : CallOk P w0 g vs h v h := by
  unfold prefV at he
  split at he
  · rename_i n l m k
    simp only [Option.some.injEq] at he
    subst he
    intro r w xs hr hg hba hx
    obtain ⟨h1, h2, rfl⟩ := vsrel2 hx
    refine (hc _ _ w).mono ?_
    rintro e w' ⟨rfl, rfl⟩
    refine ⟨_, r, rfl, Step.refl hr, ?_⟩
    have : (sval m k).data.toList.isPrefixOf (sval n l).data.toList = prefN n l m k := prefN_eq h2
    rw [this]
    exact .bool _
  · cases he

def contV : List V → Option V
  | [.str n l, .str m k] => bif Nat.blt l 4294967281 then some (.bool (Lib.contains (sdec n l) (sdec m k))) else none
  | _ => none
theorem contV_sound {w0 : World} {g : FuncId} (hc : ∀ (s p : ByteArray) (w : World), s.size < 4294967281 → (∀ b, b < w0.heap.size → w.heap[b]? = w0.heap[b]?) →
      Calls P g #[.string s, .string p] w fun e w' => e = .returned (.bool (Lib.contains s.data.toList p.data.toList)) ∧ w' = w)
    {vs : List V} {v : V} (he : contV vs = some v) (h : H) : CallOk P w0 g vs h v h := by
  unfold contV at he
  split at he
  · rename_i n l m k
    cases hb : Nat.blt l 4294967281
    · rw [hb] at he; cases he
    · rw [hb] at he
      simp only [cond_true, Option.some.injEq] at he
      subst he
      intro r w xs hr hg hba hx
      obtain ⟨h1, h2, rfl⟩ := vsrel2 hx
      refine (hc _ _ w (by rw [sval_size]; rwa [Nat.blt_eq] at hb) hba.same).mono ?_
      rintro e w' ⟨rfl, rfl⟩
      exact ⟨_, r, rfl, Step.refl hr, .bool _⟩
  · cases he

def noNumB (fn : Func) : Bool := match fn.body with | some _ => !(fn.name == "runtime.NumGoroutine") | none => true
theorem noNum_of (h : P.funcs.toList.all noNumB = true) (hz : Nat.ble P.funcs.size yieldG = true) (hp : PureOk P) : NoNum P := by
  refine ⟨fun f fn hf hb => ?_, Nat.le_of_ble_eq_true hz, hp⟩
  have hm : fn ∈ P.funcs.toList := by
    have := Array.mem_of_getElem? hf
    simpa using this
  have := List.all_eq_true.1 h fn hm
  unfold noNumB at this
  cases hbd : fn.body with
  | none => rw [hbd] at hb; cases hb
  | some c => rw [hbd] at this; simpa using this
def progOkB (fn : Func) : Bool := match fn.body with | some c => codeOk fn.ntmps c | none => true
theorem progOk_of (h : P.funcs.toList.all progOkB = true) : ProgOk P := by
  intro f fn c hf hb
  have hm : fn ∈ P.funcs.toList := by
    have := Array.mem_of_getElem? hf
    simpa using this
  have := List.all_eq_true.1 h fn hm
  unfold progOkB at this
  rw [hb] at this
  exact this

end Go.Ev

namespace Go.Ev

variable {P : Program}

theorem post_mono {w0 : World} {nb n m : Nat} {r r1 : Emb} {h h1 : H} {w w1 : World} {x : X} {f2 : Fr} {d2 : Ds} {h2 : H} (st : Step r h w r1 h1 w1) {e : Exit} {a : Act} {w2 : World}
    (hp : Post P w0 nb n m r1 h1 w1 x f2 d2 h2 e a w2) : Post P w0 nb n m r h w x f2 d2 h2 e a w2 :=
  let ⟨p, q, r2, s2, t2⟩ := hp
  ⟨p, q, r2, s2, st.trans t2⟩

/-- A first piece, then the rest. -/
theorem post_seq {w0 : World} {nb n m m' fuel : Nat} {call : CallFn} (hcall : CallFnOk P w0 call) (hnn : NoNum P) (hdraw : DrawSound P w0 call) {p q : Code} {f f1 f2 : Fr} {d d1 d2 : Ds} {h h1 h2 : H} {x : X}
    (he : den P call m fuel p f d h = .ok .norm f1 d1 h1) (hok : codeOk n p = true)
    (hq : ∀ (r1 : Emb) (a1 : Act) (w1 : World), Dim m f1 → St P w0 nb n r1 (fget f1) d1 h1 a1 w1 → q.wp P (Post P w0 nb n m' r1 h1 w1 x f2 d2 h2) a1 w1)
    (r : Emb) (a : Act) (w : World) (hd : Dim m f) (hs : St P w0 nb n r (fget f) d h a w) : (Code.seq p q).wp P (Post P w0 nb n m' r h w x f2 d2 h2) a w := by
  refine wp_seq (wp_mono (wpIn_wide.1 (den_sound (ro := none) hcall hnn hdraw p f f1 d d1 h h1 .norm r a w hok (.inl rfl) hd hs he)) ?_)
  rintro e a1 w1 ⟨hx, hd1, r1, hs1, st1⟩
  have e1 : e = .normal := hx
  subst e1
  exact wp_mono (hq r1 a1 w1 hd1 hs1) (fun e a w hp => post_mono st1 hp)

/-- A first piece that is known to leave what it leaves, then the rest. -/
theorem post_then {w0 : World} {nb n m m' : Nat} {p q : Code} {f1 f2 : Fr} {d1 d2 : Ds} {h h1 h2 : H} {x : X} {r : Emb} {a : Act} {w : World} (hp : p.wp P (Post P w0 nb n m r h w .norm f1 d1 h1) a w)
    (hq : ∀ (r1 : Emb) (a1 : Act) (w1 : World), Dim m f1 → St P w0 nb n r1 (fget f1) d1 h1 a1 w1 → q.wp P (Post P w0 nb n m' r1 h1 w1 x f2 d2 h2) a1 w1) : (Code.seq p q).wp P (Post P w0 nb n m' r h w x f2 d2 h2) a w := by
  refine wp_seq (wp_mono hp ?_)
  rintro e a1 w1 ⟨hx, hd1, r1, hs1, st1⟩
  have e1 : e = .normal := hx
  subst e1
  exact wp_mono (hq r1 a1 w1 hd1 hs1) (fun e a w hp => post_mono st1 hp)

/-- The last piece. -/
theorem post_last {w0 : World} {nb n m fuel : Nat} {call : CallFn} (hcall : CallFnOk P w0 call) (hnn : NoNum P) (hdraw : DrawSound P w0 call) {q : Code} {f f2 : Fr} {d d2 : Ds} {h h2 : H} {x : X}
    (he : den P call m fuel q f d h = .ok x f2 d2 h2) (hok : codeOk n q = true) (r : Emb) (a : Act) (w : World) (hd : Dim m f) (hs : St P w0 nb n r (fget f) d h a w) : q.wp P (Post P w0 nb n m r h w x f2 d2 h2) a w :=
  wpIn_wide.1 (den_sound (ro := none) hcall hnn hdraw q f f2 d d2 h h2 x r a w hok (.inl rfl) hd hs he)

/-- Less may be known. -/
theorem St.less {w0 : World} {nb n : Nat} {r : Emb} {f f' : Fr} {d : Ds} {h : H} {a : Act} {w : World} (hs : St P w0 nb n r (fget f) d h a w) (hl : ∀ t, fget f' t = fget f t ∨ fget f' t = .any) : St P w0 nb n r (fget f') d h a w :=
  ⟨hs.rel, hs.gl, hs.base, fun t => by
    rcases hl t with e | e
    · rw [e]; exact hs.tm t
    · rw [e]; exact .any _, hs.ds, hs.mks, hs.sz⟩
theorem less_fset {f : Fr} {i : Nat} (t : Nat) : fget (fset f i .any) t = fget f t ∨ fget (fset f i .any) t = .any := by
  by_cases hi : i < 4096
  · rw [fget_fset _ _ _ _ hi]
    by_cases e : t = i
    · exact Or.inr (if_pos e)
    · exact Or.inl (if_neg e)
  · have : Nat.blt i 4096 = false := by rw [← Bool.not_eq_true, Nat.blt_eq]; exact hi
    left
    unfold fset
    rw [this]
    rfl
theorem dim_any {m i : Nat} {f : Fr} (hd : Dim m f) : Dim m (fset f i .any) := by
  intro t ht
  rcases less_fset (f := f) (i := i) t with e | e
  · rw [e]; exact hd t ht
  · exact e

/-- A call, out of its body's pieces: nothing is deferred. -/
theorem calls_of_post {w0 : World} {m m' : Nat} {g : FuncId} {fn : Func} {c : Code} (hf : P.funcs[g]? = some fn) (hb : fn.body = some c) {vs : List V} {h h1 : H} {x : X} (hx : x = .norm ∨ x = .ret) {f1 : Fr} {l : List V}
    (hwp : ∀ (nb : Nat) (r : Emb) (a : Act) (w : World), Dim m (args0 m 0 vs fr0) → St P w0 nb fn.ntmps r (fget (args0 m 0 vs fr0)) [] h a w → c.wp P (Post P w0 nb fn.ntmps m' r h w x f1 [] h1) a w)
    (hres : resV P f1 h1 fn.results.toList = some l) : CallOk P w0 g vs h (oneRes l) h1 := by
  intro r w xs hr hg hba hvs
  obtain ⟨hd, hs⟩ := St.enter (n := fn.ntmps) (mask := m) hr hg hba hvs
  refine calls_of_wp_defers hf hb ?_
  refine wp_mono (hwp _ r _ w hd hs) ?_
  rintro e a1 w1 ⟨hxe, hd1, r1, hs1, st1⟩
  have key : Leaves P fn a1.tmps (fun e w' => ∃ z r', e = .returned z ∧ Step r h w r' h1 w' ∧ VRel r' (oneRes l) z) a1.defers .returning w1 := by
    have hdef : a1.defers = [] := by
      have := hs1.ds
      cases hq : a1.defers with
      | nil => rfl
      | cons _ _ => rw [hq] at this; cases this
    rw [hdef]
    obtain ⟨z, g1, g2⟩ := oneRes_sound hs1.rel hs1.tm hres
    exact ⟨z, g1, z, r1, rfl, st1, g2⟩
  rcases hx with rfl | rfl
  · have e1 : e = .normal := hxe
    subst e1
    exact key
  · have e1 : e = .ret := hxe
    subst e1
    exact key

end Go.Ev

namespace Go.Ev

variable {P : Program}

theorem Step.kept {r : Emb} {h : H} {w w' : World} (hr : Rel r h w) (hs : w.heap.size ≤ w'.heap.size) (hk : ∀ b, b < w.heap.size → w'.heap[b]? = w.heap[b]?) (h1 : w'.os = w.os) (h2 : w'.output = w.output) (h3 : w'.tape = w.tape) : Step r h w r h w' := by
  refine ⟨r.le_refl, ⟨fun id hi hl => ?_, hr.inj, hr.new⟩, hs, fun b hlt _ => hk b hlt, fun b _ ho => ho, fun b _ ho => ho, h1, h2, h3⟩
  obtain ⟨b, sh, m, g1, g2⟩ := hr.fit id hi hl
  exact ⟨b, sh, m, g1, g2.keep r.le_refl (hk b (g2.lt hl))⟩

/-- Two bytes a sign. -/
def dbl : List UInt8 → List UInt8
  | [] => []
  | c :: l => 0 :: c :: dbl l
theorem dbl_length : ∀ l, (dbl l).length = 2 * l.length
  | [] => rfl
  | c :: l => by rw [dbl, List.length_cons, List.length_cons, dbl_length l, List.length_cons]; omega

/-- text.Of of numbers, at signs below 128. -/
def ofN (n l : Nat) : Option Nat := Nat.rec (motive := fun _ => Nat → Option Nat) (fun _ => some 0) (fun _ ih n => bif Nat.blt (Nat.mod n 256) 128 then (ih (Nat.div n 256)).map fun m => Nat.add (Nat.mul 256 (Nat.mod n 256)) (Nat.mul 65536 m) else none) l n
theorem ofN_sound : ∀ (l n m : Nat), ofN n l = some m → (∀ c ∈ sdec n l, c.toNat < 128) ∧ sdec m (2 * l) = dbl (sdec n l) ∧ m < 256 ^ (2 * l) := by
  intro l
  induction l with
  | zero =>
    intro n m h
    have h' : some 0 = some m := h
    cases h'
    exact ⟨fun c hc => (by cases hc), rfl, by simp⟩
  | succ l ih =>
    intro n m h
    have h' : (bif Nat.blt (Nat.mod n 256) 128 then (ofN (Nat.div n 256) l).map fun m => Nat.add (Nat.mul 256 (Nat.mod n 256)) (Nat.mul 65536 m) else none) = some m := h
    cases hb : Nat.blt (Nat.mod n 256) 128 <;> simp only [hb, cond_true, cond_false, reduceCtorEq] at h'
    cases hq : ofN (Nat.div n 256) l with
    | none => rw [hq] at h'; simp at h'
    | some k =>
      rw [hq] at h'
      simp only [Option.map_some, Option.some.injEq] at h'
      obtain ⟨h1, h2, h3⟩ := ih _ _ hq
      have hlt : n % 256 < 128 := by rwa [Nat.blt_eq] at hb
      have hm : m = 256 * (n % 256) + 65536 * k := h'.symm
      have hc : (UInt8.ofNat (n % 256)).toNat < 128 := by simp; omega
      refine ⟨fun c hc' => ?_, ?_, ?_⟩
      · have hc2 : c ∈ UInt8.ofNat (n % 256) :: sdec (n / 256) l := hc'
        rcases List.mem_cons.1 hc2 with rfl | hc2
        · exact hc
        · exact h1 c hc2
      · rw [show 2 * (l + 1) = 2 * l + 1 + 1 by omega]
        show UInt8.ofNat (m % 256) :: UInt8.ofNat (m / 256 % 256) :: sdec (m / 256 / 256) (2 * l) = 0 :: UInt8.ofNat (n % 256) :: dbl (sdec (n / 256) l)
        rw [show m % 256 = 0 by omega, show m / 256 % 256 = n % 256 by omega, show m / 256 / 256 = k by omega, h2]
        rfl
      · rw [show 2 * (l + 1) = 2 * l + 2 by omega, Nat.pow_add]
        have : (256 : Nat) ^ 2 = 65536 := rfl
        rw [this]
        omega
def ofV : List V → Option V
  | [.str n l] => bif Nat.ble l 1000000 then (ofN n l).map fun m => .str m (Nat.mul 2 l) else none
  | _ => none
theorem ofV_sound {w0 : World} {g : FuncId} (hc : ∀ (s : ByteArray) (w : World), (∀ c ∈ s.data.toList, c.toNat < 128) → s.size ≤ 1000000 →
      Calls P g #[.string s] w fun e w' => e = .returned (.string ⟨(dbl s.data.toList).toArray⟩) ∧ w.heap.size ≤ w'.heap.size ∧ (∀ b, b < w.heap.size → w'.heap[b]? = w.heap[b]?) ∧ w'.os = w.os ∧ w'.output = w.output ∧ w'.tape = w.tape)
    {vs : List V} {v : V} (he : ofV vs = some v) (h : H) : CallOk P w0 g vs h v h := by
  unfold ofV at he
  split at he
  · rename_i n l
    cases hb : Nat.ble l 1000000 <;> simp only [hb, cond_true, cond_false, reduceCtorEq] at he
    cases hq : ofN n l with
    | none => rw [hq] at he; simp at he
    | some m =>
      rw [hq] at he
      simp only [Option.map_some, Option.some.injEq] at he
      subst he
      obtain ⟨h1, h2, h3⟩ := ofN_sound l n m hq
      intro r w xs hr hg hba hx
      obtain ⟨xs⟩ := xs
      cases hx with
      | cons hx hx' =>
        cases hx'
        cases hx with
        | str hn =>
          refine (hc (sval n l) w h1 (by rw [sval_size]; exact Nat.le_of_ble_eq_true hb)).mono ?_
          rintro e w' ⟨rfl, g1, g2, g3, g4, g5⟩
          refine ⟨_, r, rfl, Step.kept hr g1 g2 g3 g4 g5, ?_⟩
          have e1 : (⟨(dbl (sval n l).data.toList).toArray⟩ : ByteArray) = sval m (2 * l) := by
            show (⟨(dbl (sdec n l)).toArray⟩ : ByteArray) = ⟨(sdec m (2 * l)).toArray⟩
            rw [h2]
          rw [e1]
          exact .str h3
  · cases he

end Go.Ev

namespace Go.Ev

variable {P : Program}

theorem rem_of (n : Int) : ∃ x : Nat, x ≤ 1998 ∧ n.tmod 1000 = (x : Int) - 999 := by
  have h1 : n.tmod 1000 < 1000 := Int.tmod_lt_of_pos n (by omega)
  have h2 : -(1000 : Int) < n.tmod 1000 := Int.lt_tmod_of_pos n (by omega)
  exact ⟨(n.tmod 1000 + 999).toNat, by omega, by omega⟩

theorem sym_closes {W : World} {r0 : Emb} {h0 h' : H} (hb : Begin P W r0 h0) (hA : r0 symA = none) (hB : r0 symB = none) (ha : symA < h0.next) (hb2 : symB < h0.next)
    (hl : ∀ id, Live h0 id → id ≠ symA ∧ id ≠ symB) {g : FuncId} (hc : CallOk P W g [.cl1 0 5, .cl1 0 6] h0 (.bool true) h') (n k : Int) :
    Calls P g #[.int .i64 n, .int .i64 k] W fun e w' => e = .returned (.bool true) ∧ W.keptBut w' (fun _ => False) := by
  obtain ⟨x, hx, hn⟩ := rem_of n
  obtain ⟨y, hy, hk⟩ := rem_of k
  obtain ⟨r1, hr1⟩ : ∃ r1, r1 = (r0.put symA (x, 0, 0)).put symB (y, 0, 0) := ⟨_, rfl⟩
  have hne : symB ≠ symA := by decide
  have hle : r0.le r1 := by
    rw [hr1]
    refine Emb.le_trans (r0.le_put symA (x, 0, 0) hA) (Emb.le_put _ symB (y, 0, 0) ?_)
    rw [Emb.put_other _ _ _ _ hne]
    exact hB
  have hother : ∀ id, id ≠ symA → id ≠ symB → r1 id = r0 id := fun id h1 h2 => by rw [hr1, Emb.put_other _ _ _ _ h2, Emb.put_other _ _ _ _ h1]
  have rA : r1 symA = some (x, 0, 0) := by rw [hr1, Emb.put_other _ _ _ _ (fun e => hne e.symm), Emb.put_same]
  have rB : r1 symB = some (y, 0, 0) := by rw [hr1, Emb.put_same]
  have hrel0 := hb.rel W (fun _ _ => rfl)
  have hrel : Rel r1 h0 W := by
    refine ⟨fun id hi hlv => ?_, fun i i' b sh m sh' m' h1 h2 ho e1 e2 => ?_, fun id hid => ?_⟩
    · obtain ⟨b, sh, m, h1, h2⟩ := hrel0.fit id hi hlv
      exact ⟨b, sh, m, hle _ _ h1, h2.keep hle rfl⟩
    · rw [hother i (hl i h1).1 (hl i h1).2] at e1
      rw [hother i' (hl i' h2).1 (hl i' h2).2] at e2
      exact hrel0.inj i i' b sh m sh' m' h1 h2 ho e1 e2
    · rw [hother id (by omega) (by omega)]
      exact hrel0.new id hid
  have hnone : ∀ b, ¬ Own r1 h0 b := fun b ho => by
    obtain ⟨id, sh, m, hi, hbk, e⟩ := ho
    have hlv : Live h0 id := ⟨hi, live_of_own hbk⟩
    rw [hother id (hl id hlv).1 (hl id hlv).2] at e
    exact hb.none b ⟨id, sh, m, hi, hbk, e⟩
  have hbase : Base W r1 h0 W := ⟨fun _ _ => rfl, fun b ho => (hnone b ho).elim, Nat.le_refl _⟩
  refine (hc r1 W _ hrel (GRel.up hle hb.gl) hbase (.cons (.syma rA rB hx hy hn) (.cons (.symb rA rB hx hy hk) .nil))).mono ?_
  rintro e w' ⟨z, r', rfl, st, hz⟩
  cases hz
  refine ⟨rfl, st.os, st.out, fun i hi => ?_⟩
  rw [st.keep i hi (hnone i)]
  exact (World.keptBut_refl W (fun _ => False)).2.2 i hi

end Go.Ev
