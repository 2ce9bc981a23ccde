/- The evaluator's memory against the model's: new blocks, reads, writes, blocks that are given up. No condition. -/
import Derived.Test.YtoecccbjhmejiaaGreatDoorEvB
import Derived.Deep.MidRow
import Derived.Deep.AppendSrc
namespace Go.Ev

structure H where
  next : Nat
  mem : Mem

def liveB (k : Blk) : Bool := match k with | .dead => false | _ => true
def ownB (k : Blk) : Bool := match k with | .dead => false | .live _ _ ro _ _ => !ro | .mapb _ => true
theorem live_of_own {k : Blk} (h : ownB k = true) : liveB k = true := by cases k <;> first | rfl | (simp [ownB] at h; done)

def Live (h : H) (id : Nat) : Prop := id < 65536 ∧ liveB (h.mem.blk id) = true
theorem live_of {h : H} {id n : Nat} {t : TypeId} {ro pl : Bool} {c : Cells} (hi : id < 65536) (hb : h.mem.blk id = .live n t ro pl c) : Live h id := ⟨hi, by rw [hb]; rfl⟩

/-- Block b is one that the evaluator may write. -/
def Own (r : Emb) (h : H) (b : Nat) : Prop := ∃ id sh m, id < 65536 ∧ ownB (h.mem.blk id) = true ∧ r id = some (b, sh, m)
theorem own_of {r : Emb} {h : H} {b id n sh m : Nat} {t : TypeId} {pl : Bool} {c : Cells} (hi : id < 65536) (hb : h.mem.blk id = .live n t false pl c) (h1 : r id = some (b, sh, m)) : Own r h b := ⟨id, sh, m, hi, by rw [hb]; rfl, h1⟩

/-- A map's entries. -/
inductive EsRel (r : Emb) : List (V × V) → List MapEntry → Prop where
  | nil : EsRel r [] []
  | cons {k v : V} {e : MapEntry} {es : List (V × V)} {l : List MapEntry} (hk : VRel r k e.key) (hv : VRel r v e.val) (hs : EsRel r es l) : EsRel r ((k, v) :: es) (e :: l)
theorem EsRel.up {r r' : Emb} (hr : r.le r') {es : List (V × V)} {l : List MapEntry} (h : EsRel r es l) : EsRel r' es l := by
  induction h with
  | nil => exact .nil
  | cons hk hv _ ih => exact .cons (hk.up hr) (hv.up hr) ih

structure Fits (r : Emb) (n : Nat) (t : TypeId) (ro pl : Bool) (c : Cells) (b sh m : Nat) (w : World) : Prop where
  block : ∃ cs fz, (∃ t', w.heap[b]? = some (.cells cs t' fz) ∧ (ro = false → t' = t)) ∧ cs.size = m ∧ (ro = false → ∀ x, x < m → ¬ (fz.1 ≤ x ∧ x < fz.2)) ∧ (pl = true → fz = (0, 0)) ∧
    ∀ o, o < n → ∃ x, cs[o + sh]? = some x ∧ VRel r (c.get o) x
  fit : n + sh ≤ m
  room : n ≤ c.room

/-- A label's block in the model. -/
def FitB (r : Emb) (k : Blk) (b sh m : Nat) (w : World) : Prop :=
  match k with
  | .dead => True
  | .live n t ro pl c => Fits r n t ro pl c b sh m w
  | .mapb es => ∃ es' clk, w.heap[b]? = some (.map es' clk) ∧ EsRel r es es'.toList
theorem Fits.keep {r r' : Emb} (hr : r.le r') {n : Nat} {t : TypeId} {ro pl : Bool} {c : Cells} {b sh m : Nat} {w w' : World} (h : Fits r n t ro pl c b sh m w) (hw : w'.heap[b]? = w.heap[b]?) : Fits r' n t ro pl c b sh m w' := by
  obtain ⟨⟨cs, fz, ⟨ty, h2, hty⟩, h3, h4, h5, h6⟩, h7, h8⟩ := h
  refine ⟨⟨cs, fz, ⟨ty, by rw [hw]; exact h2, hty⟩, h3, h4, h5, fun o ho => ?_⟩, h7, h8⟩
  obtain ⟨x, hx, hv⟩ := h6 o ho
  exact ⟨x, hx, hv.up hr⟩
theorem FitB.keep {r r' : Emb} (hr : r.le r') {k : Blk} {b sh m : Nat} {w w' : World} (h : FitB r k b sh m w) (hw : w'.heap[b]? = w.heap[b]?) : FitB r' k b sh m w' := by
  cases k with
  | dead => trivial
  | live n t ro pl c => exact Fits.keep hr h hw
  | mapb es =>
    obtain ⟨es', clk, h1, h2⟩ := h
    exact ⟨es', clk, by rw [hw]; exact h1, h2.up hr⟩
theorem FitB.lt {r : Emb} {k : Blk} {b sh m : Nat} {w : World} (h : FitB r k b sh m w) (hl : liveB k = true) : b < w.heap.size := by
  cases k with
  | dead => cases hl
  | live n t ro pl c =>
    obtain ⟨⟨cs, fz, ⟨ty, h2, _⟩, _⟩, _⟩ := h
    exact (Array.getElem?_eq_some_iff.1 h2).1
  | mapb es =>
    obtain ⟨es', clk, h1, _⟩ := h
    exact (Array.getElem?_eq_some_iff.1 h1).1

structure Rel (r : Emb) (h : H) (w : World) : Prop where
  fit : ∀ id, id < 65536 → liveB (h.mem.blk id) = true → ∃ b sh m, r id = some (b, sh, m) ∧ FitB r (h.mem.blk id) b sh m w
  inj : ∀ id id' b sh m sh' m', Live h id → Live h id' → r id = some (b, sh, m) → r id' = some (b, sh', m') → id = id'
  new : ∀ id, h.next ≤ id → r id = none
theorem Rel.blk {r : Emb} {h : H} {w : World} (hr : Rel r h w) (id n : Nat) (t : TypeId) (ro pl : Bool) (c : Cells) (hi : id < 65536) (hb : h.mem.blk id = .live n t ro pl c) : ∃ b sh m, r id = some (b, sh, m) ∧ Fits r n t ro pl c b sh m w := by
  obtain ⟨b, sh, m, h1, h2⟩ := hr.fit id hi (by rw [hb]; rfl)
  rw [hb] at h2
  exact ⟨b, sh, m, h1, h2⟩
theorem Rel.mapb {r : Emb} {h : H} {w : World} (hr : Rel r h w) {id : Nat} {es : List (V × V)} (hi : id < 65536) (hb : h.mem.blk id = .mapb es) : ∃ b sh m es' clk, r id = some (b, sh, m) ∧ w.heap[b]? = some (.map es' clk) ∧ EsRel r es es'.toList := by
  obtain ⟨b, sh, m, h1, h2⟩ := hr.fit id hi (by rw [hb]; rfl)
  rw [hb] at h2
  obtain ⟨es', clk, h3, h4⟩ := h2
  exact ⟨b, sh, m, es', clk, h1, h3, h4⟩

/-- Block b is one of which a live label speaks. -/
def Held (r : Emb) (h : H) (b : Nat) : Prop := ∃ id sh m, Live h id ∧ r id = some (b, sh, m)
theorem Own.held {r : Emb} {h : H} {b : Nat} (ho : Own r h b) : Held r h b := by
  obtain ⟨id, sh, m, hi, hb, h1⟩ := ho
  exact ⟨id, sh, m, ⟨hi, live_of_own hb⟩, h1⟩

structure Step (r : Emb) (h : H) (w : World) (r' : Emb) (h' : H) (w' : World) : Prop where
  le : r.le r'
  rel : Rel r' h' w'
  size : w.heap.size ≤ w'.heap.size
  keep : ∀ b, b < w.heap.size → ¬ Own r h b → w'.heap[b]? = w.heap[b]?
  own : ∀ b, b < w.heap.size → Own r' h' b → Own r h b
  held : ∀ b, b < w.heap.size → Held r' h' b → Held r h b
  os : w'.os = w.os
  out : w'.output = w.output
  tape : w'.tape = w.tape

theorem Step.refl {r : Emb} {h : H} {w : World} (hr : Rel r h w) : Step r h w r h w :=
  ⟨r.le_refl, hr, Nat.le_refl _, fun _ _ _ => rfl, fun _ _ h => h, fun _ _ h => h, rfl, rfl, rfl⟩

theorem Step.trans {r r' r'' : Emb} {h h' h'' : H} {w w' w'' : World} (s : Step r h w r' h' w') (t : Step r' h' w' r'' h'' w'') : Step r h w r'' h'' w'' where
  le := Emb.le_trans s.le t.le
  rel := t.rel
  size := Nat.le_trans s.size t.size
  keep b hb hn := by
    rw [t.keep b (Nat.lt_of_lt_of_le hb s.size) (fun ho => hn (s.own b hb ho)), s.keep b hb hn]
  own b hb ho := s.own b hb (t.own b (Nat.lt_of_lt_of_le hb s.size) ho)
  held b hb ho := s.held b hb (t.held b (Nat.lt_of_lt_of_le hb s.size) ho)
  os := t.os.trans s.os
  out := t.out.trans s.out
  tape := t.tape.trans s.tape

/-- Draws turn nothing. -/
theorem Rel.drew {r : Emb} {h : H} {w : World} (hr : Rel r h w) (n : Nat) : Rel r h { w with drawn := n } :=
  ⟨fun id hi hl => by
    obtain ⟨b, sh, m, h1, h2⟩ := hr.fit id hi hl
    exact ⟨b, sh, m, h1, h2.keep r.le_refl rfl⟩, hr.inj, hr.new⟩
theorem Step.drew {r : Emb} {h : H} {w : World} (hr : Rel r h w) (n : Nat) : Step r h w r h { w with drawn := n } :=
  ⟨r.le_refl, hr.drew n, Nat.le_refl _, fun _ _ _ => rfl, fun _ _ h => h, fun _ _ h => h, rfl, rfl, rfl⟩

theorem Rel.lt {r : Emb} {h : H} {w : World} (hr : Rel r h w) {id b sh m : Nat} (hl : Live h id) (h1 : r id = some (b, sh, m)) : b < w.heap.size := by
  obtain ⟨b', sh', m', h2, h3⟩ := hr.fit id hl.1 hl.2
  rw [h1] at h2
  cases h2
  exact h3.lt hl.2

theorem Rel.lt_next {r : Emb} {h : H} {w : World} (hr : Rel r h w) {id : Nat} {x : Nat × Nat × Nat} (h1 : r id = some x) : id < h.next := by
  apply Nat.lt_of_not_le
  intro hle
  rw [hr.new id hle] at h1
  cases h1

/-! ### A block is turned, or given up -/
def H.setB (id : Nat) (k : Blk) (h : H) : H := ⟨h.next, h.mem.put id k⟩
theorem blk_setB {h : H} {id : Nat} {k : Blk} (hid : id < 65536) : (h.setB id k).mem.blk id = k := Mem.blk_put_same _ _ _ hid
theorem blk_setB_other {h : H} {id i : Nat} {k : Blk} (hid : id < 65536) (hi : i < 65536) (e : i ≠ id) : (h.setB id k).mem.blk i = h.mem.blk i := Mem.blk_put_other _ _ _ _ hid hi e

def H.kill (id : Nat) (h : H) : H := ⟨h.next, h.mem.put id .dead⟩

theorem live_kill {h : H} {id i : Nat} (hid : id < 65536) (hl : Live (h.kill id) i) : Live h i ∧ i ≠ id := by
  obtain ⟨hi, hb⟩ := hl
  by_cases e : i = id
  · subst e
    rw [show (h.kill i).mem.blk i = .dead from Mem.blk_put_same _ _ _ hid] at hb
    cases hb
  · rw [show (h.kill id).mem.blk i = h.mem.blk i from Mem.blk_put_other _ _ _ _ hid hi e] at hb
    exact ⟨⟨hi, hb⟩, e⟩
theorem own_kill {r : Emb} {h : H} {id b : Nat} (hid : id < 65536) (ho : Own r (h.kill id) b) : Own r h b := by
  obtain ⟨i, sh, m, hi, hb, h1⟩ := ho
  by_cases e : i = id
  · subst e
    rw [show (h.kill i).mem.blk i = .dead from Mem.blk_put_same _ _ _ hid] at hb
    cases hb
  · rw [show (h.kill id).mem.blk i = h.mem.blk i from Mem.blk_put_other _ _ _ _ hid hi e] at hb
    exact ⟨i, sh, m, hi, hb, h1⟩

theorem Step.kill {r : Emb} {h : H} {w : World} (hr : Rel r h w) {id : Nat} (hid : id < 65536) : Step r h w r (h.kill id) w where
  le := r.le_refl
  rel := by
    refine ⟨fun i hi hl => ?_, fun i i' b sh m sh' m' hl hl' => hr.inj i i' b sh m sh' m' (live_kill hid hl).1 (live_kill hid hl').1, hr.new⟩
    obtain ⟨hl', hne⟩ := live_kill hid ⟨hi, hl⟩
    rw [show (h.kill id).mem.blk i = h.mem.blk i from Mem.blk_put_other _ _ _ _ hid hi hne]
    exact hr.fit i hi hl'.2
  size := Nat.le_refl _
  keep _ _ _ := rfl
  own b _ ho := own_kill hid ho
  held b _ ho := by
    obtain ⟨i, sh, m, hl, h1⟩ := ho
    exact ⟨i, sh, m, (live_kill hid hl).1, h1⟩
  os := rfl
  out := rfl
  tape := rfl

/-- A block that is owned is turned. -/
theorem Step.setB {r : Emb} {h : H} {w w' : World} (hr : Rel r h w) {id : Nat} (hid : id < 65536) (hown0 : ownB (h.mem.blk id) = true) {k : Blk} {b sh m : Nat} (h1 : r id = some (b, sh, m))
    (hother : ∀ i, i ≠ b → w'.heap[i]? = w.heap[i]?) (hsize : w'.heap.size = w.heap.size) (hos : w'.os = w.os) (hout : w'.output = w.output) (htape : w'.tape = w.tape) (hf : FitB r k b sh m w') : Step r h w r (h.setB id k) w' := by
  have hown : Own r h b := ⟨id, sh, m, hid, hown0, h1⟩
  have hlive0 : Live h id := ⟨hid, live_of_own hown0⟩
  have hlive : ∀ i, Live (h.setB id k) i → Live h i := fun i ⟨hi, hb⟩ => by
    by_cases e : i = id
    · subst e; exact hlive0
    · rw [blk_setB_other hid hi e] at hb; exact ⟨hi, hb⟩
  refine ⟨r.le_refl, ⟨fun i hi hl => ?_, fun i i' b sh m sh' m' hl hl' => hr.inj i i' b sh m sh' m' (hlive i hl) (hlive i' hl'), hr.new⟩, Nat.le_of_eq hsize.symm, fun i _ hi => hother i (fun e => hi (e ▸ hown)), fun i _ ho => ?_, fun i _ ⟨j, s1, k1, hl, h2⟩ => ⟨j, s1, k1, hlive j hl, h2⟩, hos, hout, htape⟩
  · by_cases e : i = id
    · subst e
      rw [blk_setB hid]
      exact ⟨b, sh, m, h1, hf⟩
    · rw [blk_setB_other hid hi e] at hl ⊢
      obtain ⟨b2, sh2, m2, h2, h3⟩ := hr.fit i hi hl
      have hne : b2 ≠ b := fun e2 => e (hr.inj i id b2 sh2 m2 sh m ⟨hi, hl⟩ hlive0 h2 (by rw [e2]; exact h1))
      exact ⟨b2, sh2, m2, h2, h3.keep r.le_refl (hother b2 hne)⟩
  · obtain ⟨j, s1, k1, hj, hb, h2⟩ := ho
    by_cases e : j = id
    · subst e
      rw [h1] at h2
      cases h2
      exact hown
    · rw [blk_setB_other hid hj e] at hb
      exact ⟨j, s1, k1, hj, hb, h2⟩

/-! ### A new block -/
def Emb.put (r : Emb) (id : Nat) (x : Nat × Nat × Nat) : Emb := fun i => if i = id then some x else r i
theorem Emb.put_same (r : Emb) (id : Nat) (x : Nat × Nat × Nat) : r.put id x id = some x := by simp [Emb.put]
theorem Emb.put_other (r : Emb) (id i : Nat) (x : Nat × Nat × Nat) (h : i ≠ id) : r.put id x i = r i := by simp [Emb.put, h]
theorem Emb.le_put (r : Emb) (id : Nat) (x : Nat × Nat × Nat) (h : r id = none) : r.le (r.put id x) := by
  intro i y hy
  by_cases e : i = id
  · subst e; rw [h] at hy; cases hy
  · rw [Emb.put_other _ _ _ _ e]; exact hy

/-- The heap with a block laid at its next label. -/
def H.layB (k : Blk) (h : H) : H := ⟨h.next + 1, h.mem.put h.next k⟩
def H.lay (n : Nat) (t : TypeId) (pl : Bool) (c : Cells) (h : H) : H := ⟨h.next + 1, h.mem.put h.next (.live n t false pl c)⟩

/-- A block of the model comes under a new label: one that is new, or one of which no live label speaks: the memory's relation. -/
theorem Rel.layB {r : Emb} {h : H} {w w' : World} (hr : Rel r h w) (hn : h.next < 65536) {k : Blk} {b sh m : Nat}
    (hb : ∀ id sh' m', Live h id → r id ≠ some (b, sh', m'))
    (hkeep : ∀ k, k < w.heap.size → k ≠ b → w'.heap[k]? = w.heap[k]?)
    (hf : FitB (r.put h.next (b, sh, m)) k b sh m w') : Rel (r.put h.next (b, sh, m)) (h.layB k) w' := by
  have hle := r.le_put h.next (b, sh, m) (hr.new _ (Nat.le_refl _))
  have hold : ∀ i, i < 65536 → i ≠ h.next → (h.layB k).mem.blk i = h.mem.blk i := fun i hi hne => Mem.blk_put_other _ _ _ _ hn hi hne
  have hlive : ∀ i, Live (h.layB k) i → i ≠ h.next → Live h i := fun i ⟨hi, hb'⟩ hne => ⟨hi, by rw [hold i hi hne] at hb'; exact hb'⟩
  refine ⟨fun i hi hl => ?_, fun i i' k s1 k1 s2 k2 hl hl' h1 h2 => ?_, fun i hi => ?_⟩
  · by_cases e : i = h.next
    · subst e
      rw [show (h.layB k).mem.blk h.next = k from Mem.blk_put_same _ _ _ hn]
      exact ⟨b, sh, m, Emb.put_same _ _ _, hf⟩
    · rw [hold i hi e] at hl ⊢
      obtain ⟨b2, sh2, m2, h1, h2⟩ := hr.fit i hi hl
      have hne : b2 ≠ b := fun e2 => hb i sh2 m2 ⟨hi, hl⟩ (by rw [h1, e2])
      exact ⟨b2, sh2, m2, by rw [Emb.put_other _ _ _ _ e]; exact h1, h2.keep hle (hkeep b2 (h2.lt hl) hne)⟩
  · by_cases e : i = h.next
    · by_cases e' : i' = h.next
      · rw [e, e']
      · subst e
        rw [Emb.put_same] at h1
        cases h1
        rw [Emb.put_other _ _ _ _ e'] at h2
        exact (hb i' s2 k2 (hlive i' hl' e') h2).elim
    · by_cases e' : i' = h.next
      · subst e'
        rw [Emb.put_same] at h2
        cases h2
        rw [Emb.put_other _ _ _ _ e] at h1
        exact (hb i s1 k1 (hlive i hl e) h1).elim
      · rw [Emb.put_other _ _ _ _ e] at h1
        rw [Emb.put_other _ _ _ _ e'] at h2
        exact hr.inj i i' k s1 k1 s2 k2 (hlive i hl e) (hlive i' hl' e') h1 h2
  · have : h.next + 1 ≤ i := hi
    rw [Emb.put_other _ _ _ _ (by omega)]
    exact hr.new i (by omega)

/-- The blocks that are owned, and held, behind it. -/
theorem own_layB {r : Emb} {h : H} (hn : h.next < 65536) {k : Blk} {b sh m x : Nat} (ho : Own (r.put h.next (b, sh, m)) (h.layB k) x) : x = b ∨ Own r h x := by
  obtain ⟨i, s1, k1, hi, hb', h1⟩ := ho
  by_cases e : i = h.next
  · subst e
    rw [Emb.put_same] at h1
    cases h1
    exact .inl rfl
  · rw [show (h.layB k).mem.blk i = h.mem.blk i from Mem.blk_put_other _ _ _ _ hn hi e] at hb'
    rw [Emb.put_other _ _ _ _ e] at h1
    exact .inr ⟨i, s1, k1, hi, hb', h1⟩
theorem own_lay {r : Emb} {h : H} (hn : h.next < 65536) {n : Nat} {t : TypeId} {pl : Bool} {c : Cells} {b sh m k : Nat} (ho : Own (r.put h.next (b, sh, m)) (h.lay n t pl c) k) : k = b ∨ Own r h k := own_layB (k := .live n t false pl c) hn ho
theorem held_layB {r : Emb} {h : H} (hn : h.next < 65536) {k : Blk} {b sh m x : Nat} (ho : Held (r.put h.next (b, sh, m)) (h.layB k) x) : x = b ∨ Held r h x := by
  obtain ⟨i, s1, k1, ⟨hi, hb'⟩, h1⟩ := ho
  by_cases e : i = h.next
  · subst e
    rw [Emb.put_same] at h1
    cases h1
    exact .inl rfl
  · rw [show (h.layB k).mem.blk i = h.mem.blk i from Mem.blk_put_other _ _ _ _ hn hi e] at hb'
    rw [Emb.put_other _ _ _ _ e] at h1
    exact .inr ⟨i, s1, k1, ⟨hi, hb'⟩, h1⟩

/-- A block of the model comes under a new label: one that is new, or one of which no live label speaks. -/
theorem Step.layB {r : Emb} {h0 h : H} {w w' : World} (hr : Rel r h w) (hsub : ∀ b, Own r h b → Own r h0 b) (hsub2 : ∀ b, Held r h b → Held r h0 b) (hn : h.next < 65536) {k : Blk} {b sh m : Nat}
    (hb : ∀ id sh' m', Live h id → r id ≠ some (b, sh', m')) (hown : b < w.heap.size → Own r h0 b)
    (hkeep : ∀ k, k < w.heap.size → k ≠ b → w'.heap[k]? = w.heap[k]?) (hsize : w.heap.size ≤ w'.heap.size)
    (hos : w'.os = w.os) (hout : w'.output = w.output) (htape : w'.tape = w.tape)
    (hf : FitB (r.put h.next (b, sh, m)) k b sh m w') : Step r h0 w (r.put h.next (b, sh, m)) (h.layB k) w' := by
  refine ⟨r.le_put h.next (b, sh, m) (hr.new _ (Nat.le_refl _)), hr.layB hn hb hkeep hf, hsize, fun k hk ho => ?_, fun k hk ho => ?_, fun k hk ho => ?_, hos, hout, htape⟩
  · by_cases e : k = b
    · subst e; exact (ho (hown hk)).elim
    · exact hkeep k hk e
  · rcases own_layB hn ho with rfl | ho
    · exact hown hk
    · exact hsub k ho
  · rcases held_layB hn ho with rfl | ho
    · exact (hown hk).held
    · exact hsub2 k ho
theorem Step.lay {r : Emb} {h0 h : H} {w w' : World} (hr : Rel r h w) (hsub : ∀ b, Own r h b → Own r h0 b) (hsub2 : ∀ b, Held r h b → Held r h0 b) (hn : h.next < 65536) {n : Nat} {t : TypeId} {pl : Bool} {c : Cells} {b sh m : Nat}
    (hb : ∀ id sh' m', Live h id → r id ≠ some (b, sh', m')) (hown : b < w.heap.size → Own r h0 b)
    (hkeep : ∀ k, k < w.heap.size → k ≠ b → w'.heap[k]? = w.heap[k]?) (hsize : w.heap.size ≤ w'.heap.size)
    (hos : w'.os = w.os) (hout : w'.output = w.output) (htape : w'.tape = w.tape)
    (hf : Fits (r.put h.next (b, sh, m)) n t false pl c b sh m w') : Step r h0 w (r.put h.next (b, sh, m)) (h.lay n t pl c) w' :=
  Step.layB (k := .live n t false pl c) hr hsub hsub2 hn hb hown hkeep hsize hos hout htape hf

/-- A block that was made meanwhile, and of which no label speaks yet, comes under one. -/
theorem Step.adopt {r0 r : Emb} {h0 h : H} {w0 w : World} (st : Step r0 h0 w0 r h w) (hn : h.next < 65536) {n : Nat} {t : TypeId} {pl : Bool} {c : Cells} {b sh m : Nat}
    (hb : ¬ Held r h b) (hnew : w0.heap.size ≤ b) (hf : Fits (r.put h.next (b, sh, m)) n t false pl c b sh m w) : Step r0 h0 w0 (r.put h.next (b, sh, m)) (h.lay n t pl c) w := by
  refine ⟨Emb.le_trans st.le (r.le_put h.next (b, sh, m) (st.rel.new _ (Nat.le_refl _))), st.rel.layB (k := .live n t false pl c) hn (fun id sh' m' hl e => hb ⟨id, sh', m', hl, e⟩) (fun _ _ _ => rfl) hf, st.size, st.keep, fun k hk ho => ?_, fun k hk ho => ?_, st.os, st.out, st.tape⟩
  · rcases own_lay hn ho with rfl | ho
    · omega
    · exact st.own k hk ho
  · rcases held_layB (k := .live n t false pl c) hn ho with rfl | ho
    · omega
    · exact st.held k hk ho

/-- A block that nobody holds turns. -/
theorem Step.poke {r0 r : Emb} {h0 h : H} {w0 w w' : World} (st : Step r0 h0 w0 r h w) {b : Nat} (_ : ¬ Held r h b) (hnew : w0.heap.size ≤ b) (hs : w'.heap.size = w.heap.size) (hw : ∀ k, k ≠ b → w'.heap[k]? = w.heap[k]?)
    (h1 : w'.os = w.os) (h2 : w'.output = w.output) (h3 : w'.tape = w.tape) (hr : Rel r h w') : Step r0 h0 w0 r h w' :=
  ⟨st.le, hr, by rw [hs]; exact st.size, fun k hk ho => (hw k (by omega)).trans (st.keep k hk ho), st.own, st.held, h1.trans st.os, h2.trans st.out, h3.trans st.tape⟩

/-! ### Cells out of a list -/
def fillFrom : List V → Nat → Cells → Cells
  | [], _, c => c
  | v :: vs, o, c => fillFrom vs (o + 1) (c.set o v)

theorem fillFrom_room (vs : List V) : ∀ (o : Nat) (c : Cells), (fillFrom vs o c).room = c.room := by
  induction vs with
  | nil => intro o c; rfl
  | cons v vs ih => intro o c; rw [fillFrom, ih, Cells.room_set]

theorem fillFrom_out (vs : List V) : ∀ (o p : Nat) (c : Cells), o + vs.length ≤ c.room → p < c.room → (p < o ∨ o + vs.length ≤ p) → (fillFrom vs o c).get p = c.get p := by
  induction vs with
  | nil => intro o p c _ _ _; rfl
  | cons v vs ih =>
    intro o p c h1 h2 h3
    simp only [List.length_cons] at h1 h3
    rw [fillFrom, ih (o + 1) p _ (by rw [Cells.room_set]; omega) (by rw [Cells.room_set]; omega) (by omega), Cells.get_set_other _ _ _ _ (by omega) h2 (by omega)]

theorem fillFrom_in (vs : List V) : ∀ (o j : Nat) (c : Cells), o + vs.length ≤ c.room → (hj : j < vs.length) → (fillFrom vs o c).get (o + j) = vs[j] := by
  induction vs with
  | nil => intro o j c _ h; simp at h
  | cons v vs ih =>
    intro o j c h1 hj
    simp only [List.length_cons] at h1 hj
    cases j with
    | zero =>
      rw [fillFrom, fillFrom_out vs (o + 1) (o + 0) _ (by rw [Cells.room_set]; omega) (by rw [Cells.room_set]; omega) (by omega), Nat.add_zero, Cells.get_set_same _ _ _ (by omega)]
      rfl
    | succ j =>
      have := ih (o + 1) j (c.set o v) (by rw [Cells.room_set]; omega) (by omega)
      rw [fillFrom, show o + (j + 1) = o + 1 + j by omega, this]
      rfl

/-- Room for so many. -/
def emptyCells (n : Nat) : Cells := bif Nat.ble n 16 then .c1 z1 else bif Nat.ble n 256 then .c2 z2 else .c3 z3
theorem emptyCells_room (n : Nat) (h : n ≤ 4096) : n ≤ (emptyCells n).room := by
  unfold emptyCells
  cases h1 : Nat.ble n 16
  · cases h2 : Nat.ble n 256
    · simpa [Cells.room] using h
    · have := Nat.le_of_ble_eq_true h2
      simpa [Cells.room] using this
  · have := Nat.le_of_ble_eq_true h1
    simpa [Cells.room] using this

def cellsOf (vs : List V) : Cells := fillFrom vs 0 (emptyCells vs.length)
theorem cellsOf_room (vs : List V) (h : vs.length ≤ 4096) : vs.length ≤ (cellsOf vs).room := by
  rw [cellsOf, fillFrom_room]; exact emptyCells_room _ h
theorem cellsOf_get (vs : List V) (h : vs.length ≤ 4096) (j : Nat) (hj : j < vs.length) : (cellsOf vs).get j = vs[j] := by
  have := fillFrom_in vs 0 j (emptyCells vs.length) (by simpa using emptyCells_room _ h) hj
  simpa [cellsOf] using this

/-- A NEW BLOCK: the model's is at the heap's end. -/
theorem Step.alloc {r : Emb} {h : H} {w : World} (hr : Rel r h w) (hn : h.next < 65536) {vs : List V} {xs : Array Value} (t : TypeId) (hv : VsRel r vs xs.toList) (hl : vs.length ≤ 4096) :
    Step r h w (r.put h.next (w.heap.size, 0, xs.size)) (h.lay vs.length t true (cellsOf vs)) (w.alloc (.cells xs t)) := by
  refine Step.lay hr (fun _ ho => ho) (fun _ ho => ho) hn (fun id sh' m' hl' e => Nat.lt_irrefl _ (hr.lt hl' e)) (fun hlt => (Nat.lt_irrefl _ hlt).elim) (fun k hk _ => heap_alloc_old w _ k hk) (by simp) rfl rfl rfl ?_
  have hlen : vs.length = xs.size := by simpa using hv.length
  refine ⟨⟨xs, (0, 0), ⟨t, heap_alloc_new w _, fun _ => rfl⟩, rfl, fun _ x _ hx => Nat.not_lt_zero _ hx.2, fun _ => rfl, fun o ho => ?_⟩, by omega, cellsOf_room _ hl⟩
  obtain ⟨x, hx, hvx⟩ := hv.get o (v := vs[o]) (by simp)
  refine ⟨x, by simpa using hx, ?_⟩
  rw [cellsOf_get _ hl o ho]
  exact hvx.up (r.le_put _ _ (hr.new _ (Nat.le_refl _)))

/-! ### Writes -/
def setL (cs : Array Value) : Nat → List Value → Array Value
  | _, [] => cs
  | o, v :: r => setL (cs.setIfInBounds o v) (o + 1) r

theorem size_setL (vs : List Value) : ∀ (cs : Array Value) (o : Nat), (setL cs o vs).size = cs.size := by
  induction vs with
  | nil => intro cs o; rfl
  | cons v vs ih => intro cs o; rw [setL, ih]; simp

theorem setL_out (vs : List Value) : ∀ (cs : Array Value) (o p : Nat), (p < o ∨ o + vs.length ≤ p) → (setL cs o vs)[p]? = cs[p]? := by
  induction vs with
  | nil => intro cs o p _; rfl
  | cons v vs ih =>
    intro cs o p h
    simp only [List.length_cons] at h
    rw [setL, ih _ (o + 1) p (by omega), Array.getElem?_setIfInBounds_ne (by omega)]

theorem setL_in (vs : List Value) : ∀ (cs : Array Value) (o j : Nat), o + vs.length ≤ cs.size → (hj : j < vs.length) → (setL cs o vs)[o + j]? = some vs[j] := by
  induction vs with
  | nil => intro cs o j _ h; simp at h
  | cons v vs ih =>
    intro cs o j h hj
    simp only [List.length_cons] at h hj
    cases j with
    | zero =>
      rw [setL]
      show (setL _ (o + 1) vs)[o]? = some v
      rw [setL_out vs _ (o + 1) o (by omega)]
      simp [Array.getElem?_setIfInBounds_self_of_lt (show o < cs.size by omega)]
    | succ j =>
      have := ih (cs.setIfInBounds o v) (o + 1) j (by simp; omega) (by omega)
      rw [setL, show o + (j + 1) = o + 1 + j by omega, this]
      rfl

theorem heap_setCells (b : Nat) (vs : List Value) : ∀ (o : Nat) (w : World) (cs : Array Value) (t : TypeId) (fz : Nat × Nat), w.heap[b]? = some (.cells cs t fz) → (w.setCells b o vs).heap[b]? = some (.cells (setL cs o vs) t fz) := by
  induction vs with
  | nil => intro o w cs t fz h; exact h
  | cons v vs ih =>
    intro o w cs t fz h
    rw [World.setCells, setL]
    refine ih (o + 1) _ _ t fz ?_
    simp [World.setCell, Array.getElem?_modify, h]

theorem heap_setCells_other (b k : Nat) (hk : k ≠ b) (vs : List Value) : ∀ (o : Nat) (w : World), (w.setCells b o vs).heap[k]? = w.heap[k]? := by
  induction vs with
  | nil => intro o w; rfl
  | cons v vs ih => intro o w; rw [World.setCells, ih]; exact heap_setCell_other w _ k v hk

theorem setCells_frame (b : Nat) (vs : List Value) : ∀ (o : Nat) (w : World), (w.setCells b o vs).heap.size = w.heap.size ∧ (w.setCells b o vs).os = w.os ∧ (w.setCells b o vs).output = w.output ∧ (w.setCells b o vs).tape = w.tape := by
  induction vs with
  | nil => intro o w; exact ⟨rfl, rfl, rfl, rfl⟩
  | cons v vs ih =>
    intro o w
    obtain ⟨h1, h2, h3, h4⟩ := ih (o + 1) (w.setCell ⟨b, o, none⟩ v)
    exact ⟨by rw [World.setCells, h1]; simp, h2, h3, h4⟩

def H.write (id n : Nat) (t : TypeId) (pl : Bool) (c : Cells) (h : H) : H := ⟨h.next, h.mem.put id (.live n t false pl c)⟩

theorem Step.store {r : Emb} {h : H} {w : World} (hr : Rel r h w) {id n : Nat} {t : TypeId} {pl : Bool} {c : Cells} (hid : id < 65536) (hb : h.mem.blk id = .live n t false pl c)
    {b sh m : Nat} (h1 : r id = some (b, sh, m)) {ws : List V} {xs : List Value} (hv : VsRel r ws xs) {o : Nat} (ho : o + ws.length ≤ n) :
    Step r h w r (h.write id n t pl (fillFrom ws o c)) (w.setCells b (o + sh) xs) := by
  obtain ⟨b', sh', m', h1', ⟨⟨cs, fz, ⟨ty, h2, hty⟩, h3, h4, h5, h6⟩, h7, h8⟩⟩ := hr.blk id n t false pl c hid hb
  rw [hty rfl] at h2
  rw [h1] at h1'
  cases h1'
  have hlen := hv.length
  obtain ⟨f1, f2, f3, f4⟩ := setCells_frame b xs (o + sh) w
  refine Step.setB (k := .live n t false pl (fillFrom ws o c)) hr hid (by rw [hb]; rfl) h1 (fun i hi => heap_setCells_other b i hi xs _ w) f1 f2 f3 f4 ?_
  refine ⟨⟨setL cs (o + sh) xs, fz, ⟨_, heap_setCells b xs _ w cs _ fz h2, fun _ => rfl⟩, by rw [size_setL]; exact h3, h4, h5, fun p hp => ?_⟩, h7, by rw [fillFrom_room]; exact h8⟩
  by_cases hin : o ≤ p ∧ p < o + ws.length
  · obtain ⟨j, rfl⟩ : ∃ j, p = o + j := ⟨p - o, by omega⟩
    have hj : j < ws.length := by omega
    rw [fillFrom_in ws o j c (by omega) hj, show o + j + sh = o + sh + j by omega]
    have hj' : j < xs.length := by omega
    rw [setL_in xs cs (o + sh) j (by omega) hj']
    obtain ⟨x, hx, hvx⟩ := hv.get j (v := ws[j]) (by simp [hj])
    rw [List.getElem?_eq_getElem hj'] at hx
    exact ⟨x, hx, hvx⟩
  · rw [fillFrom_out ws o p c (by omega) (by omega) (by omega), setL_out xs cs (o + sh) (p + sh) (by omega)]
    exact h6 p hp

/-! ### Reads -/
def readFrom (c : Cells) : Nat → Nat → List V
  | _, 0 => []
  | o, n + 1 => c.get o :: readFrom c (o + 1) n

theorem readFrom_length (c : Cells) (n : Nat) : ∀ o, (readFrom c o n).length = n := by
  induction n with
  | zero => intro o; rfl
  | succ n ih => intro o; simp [readFrom, ih]

/-- What is read has its cells. -/
theorem Fits.read {r : Emb} {n : Nat} {t : TypeId} {ro pl : Bool} {c : Cells} {b sh m : Nat} {w : World} (hf : Fits r n t ro pl c b sh m w) (k : Nat) :
    ∀ o, o + k ≤ n → ∃ xs, VsRel r (readFrom c o k) xs ∧ xs.length = k ∧ w.rangeAt b (o + sh) xs := by
  induction k with
  | zero => intro o _; exact ⟨[], .nil, rfl, fun j v h => by simp at h⟩
  | succ k ih =>
    intro o ho
    obtain ⟨xs, h1, h2, h3⟩ := ih (o + 1) (by omega)
    obtain ⟨cs, fz, ⟨_, g2, _⟩, g3, g4, g5, g6⟩ := hf.block
    obtain ⟨x, hx, hvx⟩ := g6 o (by omega)
    refine ⟨x :: xs, .cons hvx h1, by simp [h2], fun j v hj => ?_⟩
    cases j with
    | zero =>
      simp at hj
      subst hj
      simp [World.cell?, g2, hx]
    | succ j =>
      have := h3 j v (by simpa using hj)
      rwa [show o + sh + (j + 1) = o + 1 + sh + j by omega]

/-- What may be written is there. -/
theorem Fits.there {r : Emb} {n : Nat} {t : TypeId} {pl : Bool} {c : Cells} {b sh m : Nat} {w : World} (hf : Fits r n t false pl c b sh m w) (o k : Nat) (h : o + k ≤ m) : w.there b o k := by
  obtain ⟨cs, fz, ⟨_, g2, _⟩, g3, g4, g5, g6⟩ := hf.block
  intro j hj
  constructor
  · simp [World.cell?, g2, show o + j < cs.size by omega]
  · have := g4 rfl (o + j) (by omega)
    simp only [World.frozen?, g2]
    simp only [Bool.and_eq_false_iff, decide_eq_false_iff_not]
    omega

theorem Fits.frozen {r : Emb} {n : Nat} {t : TypeId} {pl : Bool} {c : Cells} {b sh m : Nat} {w : World} (hf : Fits r n t false pl c b sh m w) (o : Nat) (h : o < m) : w.frozen? ⟨b, o, none⟩ = false := by
  simpa using (hf.there o 1 (by omega) 0 (by omega)).2

end Go.Ev
