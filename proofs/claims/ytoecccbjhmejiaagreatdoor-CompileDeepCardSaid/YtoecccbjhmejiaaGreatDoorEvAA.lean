/- Where a run may begin, and a call that began with no memory of its own: it leaves every old block. No condition. -/
import Derived.Test.YtoecccbjhmejiaaGreatDoorEvZ
namespace Go.Ev

variable {P : Program}

/-- A heap at which a run may begin: it owns nothing. -/
structure Begin (P : Program) (w0 : World) (r0 : Emb) (h0 : H) : Prop where
  gl : GRel P r0
  rel : ∀ w : World, (∀ b, b < w0.heap.size → w.heap[b]? = w0.heap[b]?) → Rel r0 h0 w
  none : ∀ b, ¬ Own r0 h0 b

theorem Begin.base {w0 w : World} {r0 : Emb} {h0 : H} (hb : Begin P w0 r0 h0) (h1 : ∀ b, b < w0.heap.size → w.heap[b]? = w0.heap[b]?) (h2 : w0.heap.size ≤ w.heap.size) : Base w0 r0 h0 w :=
  ⟨h1, fun b ho => (hb.none b ho).elim, h2⟩

/-- A value that speaks of no block. -/
def plain1 (v : V) : Bool :=
  match v with
  | .bool _ => true
  | .int _ _ => true
  | .str _ _ => true
  | .nilp => true
  | .nils => true
  | .nilFn => true
  | .nilI => true
  | .any => true
  | _ => false
def plains : List V → Bool
  | [] => true
  | v :: vs => plain1 v && plains vs

theorem plain1_turn {r r' : Emb} {v : V} {x : Value} (hp : plain1 v = true) (h : VRel r v x) : VRel r' v x := by
  cases h <;> first | (simp [plain1] at hp; done) | (constructor <;> assumption)
theorem plains_turn {r r' : Emb} : ∀ {vs : List V} {xs : List Value}, plains vs = true → VsRel r vs xs → VsRel r' vs xs := by
  intro vs
  induction vs with
  | nil => intro xs _ h; cases h; exact .nil
  | cons v vs ih =>
    intro xs hp h
    simp only [plains, Bool.and_eq_true] at hp
    cases h with | cons h hs => exact .cons (plain1_turn hp.1 h) (ih hp.2 hs)

/-- Plain, or a tuple or composite of plain ones. -/
def plain3 (v : V) : Bool := match v with | .tup vs => plains vs | .agg vs => plains vs | v => plain1 v
def plain3s : List V → Bool
  | [] => true
  | v :: vs => plain3 v && plain3s vs
def plain4 (v : V) : Bool := match v with | .tup vs => plain3s vs | v => plain3 v
theorem plain3_turn {r r' : Emb} {v : V} {x : Value} (hp : plain3 v = true) (h : VRel r v x) : VRel r' v x := by
  unfold plain3 at hp
  split at hp
  · cases h with | tup h => exact .tup (plains_turn hp h)
  · cases h with | agg h => exact .agg (plains_turn hp h)
  · exact plain1_turn hp h
theorem plain3s_turn {r r' : Emb} : ∀ {vs : List V} {xs : List Value}, plain3s vs = true → VsRel r vs xs → VsRel r' vs xs := by
  intro vs
  induction vs with
  | nil => intro xs _ h; cases h; exact .nil
  | cons v vs ih =>
    intro xs hp h
    simp only [plain3s, Bool.and_eq_true] at hp
    cases h with | cons h hs => exact .cons (plain3_turn hp.1 h) (ih hp.2 hs)
theorem plain4_turn {r r' : Emb} {v : V} {x : Value} (hp : plain4 v = true) (h : VRel r v x) : VRel r' v x := by
  unfold plain4 at hp
  split at hp
  · cases h with | tup h => exact .tup (plain3s_turn hp h)
  · exact plain3_turn hp h

/-- What began with no memory of its own has left each block. -/
theorem Step.left {r0 r0' : Emb} {h0 h' : H} {w w' : World} (hn : ∀ b, ¬ Own r0 h0 b) (st : Step r0 h0 w r0' h' w') {r : Emb} {h : H} (hr : Rel r h w) : Step r h w r h w' := by
  refine ⟨r.le_refl, ⟨fun id hi hl => ?_, hr.inj, hr.new⟩, st.size, fun b hlt _ => st.keep b hlt (hn b), fun b _ ho => ho, fun b _ ho => ho, st.os, st.out, st.tape⟩
  obtain ⟨b, sh, m, h1, h2⟩ := hr.fit id hi hl
  exact ⟨b, sh, m, h1, h2.keep r.le_refl (st.keep b (h2.lt hl) (hn b))⟩

/-- A CALL THAT WAS EVALUATED FROM THE BEGINNING MAY BE USED ANYWHERE. -/
theorem absorb {w0 : World} {r0 : Emb} {h0 h' : H} (hb : Begin P w0 r0 h0) {g : FuncId} {vs : List V} {v u : V} (hc : CallOk P w0 g vs h0 u h') (hvs : plains vs = true) (hv : plain4 v = true)
    (huv : ∀ r x, VRel r u x → VRel r v x) (h : H) : CallOk P w0 g vs h v h := by
  intro r w xs hr hg hba hx
  refine (hc r0 w xs (hb.rel w hba.same) hb.gl (hb.base hba.same hba.size) (plains_turn hvs hx)).mono ?_
  rintro e w' ⟨z, r', rfl, st, hz⟩
  exact ⟨z, r, rfl, st.left hb.none hr, plain4_turn hv (huv _ _ hz)⟩

theorem absorb3 {w0 : World} {r0 : Emb} {h0 h' : H} (hb : Begin P w0 r0 h0) {g : FuncId} {vs : List V} {v : V} (hc : CallOk P w0 g vs h0 v h') (hvs : plain3s vs = true) (hv : plain4 v = true)
    (h : H) : CallOk P w0 g vs h v h := by
  intro r w xs hr hg hba hx
  refine (hc r0 w xs (hb.rel w hba.same) hb.gl (hb.base hba.same hba.size) (plain3s_turn hvs hx)).mono ?_
  rintro e w' ⟨z, r', rfl, st, hz⟩
  exact ⟨z, r, rfl, st.left hb.none hr, plain4_turn hv hz⟩

/-- What a run that began with no memory of its own has done to the world. -/
theorem Begin.grown {w w' : World} {r0 r' : Emb} {h0 h' : H} (hn : ∀ b, ¬ Own r0 h0 b) (st : Step r0 h0 w r' h' w') :
    w.heap.size ≤ w'.heap.size ∧ (∀ b, b < w.heap.size → w'.heap[b]? = w.heap[b]?) ∧ w'.os = w.os ∧ w'.output = w.output ∧ w'.tape = w.tape :=
  ⟨st.size, fun b hlt => st.keep b hlt (hn b), st.os, st.out, st.tape⟩

/-- How many cells a block has. -/
def cellsAt (w : World) (g : Nat) : Nat := match w.heap[g]? with | some (.cells cs _ _) => cs.size | _ => 0

def globEmb (P : Program) (w : World) : Emb := fun g => if g < P.globals.size then some (g, 0, cellsAt w g) else none
theorem globEmb_gl (P : Program) (w : World) : GRel P (globEmb P w) := fun g hlt => ⟨cellsAt w g, by simp [globEmb, hlt]⟩

theorem m4_dead (id : Nat) (h : id < 65536) : m4.blk id = .dead := by
  unfold Mem.blk m4 m3 m2 m1
  have h1 : Nat.div id 4096 < 16 := by show id / 4096 < 16; omega
  have h2 : Nat.mod (Nat.div id 256) 16 < 16 := Nat.mod_lt _ (by omega)
  have h3 : Nat.mod (Nat.div id 16) 16 < 16 := Nat.mod_lt _ (by omega)
  have h4 : Nat.mod id 16 < 16 := Nat.mod_lt _ (by omega)
  rw [T16.get_all _ _ h1, T16.get_all _ _ h2, T16.get_all _ _ h3, T16.get_all _ _ h4]

/-- NO BLOCK KNOWN. -/
theorem begin_none (w0 : World) {N : Nat} (hN : P.globals.size ≤ N) : Begin P w0 (globEmb P w0) ⟨N, m4⟩ where
  gl := globEmb_gl P w0
  rel w _ := by
    refine ⟨fun id hi hl => ?_, fun id id' b sh m sh' m' hl => ?_, fun id hle => ?_⟩
    · rw [m4_dead id hi] at hl; cases hl
    · obtain ⟨hi, hb⟩ := hl
      rw [m4_dead id hi] at hb; cases hb
    · have : N ≤ id := hle
      simp [globEmb, show ¬ id < P.globals.size by omega]
  none b := by
    rintro ⟨id, sh, m, hi, hb, _⟩
    rw [m4_dead id hi] at hb; cases hb

/-- ONE TABLE KNOWN, never written. -/
theorem begin_table (w0 : World) {N k n : Nat} {t : TypeId} {c : Cells} (hN : P.globals.size ≤ N) (hN' : N ≤ 65536) (hk : k < P.globals.size) (hroom : n ≤ c.room) {cs : Array Value} {t' : TypeId} {fz : Nat × Nat}
    (hw : w0.heap[k]? = some (.cells cs t' fz)) (hn : n ≤ cs.size) (hc : ∀ o, o < n → ∃ x, cs[o]? = some x ∧ VRel (globEmb P w0) (c.get o) x) : Begin P w0 (globEmb P w0) ⟨N, m4.put k (.live n t true false c)⟩ where
  gl := globEmb_gl P w0
  rel w hsame := by
    have hk' : k < 65536 := by omega
    have only : ∀ id, id < 65536 → liveB ((m4.put k (.live n t true false c)).blk id) = true → id = k := by
      intro id hi hb
      by_cases e : id = k
      · exact e
      · rw [Mem.blk_put_other _ _ _ _ hk' hi e, m4_dead id hi] at hb; cases hb
    refine ⟨fun id hi hb => ?_, fun id id' b sh m sh' m' hl hl' _ _ => ?_, fun id hle => ?_⟩
    · obtain rfl := only id hi hb
      show ∃ b sh m, _ ∧ FitB _ ((m4.put id (.live n t true false c)).blk id) b sh m w
      rw [Mem.blk_put_same _ _ _ hk']
      refine ⟨id, 0, cs.size, by simp [globEmb, hk, cellsAt, hw], ⟨⟨cs, fz, ⟨t', ?_, fun h => Bool.noConfusion h⟩, rfl, fun h => Bool.noConfusion h, fun h => Bool.noConfusion h, fun o ho => by simpa using hc o ho⟩, by omega, hroom⟩⟩
      rw [hsame id (Array.getElem?_eq_some_iff.1 hw).1]
      exact hw
    · rw [only id hl.1 hl.2, only id' hl'.1 hl'.2]
    · have : N ≤ id := hle
      simp [globEmb, show ¬ id < P.globals.size by omega]
  none b := by
    have hk' : k < 65536 := by omega
    rintro ⟨id, sh, m, hi, hb, _⟩
    by_cases e : id = k
    · subst e
      have hb' : ownB ((m4.put id (.live n t true false c)).blk id) = true := hb
      rw [Mem.blk_put_same _ _ _ hk'] at hb'
      cases hb'
    · have hb' : ownB ((m4.put k (.live n t true false c)).blk id) = true := hb
      rw [Mem.blk_put_other _ _ _ _ hk' hi e, m4_dead id hi] at hb'
      cases hb'

/-- ONE TABLE MORE, never written. -/
theorem begin_add {w0 : World} {N k n : Nat} {t : TypeId} {c : Cells} {mm : Mem} (hB : Begin P w0 (globEmb P w0) ⟨N, mm⟩) (hN : P.globals.size ≤ N) (hN' : N ≤ 65536) (hk : k < P.globals.size) (hroom : n ≤ c.room) {cs : Array Value} {t' : TypeId} {fz : Nat × Nat}
    (hw : w0.heap[k]? = some (.cells cs t' fz)) (hn : n ≤ cs.size) (hc : ∀ o, o < n → ∃ x, cs[o]? = some x ∧ VRel (globEmb P w0) (c.get o) x) : Begin P w0 (globEmb P w0) ⟨N, mm.put k (.live n t true false c)⟩ where
  gl := globEmb_gl P w0
  rel w hsame := by
    have hk' : k < 65536 := by omega
    refine ⟨fun id hi hb => ?_, fun id id' b sh m sh' m' _ _ h1 h2 => ?_, fun id hle => ?_⟩
    · by_cases e : id = k
      · subst e
        show ∃ b sh m, _ ∧ FitB _ ((mm.put id (.live n t true false c)).blk id) b sh m w
        rw [Mem.blk_put_same _ _ _ hk']
        refine ⟨id, 0, cs.size, by simp [globEmb, hk, cellsAt, hw], ⟨⟨cs, fz, ⟨t', ?_, fun h => Bool.noConfusion h⟩, rfl, fun h => Bool.noConfusion h, fun h => Bool.noConfusion h, fun o ho => by simpa using hc o ho⟩, by omega, hroom⟩⟩
        rw [hsame id (Array.getElem?_eq_some_iff.1 hw).1]
        exact hw
      · have hb' : liveB ((mm.put k (.live n t true false c)).blk id) = true := hb
        show ∃ b sh m, _ ∧ FitB _ ((mm.put k (.live n t true false c)).blk id) b sh m w
        rw [Mem.blk_put_other _ _ _ _ hk' hi e] at hb' ⊢
        exact (hB.rel w hsame).fit id hi hb'
    · unfold globEmb at h1 h2
      split at h1
      · split at h2
        · simp only [Option.some.injEq, Prod.mk.injEq] at h1 h2
          rw [h1.1, h2.1]
        · cases h2
      · cases h1
    · have : N ≤ id := hle
      simp [globEmb, show ¬ id < P.globals.size by omega]
  none b := by
    have hk' : k < 65536 := by omega
    rintro ⟨id, sh, m, hi, hb, hr⟩
    have hb' : ownB ((mm.put k (.live n t true false c)).blk id) = true := hb
    by_cases e : id = k
    · subst e
      rw [Mem.blk_put_same _ _ _ hk'] at hb'
      cases hb'
    · rw [Mem.blk_put_other _ _ _ _ hk' hi e] at hb'
      exact hB.none b ⟨id, sh, m, hi, hb', hr⟩

end Go.Ev
