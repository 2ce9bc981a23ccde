/- ListSigns: the sign that is to come is pinned. No condition. -/
import Derived.Test.YtllgeddjlodliaaGreatDoorYEvMj
namespace Go.Ev

variable {P : Program}

/-- Labels 12 and 13: the sign's text, the block in which it is said. -/
def pinR (r : Emb) (x y : Nat) (b : Nat × Nat × Nat) : Emb := fun id => if id = 12 then some (x, y, 0) else if id = 13 then some b else r id
theorem pinR_le {r : Emb} {x y : Nat} {b : Nat × Nat × Nat} (h12 : r 12 = none) (h13 : r 13 = none) : r.le (pinR r x y b) := fun id z e => by
  unfold pinR
  by_cases e1 : id = 12
  · rw [e1, h12] at e; cases e
  · rw [if_neg e1]
    by_cases e2 : id = 13
    · rw [e2, h13] at e; cases e
    · rw [if_neg e2]; exact e
theorem pin_sound {W : World} {nb n : Nat} {r0 r : Emb} {h0 h : H} {T : Tm} {a : Act} {w : World} (hs : St P W nb n r T [] h a w) (st : Step r0 h0 W r h w) (h12 : r 12 = none) (h13 : r 13 = none) (hn : 20 ≤ h.next) (hl0 : Live h 0) (hro : ownB (h.mem.blk 0) = false)
    {k x y : Nat} (hp : ∀ b, pinSpec (k + 1) (pinR r x y b)) :
    ∃ b, St P W nb n (pinR r x y b) T [] (h.setB 13 (.u16b (k + 1))) a w ∧ Step r0 h0 W (pinR r x y b) (h.setB 13 (.u16b (k + 1))) w ∧ ∀ g, Held (pinR r x y b) (h.setB 13 (.u16b (k + 1))) g → Held r h g := by
  obtain ⟨b0, sh0, m0, e0, _⟩ := hs.rel.fit 0 (by decide) hl0.2
  have hlt0 : b0 < w.heap.size := hs.rel.lt hl0 e0
  have hle := pinR_le (x := x) (y := y) (b := (b0, 0, 0)) h12 h13
  refine ⟨(b0, 0, 0), ?_⟩
  generalize hr2 : pinR r x y (b0, 0, 0) = r2 at hle
  have r13 : r2 13 = some (b0, 0, 0) := by rw [← hr2]; rfl
  have rold : ∀ id, id ≠ 12 → id ≠ 13 → r2 id = r id := fun id g1 g2 => by rw [← hr2]; unfold pinR; rw [if_neg g1, if_neg g2]
  have hblk : ∀ id, id < 65536 → id ≠ 13 → (h.setB 13 (.u16b (k + 1))).mem.blk id = h.mem.blk id := fun id hi e => blk_setB_other (by decide) hi e
  have hblk13 : (h.setB 13 (.u16b (k + 1))).mem.blk 13 = .u16b (k + 1) := blk_setB (by decide)
  have live : ∀ id, Live (h.setB 13 (.u16b (k + 1))) id → id ≠ 13 → Live h id ∧ r2 id = r id := fun id hl e => by
    have hl' : Live h id := ⟨hl.1, by rw [← hblk id hl.1 e]; exact hl.2⟩
    refine ⟨hl', rold id (fun e2 => ?_) e⟩
    obtain ⟨b, sh, m, g, _⟩ := hs.rel.fit id hl'.1 hl'.2
    rw [e2, h12] at g
    cases g
  have hheld : ∀ g, Held r2 (h.setB 13 (.u16b (k + 1))) g → Held r h g := fun g ⟨id, sh, m, hl, e⟩ => by
    by_cases e13 : id = 13
    · rw [e13, r13] at e
      cases e
      exact ⟨0, sh0, m0, hl0, e0⟩
    · obtain ⟨g1, g2⟩ := live id hl e13
      exact ⟨id, sh, m, g1, by rw [← g2]; exact e⟩
  have hown : ∀ g, Own r2 (h.setB 13 (.u16b (k + 1))) g → Own r h g := fun g ⟨id, sh, m, hi, ho, e⟩ => by
    by_cases e13 : id = 13
    · rw [e13, hblk13] at ho; cases ho
    · obtain ⟨g1, g2⟩ := live id ⟨hi, live_of_own ho⟩ e13
      exact ⟨id, sh, m, hi, by rw [← hblk id hi e13]; exact ho, by rw [← g2]; exact e⟩
  have hrel : Rel r2 (h.setB 13 (.u16b (k + 1))) w := by
    refine ⟨fun id hi hl => ?_, fun id id' b sh m sh' m' hl hl' ho e e' => ?_, fun id hi => ?_⟩
    · by_cases e13 : id = 13
      · refine ⟨b0, 0, 0, by rw [e13]; exact r13, ?_⟩
        rw [e13, hblk13]
        exact ⟨by rw [← hr2]; exact hp _, hlt0, .inl (Nat.succ_pos _)⟩
      · obtain ⟨g1, g2⟩ := live id ⟨hi, hl⟩ e13
        obtain ⟨b, sh, m, k1, k2⟩ := hs.rel.fit id g1.1 g1.2
        rw [hblk id hi e13]
        exact ⟨b, sh, m, by rw [g2]; exact k1, k2.keep hle rfl⟩
    · have other : ∀ j b sh m sh' m', Live (h.setB 13 (.u16b (k + 1))) j → j ≠ 13 → ownB ((h.setB 13 (.u16b (k + 1))).mem.blk j) = true → r2 j = some (b, sh, m) → r2 13 = some (b, sh', m') → False := fun j b sh m sh' m' g1 g2 g3 g4 g5 => by
        obtain ⟨k1, k2⟩ := live j g1 g2
        rw [r13] at g5
        cases g5
        rw [k2] at g4
        rw [hblk j g1.1 g2] at g3
        have := hs.rel.inj j 0 b0 sh m sh0 m0 k1 hl0 (.inl g3) g4 e0
        rw [this, hro] at g3
        cases g3
      by_cases e1 : id = 13 <;> by_cases e2 : id' = 13
      · rw [e1, e2]
      · rw [e1] at e ho
        rcases ho with ho | ho
        · rw [hblk13] at ho; cases ho
        · exact (other id' b sh' m' sh m hl' e2 ho e' e).elim
      · rw [e2] at e' ho
        rcases ho with ho | ho
        · exact (other id b sh m sh' m' hl e1 ho e e').elim
        · rw [hblk13] at ho; cases ho
      · obtain ⟨g1, g2⟩ := live id hl e1
        obtain ⟨g3, g4⟩ := live id' hl' e2
        rw [g2] at e
        rw [g4] at e'
        rw [hblk id hl.1 e1, hblk id' hl'.1 e2] at ho
        exact hs.rel.inj id id' b sh m sh' m' g1 g3 ho e e'
    · have hi' : h.next ≤ id := hi
      rw [rold id (by omega) (by omega)]
      exact hs.rel.new id hi'
  have hdef : a.defers = [] := by
    have := hs.ds
    cases hq : a.defers with
    | nil => rfl
    | cons _ _ => rw [hq] at this; cases this
  refine ⟨⟨hrel, GRel.up hle hs.gl, ⟨hs.base.same, fun b ho => hs.base.own b (hown b ho), hs.base.size⟩, fun t => (hs.tm t).up hle, ?_, ?_, hs.sz⟩, ?_, hheld⟩
  · rw [hdef]; exact .nil
  · rw [hdef]; exact ⟨hs.mks.1, trivial⟩
  · exact ⟨Emb.le_trans st.le hle, hrel, st.size, st.keep, fun b hb ho => st.own b hb (hown b ho), fun b hb hh => st.held b hb (hheld b hh), st.os, st.out, st.tape⟩

end Go.Ev
