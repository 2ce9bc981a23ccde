/- The evaluator's make and append. No condition. -/
import Derived.Test.YtoecccbjhmejiaaGreatDoorEvK
namespace Go.Ev

variable {P : Program}

def growTo (n : Nat) (c : Cells) : Cells := bif Nat.ble n c.room then c else (bif Nat.ble n c.grow.room then c.grow else c.grow.grow)
theorem growTo_get (n : Nat) (c : Cells) (p : Nat) (h : p < c.room) : (growTo n c).get p = c.get p := by
  unfold growTo
  cases Nat.ble n c.room
  · cases Nat.ble n c.grow.room
    · show c.grow.grow.get p = _
      rw [Cells.get_grow _ _ (Nat.lt_of_lt_of_le h c.room_grow), Cells.get_grow _ _ h]
    · exact Cells.get_grow _ _ h
  · rfl
theorem growTo_room (n : Nat) (c : Cells) (h : n ≤ 4096) : n ≤ (growTo n c).room := by
  unfold growTo
  cases h1 : Nat.ble n c.room
  · cases h2 : Nat.ble n c.grow.room
    · cases c <;> simp [Cells.grow, Cells.room] at h1 h2 ⊢ <;> omega
    · exact Nat.le_of_ble_eq_true h2
  · exact Nat.le_of_ble_eq_true h1

/-- The cells of a slice that is appended to, with room for so many. -/
def baseCells (c : Cells) (o k n : Nat) : Cells := bif Nat.beq k 0 || Nat.beq o 0 then growTo n c else fillFrom (readFrom c o k) 0 (emptyCells n)

theorem readFrom_get (c : Cells) (k : Nat) : ∀ (o j : Nat) (h : j < (readFrom c o k).length), (readFrom c o k)[j] = c.get (o + j) := by
  induction k with
  | zero => intro o j h; simp [readFrom] at h
  | succ k ih =>
    intro o j h
    cases j with
    | zero => rfl
    | succ j =>
      have h' : j < (readFrom c (o + 1) k).length := by simpa [readFrom] using h
      have := ih (o + 1) j h'
      rw [show o + (j + 1) = o + 1 + j by omega, ← this]
      rfl

theorem baseCells_get (c : Cells) (o k n p : Nat) (hp : p < k) (ho : o + k ≤ c.room) (hk : k ≤ n) (hn : n ≤ 4096) : (baseCells c o k n).get p = c.get (o + p) := by
  unfold baseCells
  cases hc : (Nat.beq k 0 || Nat.beq o 0)
  · show (fillFrom (readFrom c o k) 0 (emptyCells n)).get p = _
    have := fillFrom_in (readFrom c o k) 0 p (emptyCells n) (by rw [readFrom_length]; have := emptyCells_room n hn; omega) (by rw [readFrom_length]; exact hp)
    rw [Nat.zero_add] at this
    rw [this, readFrom_get]
  · have h0 : o = 0 := by
      rw [Bool.or_eq_true] at hc
      rcases hc with h | h
      · have := Nat.eq_of_beq_eq_true h; omega
      · exact Nat.eq_of_beq_eq_true h
    subst h0
    rw [Nat.zero_add]
    exact growTo_get n c p (by omega)
theorem baseCells_room (c : Cells) (o k n : Nat) (hn : n ≤ 4096) : n ≤ (baseCells c o k n).room := by
  unfold baseCells
  cases (Nat.beq k 0 || Nat.beq o 0)
  · show n ≤ (fillFrom _ _ _).room
    rw [fillFrom_room]
    exact emptyCells_room n hn
  · exact growTo_room n c hn

def makeSliceV (P : Program) (h : H) (t : TypeId) (x y : V) : Option (V × H) :=
  match P.underlying t, natV x, natV y with
  | some (.slice e), some l, some c =>
    match P.info? e, zeroV P e with
    | some i, some zs =>
      bif Nat.ble l c && Nat.ble c 4096 && Nat.ble (Nat.mul c i.bytes) 1099511627776 && Nat.beq zs.length i.size && Nat.ble (Nat.mul c i.size) 4096 then
        (newV h (repL c zs).length e (repL c zs)).map fun h' => (.slice h.next 0 l c i.size, h')
      else none
    | _, _ => none
  | _, _, _ => none

theorem zeroV_info {r : Emb} {t : TypeId} {zs : List V} (h : zeroV P t = some zs) : ∃ i z, P.info? t = some i ∧ i.zero = some z ∧ VsRel r zs z.cells.toList := by
  unfold zeroV at h
  split at h
  · rename_i i hi
    split at h
    · rename_i z hz
      exact ⟨i, z, hi, hz, cellsV_sound (vrel_constV r z) h⟩
    · simp at h
  · simp at h

theorem makeSliceV_sound {r : Emb} {h h' : H} {w : World} (hr : Rel r h w) {e : Operand → Value} {o : Oper} {t : TypeId} {x y : Operand} (ho : o.op = .makeSlice t x y) {vx vy v : V} (hx : VRel r vx (e x)) (hy : VRel r vy (e y))
    (he : makeSliceV P h t vx vy = some (v, h')) : Gives P r h w e o v h' := by
  unfold makeSliceV at he
  split at he
  · rename_i el l c hu hl hc
    obtain ⟨k1, e1⟩ := natV_sound hl hx
    obtain ⟨k2, e2⟩ := natV_sound hc hy
    split at he
    · rename_i i zs hi hz
      cases hk : (Nat.ble l c && Nat.ble c 4096 && Nat.ble (Nat.mul c i.bytes) 1099511627776 && Nat.beq zs.length i.size && Nat.ble (Nat.mul c i.size) 4096) <;> simp only [hk, cond_true, cond_false, reduceCtorEq] at he
      simp only [Bool.and_eq_true] at hk
      obtain ⟨⟨⟨⟨g1, g2⟩, g3⟩, g4⟩, g5⟩ := hk
      have g1' := Nat.le_of_ble_eq_true g1
      have g2' := Nat.le_of_ble_eq_true g2
      have g3' : c * i.bytes ≤ 1099511627776 := Nat.le_of_ble_eq_true g3
      have g4' := Nat.eq_of_beq_eq_true g4
      cases hn : newV h (repL c zs).length el (repL c zs) with
      | none => rw [hn] at he; simp at he
      | some h2 =>
        rw [hn] at he
        simp only [Option.map_some, Option.some.injEq, Prod.mk.injEq] at he
        obtain ⟨rfl, rfl⟩ := he
        obtain ⟨i', z, hi', hz', h4⟩ := zeroV_info (r := r) hz
        rw [hi] at hi'
        cases hi'
        have hsz : z.cells.size = i.size := by rw [← g4']; simpa using h4.length.symm
        have hb : (i.bytes : Int) * (Int.ofNat c) ≤ 281474976710656 := by
          have : (i.bytes : Int) * (Int.ofNat c) = ((c * i.bytes : Nat) : Int) := by rw [Nat.mul_comm]; simp
          rw [this]; omega
        have hrun := run_make (P := P) w t el i z hu hi hz' k1 k2 (Int.ofNat l) (Int.ofNat c) (Int.natCast_nonneg l) (Int.ofNat_le.2 g1') hb (by show (c : Int) ≤ _; omega)
        have hrel := repL_rel h4 c
        rw [hsz] at hrel
        refine ⟨.slice (some ⟨w.heap.size, 0, none⟩) l c, _, _, .inl ?_, newV_sound hr (xs := madeCells z.cells (c * i.size)) (by unfold madeCells; rw [hsz]; exact hrel) hn, ?_⟩
        · unfold execOp
          simp only [ho, e1, e2]
          simp only [Sem.run_bind]
          rw [hrun]
          rfl
        · refine .slice (o := 0) (Emb.put_same _ _ _) g1' (Nat.le_refl _) ?_
          rw [size_madeCells]
          omega
    · simp at he
  · simp at he

end Go.Ev
