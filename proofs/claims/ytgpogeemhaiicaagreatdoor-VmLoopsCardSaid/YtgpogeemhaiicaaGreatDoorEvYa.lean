/- EarlyLabels: a name, a key word, by the program's scanner. Condition: it is one of those that the law writes; the table of blanks holds what its initialiser lays. -/
import Derived.Test.YtgpogeemhaiicaaGreatDoorEvMj
set_option linter.all false
namespace Go.Proofs.YtgpogeemhaiicaaGreatDoor
open Go.Ev Go.RowKit
set_option maxHeartbeats 8000000
set_option maxRecDepth 100000

theorem four_at {w : World} {g : Nat} {x0 x1 x2 x3 : Value} {t : TypeId} (h : w.heap[g]? = some (.cells #[x0, x1, x2, x3] t (0, 0))) :
    w.cell? ⟨g, 0, none⟩ = some x0 ∧ w.cell? ⟨g, 1, none⟩ = some x1 ∧ w.cell? ⟨g, 2, none⟩ = some x2 ∧ w.cell? ⟨g, 3, none⟩ = some x3 ∧ w.frozen? ⟨g, 0, none⟩ = false ∧ w.frozen? ⟨g, 1, none⟩ = false ∧ w.frozen? ⟨g, 2, none⟩ = false ∧ w.frozen? ⟨g, 3, none⟩ = false := by
  simp [World.cell?, World.frozen?, h]
theorem set_blk {w : World} {g : Nat} {cs : Array Value} {t : TypeId} {fz : Nat × Nat} (h : w.heap[g]? = some (.cells cs t fz)) (i : Nat) (y : Value) : (w.setCell ⟨g, i, none⟩ y).heap[g]? = some (.cells (cs.setIfInBounds i y) t fz) := by
  show (w.heap.modify g _)[g]? = _
  rw [Array.getElem?_modify, if_pos rfl, h]
  rfl
theorem four_set {w : World} {g : Nat} {x0 x1 x2 x3 : Value} {t : TypeId} {fz : Nat × Nat} (h : w.heap[g]? = some (.cells #[x0, x1, x2, x3] t fz)) (y0 y1 y2 y3 : Value) :
    ((((w.setCell ⟨g, 0, none⟩ y0).setCell ⟨g, 1, none⟩ y1).setCell ⟨g, 2, none⟩ y2).setCell ⟨g, 3, none⟩ y3).heap[g]? = some (.cells #[y0, y1, y2, y3] t fz) :=
  set_blk (set_blk (set_blk (set_blk h 0 y0) 1 y1) 2 y2) 3 y3
theorem below_set {g : Nat} {w0 w : World} (h : Below g w0 w) (i : Nat) (y : Value) : Below g w0 (w.setCell ⟨g, i, none⟩ y) := h.setCell (p := ⟨g, i, none⟩) (Nat.le_refl g) y
theorem below_far {g q : Nat} {w0 w : World} (h : Below g w0 w) (hq : g ≤ q) (i : Nat) (y : Value) : Below g w0 (w.setCell ⟨q, i, none⟩ y) := h.setCell (p := ⟨q, i, none⟩) hq y
theorem name_walk {W : World} (hA : At W) (s : ByteArray) (t : Tok) (ht : t ∈ txtL) (at_ b d : Nat) (w : World) (hb : b = at_ + t.2.2) (hlt2 : b < s.size) (hs : s.size ≤ 1000) (hc : ∀ p, at_ ≤ p → p < b → ∀ h : p < s.size, 97 ≤ (s[p]'h).toNat ∧ (s[p]'h).toNat ≤ 122) (hd : (s[b]'hlt2).toNat = d) (hdn : d ∈ nonL)
    (hx : s.extract at_ b = sval t.2.1 t.2.2) (hB : Below W.heap.size W w) :
    Calls Tryz.prog 122 #[.string s, .int .i64 at_] w fun e w' => e = .returned (.tuple #[.agg #[.int .i64 t.1, .string (sval t.2.1 t.2.2), .int .i64 0, .int .i64 0], .int .i64 b, .bool true]) ∧ Below w.heap.size w w' := by
  obtain ⟨hk, h1, h2, -⟩ := txt_ok t ht
  have hw2 : IntKind.i64.wrap ((b : Int) - (at_ : Int)) = ((t.2.2 : Nat) : Int) := by
    rw [hb, show ((at_ + t.2.2 : Nat) : Int) - (at_ : Int) = Int.ofNat t.2.2 by simp only [Int.ofNat_eq_natCast]; omega]
    exact Go.Ev.wrap_small IntKind.i64 t.2.2 (by show _ ≤ 9223372036854775807; omega)
  have h60 : ((t.2.2 : Nat) : Int) ≤ 60 := by omega
  have hw9 : ∀ w, Below W.heap.size W w → Calls Tryz.prog 190 #[.string (sval t.2.1 t.2.2)] w fun e w' => e = .returned (.bool (t.1 == 2)) ∧ w' = w := fun w h => word_is hA ht h
  have ln := letter_no hdn
  have dn := digit_no hdn
  have hab : at_ ≤ b := by omega
  have hkd : (t.1 == 2) = false ∧ t.1 = 1 ∨ (t.1 == 2) = true ∧ t.1 = 2 := by
    rcases hk with h | h
    · exact .inl ⟨by rw [h]; rfl, h⟩
    · exact .inr ⟨by rw [h]; rfl, h⟩
  generalize sval t.2.1 t.2.2 = S at *
  generalize ((t.2.2 : Nat) : Int) = L at hw2 h60
  generalize t.1 = kd at *
  clear hdn ht hk h1 h2 hb
  go_enter Tryz.func122, Tryz.ntmps122
  go_wp2
  obtain ⟨w1, hw1⟩ : ∃ w1, w.alloc (.cells #[.int .i64 0, .string ⟨#[]⟩, .int .i64 0, .int .i64 0] 151) = w1 := ⟨_, rfl⟩
  rw [hw1]
  go_loopw [7] (fun v wr => ∃ p : Nat, at_ ≤ p ∧ p ≤ b ∧ v = .int .i64 p ∧ wr = w1) (fun v _ => b - (Go.RowKit.intOf v).toNat)
  case atStart => exact ⟨at_, Nat.le_refl _, hab, rfl, rfl⟩
  case round =>
    obtain ⟨p, hp1, hp2, rfl, rfl⟩ := hrel
    by_cases hlt : p < b
    · have hps : p < s.size := by omega
      obtain ⟨c1, c2⟩ := hc p hp1 hlt hps
      obtain ⟨c, hcc⟩ : ∃ c, (s[p]'hps).toNat = c := ⟨_, rfl⟩
      rw [hcc] at c1 c2
      have ly := letter_yes c1 c2
      have hwr : IntKind.i64.wrap ((p : Int) + 1) = ((p + 1 : Nat) : Int) := by have := Go.Ev.wrap_small IntKind.i64 (p + 1) (by show _ ≤ 9223372036854775807; omega); simpa using this
      clear hw9 ln dn hd hc hx hw2 c1 c2
      go_wp2_with (go_at_call 121; refine (ly _).mono ?_)
      try (rintro e w' ⟨rfl, rfl⟩)
      go_wp2
      exact ⟨⟨p + 1, by omega, by omega, by simp, trivial⟩, by simp [Go.RowKit.intOf]; omega⟩
    · obtain rfl : p = b := by omega
      have h4 := heap_alloc_new w (.cells #[.int .i64 0, .string ⟨#[]⟩, .int .i64 0, .int .i64 0] 151)
      rw [hw1] at h4
      have hbw : Below w.heap.size w wr := by rw [← hw1]; exact (Below.refl _ w).alloc (Nat.le_refl _) _
      have hl4 : w.heap.size < wr.heap.size := by rw [← hw1]; simp
      have hBw : Below W.heap.size W wr := hB.trans (hbw.mono hB.size)
      have h1 : (0 : Int) ≤ (at_ : Int) := by omega
      have h2 : (at_ : Int) ≤ (p : Int) := by omega
      have h3 : (p : Int) ≤ (s.size : Int) := by omega
      clear hw1 hB hc hp1
      go_wp2_with (go_at_call 121; refine (ln _).mono ?_)
      try (rintro e w' ⟨rfl, rfl⟩)
      go_wp2_with (go_at_call 123; refine (dn _).mono ?_)
      try (rintro e w' ⟨rfl, rfl⟩)
      clear ln dn hd
      have al : Below w'.heap.size w' (w'.alloc (.cells #[.int .i64 1, .string S, .int .i64 0, .int .i64 0] 151)) := (Below.refl _ w').alloc (Nat.le_refl _) _
      have h8 := heap_alloc_new w' (.cells #[.int .i64 1, .string S, .int .i64 0, .int .i64 0] 151)
      have c9 := hw9 _ (hBw.trans (al.mono hBw.size))
      have h4' := (al.block _ hl4).trans h4
      have hl8 : w'.heap.size < (w'.alloc (.cells #[.int .i64 1, .string S, .int .i64 0, .int .i64 0] 151)).heap.size := by simp
      have hb3 := hbw.trans (al.mono hbw.size)
      clear hw9 hbw hBw h4 al
      go_wp2_with (go_at_call 190; refine c9.mono ?_)
      clear c9
      generalize w'.alloc (Obj.cells #[Value.int IntKind.i64 1, Value.string S, Value.int IntKind.i64 0, Value.int IntKind.i64 0] 151) = w3 at h8 h4' hl8 hb3 ⊢
      generalize w'.heap.size = g8 at h8 hl4 hl8 ⊢
      generalize hg : w.heap.size = g at h4' hl4 hb3 ⊢
      obtain ⟨a0, a1, a2, a3, b0, b1, b2, b3⟩ := four_at h4'
      obtain ⟨c0, c1, c2, c3, d0, d1, d2, d3⟩ := four_at h8
      rcases hkd with ⟨hk2, rfl⟩ | ⟨hk2, rfl⟩
      · rw [hk2]
        try (rintro e w' ⟨rfl, rfl⟩)
        go_wp2
        exact tok_ret rfl rfl (four_set h4' _ _ _ _) ⟨rfl, by rw [hg]; exact below_set (below_set (below_set (below_set hb3 0 _) 1 _) 2 _) 3 _⟩
      · rw [hk2]
        try (rintro e w' ⟨rfl, rfl⟩)
        go_wp2
        have h4s : (w'.setCell ⟨g8, 0, none⟩ (.int .i64 2)).heap[g]? = _ := (Below.heap_setCell w' ⟨g8, 0, none⟩ (.int .i64 2) g (by show g ≠ g8; omega)).trans h4'
        exact tok_ret rfl rfl (four_set h4s _ _ _ _) ⟨rfl, by rw [hg]; exact below_set (below_set (below_set (below_set (below_far hb3 (by omega) 0 _) 0 _) 1 _) 2 _) 3 _⟩
end Go.Proofs.YtgpogeemhaiicaaGreatDoor
