/- ParseLists: the token at a place, by the program's scanner. Condition: it is one of those that the law writes; the table of blanks holds what its initialiser lays. -/
import Derived.Test.YtcaomilekhhhlaaDoorEvPu
namespace Go.Proofs.YtcaomilekhhhlaaDoor
open Go.Ev Go.RowKit
set_option maxHeartbeats 4000000
set_option maxRecDepth 100000

theorem pref_is {s p : ByteArray} {b : Bool} (w : World) (h : Lib.hasPrefix s.data.toList p.data.toList = b) : Calls Tryd.prog 20 #[.string s, .string p] w fun e w' => e = .returned (.bool b) ∧ w' = w := by
  refine (Tryd.strings_HasPrefix s p w).mono ?_
  rintro e w' ⟨rfl, rfl⟩
  rw [h]
  exact ⟨rfl, rfl⟩
theorem four_at {w : World} {g : Nat} {x0 x1 x2 x3 : Value} {t : TypeId} (h : w.heap[g]? = some (.cells #[x0, x1, x2, x3] t (0, 0))) :
    w.cell? ⟨g, 0, none⟩ = some x0 ∧ w.cell? ⟨g, 1, none⟩ = some x1 ∧ w.cell? ⟨g, 2, none⟩ = some x2 ∧ w.cell? ⟨g, 3, none⟩ = some x3 ∧ w.frozen? ⟨g, 0, none⟩ = false ∧ w.frozen? ⟨g, 1, none⟩ = false ∧ w.frozen? ⟨g, 2, none⟩ = false ∧ w.frozen? ⟨g, 3, none⟩ = false := by
  simp [World.cell?, World.frozen?, h]
theorem set_blk {w : World} {g : Nat} {cs : Array Value} {t : TypeId} {fz : Nat × Nat} (h : w.heap[g]? = some (.cells cs t fz)) (i : Nat) (y : Value) : (w.setCell ⟨g, i, none⟩ y).heap[g]? = some (.cells (cs.setIfInBounds i y) t fz) := by
  show (w.heap.modify g _)[g]? = _
  rw [Array.getElem?_modify, if_pos rfl, h]
  rfl
theorem four_set {w : World} {g : Nat} {x0 x1 x2 x3 : Value} {t : TypeId} {fz : Nat × Nat} (h : w.heap[g]? = some (.cells #[x0, x1, x2, x3] t fz)) (y0 y1 y2 y3 : Value) :
    ((((w.setCell ⟨g, 0, none⟩ y0).setCell ⟨g, 1, none⟩ y1).setCell ⟨g, 2, none⟩ y2).setCell ⟨g, 3, none⟩ y3).heap[g]? = some (.cells #[y0, y1, y2, y3] t fz) :=
  set_blk (set_blk (set_blk (set_blk h 0 y0) 1 y1) 2 y2) 3 y3
theorem below_set {g : Nat} {w0 w : World} (h : Below g w0 w) (i : Nat) (y : Value) : Below g w0 (w.setCell ⟨g, i, none⟩ y) := h.setCell (p := ⟨g, i, none⟩) (Nat.le_refl g) y
theorem one_name {W : World} (hA : At W) (s t : ByteArray) (at_ b c d : Nat) (w : World) (hb : b = at_ + 1) (hlt : at_ < s.size) (hlt2 : b < s.size) (hs : s.size ≤ 1000) (hc : (s[at_]'hlt).toNat = c) (hd : (s[b]'hlt2).toNat = d) (hcl : c = 97 ∨ c = 98 ∨ c = 102) (hdn : d ∈ nonL)
    (ht : t = ⟨#[UInt8.ofNat c]⟩) (hx : s.extract at_ b = t) (hB : Below W.heap.size W w) :
    Calls Tryd.prog 12 #[.string s, .int .i64 at_] w fun e w' => e = .returned (.tuple #[.agg #[.int .i64 1, .string t, .int .i64 0, .int .i64 0], .int .i64 b, .bool true]) ∧ Below w.heap.size w w' := by
  have nm : ∀ w, Below W.heap.size W w → _ := fun w h => name_one hA s t at_ b c d w hb hlt hlt2 hs hc hd hcl hdn ht hx h
  have ly := letter_yes hcl
  have hBs := hB.size
  clear hd hdn ht hx hcl hb hlt2 hs
  go_enter Tryd.func12, Tryd.ntmps12
  go_wp2_with (go_at_call 23; refine (ly _).mono ?_)
  rintro e w' ⟨rfl, rfl⟩
  clear ly hc hlt
  go_wp2_with (go_at_call 24; refine (nm _ ?bel).mono ?_)
  case bel => repeat (first | exact hB | refine Below.alloc ?_ (by first | omega | (simp; omega)) _)
  clear nm
  rintro e w2 ⟨rfl, hk⟩
  have h4 : w2.heap[w.heap.size]? = _ := (hk.block w.heap.size (by simp)).trans (heap_alloc_new w _)
  have hlt4 : w.heap.size < w2.heap.size := by have := hk.size; simp at this; omega
  have hk2 : Below w.heap.size w w2 := ((Below.refl _ w).alloc (Nat.le_refl _) _).trans (hk.mono (by simp))
  clear hk hB hBs hA
  generalize hg : w.heap.size = g at h4 hlt4 hk2 ⊢
  obtain ⟨c0, c1, c2, c3, f0, f1, f2, f3⟩ := four_at h4
  go_wp2
  exact tok_ret rfl rfl (four_set h4 _ _ _ _) ⟨rfl, by rw [hg]; exact below_set (below_set (below_set (below_set hk2 0 _) 1 _) 2 _) 3 _⟩
end Go.Proofs.YtcaomilekhhhlaaDoor
