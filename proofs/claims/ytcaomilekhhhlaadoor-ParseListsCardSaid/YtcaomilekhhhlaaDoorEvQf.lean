/- ParseLists: an array's parts, by the parser. No condition. -/
import Derived.Test.YtcaomilekhhhlaaDoorEvQe
import Derived.Deep.RegionHeld3
import Derived.WalkSpells
namespace Go.Proofs.YtcaomilekhhhlaaDoor
open Go.Ev Go.RowKit
set_option maxHeartbeats 8000000
set_option maxRecDepth 100000

theorem make_walk (w : World) (kd at_ : Int) (s : ByteArray) (v : Value) (hv : ∃ p n c, v = .slice p n c) : Calls Tryd.prog 7 #[.int .i64 kd, .int .i64 at_, .string s, v] w fun e w' => e = .returned (.pointer (some ⟨w.heap.size, 0, none⟩)) ∧ w' = w.alloc (.cells #[.int .i64 kd, .int .i64 at_, .string s, .int .i64 0, .int .i64 0, v] 32) := by
  obtain ⟨p, n, c, rfl⟩ := hv
  go_enter Tryd.func7, Tryd.ntmps7
  go_wp2
  go_ret
  exact ⟨rfl, rfl⟩
/-- A list of nodes: names and holes. -/
def kdOf (b : Bool) : Nat := if b then 32 else 40
def KidsOk (w : World) (base nb : Nat) (v : Value) (l : List Bool) : Prop :=
  ∃ xs, w.ownsRow base 24 1 v l.length xs ∧ ∀ (i : Nat) (b : Bool), l[i]? = some b → ∃ kb no, xs[i]? = some (Value.pointer (some ⟨kb, no, none⟩)) ∧ base ≤ kb ∧ kb < w.heap.size ∧ kb ≠ nb ∧ NodeAt w kb no (kdOf b)
theorem KidsOk.nil (w : World) (base nb : Nat) : KidsOk w base nb (.slice none 0 0) [] := ⟨[], World.ownsRow_nil _ _ _ _, fun i b h => by simp at h⟩
theorem KidsOk.keep {w w' : World} {base nb : Nat} {v : Value} {l : List Bool} (h : KidsOk w base nb v l) (hs : w.heap.size ≤ w'.heap.size) (hk : ∀ k, base ≤ k → k < w.heap.size → w'.heap[k]? = w.heap[k]?) : KidsOk w' base nb v l := by
  obtain ⟨xs, ho, hn⟩ := h
  refine ⟨xs, ownsRow_at ho fun g hg => hk g (ho.lt g hg).1 (ho.lt g hg).2, fun i b hi => ?_⟩
  obtain ⟨kb, no, h1, h2, h3, hne, h4⟩ := hn i b hi
  exact ⟨kb, no, h1, h2, Nat.lt_of_lt_of_le h3 hs, hne, h4.keep (hk kb h2 h3)⟩
/-- The list grows by a node. -/
theorem KidsOk.snoc {w wx wn : World} {base nb kb no : Nat} {v v2 : Value} {l : List Bool} {b : Bool} {xs : List Value} (ho : w.ownsRow base 24 1 v l.length xs) (hn : ∀ (i : Nat) (b : Bool), l[i]? = some b → ∃ kb no, xs[i]? = some (Value.pointer (some ⟨kb, no, none⟩)) ∧ base ≤ kb ∧ kb < w.heap.size ∧ kb ≠ nb ∧ NodeAt w kb no (kdOf b))
    (hx : ∀ k, k < w.heap.size → wx.heap[k]? = w.heap[k]?) (hxs : w.heap.size ≤ wx.heap.size) (hkb : base ≤ kb) (hkl : kb < w.heap.size) (hkn : kb ≠ nb) (hnd : NodeAt w kb no (kdOf b)) (ho2 : wn.ownsRow base 24 1 v2 (l.length + 1) (xs ++ [.pointer (some ⟨kb, no, none⟩)])) (hg : wx.grownBy wn v.ownBlock) : KidsOk wn base nb v2 (l ++ [b]) := by
  have keep : ∀ kb no kd, kb < w.heap.size → NodeAt w kb no kd → NodeAt wn kb no kd := fun kb no kd hl hnd => by
    refine hnd.keep ?_
    rw [hg.block kb (Nat.lt_of_lt_of_le hl hxs) ?_, hx kb hl]
    intro e2
    obtain ⟨⟨cs, fz, hcs⟩, _⟩ := hnd
    rcases ho.2 with ⟨rfl, _⟩ | ⟨g', cap, cur, rfl, h4, h5, _⟩
    · simp [Value.ownBlock] at e2
    · simp only [Value.ownBlock, Option.some.injEq] at e2
      subst e2
      rw [h5] at hcs
      simp at hcs
  have hlen : xs.length = l.length := by have := ho.1; omega
  refine ⟨_, by rw [List.length_append]; exact ho2, fun i c hi => ?_⟩
  by_cases hlt : i < l.length
  · rw [List.getElem?_append_left hlt] at hi
    obtain ⟨kb', no', h1, h2, h3, hne, h4⟩ := hn i c hi
    exact ⟨kb', no', by rw [List.getElem?_append_left (by omega)]; exact h1, h2, by have := hg.size; omega, hne, keep _ _ _ h3 h4⟩
  · rw [List.getElem?_append_right (by omega)] at hi
    have hi0 : i - l.length = 0 := by
      cases hq : i - l.length with
      | zero => rfl
      | succ n => rw [hq] at hi; simp at hi
    rw [hi0] at hi
    simp only [List.getElem?_cons_zero, Option.some.injEq] at hi
    subst hi
    refine ⟨kb, no, ?_, hkb, by have := hg.size; omega, hkn, keep _ _ _ hkl hnd⟩
    rw [List.getElem?_append_right (by omega), show i - xs.length = 0 by omega]
    rfl
/-- An array's node. -/
def ArrAt (w : World) (nb : Nat) (kd x : Int) (v : Value) : Prop := w.heap[nb]? = some (.cells #[.int .i64 kd, .int .i64 x, .string ⟨#[]⟩, .int .i64 0, .int .i64 0, v] 32 (0, 0))
end Go.Proofs.YtcaomilekhhhlaaDoor
