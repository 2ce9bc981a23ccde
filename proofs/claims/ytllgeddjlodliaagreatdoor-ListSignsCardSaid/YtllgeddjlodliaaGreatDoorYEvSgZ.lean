/- ListSigns: what all gave beside what the document gives, as they lie. No condition. -/
import Derived.Test.YtllgeddjlodliaaGreatDoorYEvSgW
namespace Go.Proofs.YtllgeddjlodliaaGreatDoor
open Go.Ev Go.RowKit
set_option maxRecDepth 100000

theorem cellsSg_len (l : List ByteArray) : (cellsSg l).length = 3 * l.length := by
  induction l with
  | nil => rfl
  | cons t l ih =>
    have e : cellsSg (t :: l) = .int .i64 7 :: .int .i64 0 :: .string t :: cellsSg l := rfl
    rw [e, List.length_cons, List.length_cons, List.length_cons, List.length_cons, ih]
    omega
theorem cellsSg_get : ∀ (l : List ByteArray) (i : Nat) (t : ByteArray), l[i]? = some t → (cellsSg l)[3 * i]? = some (.int .i64 7) ∧ (cellsSg l)[3 * i + 1]? = some (.int .i64 0) ∧ (cellsSg l)[3 * i + 2]? = some (.string t)
  | [], i, t, h => by simp at h
  | s :: l, 0, t, h => by
    simp only [List.getElem?_cons_zero, Option.some.injEq] at h
    subst h
    exact ⟨rfl, rfl, rfl⟩
  | s :: l, i + 1, t, h => by
    rw [List.getElem?_cons_succ] at h
    have e : cellsSg (s :: l) = .int .i64 7 :: .int .i64 0 :: .string s :: cellsSg l := rfl
    obtain ⟨h1, h2, h3⟩ := cellsSg_get l i t h
    rw [e, show 3 * (i + 1) = 3 * i + 1 + 1 + 1 by omega, show 3 * i + 1 + 1 + 1 + 1 = 3 * i + 1 + 1 + 1 + 1 from rfl]
    refine ⟨?_, ?_, ?_⟩
    · rw [List.getElem?_cons_succ, List.getElem?_cons_succ, List.getElem?_cons_succ]; exact h1
    · rw [List.getElem?_cons_succ, List.getElem?_cons_succ, List.getElem?_cons_succ]; exact h2
    · rw [show 3 * i + 1 + 1 + 1 + 2 = 3 * i + 2 + 1 + 1 + 1 by omega, List.getElem?_cons_succ, List.getElem?_cons_succ, List.getElem?_cons_succ]; exact h3
theorem row_slice {w : World} {base : Nat} {e : TypeId} {size : Nat} {v : Value} {n : Nat} {xs : List Value} (h : w.ownsRow base e size v n xs) : ∃ p cap, v = .slice p n cap := by
  rcases h.2 with ⟨rfl, h0⟩ | ⟨g, cap, cur, rfl, _⟩
  · subst h0; exact ⟨_, _, rfl⟩
  · exact ⟨_, _, rfl⟩
theorem row_cell {w : World} {base : Nat} {e : TypeId} {size : Nat} {p : Option Addr} {n cap : Nat} {xs : List Value} (h : w.ownsRow base e size (.slice p n cap) n xs) {j : Nat} {x : Value} (hx : xs[j]? = some x) :
    ∃ g, p = some ⟨g, 0, none⟩ ∧ g < w.heap.size ∧ w.cell? ⟨g, j, none⟩ = some x := by
  have hlen : xs.length = n * size := h.1
  have hj : j < xs.length := (List.getElem?_eq_some_iff.1 hx).1
  rcases h.2 with ⟨_, h0⟩ | ⟨g, cap', cur, e1, _, hh, h1, _, h2, h3⟩
  · subst h0
    rw [Nat.zero_mul] at hlen
    omega
  · cases e1
    refine ⟨g, rfl, (Array.getElem?_eq_some_iff.1 hh).1, ?_⟩
    rw [← h3, List.getElem?_take_of_lt (by omega)] at hx
    simp only [World.cell?, hh]
    simpa using hx
theorem signsL_in : ∀ (us : List Nat) (s : List Nat), s ∈ signsL us → s.length ≤ 2 ∧ ∀ u ∈ s, u ∈ us
  | [], s, h => by simp [signsL] at h
  | [x], s, h => by
    simp only [signsL, List.mem_singleton] at h
    subst h
    exact ⟨by simp, fun u hu => hu⟩
  | x :: y :: l, s, h => by
    rw [signsL] at h
    split at h
    · rcases List.mem_cons.1 h with rfl | h
      · refine ⟨by simp, fun u hu => ?_⟩
        simp only [List.mem_cons, List.not_mem_nil, or_false] at hu
        rcases hu with rfl | rfl <;> simp
      · obtain ⟨h1, h2⟩ := signsL_in l s h
        exact ⟨h1, fun u hu => List.mem_cons_of_mem _ (List.mem_cons_of_mem _ (h2 u hu))⟩
    · rcases List.mem_cons.1 h with rfl | h
      · refine ⟨by simp, fun u hu => ?_⟩
        simp only [List.mem_cons, List.not_mem_nil, or_false] at hu
        subst hu
        simp
      · obtain ⟨h1, h2⟩ := signsL_in (y :: l) s h
        exact ⟨h1, fun u hu => List.mem_cons_of_mem _ (h2 u hu)⟩

/-- The two lists, sign by sign. -/
def SgPair (w : World) (p p' : Option Addr) (sl : List (List Nat)) : Prop := ∀ (i : Nat) (us : List Nat), sl[i]? = some us → ∃ g g' h, p = some ⟨g, 0, none⟩ ∧ p' = some ⟨g', 0, none⟩ ∧ g < w.heap.size ∧ g' < w.heap.size ∧ h < w.heap.size ∧
  w.cell? ⟨g, i * 3, none⟩ = some (.int .i64 7) ∧ w.cell? ⟨g, i * 3 + 1, none⟩ = some (.int .i64 0) ∧ w.cell? ⟨g, i * 3 + 2, none⟩ = some (.string (strS us)) ∧ w.cell? ⟨g', i, none⟩ = some (.slice (some ⟨h, 0, none⟩) us.length us.length) ∧
  us.length ≤ 500 ∧ (∀ u ∈ us, u < 65536) ∧ ∀ j, j < us.length → w.cell? ⟨h, 0 + j, none⟩ = some (.int .i64 ((us.getD j 0 : Nat) : Int))
theorem SgPair.below {w w' : World} {p p' : Option Addr} {sl : List (List Nat)} (h : SgPair w p p' sl) (hb : Below w.heap.size w w') : SgPair w' p p' sl := by
  intro i us hi
  obtain ⟨g, g', b, e1, e2, l1, l2, l3, c1, c2, c3, c4, hn, hu, hc⟩ := h i us hi
  exact ⟨g, g', b, e1, e2, Nat.lt_of_lt_of_le l1 hb.size, Nat.lt_of_lt_of_le l2 hb.size, Nat.lt_of_lt_of_le l3 hb.size, (hb.cell l1).trans c1, (hb.cell l1).trans c2, (hb.cell l1).trans c3, (hb.cell l2).trans c4, hn, hu, fun j hj => (hb.cell l3).trans (hc j hj)⟩
/-- What all gave, and the document's signs: of one length, pair by pair. -/
theorem pairs {w w' : World} {base k : Nat} {lst v : Value} {us : List Nat} {s : ByteArray} {f : Nat} (hs : s = strS us) (hf : us.length ≤ f) (hu : ∀ u ∈ us, u < 65536) (h1 : w.ownsRow base 29 3 lst k (cellsSg (sgnL s (f + 1) 0))) (hb : Below w.heap.size w w') {base' : Nat} (h2 : SgOk w' base' v (signsL us)) :
    k = (signsL us).length ∧ ∃ p cap p' cap', lst = .slice p k cap ∧ v = .slice p' k cap' ∧ SgPair w' p p' (signsL us) := by
  have hL := sgnL_law us hu f 0 (by omega)
  rw [List.drop_zero] at hL
  rw [hs, hL] at h1
  have hk : k = (signsL us).length := by
    have := h1.1
    rw [cellsSg_len, List.length_map] at this
    omega
  subst hk
  obtain ⟨xs, hx, hr⟩ := h2
  obtain ⟨p, cap, rfl⟩ := row_slice h1
  obtain ⟨p', cap', rfl⟩ := row_slice hx
  refine ⟨rfl, p, cap, p', cap', rfl, rfl, fun i s hi => ?_⟩
  obtain ⟨h, fz, q1, _, q3⟩ := hr i s hi
  obtain ⟨g1, g2, g3⟩ := cellsSg_get ((signsL us).map strS) i (strS s) (by rw [List.getElem?_map, hi]; rfl)
  rw [Nat.mul_comm] at g1 g2 g3
  obtain ⟨g, rfl, l1, c1⟩ := row_cell h1 g1
  obtain ⟨_, e2, _, c2⟩ := row_cell h1 g2
  cases e2
  obtain ⟨_, e3, _, c3⟩ := row_cell h1 g3
  cases e3
  obtain ⟨g', rfl, l2, c4⟩ := row_cell hx q1
  obtain ⟨m1, m2⟩ := signsL_in us s (List.mem_of_getElem? hi)
  refine ⟨g, g', h, rfl, rfl, Nat.lt_of_lt_of_le l1 hb.size, l2, (Array.getElem?_eq_some_iff.1 q3).1, (hb.cell l1).trans c1, (hb.cell l1).trans c2, (hb.cell l1).trans c3, c4, by omega, fun u hu' => hu u (m2 u hu'), fun j hj => ?_⟩
  simp only [World.cell?, q3]
  have : (intsC s)[j]? = some (.int .i64 ((s.getD j 0 : Nat) : Int)) := by
    simp [intsC, List.getD, hj]
  simpa using this
theorem wlk_calls' {W : World} (hA : At W) (hF : fW = true) {r : Emb} {w : World} (hst : Step (globEmb Tryz.prog W) hE0 W r Sg.macS.h w) (hn : ∀ id, isNam id = true → r id = none) {b sh c : Nat} (h22 : r 22 = some (b, sh, c)) {x y : Nat} (hxy : x < 256 ^ y) {s : ByteArray} (hs : sval x y = s) :
    Calls Tryz.prog 8 #[.pointer (some ⟨b, sh, none⟩), .int .i64 3, .agg #[.int .i64 7, .int .i64 0, .string s]] w fun e w' => ∃ r2, e = .returned (.agg #[.int .i64 9, .int .i64 38, .string ByteArray.empty]) ∧ r2 10 = some (x, y, 0) ∧ r2 22 = some (b, sh, c) ∧ Step (globEmb Tryz.prog W) hE0 W r2 Sg.wlkS.h w' ∧
      ∀ w0 B, Kp w0 B r Sg.macS.h w → Kp w0 B r2 Sg.wlkS.h w' := by
  subst hs
  exact wlk_calls hA hF hst hn h22 hxy
theorem wk_rel (r : Emb) : VRel r Sg.wkV (.agg #[.int .i64 9, .int .i64 38, .string ByteArray.empty]) :=
  .agg (.cons (.int .i64 9) (.cons (.int .i64 38) (.cons (VRel.str (n := 0) (l := 0) (by decide)) .nil)))
/-- The document's text of one sign, wherever the heap has grown since. -/
theorem str_at {w9 w : World} {h : Nat} {us : List Nat} (hlt : h < w9.heap.size) (hn : us.length ≤ 500) (hu : ∀ u ∈ us, u < 65536) (hc : ∀ j, j < us.length → w9.cell? ⟨h, 0 + j, none⟩ = some (.int .i64 ((us.getD j 0 : Nat) : Int))) (hb : Below w9.heap.size w9 w) :
    Calls Tryz.prog 9 #[.slice (some ⟨h, 0, none⟩) us.length us.length] w fun e w' => e = .returned (.string (strS us)) ∧ Below w9.heap.size w9 w' := by
  refine (str_walk h 0 us.length us w (Nat.lt_of_lt_of_le hlt hb.size) hn hu (fun j hj => (hb.cell hlt).trans (hc j hj))).mono ?_
  rintro e w' ⟨rfl, h2⟩
  exact ⟨rfl, hb.trans (h2.mono hb.size)⟩
end Go.Proofs.YtllgeddjlodliaaGreatDoor
