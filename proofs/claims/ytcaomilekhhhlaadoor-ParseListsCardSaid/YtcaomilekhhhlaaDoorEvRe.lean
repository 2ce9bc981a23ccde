/- ParseLists: the texts' bytes; the law's example. No condition but the tables, as their initialisers lay them. -/
import Derived.Test.YtcaomilekhhhlaaDoorEvRd
import Derived.Test.YtcaomilekhhhlaaDoorEvMi
namespace Go.Proofs.YtcaomilekhhhlaaDoor
open Go.Ev Go.RowKit
set_option maxHeartbeats 8000000
set_option maxRecDepth 100000

/-- What the law's loop writes. -/
def strL (l : List Bool) : List UInt8 := l.flatMap fun b => if b then [97, 44] else [44]
theorem strL_snoc (l : List Bool) (b : Bool) : strL (l ++ [b]) = strL l ++ (if b then [97, 44] else [44]) := by
  unfold strL
  rw [List.flatMap_append]
  simp
theorem strL_len (l : List Bool) : (strL l).length ≤ 2 * l.length := by
  induction l with
  | nil => simp [strL]
  | cons b l ih =>
    have : strL (b :: l) = (if b then [97, 44] else [44]) ++ strL l := rfl
    rw [this, List.length_append, List.length_cons]
    cases b <;> simp <;> omega
theorem pcs_cons (t : Tok) (l : List Tok) : pcs (t :: l) = (false, t) :: pcs l := rfl
theorem pB_A : pB (false, tA) = [97] := by rfl
theorem pB_C : pB (false, tC) = [44] := by rfl
theorem psB_false : ∀ l : List Bool, psB (pcs (toks l false)) = strL l
  | [] => rfl
  | true :: l => by
    have e : toks (true :: l) false = tA :: tC :: toks l false := by rw [toks, if_neg (fun h => by cases h.2)]
    rw [e, pcs_cons, pcs_cons, psB_cons, psB_cons, pB_A, pB_C, psB_false l]
    rfl
  | false :: l => by
    have e : toks (false :: l) false = tC :: toks l false := rfl
    rw [e, pcs_cons, psB_cons, pB_C, psB_false l]
    rfl
/-- Is the last one a name? -/
def lastT (l : List Bool) : Bool := l.getLast?.getD false
theorem psB_true : ∀ l : List Bool, psB (pcs (toks l true)) ++ (if lastT l then [44] else []) = strL l
  | [] => rfl
  | [true] => by
    have e : toks [true] true = [tA] := by rw [toks, if_pos ⟨rfl, rfl⟩]
    rw [e, pcs_cons, psB_cons, pB_A]
    rfl
  | true :: b :: l => by
    have e : toks (true :: b :: l) true = tA :: tC :: toks (b :: l) true := by rw [toks, if_neg (fun h => by cases h.1)]
    have ih := psB_true (b :: l)
    have hl : lastT (true :: b :: l) = lastT (b :: l) := by simp [lastT]
    rw [e, pcs_cons, pcs_cons, psB_cons, psB_cons, pB_A, pB_C, hl, List.append_assoc, List.append_assoc, ih]
    rfl
  | [false] => by
    rfl
  | false :: b :: l => by
    have e : toks (false :: b :: l) true = tC :: toks (b :: l) true := rfl
    have ih := psB_true (b :: l)
    have hl : lastT (false :: b :: l) = lastT (b :: l) := by simp [lastT]
    rw [e, pcs_cons, psB_cons, pB_C, hl, List.append_assoc, ih]
    rfl
theorem strL_last {l : List Bool} (h : lastT l = true) : (strL l).take ((strL l).length - 1) = psB (pcs (toks l true)) := by
  have e := psB_true l
  rw [h, if_pos rfl] at e
  rw [← e, List.length_append]
  simp
theorem dat_append (a b : ByteArray) : (a ++ b).data.toList = a.data.toList ++ b.data.toList := by rw [ByteArray.data_append, Array.toList_append]
/-- The three texts. -/
theorem txt1 {s a b : ByteArray} {l : List Bool} {d : Bool} (h : s.data.toList = psB (pcs (toks l d))) (ha : a = ⟨#[40, 91]⟩) (hb : b = ⟨#[93, 41, 59]⟩) : (a ++ s ++ b).data.toList = psB (pcs1 l d) := by
  rw [dat_append, dat_append, h, ha, hb]
  unfold pcs1
  rw [psB_append, psB_append, List.append_assoc]
  rfl
theorem txt2 {s a b : ByteArray} {l : List Bool} {d : Bool} (h : s.data.toList = psB (pcs (toks l d))) (ha : a = ⟨#[91]⟩) (hb : b = ⟨#[93, 32, 61, 32, 98, 59]⟩) : (a ++ s ++ b).data.toList = psB (pcs2 l d) := by
  rw [dat_append, dat_append, h, ha, hb]
  unfold pcs2
  rw [psB_append, psB_append, List.append_assoc]
  rfl
theorem txt3 {s a b : ByteArray} {l : List Bool} {d : Bool} (h : s.data.toList = psB (pcs (toks l d))) (ha : a = ⟨#[102, 40]⟩) (hb : b = ⟨#[41, 59]⟩) : (a ++ s ++ b).data.toList = psB (pcs3 l d) := by
  rw [dat_append, dat_append, h, ha, hb]
  unfold pcs3
  rw [psB_append, psB_append, List.append_assoc]
  rfl
theorem fit_calls {W : World} (hA : At W) : Calls Tryd.prog 4 #[] W fun e w' => e = .returned (.bool true) ∧ Below W.heap.size W w' := by
  have hq := hA.begins.quiet
  refine (fit_ok hA h0 (globEmb Tryd.prog W) W #[] hq.rel hA.begins.gl hq.base .nil).mono ?_
  rintro e w' ⟨z, r', rfl, st, hv⟩
  cases hv
  exact ⟨rfl, ⟨st.os, st.tape, st.out, st.size, fun k hk => st.keep k hk (hq.none k)⟩⟩
theorem below_pkb {pb : Nat} {w w' : World} (h : Below w.heap.size w w') (base : Nat) : Pkb base pb w w' := ⟨h.size, fun k _ h2 _ => h.block k h2⟩
/-- A node's parts are told, one by one. -/
theorem wrap_cells {pb base np : Nat} {w : World} {kd : Int} {Φ : Nat → Addr → World → Prop} (h : WrapAt pb Φ base w np kd) : ∃ (g n cap : Nat) (a : Addr), np < w.heap.size ∧ g < w.heap.size ∧ 1 ≤ n ∧ w.cell? ⟨np, 5, none⟩ = some (.slice (some ⟨g, 0, none⟩) n cap) ∧ w.cell? ⟨g, 0, none⟩ = some (.pointer (some a)) ∧ Φ base a w := by
  obtain ⟨x, g, n, cap, a, h1, h2, h3, h4, h5, h6, h7, h8, h9, h10⟩ := h
  unfold ArrAt at h4
  exact ⟨g, n, cap, a, h2, h6, h8, by simp [World.cell?, h4], h9, h10⟩
/-- The first part of a node. -/
def Hop (w : World) (np : Nat) (a : Addr) : Prop := ∃ (g n cap : Nat), np < w.heap.size ∧ g < w.heap.size ∧ 1 ≤ n ∧ w.cell? ⟨np, 5, none⟩ = some (.slice (some ⟨g, 0, none⟩) n cap) ∧ w.cell? ⟨g, 0, none⟩ = some (.pointer (some a))
theorem Hop.keep {w w' : World} {np : Nat} {a : Addr} (h : Hop w np a) (hk : Below w.heap.size w w') : Hop w' np a := by
  obtain ⟨g, n, cap, h1, h2, h3, h4, h5⟩ := h
  exact ⟨g, n, cap, Nat.lt_of_lt_of_le h1 hk.size, Nat.lt_of_lt_of_le h2 hk.size, h3, (hk.cell h1).trans h4, (hk.cell h2).trans h5⟩
theorem wrap_hop {pb base np : Nat} {w : World} {kd : Int} {Φ : Nat → Addr → World → Prop} (h : WrapAt pb Φ base w np kd) : ∃ a, Hop w np a ∧ Φ base a w := by
  obtain ⟨g, n, cap, a, h1, h2, h3, h4, h5, h6⟩ := wrap_cells h
  exact ⟨a, ⟨g, n, cap, h1, h2, h3, h4, h5⟩, h6⟩
/-- What the law asks of the array's node. -/
def KidsAt (w : World) (nb : Nat) (kd : Int) (l : List Bool) : Prop :=
  nb < w.heap.size ∧ w.cell? ⟨nb, 0, none⟩ = some (.int .i64 kd) ∧ ∃ (p : Option Addr) (kc : Nat), w.cell? ⟨nb, 5, none⟩ = some (.slice p l.length kc) ∧ ∀ (i : Nat) (b : Bool), l[i]? = some b → ∃ g kb no, p = some ⟨g, 0, none⟩ ∧ g < w.heap.size ∧ kb < w.heap.size ∧ w.cell? ⟨g, i, none⟩ = some (.pointer (some ⟨kb, no, none⟩)) ∧ w.cell? ⟨kb, no, none⟩ = some (.int .i64 (kdOf b))
theorem karr_cells {pb base : Nat} {a : Addr} {w : World} {kd : Int} {l : List Bool} (h : KArr pb kd l base a w) : ∃ nb, a = ⟨nb, 0, none⟩ ∧ KidsAt w nb kd l := by
  obtain ⟨nb, x, kv, b1, rfl, h2, h3, h4, h5, h6, ⟨xs, ho, hn⟩, h8⟩ := h
  unfold ArrAt at h6
  refine ⟨nb, rfl, h5, by simp [World.cell?, h6], ?_⟩
  obtain ⟨p, kc, rfl⟩ : ∃ p kc, kv = .slice p l.length kc := by
    rcases ho.2 with ⟨rfl, h0⟩ | ⟨g, cap, cur, rfl, _⟩
    · rw [h0]; exact ⟨_, _, rfl⟩
    · exact ⟨_, _, rfl⟩
  refine ⟨p, kc, by simp [World.cell?, h6], fun i b hi => ?_⟩
  obtain ⟨kb, no, e1, e2, e3, e4, e5⟩ := hn i b hi
  obtain ⟨g, rfl, hg, hc⟩ := row_cellp ho e1
  exact ⟨g, kb, no, rfl, hg, e3, hc, e5.2.1⟩
theorem tree1 {pb base np : Nat} {w : World} {l : List Bool} (h : WrapAt pb (Wrap pb 18 (KArr pb 37 l)) base w np 1) : ∃ nn nb, Hop w np ⟨nn, 0, none⟩ ∧ Hop w nn ⟨nb, 0, none⟩ ∧ KidsAt w nb 37 l := by
  obtain ⟨a, h1, nn, rfl, h2⟩ := wrap_hop h
  obtain ⟨a, h3, h4⟩ := wrap_hop h2
  obtain ⟨nb, rfl, h5⟩ := karr_cells h4
  exact ⟨nn, nb, h1, h3, h5⟩
theorem tree2 {pb base np : Nat} {w : World} {l : List Bool} (h : WrapAt pb (Wrap pb 18 (Wrap pb 49 (KArr pb 60 l))) base w np 1) : ∃ nn nm nb, Hop w np ⟨nn, 0, none⟩ ∧ Hop w nn ⟨nm, 0, none⟩ ∧ Hop w nm ⟨nb, 0, none⟩ ∧ KidsAt w nb 60 l := by
  obtain ⟨a, h1, nn, rfl, h2⟩ := wrap_hop h
  obtain ⟨a, h3, nm, rfl, h4⟩ := wrap_hop h2
  obtain ⟨a, h5, h6⟩ := wrap_hop h4
  obtain ⟨nb, rfl, h7⟩ := karr_cells h6
  exact ⟨nn, nm, nb, h1, h3, h5, h7⟩
theorem KidsAt.keep {w w' : World} {nb : Nat} {kd : Int} {l : List Bool} (h : KidsAt w nb kd l) (hk : Below w.heap.size w w') : KidsAt w' nb kd l := by
  obtain ⟨h1, h2, p, kc, h3, h4⟩ := h
  refine ⟨Nat.lt_of_lt_of_le h1 hk.size, (hk.cell h1).trans h2, p, kc, (hk.cell h1).trans h3, fun i b hi => ?_⟩
  obtain ⟨g, kb, no, e0, e1, e2, e3, e4⟩ := h4 i b hi
  exact ⟨g, kb, no, e0, Nat.lt_of_lt_of_le e1 hk.size, Nat.lt_of_lt_of_le e2 hk.size, (hk.cell e1).trans e3, (hk.cell e2).trans e4⟩
end Go.Proofs.YtcaomilekhhhlaaDoor
