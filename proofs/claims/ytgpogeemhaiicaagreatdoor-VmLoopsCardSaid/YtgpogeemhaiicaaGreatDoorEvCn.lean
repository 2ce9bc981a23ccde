/- VmLoops: the contract of the compiler's call: whatever the law's numbers are, the same state with names comes of it. Condition: the world of EvExt. -/
import Derived.Test.YtgpogeemhaiicaaGreatDoorEvExt
import Derived.Test.YtgpogeemhaiicaaGreatDoorEvCp0
import Derived.Test.YtgpogeemhaiicaaGreatDoorEvCp1
import Derived.Test.YtgpogeemhaiicaaGreatDoorEvCp2
import Derived.Test.YtgpogeemhaiicaaGreatDoorEvCp3
set_option linter.all false
namespace Go.Proofs.YtgpogeemhaiicaaGreatDoor.Cm
open Go.Ev Go.Proofs.YtgpogeemhaiicaaGreatDoor.Sn Go.Proofs.YtgpogeemhaiicaaGreatDoor.Hd
set_option maxRecDepth 100000

/-! Which pattern is it? -/
def clsX (X : Nat) : Nat := if X = 0 then 1 else if X = 1 then 2 else if X = 3 then 3 else 0
def eqX (X Y : Nat) : Nat := if X = Y then 1 else 2
def pOf (X0 X1 X2 : Nat) : Nat := clsX X0 + 5 * clsX X1 + 25 * clsX X2 + 125 * eqX X0 X1 + 375 * eqX X0 X2 + 1125 * eqX X1 X2
theorem clsX_cases (X : Nat) : (clsX X = 1 ∧ X = 0) ∨ (clsX X = 2 ∧ X = 1) ∨ (clsX X = 3 ∧ X = 3) ∨ (clsX X = 0 ∧ X ≠ 0 ∧ X ≠ 1 ∧ X ≠ 3) := by
  unfold clsX
  split
  · exact .inl ⟨rfl, by assumption⟩
  · split
    · exact .inr (.inl ⟨rfl, by assumption⟩)
    · split
      · exact .inr (.inr (.inl ⟨rfl, by assumption⟩))
      · exact .inr (.inr (.inr ⟨rfl, by assumption, by assumption, by assumption⟩))
theorem eqX_cases (X Y : Nat) : (eqX X Y = 1 ∧ X = Y) ∨ (eqX X Y = 2 ∧ X ≠ Y) := by
  unfold eqX
  split
  · exact .inl ⟨rfl, by assumption⟩
  · exact .inr ⟨rfl, by assumption⟩
theorem litOk_cls (X : Nat) : litOk (clsX X) X := by
  rcases clsX_cases X with ⟨h, h'⟩ | ⟨h, h'⟩ | ⟨h, h'⟩ | ⟨h, h'⟩ <;> rw [h] <;> exact h'
theorem eqOk_eqX (X Y : Nat) : eqOk (eqX X Y) X Y := by
  rcases eqX_cases X Y with ⟨h, h'⟩ | ⟨h, h'⟩ <;> rw [h] <;> exact h'
theorem clsX_lt (X : Nat) : clsX X < 4 := by
  rcases clsX_cases X with ⟨h, _⟩ | ⟨h, _⟩ | ⟨h, _⟩ | ⟨h, _⟩ <;> omega
theorem eqX_lt (X Y : Nat) : eqX X Y < 3 := by
  rcases eqX_cases X Y with ⟨h, _⟩ | ⟨h, _⟩ <;> omega
theorem pOf_ok (X0 X1 X2 : Nat) : patOk (pOf X0 X1 X2) X0 X1 X2 := by
  have h0 := clsX_lt X0
  have h1 := clsX_lt X1
  have h2 := clsX_lt X2
  have e0 := eqX_lt X0 X1
  have e1 := eqX_lt X0 X2
  have e2 := eqX_lt X1 X2
  have d0 : pOf X0 X1 X2 % 5 = clsX X0 := by unfold pOf; omega
  have d1 : pOf X0 X1 X2 / 5 % 5 = clsX X1 := by unfold pOf; omega
  have d2 : pOf X0 X1 X2 / 25 % 5 = clsX X2 := by unfold pOf; omega
  have d3 : pOf X0 X1 X2 / 125 % 3 = eqX X0 X1 := by unfold pOf; omega
  have d4 : pOf X0 X1 X2 / 375 % 3 = eqX X0 X2 := by unfold pOf; omega
  have d5 : pOf X0 X1 X2 / 1125 % 3 = eqX X1 X2 := by unfold pOf; omega
  unfold patOk
  rw [d0, d1, d2, d3, d4, d5]
  exact ⟨⟨litOk_cls _, litOk_cls _, litOk_cls _⟩, eqOk_eqX _ _, eqOk_eqX _ _, eqOk_eqX _ _⟩
def inPat (p : Nat) : Bool := patL.any fun x => Nat.beq x.1 p
theorem pOf_in (X0 X1 X2 : Nat) : inPat (pOf X0 X1 X2) = true := by
  unfold pOf
  rcases clsX_cases X0 with ⟨a, a'⟩ | ⟨a, a'⟩ | ⟨a, a'⟩ | ⟨a, a'⟩ <;> rcases clsX_cases X1 with ⟨b, b'⟩ | ⟨b, b'⟩ | ⟨b, b'⟩ | ⟨b, b'⟩ <;> rcases clsX_cases X2 with ⟨c, c'⟩ | ⟨c, c'⟩ | ⟨c, c'⟩ | ⟨c, c'⟩ <;>
    rcases eqX_cases X0 X1 with ⟨d, d'⟩ | ⟨d, d'⟩ <;> rcases eqX_cases X0 X2 with ⟨e, e'⟩ | ⟨e, e'⟩ <;> rcases eqX_cases X1 X2 with ⟨f, f'⟩ | ⟨f, f'⟩ <;>
    first
      | (exfalso; omega)
      | (rw [a, b, c, d, e, f]; decide)

theorem comp_all : ∀ x ∈ patL, compB x.1 x.2 = true := by
  intro x hx
  have h0 := List.all_eq_true.1 cp0
  have h1 := List.all_eq_true.1 cp1
  have h2 := List.all_eq_true.1 cp2
  have h3 := List.all_eq_true.1 cp3
  have h4 := List.all_eq_true.1 cp4
  have h5 := List.all_eq_true.1 cp5
  have h6 := List.all_eq_true.1 cp6
  have h7 := List.all_eq_true.1 cp7
  have e : patL = (patL.take 10) ++ ((patL.drop 10).take 10) ++ ((patL.drop 20).take 10) ++ ((patL.drop 30).take 10) ++ ((patL.drop 40).take 10) ++ ((patL.drop 50).take 10) ++ ((patL.drop 60).take 10) ++ (patL.drop 70) := rfl
  rw [e] at hx
  simp only [List.mem_append] at hx
  rcases hx with ((((((hx | hx) | hx) | hx) | hx) | hx) | hx) | hx
  · exact h0 x hx
  · exact h1 x hx
  · exact h2 x hx
  · exact h3 x hx
  · exact h4 x hx
  · exact h5 x hx
  · exact h6 x hx
  · exact h7 x hx

/-! What is said otherwise is so. -/
/-- The law's numbers have their names. -/
structure NmX (r : Emb) (p X0 X1 X2 : Nat) : Prop where
  n0 : r 10 = some (X0, 0, 0)
  n1 : r 11 = some (X1, 0, 0)
  n2 : r 12 = some (X2, 0, 0)
  n3 : r 13 = some (wantOf X0 X1 X2, 0, 0)
  b0 : X0 ≤ 29
  b1 : X1 ≤ 39
  b2 : X2 ≤ 39
  ok : patOk p X0 X1 X2
theorem NmX.up {r r' : Emb} (hr : r.le r') {p X0 X1 X2 : Nat} (h : NmX r p X0 X1 X2) : NmX r' p X0 X1 X2 := ⟨hr _ _ h.n0, hr _ _ h.n1, hr _ _ h.n2, hr _ _ h.n3, h.b0, h.b1, h.b2, h.ok⟩
theorem NmX.np {r : Emb} {p X0 X1 X2 : Nat} (h : NmX r p X0 X1 X2) {q : Nat → Nat → Nat → Prop} (hq : q X0 X1 X2) : NpOk r p q := ⟨X0, X1, X2, h.n0, h.n1, h.n2, ⟨h.b0, h.n3⟩, h.b1, h.b2, h.ok, hq⟩
theorem NmX.any {r : Emb} {p X0 X1 X2 : Nat} (h : NmX r p X0 X1 X2) : NmX r 124 X0 X1 X2 := ⟨h.n0, h.n1, h.n2, h.n3, h.b0, h.b1, h.b2, ⟨⟨trivial, trivial, trivial⟩, trivial, trivial, trivial⟩⟩
/-- A number of the law, under this pattern's code or the one that says nothing. -/
theorem code_rel {r : Emb} {p X0 X1 X2 : Nat} (h : NmX r p X0 X1 X2) {j : Nat} (hj : j < 3) : VRel r (.cl1 0 (32 + 4 * p + j)) (.int .i64 (selX j X0 X1 X2 : Nat)) := by
  refine .nam (by omega) (.inr (.inr (.inl ⟨by omega, by omega, ?_⟩)))
  have e1 : (32 + 4 * p + j - 32) / 4 = p := by omega
  have e2 : (32 + 4 * p + j) % 4 = j := by omega
  rw [e1, e2]
  exact h.np rfl
theorem code_val {r : Emb} {p X0 X1 X2 : Nat} (h : NmX r p X0 X1 X2) {c : Nat} (h32 : 32 ≤ c) (h3 : c % 4 < 3) {z : Value} (hz : VRel r (.cl1 0 c) z) : z = .int .i64 (selX (c % 4) X0 X1 X2 : Nat) := by
  obtain ⟨_, n, rfl, hn⟩ := nam_inv hz (by
    unfold isNum
    rw [Bool.and_eq_true, Bool.or_eq_true, Nat.ble_eq, Nat.blt_eq, Nat.blt_eq]
    exact ⟨by omega, .inr h3⟩)
  rcases hn with ⟨q, _⟩ | ⟨_, q, _⟩ | ⟨_, _, Y0, Y1, Y2, g0, g1, g2, _, _, _, _, rfl⟩ | ⟨q, _⟩
  · omega
  · omega
  · rw [h.n0] at g0; rw [h.n1] at g1; rw [h.n2] at g2
    cases g0; cases g1; cases g2
    rfl
  · omega
/-- What a value stands for. -/
def numV (X0 X1 X2 : Nat) : Nat ⊕ Nat → Nat
  | .inl n => n
  | .inr j => selX j X0 X1 X2
theorem numC_val {r : Emb} {p X0 X1 X2 : Nat} (h : NmX r p X0 X1 X2) {v : V} {a : Nat ⊕ Nat} (hv : numC p v = some a) {z : Value} (hz : VRel r v z) : z = .int .i64 (numV X0 X1 X2 a : Nat) := by
  unfold numC at hv
  split at hv
  · simp only [Option.some.injEq] at hv
    subst hv
    cases hz
    rfl
  · rename_i c
    cases hb : (Nat.ble 32 c && (Nat.blt (Nat.mod c 4) 3 && (Nat.beq (Nat.div (Nat.sub c 32) 4) p || Nat.beq (Nat.div (Nat.sub c 32) 4) 124))) <;> simp only [hb, cond_true, cond_false, reduceCtorEq, Option.some.injEq] at hv
    subst hv
    simp only [Bool.and_eq_true, Nat.blt_eq] at hb
    exact code_val h (Nat.le_of_ble_eq_true hb.1) hb.2.1 hz
  · cases hv
theorem numC_rel {r : Emb} {p X0 X1 X2 : Nat} (h : NmX r p X0 X1 X2) {v : V} {a : Nat ⊕ Nat} (hv : numC p v = some a) : VRel r v (.int .i64 (numV X0 X1 X2 a : Nat)) := by
  unfold numC at hv
  split at hv
  · simp only [Option.some.injEq] at hv
    subst hv
    exact .int _ _
  · rename_i c
    cases hb : (Nat.ble 32 c && (Nat.blt (Nat.mod c 4) 3 && (Nat.beq (Nat.div (Nat.sub c 32) 4) p || Nat.beq (Nat.div (Nat.sub c 32) 4) 124))) <;> simp only [hb, cond_true, cond_false, reduceCtorEq, Option.some.injEq] at hv
    subst hv
    simp only [Bool.and_eq_true, Nat.blt_eq, Bool.or_eq_true] at hb
    obtain ⟨h1, h2, h3⟩ := hb
    have h1' := Nat.le_of_ble_eq_true h1
    have h2' : c % 4 < 3 := h2
    rcases h3 with h3 | h3
    · have e : (c - 32) / 4 = p := Nat.eq_of_beq_eq_true h3
      have := code_rel h h2'
      rwa [show 32 + 4 * p + c % 4 = c by omega] at this
    · have e : (c - 32) / 4 = 124 := Nat.eq_of_beq_eq_true h3
      have := code_rel h.any h2'
      rwa [show 32 + 4 * 124 + c % 4 = c by omega] at this
  · cases hv
theorem litIs_ok {l n X : Nat} (h : litOk l X) (hi : litIs l n = true) : X = n := by
  unfold litIs at hi
  unfold litOk at h
  split at hi
  · have := Nat.eq_of_beq_eq_true hi; simp only at h; omega
  · have := Nat.eq_of_beq_eq_true hi; simp only at h; omega
  · have := Nat.eq_of_beq_eq_true hi; simp only at h; omega
  · cases hi
theorem litJ_ok {p X0 X1 X2 : Nat} (h : patOk p X0 X1 X2) {j : Nat} : litOk (litJ p j) (selX j X0 X1 X2) := by
  rcases j with _ | _ | j
  · exact h.1.1
  · exact h.1.2.1
  · exact h.1.2.2
theorem pairD_ok {p X0 X1 X2 : Nat} (h : patOk p X0 X1 X2) {j k : Nat} (he : pairD p j k = 1) : selX j X0 X1 X2 = selX k X0 X1 X2 := by
  obtain ⟨_, p1, p2, p3⟩ := h
  have e3 : ∀ a b, Nat.mod (Nat.div p a) b = p / a % b := fun _ _ => rfl
  have fin : ∀ (e X Y : Nat), eqOk e X Y → e = 1 → X = Y := fun e X Y q q' => by subst q'; exact q
  unfold pairD at he
  split at he
  · exact fin _ _ _ p1 (by rw [e3] at he; exact he)
  · exact (fin _ _ _ p1 (by rw [e3] at he; exact he)).symm
  · exact fin _ _ _ p2 (by rw [e3] at he; exact he)
  · exact (fin _ _ _ p2 (by rw [e3] at he; exact he)).symm
  · exact fin _ _ _ p3 (by rw [e3] at he; exact he)
  · exact (fin _ _ _ p3 (by rw [e3] at he; exact he)).symm
  · cases he
theorem sameC_ok {p X0 X1 X2 : Nat} {v u : V} (hp : patOk p X0 X1 X2) (hs : sameC p v u = true) : ∃ a b, numC p v = some a ∧ numC p u = some b ∧ numV X0 X1 X2 a = numV X0 X1 X2 b := by
  unfold sameC at hs
  split at hs
  · rename_i a b h1 h2
    exact ⟨_, _, h1, h2, Nat.eq_of_beq_eq_true hs⟩
  · rename_i j k h1 h2
    refine ⟨_, _, h1, h2, ?_⟩
    simp only [Bool.or_eq_true] at hs
    rcases hs with hs | hs
    · rw [Nat.eq_of_beq_eq_true hs]
    · exact pairD_ok hp (Nat.eq_of_beq_eq_true hs)
  · rename_i j n h1 h2
    exact ⟨_, _, h1, h2, litIs_ok (litJ_ok hp) hs⟩
  · rename_i n j h1 h2
    exact ⟨_, _, h1, h2, (litIs_ok (litJ_ok hp) hs).symm⟩
  · cases hs
theorem num_turn {r1 r2 : Emb} {p X0 X1 X2 : Nat} (h1 : NmX r1 p X0 X1 X2) (h2 : NmX r2 p X0 X1 X2) {v u : V} (hs : sameC p v u = true) {z : Value} (hz : VRel r1 u z) : VRel r2 v z := by
  obtain ⟨a, b, g1, g2, g3⟩ := sameC_ok h1.ok hs
  rw [numC_val h1 g2 hz, ← g3]
  exact numC_rel h2 g1
end Go.Proofs.YtgpogeemhaiicaaGreatDoor.Cm
