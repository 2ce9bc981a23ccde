/- text.Of, in the evaluator's words; a call that leaves each old block as it was. No condition. -/
import Derived.Test.YtoecccbjhmejiaaGreatDoorEvAC
import Derived.RowKit
namespace Go.Ev

variable {P : Program}

theorem Step.kept {r : Emb} {h : H} {w w' : World} (hr : Rel r h w) (hs : w.heap.size ≤ w'.heap.size) (hk : ∀ b, b < w.heap.size → w'.heap[b]? = w.heap[b]?) (h1 : w'.os = w.os) (h2 : w'.output = w.output) (h3 : w'.tape = w.tape) : Step r h w r h w' := by
  refine ⟨r.le_refl, ⟨fun id hi hl => ?_, hr.inj, hr.new⟩, hs, fun b hlt _ => hk b hlt, fun b _ ho => ho, fun b _ ho => ho, h1, h2, h3⟩
  obtain ⟨b, sh, m, g1, g2⟩ := hr.fit id hi hl
  exact ⟨b, sh, m, g1, g2.keep r.le_refl (hk b (g2.lt hl))⟩

/-- Two bytes a sign. -/
def dbl : List UInt8 → List UInt8
  | [] => []
  | c :: l => 0 :: c :: dbl l
theorem dbl_length : ∀ l, (dbl l).length = 2 * l.length
  | [] => rfl
  | c :: l => by rw [dbl, List.length_cons, List.length_cons, dbl_length l, List.length_cons]; omega

/-- text.Of of numbers, at signs below 128. -/
def ofN (n l : Nat) : Option Nat := Nat.rec (motive := fun _ => Nat → Option Nat) (fun _ => some 0) (fun _ ih n => bif Nat.blt (Nat.mod n 256) 128 then (ih (Nat.div n 256)).map fun m => Nat.add (Nat.mul 256 (Nat.mod n 256)) (Nat.mul 65536 m) else none) l n
theorem ofN_sound : ∀ (l n m : Nat), ofN n l = some m → (∀ c ∈ sdec n l, c.toNat < 128) ∧ sdec m (2 * l) = dbl (sdec n l) ∧ m < 256 ^ (2 * l) := by
  intro l
  induction l with
  | zero =>
    intro n m h
    have h' : some 0 = some m := h
    cases h'
    exact ⟨fun c hc => (by cases hc), rfl, by simp⟩
  | succ l ih =>
    intro n m h
    have h' : (bif Nat.blt (Nat.mod n 256) 128 then (ofN (Nat.div n 256) l).map fun m => Nat.add (Nat.mul 256 (Nat.mod n 256)) (Nat.mul 65536 m) else none) = some m := h
    cases hb : Nat.blt (Nat.mod n 256) 128 <;> simp only [hb, cond_true, cond_false, reduceCtorEq] at h'
    cases hq : ofN (Nat.div n 256) l with
    | none => rw [hq] at h'; simp at h'
    | some k =>
      rw [hq] at h'
      simp only [Option.map_some, Option.some.injEq] at h'
      obtain ⟨h1, h2, h3⟩ := ih _ _ hq
      have hlt : n % 256 < 128 := by rwa [Nat.blt_eq] at hb
      have hm : m = 256 * (n % 256) + 65536 * k := h'.symm
      have hc : (UInt8.ofNat (n % 256)).toNat < 128 := by simp; omega
      refine ⟨fun c hc' => ?_, ?_, ?_⟩
      · have hc2 : c ∈ UInt8.ofNat (n % 256) :: sdec (n / 256) l := hc'
        rcases List.mem_cons.1 hc2 with rfl | hc2
        · exact hc
        · exact h1 c hc2
      · rw [show 2 * (l + 1) = 2 * l + 1 + 1 by omega]
        show UInt8.ofNat (m % 256) :: UInt8.ofNat (m / 256 % 256) :: sdec (m / 256 / 256) (2 * l) = 0 :: UInt8.ofNat (n % 256) :: dbl (sdec (n / 256) l)
        rw [show m % 256 = 0 by omega, show m / 256 % 256 = n % 256 by omega, show m / 256 / 256 = k by omega, h2]
        rfl
      · rw [show 2 * (l + 1) = 2 * l + 2 by omega, Nat.pow_add]
        have : (256 : Nat) ^ 2 = 65536 := rfl
        rw [this]
        omega
def ofV : List V → Option V
  | [.str n l] => bif Nat.ble l 1000000 then (ofN n l).map fun m => .str m (Nat.mul 2 l) else none
  | _ => none
theorem ofV_sound {w0 : World} {g : FuncId} (hc : ∀ (s : ByteArray) (w : World), (∀ c ∈ s.data.toList, c.toNat < 128) → s.size ≤ 1000000 →
      Calls P g #[.string s] w fun e w' => e = .returned (.string ⟨(dbl s.data.toList).toArray⟩) ∧ w.heap.size ≤ w'.heap.size ∧ (∀ b, b < w.heap.size → w'.heap[b]? = w.heap[b]?) ∧ w'.os = w.os ∧ w'.output = w.output ∧ w'.tape = w.tape)
    {vs : List V} {v : V} (he : ofV vs = some v) (h : H) : CallOk P w0 g vs h v h := by
  unfold ofV at he
  split at he
  · rename_i n l
    cases hb : Nat.ble l 1000000 <;> simp only [hb, cond_true, cond_false, reduceCtorEq] at he
    cases hq : ofN n l with
    | none => rw [hq] at he; simp at he
    | some m =>
      rw [hq] at he
      simp only [Option.map_some, Option.some.injEq] at he
      subst he
      obtain ⟨h1, h2, h3⟩ := ofN_sound l n m hq
      intro r w xs hr hg hba hx
      obtain ⟨xs⟩ := xs
      cases hx with
      | cons hx hx' =>
        cases hx'
        cases hx with
        | str hn =>
          refine (hc (sval n l) w h1 (by rw [sval_size]; exact Nat.le_of_ble_eq_true hb)).mono ?_
          rintro e w' ⟨rfl, g1, g2, g3, g4, g5⟩
          refine ⟨_, r, rfl, Step.kept hr g1 g2 g3 g4 g5, ?_⟩
          have e1 : (⟨(dbl (sval n l).data.toList).toArray⟩ : ByteArray) = sval m (2 * l) := by
            show (⟨(dbl (sdec n l)).toArray⟩ : ByteArray) = ⟨(sdec m (2 * l)).toArray⟩
            rw [h2]
          rw [e1]
          exact .str h3
  · cases he

end Go.Ev
