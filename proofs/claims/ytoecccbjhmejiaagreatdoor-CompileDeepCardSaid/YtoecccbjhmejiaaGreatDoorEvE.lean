/- The evaluator's texts: numbers in base 256. No condition. -/
import Derived.Test.YtoecccbjhmejiaaGreatDoorEvD
import Derived.Laws.Strings
import Derived.Lib.Strings
namespace Go.Ev

theorem sdec_length (l : Nat) : ∀ n, (sdec n l).length = l := by
  induction l with
  | zero => intro n; rfl
  | succ l ih => intro n; simp [sdec, ih]

theorem sval_size (n l : Nat) : (sval n l).size = l := by
  show (sdec n l).toArray.size = l
  simp [sdec_length]

theorem sdec_get (l : Nat) : ∀ n i, i < l → (sdec n l)[i]? = some (UInt8.ofNat (n / 256 ^ i % 256)) := by
  induction l with
  | zero => intro n i h; omega
  | succ l ih =>
    intro n i h
    cases i with
    | zero => simp [sdec]
    | succ i =>
      simp only [sdec, List.getElem?_cons_succ]
      rw [ih _ i (by omega), Nat.div_div_eq_div_mul, Nat.pow_succ, Nat.mul_comm 256]

theorem sdec_ext {n l : Nat} {xs : List UInt8} (hl : xs.length = l) (h : ∀ i, i < l → xs[i]? = some (UInt8.ofNat (n / 256 ^ i % 256))) : xs = sdec n l := by
  apply List.ext_getElem?
  intro i
  by_cases hi : i < l
  · rw [h i hi, sdec_get l n i hi]
  · rw [List.getElem?_eq_none (by omega), List.getElem?_eq_none (by rw [sdec_length]; omega)]

/-- One behind the other. -/
theorem sdec_append (n l m k : Nat) (h : n < 256 ^ l) : sdec (n + m * 256 ^ l) (l + k) = sdec n l ++ sdec m k := by
  symm
  refine sdec_ext (by simp [sdec_length]) (fun i hi => ?_)
  by_cases hl : i < l
  · rw [List.getElem?_append_left (by rw [sdec_length]; exact hl), sdec_get l n i hl]
    congr 2
    have e : 256 ^ l = 256 ^ i * (256 * 256 ^ (l - i - 1)) := by rw [← Nat.pow_succ', ← Nat.pow_add]; congr 1; omega
    rw [e, ← Nat.mul_assoc, Nat.mul_comm m, Nat.mul_assoc, Nat.add_mul_div_left _ _ (Nat.pow_pos (by omega)), Nat.mul_left_comm, Nat.add_mul_mod_self_left]
  · rw [List.getElem?_append_right (by rw [sdec_length]; omega), sdec_length, sdec_get k m (i - l) (by omega)]
    congr 2
    have e : 256 ^ i = 256 ^ l * 256 ^ (i - l) := by rw [← Nat.pow_add]; congr 1; omega
    rw [e, ← Nat.div_div_eq_div_mul, Nat.add_mul_div_right _ _ (Nat.pow_pos (by omega)), Nat.div_eq_of_lt h, Nat.zero_add]

/-- A piece. -/
theorem sdec_piece (n l a b : Nat) (hb : b ≤ l) (hab : a ≤ b) : sdec (n / 256 ^ a % 256 ^ (b - a)) (b - a) = ((sdec n l).drop a).take (b - a) := by
  symm
  refine sdec_ext (by simp [sdec_length]; omega) (fun i hi => ?_)
  rw [List.getElem?_take_of_lt hi, List.getElem?_drop, sdec_get l n (a + i) (by omega)]
  congr 2
  rw [Nat.pow_add, ← Nat.div_div_eq_div_mul]
  have e : 256 ^ (b - a) = 256 ^ i * 256 ^ (b - a - i) := by rw [← Nat.pow_add]; congr 1; omega
  rw [e, Nat.mod_mul_right_div_self]
  have e2 : 256 ^ (b - a - i) = 256 * 256 ^ (b - a - i - 1) := by rw [← Nat.pow_succ']; congr 1; omega
  rw [e2, Nat.mod_mul_right_mod]

theorem u8_inj {a b : Nat} (ha : a < 256) (hb : b < 256) (h : UInt8.ofNat a = UInt8.ofNat b) : a = b := by
  have := congrArg UInt8.toNat h
  simp at this
  omega

theorem sdec_inj (l : Nat) : ∀ n m, n < 256 ^ l → m < 256 ^ l → sdec n l = sdec m l → n = m := by
  induction l with
  | zero => intro n m h1 h2 _; simp at h1 h2; omega
  | succ l ih =>
    intro n m h1 h2 h
    simp only [sdec, List.cons.injEq] at h
    have e1 := u8_inj (Nat.mod_lt _ (by omega)) (Nat.mod_lt _ (by omega)) h.1
    have e2 := ih (n / 256) (m / 256) (by rw [Nat.pow_succ] at h1; omega) (by rw [Nat.pow_succ] at h2; omega) h.2
    omega

/-- A text's number. -/
def senc : List UInt8 → Nat
  | [] => 0
  | b :: r => b.toNat + 256 * senc r

theorem senc_lt (s : List UInt8) : senc s < 256 ^ s.length := by
  induction s with
  | nil => simp [senc]
  | cons b r ih =>
    have := b.toNat_lt
    simp only [senc, List.length_cons, Nat.pow_succ]
    omega

theorem sdec_senc (s : List UInt8) : sdec (senc s) s.length = s := by
  induction s with
  | nil => rfl
  | cons b r ih =>
    have hb := b.toNat_lt
    simp only [senc, List.length_cons, sdec]
    rw [show (b.toNat + 256 * senc r) % 256 = b.toNat by omega, show (b.toNat + 256 * senc r) / 256 = senc r by omega, ih]
    simp

theorem sval_senc (s : ByteArray) : sval (senc s.data.toList) s.size = s := by
  have h : s.size = s.data.toList.length := by rw [Array.length_toList]; rfl
  show (⟨(sdec (senc s.data.toList) s.size).toArray⟩ : ByteArray) = s
  rw [h, sdec_senc]

theorem vrel_str (r : Emb) (s : ByteArray) : VRel r (.str (senc s.data.toList) s.size) (.string s) := by
  have h : s.size = s.data.toList.length := by rw [Array.length_toList]; rfl
  have := VRel.str (r := r) (n := senc s.data.toList) (l := s.size) (by rw [h]; exact senc_lt _)
  rwa [sval_senc] at this

theorem toList_sval (n l : Nat) : (sval n l).toList = sdec n l := by
  rw [ByteArray.toList_eq]
  rfl

/-- Two texts. -/
def strB (op : BinOp) (n l m k : Nat) : Option V :=
  match op with
  | .add => bif Nat.ble (Nat.add l k) 9223372036854775807 then some (.str (Nat.add n (Nat.mul m (Nat.pow 256 l))) (Nat.add l k)) else none
  | .eql => some (.bool (Nat.beq n m && Nat.beq l k))
  | .neq => some (.bool (!(Nat.beq n m && Nat.beq l k)))
  | .lss => some (.bool (Op.bytesLess (sdec n l) (sdec m k)))
  | .geq => some (.bool (!Op.bytesLess (sdec n l) (sdec m k)))
  | _ => none

theorem sdec_beq {n l m k : Nat} (h1 : n < 256 ^ l) (h2 : m < 256 ^ k) : (Nat.beq n m && Nat.beq l k) = (sdec n l == sdec m k) := by
  rw [Bool.eq_iff_iff, beq_iff_eq, Bool.and_eq_true]
  constructor
  · intro ⟨a, b⟩
    rw [Nat.eq_of_beq_eq_true a, Nat.eq_of_beq_eq_true b]
  · intro h
    have e : l = k := by simpa [sdec_length] using congrArg List.length h
    subst e
    exact ⟨by rw [sdec_inj l n m h1 h2 h]; exact Nat.beq_refl m, Nat.beq_refl l⟩

theorem strB_sound {P : Program} {op : BinOp} {n l m k : Nat} {v : V} (h : strB op n l m k = some v) (h1 : n < 256 ^ l) (h2 : m < 256 ^ k) (t : TypeId) (w : World) :
    ∃ x, (binOp op t (.string (sval n l)) (.string (sval m k))).run P w = .ok x w ∧ ∀ r, VRel r v x := by
  cases op <;> simp only [strB, Option.some.injEq, reduceCtorEq] at h
  case add =>
    cases hb : Nat.ble (Nat.add l k) 9223372036854775807 <;> simp only [hb, cond_true, cond_false, reduceCtorEq, Option.some.injEq] at h
    subst h
    have hle : l + k ≤ 9223372036854775807 := Nat.le_of_ble_eq_true hb
    have hno : (l : Int) + (k : Int) ≤ 9223372036854775807 := by omega
    refine ⟨.string (sval n l ++ sval m k), by simp [binOp, Op.stringOp, sval_size, hno], fun r => ?_⟩
    have e : sval n l ++ sval m k = sval (n + m * 256 ^ l) (l + k) := by
      apply ByteArray.ext
      show _ = (sdec (n + m * 256 ^ l) (l + k)).toArray
      rw [sdec_append n l m k h1]
      simp [sval]
    rw [e]
    refine .str ?_
    show n + m * 256 ^ l < 256 ^ (l + k)
    have : (m + 1) * 256 ^ l ≤ 256 ^ k * 256 ^ l := Nat.mul_le_mul_right _ h2
    rw [Nat.add_mul] at this
    rw [Nat.pow_add, Nat.mul_comm (256 ^ l)]
    omega
  case eql =>
    subst h
    exact ⟨.bool (sdec n l == sdec m k), by simp [binOp, Op.stringOp, toList_sval], fun r => by rw [sdec_beq h1 h2]; exact .bool _⟩
  case neq =>
    subst h
    exact ⟨.bool (!(sdec n l == sdec m k)), by simp [binOp, Op.stringOp, toList_sval], fun r => by rw [sdec_beq h1 h2]; exact .bool _⟩
  case lss =>
    subst h
    exact ⟨.bool (Op.bytesLess (sdec n l) (sdec m k)), by simp [binOp, Op.stringOp, toList_sval], fun r => .bool _⟩
  case geq =>
    subst h
    exact ⟨.bool (!Op.bytesLess (sdec n l) (sdec m k)), by simp [binOp, Op.stringOp, toList_sval], fun r => .bool _⟩

end Go.Ev
