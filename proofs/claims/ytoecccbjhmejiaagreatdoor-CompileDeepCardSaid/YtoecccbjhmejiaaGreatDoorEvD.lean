/- The evaluator's arithmetic and texts, against the model's. No condition. -/
import Derived.Test.YtoecccbjhmejiaaGreatDoorEvC
namespace Go.Ev

/-! ### Whole numbers: quick where both are small and not below 0, else as the model does it -/
def lim (k : IntKind) : Nat :=
  IntKind.casesOn k 127 32767 2147483647 9223372036854775807 255 65535 4294967295 18446744073709551615

theorem wrap_small (k : IntKind) (n : Nat) (h : n ≤ lim k) : k.wrap (Int.ofNat n) = Int.ofNat n := by
  cases k <;> simp only [lim] at h <;> simp [IntKind.wrap, IntKind.bits, IntKind.signed] <;> omega

def addI (k : IntKind) (a b : Int) : Int :=
  Int.casesOn a (fun x => Int.casesOn b (fun y => bif Nat.ble (Nat.add x y) (lim k) then .ofNat (Nat.add x y) else k.wrap (.ofNat x + .ofNat y)) (fun y => bif Nat.ble (Nat.succ y) x && Nat.ble x (lim k) then .ofNat (Nat.sub x (Nat.succ y)) else k.wrap (.ofNat x + .negSucc y))) (fun x => k.wrap (.negSucc x + b))
theorem addI_eq (k : IntKind) (a b : Int) : addI k a b = k.wrap (a + b) := by
  cases a with
  | ofNat x =>
    cases b with
    | ofNat y =>
      show (bif Nat.ble (Nat.add x y) (lim k) then _ else _) = _
      cases h : Nat.ble (Nat.add x y) (lim k)
      · rfl
      · exact (wrap_small k (x + y) (Nat.le_of_ble_eq_true h)).symm
    | negSucc y =>
      show (bif Nat.ble (Nat.succ y) x && Nat.ble x (lim k) then _ else _) = _
      cases h : (Nat.ble (Nat.succ y) x && Nat.ble x (lim k))
      · rfl
      · simp only [Bool.and_eq_true] at h
        have h1 := Nat.le_of_ble_eq_true h.1
        have h2 := Nat.le_of_ble_eq_true h.2
        have h3 := wrap_small k (x - Nat.succ y) (by omega)
        show Int.ofNat (x - Nat.succ y) = k.wrap (.ofNat x + .negSucc y)
        rw [← h3]
        congr 1
        show (↑(x - (y + 1)) : Int) = ↑x + Int.negSucc y
        omega
  | negSucc x => rfl

def subI (k : IntKind) (a b : Int) : Int :=
  Int.casesOn a (fun x => Int.casesOn b (fun y => bif Nat.ble y x && Nat.ble x (lim k) then .ofNat (Nat.sub x y) else k.wrap (.ofNat x - .ofNat y)) (fun y => k.wrap (.ofNat x - .negSucc y))) (fun x => k.wrap (.negSucc x - b))
theorem subI_eq (k : IntKind) (a b : Int) : subI k a b = k.wrap (a - b) := by
  cases a with
  | ofNat x =>
    cases b with
    | ofNat y =>
      show (bif Nat.ble y x && Nat.ble x (lim k) then _ else _) = _
      cases h : (Nat.ble y x && Nat.ble x (lim k))
      · rfl
      · simp only [Bool.and_eq_true] at h
        have h1 := Nat.le_of_ble_eq_true h.1
        have h2 := Nat.le_of_ble_eq_true h.2
        have h3 := wrap_small k (x - y) (by omega)
        show Int.ofNat (x - y) = k.wrap (.ofNat x - .ofNat y)
        rw [← h3]
        congr 1
        show (↑(x - y) : Int) = ↑x - ↑y
        omega
    | negSucc y => rfl
  | negSucc x => rfl

def mulI (k : IntKind) (a b : Int) : Int :=
  Int.casesOn a (fun x => Int.casesOn b (fun y => bif Nat.ble (Nat.mul x y) (lim k) then .ofNat (Nat.mul x y) else k.wrap (.ofNat x * .ofNat y)) (fun y => k.wrap (.ofNat x * .negSucc y))) (fun x => k.wrap (.negSucc x * b))
theorem mulI_eq (k : IntKind) (a b : Int) : mulI k a b = k.wrap (a * b) := by
  cases a with
  | ofNat x =>
    cases b with
    | ofNat y =>
      show (bif Nat.ble (Nat.mul x y) (lim k) then _ else _) = _
      cases h : Nat.ble (Nat.mul x y) (lim k)
      · rfl
      · exact (wrap_small k (x * y) (Nat.le_of_ble_eq_true h)).symm
    | negSucc y => rfl
  | negSucc x => rfl

def quoI (k : IntKind) (a b : Int) : Int :=
  Int.casesOn a (fun x => Int.casesOn b (fun y => bif Nat.ble x (lim k) then .ofNat (Nat.div x y) else k.wrap ((Int.ofNat x).tdiv (.ofNat y))) (fun y => k.wrap ((Int.ofNat x).tdiv (.negSucc y)))) (fun x => k.wrap ((Int.negSucc x).tdiv b))
theorem quoI_eq (k : IntKind) (a b : Int) : quoI k a b = k.wrap (a.tdiv b) := by
  cases a with
  | ofNat x =>
    cases b with
    | ofNat y =>
      show (bif Nat.ble x (lim k) then _ else _) = _
      cases h : Nat.ble x (lim k)
      · rfl
      · have h1 := Nat.le_of_ble_eq_true h
        exact (wrap_small k (x / y) (Nat.le_trans (Nat.div_le_self x y) h1)).symm
    | negSucc y => rfl
  | negSucc x => rfl

def remI (a b : Int) : Int :=
  Int.casesOn a (fun x => Int.casesOn b (fun y => .ofNat (Nat.mod x y)) (fun y => (Int.ofNat x).tmod (.negSucc y))) (fun x => (Int.negSucc x).tmod b)
theorem remI_eq (a b : Int) : remI a b = a.tmod b := by
  cases a with
  | ofNat x => cases b <;> rfl
  | negSucc x => rfl

def eqI (a b : Int) : Bool :=
  Int.casesOn a (fun x => Int.casesOn b (fun y => Nat.beq x y) (fun _ => false)) (fun x => Int.casesOn b (fun _ => false) (fun y => Nat.beq x y))
theorem eqI_eq (a b : Int) : eqI a b = (a == b) := by
  rw [Bool.eq_iff_iff, beq_iff_eq]
  cases a <;> cases b <;> simp [eqI] <;> omega

def ltI (a b : Int) : Bool :=
  Int.casesOn a (fun x => Int.casesOn b (fun y => Nat.blt x y) (fun _ => false)) (fun x => Int.casesOn b (fun _ => true) (fun y => Nat.blt y x))
theorem ltI_eq (a b : Int) : ltI a b = decide (a < b) := by
  rw [Bool.eq_iff_iff, decide_eq_true_iff]
  cases a with
  | ofNat x =>
    cases b with
    | ofNat y => show (Nat.blt x y = true) ↔ _; rw [Nat.blt_eq]; exact Int.ofNat_lt.symm
    | negSucc y => show (false = true) ↔ _; constructor <;> intro h <;> simp at h; omega
  | negSucc x =>
    cases b with
    | ofNat y => show (true = true) ↔ _; simp; omega
    | negSucc y => show (Nat.blt y x = true) ↔ _; rw [Nat.blt_eq]; omega

/-- Is a number small and not below 0? -/
def smallI (k : IntKind) (a : Int) : Bool := Int.casesOn a (fun x => Nat.ble x (lim k)) (fun _ => false)

theorem lim_lt (k : IntKind) (n : Nat) (h : n ≤ lim k) : n < 2 ^ k.bits := by
  cases k <;> simp only [lim] at h <;> simp only [IntKind.bits] <;> omega

def bitI (op : BinOp) (k : IntKind) (a b : Int) : Option Int :=
  match op with
  | .and => some (bif smallI k a && smallI k b then .ofNat (Nat.land a.toNat b.toNat) else k.wrap (BitVec.ofInt k.bits a &&& BitVec.ofInt k.bits b).toNat)
  | .or => some (k.wrap (BitVec.ofInt k.bits a ||| BitVec.ofInt k.bits b).toNat)
  | .xor => some (k.wrap (BitVec.ofInt k.bits a ^^^ BitVec.ofInt k.bits b).toNat)
  | .andNot => some (k.wrap (BitVec.ofInt k.bits a &&& ~~~ BitVec.ofInt k.bits b).toNat)
  | _ => none

theorem andI_eq (k : IntKind) (a b : Int) (h : smallI k a && smallI k b) : (Int.ofNat (Nat.land a.toNat b.toNat)) = k.wrap (BitVec.ofInt k.bits a &&& BitVec.ofInt k.bits b).toNat := by
  simp only [Bool.and_eq_true] at h
  cases a with
  | negSucc x => exact absurd h.1 (by simp [smallI])
  | ofNat x =>
    cases b with
    | negSucc x => exact absurd h.2 (by simp [smallI])
    | ofNat y =>
      have h1 : x ≤ lim k := Nat.le_of_ble_eq_true h.1
      have h2 : y ≤ lim k := Nat.le_of_ble_eq_true h.2
      have e1 : (BitVec.ofInt k.bits (Int.ofNat x)) = BitVec.ofNat k.bits x := by simp
      have e2 : (BitVec.ofInt k.bits (Int.ofNat y)) = BitVec.ofNat k.bits y := by simp
      rw [e1, e2]
      simp only [BitVec.toNat_and, BitVec.toNat_ofNat, Nat.mod_eq_of_lt (lim_lt k x h1), Nat.mod_eq_of_lt (lim_lt k y h2)]
      exact (wrap_small k (x &&& y) (Nat.le_trans Nat.and_le_left h1)).symm

/-- A binary operation on whole numbers of one kind. -/
def intB (op : BinOp) (k : IntKind) (a b : Int) : Option V :=
  match op with
  | .add => some (.int k (addI k a b))
  | .sub => some (.int k (subI k a b))
  | .mul => some (.int k (mulI k a b))
  | .quo => bif eqI b (.ofNat 0) then none else some (.int k (quoI k a b))
  | .rem => bif eqI b (.ofNat 0) then none else some (.int k (remI a b))
  | .eql => some (.bool (eqI a b))
  | .neq => some (.bool (!(eqI a b)))
  | .lss => some (.bool (ltI a b))
  | .leq => some (.bool (!(ltI b a)))
  | .gtr => some (.bool (ltI b a))
  | .geq => some (.bool (!(ltI a b)))
  | .shl | .shr => none
  | op => (bitI op k a b).map (V.int k)

theorem eqI_false {b : Int} (h : eqI b (.ofNat 0) = false) : b ≠ 0 := by
  rw [eqI_eq] at h
  simpa using h

theorem intB_sound {P : Program} {op : BinOp} {k : IntKind} {a b : Int} {v : V} (h : intB op k a b = some v) (t : TypeId) (w : World) :
    ∃ x, (binOp op t (.int k a) (.int k b)).run P w = .ok x w ∧ ∀ r, VRel r v x := by
  cases op <;> simp only [intB, bitI, Option.map_some, Option.some.injEq, reduceCtorEq] at h
  case add => subst h; exact ⟨.int k (k.wrap (a + b)), by simp [binOp, Op.intArith], fun r => by rw [addI_eq]; exact .int k _⟩
  case sub => subst h; exact ⟨.int k (k.wrap (a - b)), by simp [binOp, Op.intArith], fun r => by rw [subI_eq]; exact .int k _⟩
  case mul => subst h; exact ⟨.int k (k.wrap (a * b)), by simp [binOp, Op.intArith], fun r => by rw [mulI_eq]; exact .int k _⟩
  case quo =>
    cases h0 : eqI b (.ofNat 0) <;> simp only [h0, cond_true, cond_false, reduceCtorEq, Option.some.injEq] at h
    subst h
    have := eqI_false h0
    exact ⟨.int k (k.wrap (a.tdiv b)), by simp [binOp, Op.intDiv, this], fun r => by rw [quoI_eq]; exact .int k _⟩
  case rem =>
    cases h0 : eqI b (.ofNat 0) <;> simp only [h0, cond_true, cond_false, reduceCtorEq, Option.some.injEq] at h
    subst h
    have := eqI_false h0
    exact ⟨.int k (a.tmod b), by simp [binOp, Op.intDiv, this], fun r => by rw [remI_eq]; exact .int k _⟩
  case and =>
    subst h
    refine ⟨.int k (k.wrap (BitVec.ofInt k.bits a &&& BitVec.ofInt k.bits b).toNat), by simp [binOp, Op.intBits], fun r => ?_⟩
    cases hs : (smallI k a && smallI k b)
    · exact .int k _
    · simp only [cond_true]
      rw [andI_eq k a b hs]
      exact .int k _
  case or => subst h; exact ⟨.int k (k.wrap (BitVec.ofInt k.bits a ||| BitVec.ofInt k.bits b).toNat), by simp [binOp, Op.intBits], fun r => .int k _⟩
  case xor => subst h; exact ⟨.int k (k.wrap (BitVec.ofInt k.bits a ^^^ BitVec.ofInt k.bits b).toNat), by simp [binOp, Op.intBits], fun r => .int k _⟩
  case andNot => subst h; exact ⟨.int k (k.wrap (BitVec.ofInt k.bits a &&& ~~~ BitVec.ofInt k.bits b).toNat), by simp [binOp, Op.intBits], fun r => .int k _⟩
  case eql => subst h; exact ⟨.bool (a == b), by simp [binOp, Op.intCmp], fun r => by rw [eqI_eq]; exact .bool _⟩
  case neq => subst h; exact ⟨.bool (a != b), by simp [binOp, Op.intCmp], fun r => by rw [eqI_eq]; exact .bool _⟩
  case lss => subst h; exact ⟨.bool (a < b), by simp [binOp, Op.intCmp], fun r => by rw [ltI_eq]; exact .bool _⟩
  case leq => subst h; exact ⟨.bool (a ≤ b), by simp [binOp, Op.intCmp], fun r => by rw [ltI_eq, show (!decide (b < a)) = decide (a ≤ b) by rw [Bool.eq_iff_iff]; simp]; exact .bool _⟩
  case gtr => subst h; exact ⟨.bool (a > b), by simp [binOp, Op.intCmp], fun r => by rw [ltI_eq]; exact .bool _⟩
  case geq => subst h; exact ⟨.bool (a ≥ b), by simp [binOp, Op.intCmp], fun r => by rw [ltI_eq, show (!decide (a < b)) = decide (a ≥ b) by rw [Bool.eq_iff_iff]; simp]; exact .bool _⟩

/-- A shift. -/
def shiftB (op : BinOp) (k : IntKind) (a : Int) (b : Int) : Option V :=
  Int.casesOn b (fun n =>
    match op with
    | .shl => some (.int k (k.wrap (a * 2 ^ (min n k.bits))))
    | .shr => some (.int k (Int.casesOn a (fun x => .ofNat (Nat.shiftRight x (min n k.bits))) (fun x => (Int.negSucc x).fdiv (2 ^ (min n k.bits)))))
    | _ => none) (fun _ => none)

theorem shiftB_sound {P : Program} {op : BinOp} {k k' : IntKind} {a b : Int} {v : V} (h : shiftB op k a b = some v) (t : TypeId) (w : World) :
    ∃ x, (binOp op t (.int k a) (.int k' b)).run P w = .ok x w ∧ ∀ r, VRel r v x := by
  cases b with
  | negSucc n => simp [shiftB] at h
  | ofNat n =>
    cases op <;> simp only [shiftB, Option.some.injEq, reduceCtorEq] at h
    case shl =>
      subst h
      refine ⟨.int k (k.wrap (a * 2 ^ (min n k.bits))), ?_, fun r => .int k _⟩
      have hn : ¬ ((n : Int) < 0) := by omega
      simp [binOp, Op.shift, hn]
    case shr =>
      subst h
      refine ⟨.int k (a.fdiv (2 ^ (min n k.bits))), ?_, fun r => ?_⟩
      · have hn : ¬ ((n : Int) < 0) := by omega
        simp [binOp, Op.shift, hn]
      · cases a with
        | negSucc x => exact .int k _
        | ofNat x =>
          have e : (Int.ofNat (Nat.shiftRight x (min n k.bits))) = (Int.ofNat x).fdiv (2 ^ (min n k.bits)) := by
            rw [show Nat.shiftRight x (min n k.bits) = x / 2 ^ (min n k.bits) from Nat.shiftRight_eq_div_pow _ _]
            have : (2 ^ (min n k.bits) : Int) = Int.ofNat (2 ^ (min n k.bits)) := by simp
            rw [this]
            exact (Int.fdiv_eq_ediv_of_nonneg (Int.ofNat x) (Int.natCast_nonneg (2 ^ min n k.bits))).symm
          show VRel r (.int k (Int.ofNat _)) _
          rw [e]
          exact .int k _

/-- A number in another kind. -/
def convI (k : IntKind) (a : Int) : Int := Int.casesOn a (fun x => bif Nat.ble x (lim k) then .ofNat x else k.wrap (.ofNat x)) (fun x => k.wrap (.negSucc x))
theorem convI_eq (k : IntKind) (a : Int) : convI k a = k.wrap a := by
  cases a with
  | ofNat x =>
    show (bif Nat.ble x (lim k) then _ else _) = _
    cases h : Nat.ble x (lim k)
    · rfl
    · exact (wrap_small k x (Nat.le_of_ble_eq_true h)).symm
  | negSucc x => rfl

end Go.Ev
