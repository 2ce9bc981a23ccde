/- The evaluator's operations that leave memory as it is, all of them. No condition. -/
import Derived.Test.YtoecccbjhmejiaaGreatDoorEvG
namespace Go.Ev

variable {P : Program}

def nilV (x : V) : Option V :=
  match x with
  | .ptr id o => some (.ptr id o)
  | .iface t v => some (.iface t v)
  | .fn (.func f) a b => some (.fn (.func f) a b)
  | _ => none

theorem nilV_sound {r : Emb} {x v : V} (h : nilV x = some v) {a : Value} (hx : VRel r x a) (e : Operand → Value) (o : Oper) (y : Operand) (ho : o.op = .nilCheck y) (hy : e y = a) (w : World) :
    (execOp e o).run P w = .ok (.value a) w ∧ VRel r v a := by
  unfold nilV at h
  split at h <;> simp only [Option.some.injEq, reduceCtorEq] at h <;> subst h
  · refine ⟨?_, hx⟩
    cases hx
    unfold execOp
    simp [ho, hy]
  · refine ⟨?_, hx⟩
    cases hx
    unfold execOp
    simp [ho, hy]
  · refine ⟨?_, hx⟩
    cases hx
    unfold execOp
    simp [ho, hy]

def unV (op : UnOp) (x : V) : Option V :=
  match op, x with
  | .not, .bool b => some (.bool (!b))
  | .neg, .int k n => some (.int k (subI k (.ofNat 0) n))
  | .xor, .int k n => (bitI .xor k (if k.signed then -1 else k.max) n).map (V.int k)
  | _, _ => none

theorem unV_sound {r : Emb} {op : UnOp} {x v : V} (h : unV op x = some v) {a : Value} (hx : VRel r x a) (w : World) : ∃ z, (Op.unary op a).run P w = .ok z w ∧ VRel r v z := by
  unfold unV at h
  split at h <;> simp only [Option.some.injEq, reduceCtorEq, bitI, Option.map_some] at h <;> subst h
  · cases hx; exact ⟨_, rfl, .bool _⟩
  · rename_i k n
    cases hx
    exact ⟨.int k (k.wrap (0 - n)), by simp [Op.unary, Op.intArith], by rw [subI_eq]; exact .int k _⟩
  · rename_i k n
    cases hx
    exact ⟨.int k (k.wrap (BitVec.ofInt k.bits (if k.signed then -1 else k.max) ^^^ BitVec.ofInt k.bits n).toNat), by simp [Op.unary, Op.intBits], .int k _⟩

def convV (P : Program) (src dst : TypeId) (x : V) : Option V :=
  match P.underlying src, P.underlying dst, x with
  | some _, some (.int k), .int _ n => some (.int k (convI k n))
  | some _, some .string, .str n l => some (.str n l)
  | _, _, _ => none

theorem convV_sound {r : Emb} {src dst : TypeId} {x v : V} (h : convV P src dst x = some v) {a : Value} (hx : VRel r x a) (w : World) : ∃ z, (convert src dst a).run P w = .ok z w ∧ VRel r v z := by
  unfold convV at h
  split at h <;> simp only [Option.some.injEq, reduceCtorEq] at h <;> subst h
  · rename_i d k k' n h1 h2
    cases hx
    refine ⟨.int k (k.wrap n), by simp [convert, run_underlying h1, run_underlying h2, Conv.intToInt], by rw [convI_eq]; exact .int k _⟩
  · rename_i d n l h1 h2
    cases hx with
    | str hx => exact ⟨.string (sval n l), by simp [convert, run_underlying h1, run_underlying h2], .str hx⟩

/-- A bound: a number not below 0. -/
def natV (x : V) : Option Nat :=
  match x with
  | .int _ n => Int.casesOn n (fun m => some m) (fun _ => none)
  | _ => none
theorem natV_sound {r : Emb} {x : V} {m : Nat} (h : natV x = some m) {a : Value} (hx : VRel r x a) : ∃ k, a = .int k (Int.ofNat m) := by
  unfold natV at h
  split at h
  · rename_i k n
    cases hx
    cases n with
    | ofNat i => simp only [Option.some.injEq] at h; subst h; exact ⟨k, rfl⟩
    | negSucc i => simp at h
  · simp at h

/-- The bounds of a piece; none: not within. -/
def loV (lo : Option V) (h : Nat) : Option Nat :=
  match lo with
  | none => some 0
  | some x => (natV x).bind fun n => bif Nat.ble n h then some n else none
def hiV (hi : Option V) (len cap : Nat) : Option Nat :=
  match hi with
  | none => some len
  | some x => (natV x).bind fun n => bif Nat.ble n cap then some n else none

inductive ORel (r : Emb) : Option V → Option Value → Prop where
  | none : ORel r none none
  | some {v : V} {x : Value} (h : VRel r v x) : ORel r (some v) (some x)

theorem run_sliceBound {x : V} {m y : Nat} {r : Emb} (h : natV x = some m) (hm : m ≤ y) {a : Value} (hx : VRel r x a) (c : BoundsCode) (w : World) : (Instr.sliceBound a y c).run P w = .ok m w := by
  obtain ⟨k, rfl⟩ := natV_sound h hx
  have h1 : (0 : Int) ≤ Int.ofNat m ∧ Int.ofNat m ≤ (y : Int) := ⟨Int.natCast_nonneg m, Int.ofNat_le.2 hm⟩
  simp only [Instr.sliceBound, asIntOf, Sem.run_bind, Sem.run_pure, Result.andThen_ok]
  rw [if_pos h1]
  rfl

theorem sliceBounds_sound {r : Emb} {lo hi : Option V} {a b : Option Value} (h1 : ORel r lo a) (h2 : ORel r hi b) {len cap cap' l h : Nat} (hc : cap ≤ cap') (hh : hiV hi len cap = some h) (hl : loV lo h = some l) (s : Bool) (w : World) :
    (Instr.sliceBounds s len cap' a b none).run P w = .ok (l, h, cap') w := by
  have g2 : ∀ (c : BoundsCode), (match b with | some v => Instr.sliceBound v cap' c | none => pure len : Sem Nat).run P w = .ok h w := by
    intro c
    cases h2 with
    | none => simp only [hiV, Option.some.injEq] at hh; subst hh; rfl
    | some h2 =>
      simp only [hiV] at hh
      cases hn : natV _ with
      | none => rw [hn] at hh; simp at hh
      | some m =>
        rw [hn] at hh
        simp only [Option.bind_some] at hh
        cases hb : Nat.ble m cap <;> simp only [hb, cond_true, cond_false, reduceCtorEq, Option.some.injEq] at hh
        subst hh
        exact run_sliceBound hn (Nat.le_trans (Nat.le_of_ble_eq_true hb) hc) h2 c w
  have g1 : ∀ (c : BoundsCode), (match a with | some v => Instr.sliceBound v h c | none => pure 0 : Sem Nat).run P w = .ok l w := by
    intro c
    cases h1 with
    | none => simp only [loV, Option.some.injEq] at hl; subst hl; rfl
    | some h1 =>
      simp only [loV] at hl
      cases hn : natV _ with
      | none => rw [hn] at hl; simp at hl
      | some m =>
        rw [hn] at hl
        simp only [Option.bind_some] at hl
        cases hb : Nat.ble m h <;> simp only [hb, cond_true, cond_false, reduceCtorEq, Option.some.injEq] at hl
        subst hl
        exact run_sliceBound hn (Nat.le_of_ble_eq_true hb) h1 c w
  cases h2 with
  | none =>
    simp only [hiV, Option.some.injEq] at hh
    subst hh
    cases h1 with
    | none =>
      simp only [loV, Option.some.injEq] at hl
      subst hl
      simp [Instr.sliceBounds]
    | some h1 =>
      have := g1 .sliceB
      simp only at this
      simp [Instr.sliceBounds, this]
  | some h2 =>
    have e2 := g2 (if s then .sliceAcap else .sliceAlen)
    simp only at e2
    cases h1 with
    | none =>
      simp only [loV, Option.some.injEq] at hl
      subst hl
      simp [Instr.sliceBounds, e2]
    | some h1 =>
      have := g1 .sliceB
      simp only at this
      simp [Instr.sliceBounds, e2, this]

def sliceV (P : Program) (t : TypeId) (x : V) (lo hi : Option V) : Option V :=
  match P.underlying t, x with
  | some .string, .str n len =>
    (hiV hi len len).bind fun h => (loV lo h).map fun l => .str (Nat.mod (Nat.div n (Nat.pow 256 l)) (Nat.pow 256 (Nat.sub h l))) (Nat.sub h l)
  | some (.slice e), .slice id o len cap esz =>
    match P.info? e with
    | some i => bif Nat.beq i.size esz then (hiV hi len cap).bind fun h => (loV lo h).map fun l => .slice id (Nat.add o (Nat.mul l esz)) (Nat.sub h l) (Nat.sub cap l) esz else none
    | none => none
  | some (.slice e), .nils => match P.info? e with
    | some _ => (hiV hi 0 0).bind fun h => (loV lo h).map fun _ => .nils
    | none => none
  | _, _ => none

theorem sval_piece (n l a b : Nat) (hb : b ≤ l) (hab : a ≤ b) : (sval n l).extract a b = sval (n / 256 ^ a % 256 ^ (b - a)) (b - a) := by
  rw [Lib.extract_eq]
  show (⟨(((sdec n l).toArray.toList.drop a).take (b - a)).toArray⟩ : ByteArray) = ⟨(sdec _ _).toArray⟩
  rw [sdec_piece n l a b hb hab]

theorem bounds_le {lo hi : Option V} {len cap l h : Nat} (hh : hiV hi len cap = some h) (hl : loV lo h = some l) : l ≤ h ∧ (h ≤ cap ∨ h = len) := by
  constructor
  · unfold loV at hl
    split at hl
    · simp only [Option.some.injEq] at hl; omega
    · cases hn : natV _ with
      | none => rw [hn] at hl; simp at hl
      | some m =>
        rw [hn] at hl
        simp only [Option.bind_some] at hl
        cases hb : Nat.ble m h <;> simp only [hb, cond_true, cond_false, reduceCtorEq, Option.some.injEq] at hl
        subst hl
        exact Nat.le_of_ble_eq_true hb
  · unfold hiV at hh
    split at hh
    · simp only [Option.some.injEq] at hh; exact .inr hh.symm
    · cases hn : natV _ with
      | none => rw [hn] at hh; simp at hh
      | some m =>
        rw [hn] at hh
        simp only [Option.bind_some] at hh
        cases hb : Nat.ble m cap <;> simp only [hb, cond_true, cond_false, reduceCtorEq, Option.some.injEq] at hh
        subst hh
        exact .inl (Nat.le_of_ble_eq_true hb)

theorem addr_add (b o n : Nat) : (⟨b, o, none⟩ : Addr).add n = ⟨b, o + n, none⟩ := Addr.add_mid b o n

theorem sliceV_sound {r : Emb} {t : TypeId} {x v : V} {lo hi : Option V} (h : sliceV P t x lo hi = some v) {a : Value} {p q : Option Value} (hx : VRel r x a) (h1 : ORel r lo p) (h2 : ORel r hi q) (w : World) : ∃ z, (Instr.sliceAt t a p q none).run P w = .ok z w ∧ VRel r v z := by
  unfold sliceV at h
  split at h
  · rename_i n len hu
    cases hh : hiV hi len len with
    | none => rw [hh] at h; simp at h
    | some e =>
      cases hl : loV lo e with
      | none => rw [hh] at h; simp [hl] at h
      | some l =>
        rw [hh] at h
        simp only [Option.bind_some, hl, Option.map_some, Option.some.injEq] at h
        subst h
        cases hx with
        | str hx =>
          have hb := bounds_le hh hl
          have hsb := sliceBounds_sound (P := P) h1 h2 (Nat.le_refl len) hh hl false w
          refine ⟨.string ((sval n len).extract l e), ?_, ?_⟩
          · simp [Instr.sliceAt, Instr.slice, run_underlying hu, sval_size, hsb]
          · rw [sval_piece n len l e (by omega) hb.1]
            exact .str (Nat.mod_lt _ (Nat.pow_pos (by omega)))
  · rename_i e id o len cap esz hu
    split at h
    · rename_i i hi'
      cases hz : Nat.beq i.size esz <;> simp only [hz, cond_true, cond_false, reduceCtorEq] at h
      have hsz := Nat.eq_of_beq_eq_true hz
      cases hh : hiV hi len cap with
      | none => rw [hh] at h; simp at h
      | some e' =>
        cases hl : loV lo e' with
        | none => rw [hh] at h; simp [hl] at h
        | some l =>
          rw [hh] at h
          simp only [Option.bind_some, hl, Option.map_some, Option.some.injEq] at h
          subst h
          have hb := bounds_le hh hl
          cases hx with
          | @slice _ _ _ _ _ b sh c cap' hx hle1 hle2 hx3 =>
            have hsb := sliceBounds_sound (P := P) h1 h2 hle2 hh hl true w
            by_cases hm : cap' = l
            · subst hm
              refine ⟨.slice (some ⟨b, o + sh, none⟩) (e' - cap') (cap' - cap'), ?_, ?_⟩
              · simp [Instr.sliceAt, Instr.slice, run_underlying hu, hsb, sizeOf, typeInfo, hi']
              · have e1 : e' - cap' = 0 := by omega
                have e2 : cap - cap' = 0 := by omega
                show VRel r (.slice id _ (e' - cap') (cap - cap') esz) _
                rw [e1, e2]
                exact .slice0 hx (by simp only [Nat.sub_self, Nat.zero_mul, Nat.add_zero]; omega)
            · refine ⟨.slice (some ⟨b, o + sh + l * i.size, none⟩) (e' - l) (cap' - l), ?_, ?_⟩
              · simp [Instr.sliceAt, Instr.slice, run_underlying hu, hsb, sizeOf, typeInfo, hi', hm, addr_add]
              · rw [hsz, show o + sh + l * esz = (o + l * esz) + sh by omega]
                refine .slice hx ?_ ?_ ?_
                · show e' - l ≤ cap - l; omega
                · show cap - l ≤ cap' - l; omega
                · have : l * esz + (cap' - l) * esz = cap' * esz := by rw [← Nat.add_mul]; congr 1; omega
                  show o + l * esz + sh + (cap' - l) * esz ≤ c
                  omega
          | @slice0 _ _ _ b sh c off cap' hx hx3 =>
            have e0 : e' = 0 := by omega
            have l0 : l = 0 := by omega
            subst e0
            subst l0
            have hsb := sliceBounds_sound (P := P) h1 h2 (Nat.zero_le cap') hh hl true w
            refine ⟨.slice (some ⟨b, off, none⟩) 0 cap', ?_, ?_⟩
            · by_cases hm : cap' = 0
              · subst hm
                simp [Instr.sliceAt, Instr.slice, run_underlying hu, hsb, sizeOf, typeInfo, hi']
              · simp [Instr.sliceAt, Instr.slice, run_underlying hu, hsb, sizeOf, typeInfo, hi', hm, Addr.add]
            · exact .slice0 hx hx3
    · simp at h
  · rename_i e hu
    split at h
    · rename_i i hi'
      cases hh : hiV hi 0 0 with
      | none => rw [hh] at h; simp at h
      | some e' =>
        cases hl : loV lo e' with
        | none => rw [hh] at h; simp [hl] at h
        | some l =>
          rw [hh] at h
          simp only [Option.bind_some, hl, Option.map_some, Option.some.injEq] at h
          subst h
          have hb := bounds_le hh hl
          have e0 : e' = 0 := by omega
          have l0 : l = 0 := by omega
          subst e0
          subst l0
          cases hx
          have hsb := sliceBounds_sound (P := P) h1 h2 (Nat.zero_le 0) hh hl true w
          exact ⟨.slice none 0 0, by simp [Instr.sliceAt, Instr.slice, run_underlying hu, hsb, sizeOf, typeInfo, hi'], .nils⟩
    · simp at h
  · simp at h

end Go.Ev
