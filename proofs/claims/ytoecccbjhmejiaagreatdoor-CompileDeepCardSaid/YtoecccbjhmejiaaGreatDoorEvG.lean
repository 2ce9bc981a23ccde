/- The evaluator's operations that leave memory as it is, one by one. No condition. -/
import Derived.Test.YtoecccbjhmejiaaGreatDoorEvF
import Derived.Laws.StructEq
namespace Go.Ev

variable {P : Program}

def kc (k : IntKind) : Nat := IntKind.casesOn k 0 1 2 3 4 5 6 7
theorem kc_inj {k k' : IntKind} (h : Nat.beq (kc k) (kc k') = true) : k = k' := by
  have := Nat.eq_of_beq_eq_true h
  cases k <;> cases k' <;> first | rfl | (simp [kc] at this)

def isShift (op : BinOp) : Bool := match op with | .shl | .shr => true | _ => false

/-- Are two addresses one? -/
def sameV (h : H) (id o id' o' : Nat) : Option Bool :=
  bif Nat.beq id id' then some (Nat.beq o o')
  else match h.mem.blk id, h.mem.blk id' with
    | .live _ _ _ true _, .live _ _ _ true _ => bif Nat.blt id 65536 && Nat.blt id' 65536 then some false else none
    | _, _ => none

def ptrEq (P : Program) (h : H) (t : TypeId) (x y : V) : Option Bool :=
  match P.underlying t with
  | some (.pointer e) =>
    match x, y with
    | .nilp, .nilp => some true
    | .nilp, .ptr _ _ => some false
    | .ptr _ _, .nilp => some false
    | .ptr id o, .ptr id' o' =>
      match P.info? e with
      | some i => bif Nat.beq i.size 0 then none else sameV h id o id' o'
      | none => none
    | _, _ => none
  | _ => none

theorem sameV_sound {r : Emb} {h : H} {w : World} (hr : Rel r h w) {id o id' o' : Nat} {b : Bool} (he : sameV h id o id' o' = some b) {x y : Addr}
    (hx : VRel r (.ptr id o) (.pointer (some x))) (hy : VRel r (.ptr id' o') (.pointer (some y))) : (sameAddr x y).run P w = .ok b w := by
  cases hx with
  | @ptr _ _ b1 sh1 c1 h1 =>
    cases hy with
    | @ptr _ _ b2 sh2 c2 h2 =>
      unfold sameV at he
      cases e : Nat.beq id id'
      · rw [e] at he
        simp only [cond_false] at he
        split at he
        · rename_i n1 t1 ro1 ce1 n2 t2 ro2 ce2 hb1 hb2
          cases hlt : (Nat.blt id 65536 && Nat.blt id' 65536) <;> simp only [hlt, cond_true, cond_false, reduceCtorEq, Option.some.injEq] at he
          subst he
          simp only [Bool.and_eq_true, Nat.blt_eq] at hlt
          obtain ⟨b1', sh1', c1', g1, ⟨⟨cs1, fz1, ⟨_, g2, _⟩, _, _, g5, _⟩, _, _⟩⟩ := hr.blk id n1 t1 ro1 true ce1 hlt.1 hb1
          obtain ⟨b2', sh2', c2', k1, ⟨⟨cs2, fz2, ⟨_, k2, _⟩, _, _, k5, _⟩, _, _⟩⟩ := hr.blk id' n2 t2 ro2 true ce2 hlt.2 hb2
          rw [h1] at g1
          cases g1
          rw [h2] at k1
          cases k1
          have hne : b1 ≠ b2 := fun e2 => by
            have := hr.inj id id' b1 sh1 c1 sh2 c2 (live_of hlt.1 hb1) (live_of hlt.2 hb2) h1 (by rw [e2]; exact h2)
            subst this
            simp at e
          rw [g5 rfl] at g2
          rw [k5 rfl] at k2
          exact run_sameAddr_other w (a := ⟨b1, o + sh1, none⟩) (b := ⟨b2, o' + sh2, none⟩) (by intro e3; exact hne (congrArg Addr.block e3)) g2 k2
        · simp at he
      · rw [e] at he
        simp only [cond_true, Option.some.injEq] at he
        have e' := Nat.eq_of_beq_eq_true e
        subst e'
        rw [h1] at h2
        cases h2
        subst he
        have : (({ block := b1, off := o + sh1, spot := none } : Addr) == { block := b1, off := o' + sh1, spot := none }) = Nat.beq o o' := by
          rw [Bool.eq_iff_iff, beq_iff_eq]
          constructor
          · intro h
            have e3 : o + sh1 = o' + sh1 := congrArg Addr.off h
            have : o = o' := by omega
            subst this; exact Nat.beq_refl o
          · intro h; rw [Nat.eq_of_beq_eq_true h]
        simp [sameAddr, this]

theorem ptrEq_sound {r : Emb} {h : H} {w : World} (hr : Rel r h w) {t : TypeId} {x y : V} {b : Bool} (he : ptrEq P h t x y = some b) {a c : Value} (hx : VRel r x a) (hy : VRel r y c) :
    (Op.equal t a c).run P w = .ok b w := by
  unfold ptrEq at he
  split at he
  · rename_i e hu
    have key : ∀ d : Nat, (Op.equalIn (d + 1) t a c).run P w = .ok b w := by
      intro d
      split at he
      · cases hx; cases hy
        simp only [Option.some.injEq] at he
        subst he
        simp [Op.equalIn, run_underlying hu]
      · cases hx; cases hy
        simp only [Option.some.injEq] at he
        subst he
        simp [Op.equalIn, run_underlying hu]
      · cases hx; cases hy
        simp only [Option.some.injEq] at he
        subst he
        simp [Op.equalIn, run_underlying hu]
      · split at he
        · rename_i i hi
          cases hz : Nat.beq i.size 0 <;> simp only [hz, cond_true, cond_false, reduceCtorEq] at he
          have hsz : i.size ≠ 0 := fun e0 => by rw [e0] at hz; simp at hz
          cases hx with
          | ptr h1 =>
            cases hy with
            | ptr h2 =>
              have := sameV_sound hr he (.ptr h1) (.ptr h2) (P := P)
              simp [Op.equalIn, run_underlying hu, sizeOf, typeInfo, hi, hsz, this]
        · simp at he
      · simp at he
    simp [Op.equal, Op.maxDepth, key 9999]
  · simp at he

/-- Structs of numbers, texts, bools: equal? -/
def scalEq (P : Program) (t : TypeId) (x y : V) : Option Bool :=
  match P.underlying t, x, y with
  | some (.int _), .int k a, .int k' b => bif Nat.beq (kc k) (kc k') then some (eqI a b) else none
  | some .string, .str n l, .str m k => some (Nat.beq n m && Nat.beq l k)
  | some .bool, .bool a, .bool b => some (a == b)
  | _, _, _ => none
def fieldsEqV (P : Program) (xs ys : List V) : List Field → Option Bool
  | [] => some true
  | f :: fs =>
    bif f.name == "_" then none else
    match partV P f.type xs f.offset, partV P f.type ys f.offset with
    | some a, some b => (match scalEq P f.type a b with
      | some true => fieldsEqV P xs ys fs
      | some false => some false
      | none => none)
    | _, _ => none
def structEqV (P : Program) (t : TypeId) (xs ys : List V) : Option Bool :=
  match P.underlying t with
  | some (.struct fs) => bif P.stoodInHeld t || P.eqGuardType P.depth t then none else fieldsEqV P xs ys fs.toList
  | _ => none

theorem scalEq_sound {r : Emb} {t : TypeId} {x y : V} {b : Bool} (he : scalEq P t x y = some b) {a c : Value} (hx : VRel r x a) (hy : VRel r y c) (d : Nat) (w : World) : (Op.equalIn (d + 1) t a c).run P w = .ok b w := by
  unfold scalEq at he
  split at he
  · rename_i k0 k a' k' b' hu
    cases hk : Nat.beq (kc k) (kc k') <;> simp only [hk, cond_true, cond_false, reduceCtorEq, Option.some.injEq] at he
    subst he
    have e := kc_inj hk
    subst e
    cases hx; cases hy
    rw [eqI_eq]
    exact run_equalIn_int w d t k k0 a' b' hu
  · rename_i n l m k hu
    simp only [Option.some.injEq] at he
    subst he
    cases hx with
    | str hx =>
      cases hy with
      | str hy =>
        rw [run_equalIn_string w d t _ _ hu, toList_sval, toList_sval, sdec_beq hx hy]
  · rename_i p q hu
    simp only [Option.some.injEq] at he
    subst he
    cases hx; cases hy
    exact run_equalIn_bool w d t p q hu
  · cases he

theorem fieldsEqV_sound {r : Emb} {xs ys : List V} {as cs : Array Value} (hx : VsRel r xs as.toList) (hy : VsRel r ys cs.toList) (d : Nat) (w : World) : ∀ (fs : List Field) (b : Bool), fieldsEqV P xs ys fs = some b → (Op.eqFields (d + 1) as cs fs).run P w = .ok b w := by
  intro fs
  induction fs with
  | nil =>
    intro b he
    simp only [fieldsEqV, Option.some.injEq] at he
    subst he
    rfl
  | cons f fs ih =>
    intro b he
    simp only [fieldsEqV] at he
    cases hn : (f.name == "_") <;> simp only [hn, cond_true, cond_false, reduceCtorEq] at he
    have hne : f.name ≠ "_" := by simpa using hn
    split at he
    · rename_i p q hp hq
      obtain ⟨p', h1, h2⟩ := partV_sound hx hp w
      obtain ⟨q', h3, h4⟩ := partV_sound hy hq w
      split at he
      · rename_i hs
        have h5 := scalEq_sound hs h2 h4 d w
        have h6 := ih b he
        simp [Op.eqFields, hne, h1, h3, h5, h6]
      · rename_i hs
        simp only [Option.some.injEq] at he
        subst he
        have h5 := scalEq_sound hs h2 h4 d w
        simp [Op.eqFields, hne, h1, h3, h5]
      · cases he
    · cases he

/-- Are two values that are no numbers, texts, bools, equal? -/
def eqAll (P : Program) (h : H) (t : TypeId) (x y : V) : Option Bool :=
  match x, y with
  | .agg xs, .agg ys => structEqV P t xs ys
  | .nils, .nils => (match P.underlying t with | some (.slice _) => some true | _ => none)
  | .nils, .slice _ _ _ _ _ => (match P.underlying t with | some (.slice _) => some false | _ => none)
  | .slice _ _ _ _ _, .nils => (match P.underlying t with | some (.slice _) => some false | _ => none)
  | .nilFn, .nilFn => (match P.underlying t with | some (.func _ _ _) => some true | _ => none)
  | .nilFn, .fn _ _ _ => (match P.underlying t with | some (.func _ _ _) => some false | _ => none)
  | .fn _ _ _, .nilFn => (match P.underlying t with | some (.func _ _ _) => some false | _ => none)
  | x, y => ptrEq P h t x y

/-- Numbers of which a remainder, or some bits, are known. -/
def clsB (op : BinOp) (x y : V) : Option V :=
  match op, x, y with
  | .rem, .cls m q, .int .i64 (.ofNat b) => bif Nat.beq b m && Nat.blt 0 m then some (.cl1 m q) else none
  | .add, .cl1 m q, .int .i64 (.ofNat b) => bif Nat.beq b m && Nat.ble m 1000000 then some (.cl2 m q) else none
  | .rem, .cl2 m q, .int .i64 (.ofNat b) => bif Nat.beq b m && Nat.blt 0 m then some (.int .i64 (.ofNat q)) else none
  | .and, .msk m q, .int .i64 (.ofNat b) => bif Nat.beq b m then some (.int .i64 (.ofNat q)) else none
  | _, _, _ => none

/-- A binary operation. -/
def binV (P : Program) (h : H) (op : BinOp) (t : TypeId) (x y : V) : Option V :=
  match x, y with
  | .int k a, .int k' b => bif isShift op then shiftB op k a b else bif Nat.beq (kc k) (kc k') then intB op k a b else none
  | .str n l, .str m k => strB op n l m k
  | .bool a, .bool b =>
    match op, P.underlying t with
    | .eql, some .bool => some (.bool (a == b))
    | .neq, some .bool => some (.bool (!(a == b)))
    | _, _ => none
  | x, y =>
    match op with
    | .eql => (eqAll P h t x y).map V.bool
    | .neq => (eqAll P h t x y).map fun b => V.bool (!b)
    | op => clsB op x y

theorem eqGuard_plain {op : BinOp} {t : TypeId} {x y : Operand} {a b : Value} (w : World) (h1 : a ≠ .nilIface) (h2 : ∀ cs, a ≠ .agg cs) : (eqGuard op t x y a b).run P w = .ok () w := by
  cases a <;> first
    | exact absurd rfl h1
    | exact absurd rfl (h2 _)
    | (cases op <;> simp [eqGuard])

theorem binOp_ptr_eql {t : TypeId} {a c : Value} {b : Bool} (w : World) (h : (Op.equal t a c).run P w = .ok b w) (ha : ∀ k n, a ≠ .int k n) (hs : ∀ s, a ≠ .string s) (hf : ∀ k n, a ≠ .float k n) (hc : ∀ k n m, a ≠ .complex k n m) :
    (binOp .eql t a c).run P w = .ok (.bool b) w ∧ (binOp .neq t a c).run P w = .ok (.bool (!b)) w := by
  cases a <;> first
    | exact absurd rfl (ha _ _)
    | exact absurd rfl (hs _)
    | exact absurd rfl (hf _ _)
    | exact absurd rfl (hc _ _ _)
    | (constructor <;> (unfold binOp; simp [h]))

theorem equal_bool {t : TypeId} (hu : P.underlying t = some .bool) (p q : Bool) (w : World) : (Op.equal t (.bool p) (.bool q)).run P w = .ok (p == q) w := by
  have key : ∀ d : Nat, (Op.equalIn (d + 1) t (.bool p) (.bool q)).run P w = .ok (p == q) w := fun d => by simp only [Op.equalIn, Sem.run_bind, run_underlying hu, Result.andThen_ok, Sem.run_pure]
  simp [Op.equal, Op.maxDepth, key 9999]

theorem clsB_sound {r : Emb} {op : BinOp} {x y v : V} (he : clsB op x y = some v) {a c : Value} (hx : VRel r x a) (hy : VRel r y c) (t : TypeId) (w : World) (xo yo : Operand) :
    ∃ z, (do eqGuard op t xo yo a c; binOp op t a c : Sem Value).run P w = .ok z w ∧ VRel r v z := by
  have int : ∀ (op : BinOp) (n b q : Int), intB op .i64 n b = some (.int .i64 q) → (do eqGuard op t xo yo (.int .i64 n) (.int .i64 b); binOp op t (.int .i64 n) (.int .i64 b) : Sem Value).run P w = .ok (.int .i64 q) w := by
    intro op n b q h
    obtain ⟨z, h1, h2⟩ := intB_sound h t w (P := P)
    have hg : (eqGuard op t xo yo (.int .i64 n) (.int .i64 b)).run P w = .ok () w := eqGuard_plain w (by simp) (by simp)
    have := h2 r
    cases this
    simp [hg, h1]
  unfold clsB at he
  split at he
  · rename_i m q b
    cases hb : (Nat.beq b m && Nat.blt 0 m) <;> simp only [hb, cond_true, cond_false, reduceCtorEq, Option.some.injEq] at he
    subst he
    simp only [Bool.and_eq_true, Nat.blt_eq] at hb
    obtain rfl := Nat.eq_of_beq_eq_true hb.1
    cases hx with
    | @cls _ _ n h =>
      cases hy
      refine ⟨_, int .rem n (.ofNat b) (n.tmod b) ?_, .cl1 (Int.lt_tmod_of_pos n (by omega)) (Int.tmod_lt_of_pos n (by omega)) h⟩
      have : eqI (.ofNat b) (.ofNat 0) = false := by rw [eqI_eq]; simp; omega
      simp only [intB, this, cond_false, remI_eq]
      rfl
  · rename_i m q b
    cases hb : (Nat.beq b m && Nat.ble m 1000000) <;> simp only [hb, cond_true, cond_false, reduceCtorEq, Option.some.injEq] at he
    subst he
    simp only [Bool.and_eq_true] at hb
    obtain rfl := Nat.eq_of_beq_eq_true hb.1
    have hm := Nat.le_of_ble_eq_true hb.2
    cases hx with
    | @cl1 _ _ n h1 h2 h =>
      cases hy
      refine ⟨_, int .add n (.ofNat b) (n + b) ?_, .cl2 h⟩
      simp only [intB, addI_eq]
      obtain ⟨k, hk⟩ : ∃ k : Nat, n + (b : Int) = Int.ofNat k := ⟨(n + b).toNat, by simp only [Int.ofNat_eq_natCast]; omega⟩
      have hk2 : k ≤ lim .i64 := by
        have : (k : Int) < 2000000 := by simp only [Int.ofNat_eq_natCast] at hk; omega
        show k ≤ 9223372036854775807
        omega
      have e1 : n + Int.ofNat b = Int.ofNat k := hk
      rw [e1, wrap_small IntKind.i64 k hk2, ← hk]
  · rename_i m q b
    cases hb : (Nat.beq b m && Nat.blt 0 m) <;> simp only [hb, cond_true, cond_false, reduceCtorEq, Option.some.injEq] at he
    subst he
    simp only [Bool.and_eq_true, Nat.blt_eq] at hb
    obtain rfl := Nat.eq_of_beq_eq_true hb.1
    cases hx with
    | @cl2 _ _ n h =>
      cases hy
      refine ⟨_, int .rem n (.ofNat b) (.ofNat q) ?_, .int _ _⟩
      have : eqI (.ofNat b) (.ofNat 0) = false := by rw [eqI_eq]; simp; omega
      simp only [intB, this, cond_false, remI_eq]
      have e1 : n.tmod (Int.ofNat b) = Int.ofNat q := h
      rw [e1]
  · rename_i m q b
    cases hb : Nat.beq b m <;> simp only [hb, cond_true, cond_false, reduceCtorEq, Option.some.injEq] at he
    subst he
    obtain rfl := Nat.eq_of_beq_eq_true hb
    cases hx with
    | @msk _ _ n h =>
      cases hy
      refine ⟨_, int .and n (.ofNat b) (.ofNat q) ?_, .int _ _⟩
      have e1 : IntKind.i64.wrap (BitVec.ofInt IntKind.i64.bits n &&& BitVec.ofInt IntKind.i64.bits (Int.ofNat b)).toNat = Int.ofNat q := h
      simp only [intB, bitI, Option.map_some]
      cases hs : (smallI .i64 n && smallI .i64 (Int.ofNat b))
      · simp only [cond_false, e1]
      · simp only [cond_true]
        rw [andI_eq IntKind.i64 n (Int.ofNat b) hs, e1]
  · cases he

theorem eqAll_sound {r : Emb} {h : H} {w : World} (hr : Rel r h w) {t : TypeId} {x y : V} {b : Bool} (he : eqAll P h t x y = some b) {a c : Value} (hx : VRel r x a) (hy : VRel r y c) (xo yo : Operand) :
    ((eqGuard .eql t xo yo a c).run P w = .ok () w ∧ (binOp .eql t a c).run P w = .ok (.bool b) w) ∧ ((eqGuard .neq t xo yo a c).run P w = .ok () w ∧ (binOp .neq t a c).run P w = .ok (.bool (!b)) w) := by
  have fin : ∀ (h1 : (Op.equal t a c).run P w = .ok b w), (∀ k n, a ≠ .int k n) → (∀ s, a ≠ .string s) → (∀ k n, a ≠ .float k n) → (∀ k n m, a ≠ .complex k n m) → a ≠ .nilIface → (∀ cs, a ≠ .agg cs) →
      ((eqGuard .eql t xo yo a c).run P w = .ok () w ∧ (binOp .eql t a c).run P w = .ok (.bool b) w) ∧ ((eqGuard .neq t xo yo a c).run P w = .ok () w ∧ (binOp .neq t a c).run P w = .ok (.bool (!b)) w) := fun h1 q1 q2 q3 q4 q5 q6 =>
    ⟨⟨eqGuard_plain w q5 q6, (binOp_ptr_eql w h1 q1 q2 q3 q4).1⟩, ⟨eqGuard_plain w q5 q6, (binOp_ptr_eql w h1 q1 q2 q3 q4).2⟩⟩
  have eq1 : ∀ (_ : ∀ d : Nat, (Op.equalIn (d + 1) t a c).run P w = .ok b w), (Op.equal t a c).run P w = .ok b w := fun h1 => h1 9999
  unfold eqAll at he
  split at he
  · rename_i xs ys
    cases hx with
    | agg hx =>
      cases hy with
      | agg hy =>
        rename_i as cs
        unfold structEqV at he
        split at he
        · rename_i fs hu
          cases hs : (P.stoodInHeld t || P.eqGuardType P.depth t) <;> simp only [hs, cond_true, cond_false, reduceCtorEq] at he
          simp only [Bool.or_eq_false_iff] at hs
          have hf : P.fieldsOf t = fs := by simp [Program.fieldsOf, hu]
          have h1 := fieldsEqV_sound hx hy 9998 w fs.toList b he
          have h2 : (Op.equalIn 10000 t (.agg as) (.agg cs)).run P w = .ok b w := by
            rw [run_equalIn_struct w 9999 t as cs (by rw [hf]; exact hu) hs.1, hf]
            exact h1
          exact ⟨⟨run_eqGuard_agg w .eql t xo yo as cs hs.2, by rw [run_eql_struct, h2]; rfl⟩, ⟨run_eqGuard_agg w .neq t xo yo as cs hs.2, by rw [run_neq_struct, h2]; rfl⟩⟩
        · cases he
  · split at he
    · rename_i e hu
      simp only [Option.some.injEq] at he
      subst he
      cases hx; cases hy
      exact fin (eq1 (fun d => by simp [Op.equalIn, run_underlying hu])) (by simp) (by simp) (by simp) (by simp) (by simp) (by simp)
    · cases he
  · split at he
    · rename_i e hu
      simp only [Option.some.injEq] at he
      subst he
      cases hx; cases hy <;> exact fin (eq1 (fun d => by simp [Op.equalIn, run_underlying hu])) (by simp) (by simp) (by simp) (by simp) (by simp) (by simp)
    · cases he
  · split at he
    · rename_i e hu
      simp only [Option.some.injEq] at he
      subst he
      cases hy; cases hx <;> exact fin (eq1 (fun d => by simp [Op.equalIn, run_underlying hu])) (by simp) (by simp) (by simp) (by simp) (by simp) (by simp)
    · cases he
  · split at he
    · rename_i e1 e2 e3 hu
      simp only [Option.some.injEq] at he
      subst he
      cases hx; cases hy
      exact fin (eq1 (fun d => by simp [Op.equalIn, run_underlying hu])) (by simp) (by simp) (by simp) (by simp) (by simp) (by simp)
    · cases he
  · split at he
    · rename_i e1 e2 e3 hu
      simp only [Option.some.injEq] at he
      subst he
      cases hx; cases hy
      exact fin (eq1 (fun d => by simp [Op.equalIn, run_underlying hu])) (by simp) (by simp) (by simp) (by simp) (by simp) (by simp)
    · cases he
  · split at he
    · rename_i e1 e2 e3 hu
      simp only [Option.some.injEq] at he
      subst he
      cases hx; cases hy
      exact fin (eq1 (fun d => by simp [Op.equalIn, run_underlying hu])) (by simp) (by simp) (by simp) (by simp) (by simp) (by simp)
    · cases he
  · have h1 := ptrEq_sound hr he hx hy
    have hptr : ∃ q, a = .pointer q := by
      unfold ptrEq at he
      split at he
      · split at he <;> first | (simp at he; done) | (cases hx; exact ⟨_, rfl⟩)
      · simp at he
    obtain ⟨q, rfl⟩ := hptr
    exact fin h1 (by simp) (by simp) (by simp) (by simp) (by simp) (by simp)

theorem binV_sound {r : Emb} {h : H} {w : World} (hr : Rel r h w) {op : BinOp} {t : TypeId} {x y v : V} (he : binV P h op t x y = some v) {a c : Value} (hx : VRel r x a) (hy : VRel r y c) (xo yo : Operand) :
    ∃ z, (do eqGuard op t xo yo a c; binOp op t a c : Sem Value).run P w = .ok z w ∧ VRel r v z := by
  unfold binV at he
  split at he
  · rename_i k a' k' b'
    cases hx; cases hy
    have hg : (eqGuard op t xo yo (.int k a') (.int k' b')).run P w = .ok () w := eqGuard_plain w (by simp) (by simp)
    cases hs : isShift op
    · rw [hs] at he
      simp only [cond_false] at he
      cases hk : Nat.beq (kc k) (kc k') <;> simp only [hk, cond_true, cond_false, reduceCtorEq] at he
      have e := kc_inj hk
      subst e
      obtain ⟨z, h1, h2⟩ := intB_sound he t w (P := P)
      exact ⟨z, by simp [hg, h1], h2 r⟩
    · rw [hs] at he
      simp only [cond_true] at he
      obtain ⟨z, h1, h2⟩ := shiftB_sound he t w (P := P) (k' := k')
      exact ⟨z, by simp [hg, h1], h2 r⟩
  · rename_i n l m k
    cases hx with
    | str hx =>
      cases hy with
      | str hy =>
        have hg : (eqGuard op t xo yo (.string (sval n l)) (.string (sval m k))).run P w = .ok () w := eqGuard_plain w (by simp) (by simp)
        obtain ⟨z, h1, h2⟩ := strB_sound he hx hy t w (P := P)
        exact ⟨z, by simp [hg, h1], h2 r⟩
  · rename_i p q
    cases hx; cases hy
    have hg : (eqGuard op t xo yo (.bool p) (.bool q)).run P w = .ok () w := eqGuard_plain w (by simp) (by simp)
    split at he
    · rename_i hu
      simp only [Option.some.injEq] at he
      subst he
      refine ⟨.bool (p == q), ?_, .bool _⟩
      have := equal_bool hu p q w
      simp [hg, (binOp_ptr_eql w this (by simp) (by simp) (by simp) (by simp)).1]
    · rename_i hu
      simp only [Option.some.injEq] at he
      subst he
      refine ⟨.bool (!(p == q)), ?_, .bool _⟩
      have := equal_bool hu p q w
      simp [hg, (binOp_ptr_eql w this (by simp) (by simp) (by simp) (by simp)).2]
    · simp at he
  · split at he
    · cases hp : eqAll P h t x y with
      | none => rw [hp] at he; simp at he
      | some b =>
        rw [hp] at he
        simp only [Option.map_some, Option.some.injEq] at he
        subst he
        obtain ⟨⟨g1, g2⟩, _⟩ := eqAll_sound hr hp hx hy xo yo
        exact ⟨.bool b, by simp [g1, g2], .bool _⟩
    · cases hp : eqAll P h t x y with
      | none => rw [hp] at he; simp at he
      | some b =>
        rw [hp] at he
        simp only [Option.map_some, Option.some.injEq] at he
        subst he
        obtain ⟨_, ⟨g1, g2⟩⟩ := eqAll_sound hr hp hx hy xo yo
        exact ⟨.bool (!b), by simp [g1, g2], .bool _⟩
    · exact clsB_sound he hx hy t w xo yo

end Go.Ev
