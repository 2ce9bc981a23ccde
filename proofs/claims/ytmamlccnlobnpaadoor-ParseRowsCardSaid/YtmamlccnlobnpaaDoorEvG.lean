/- The evaluator's operations that leave memory as it is, one by one. No condition. -/
import Derived.Test.YtmamlccnlobnpaaDoorEvF
namespace Go.Ev

variable {P : Program}

def kc (k : IntKind) : Nat := IntKind.casesOn k 0 1 2 3 4 5 6 7
theorem kc_inj {k k' : IntKind} (h : Nat.beq (kc k) (kc k') = true) : k = k' := by
  have := Nat.eq_of_beq_eq_true h
  cases k <;> cases k' <;> first | rfl | (simp [kc] at this)

def isShift (op : BinOp) : Bool := match op with | .shl | .shr => true | _ => false

/-- Are two addresses one? -/
def sameV (h : H) (id o id' o' : Nat) : Option Bool :=
  bif Nat.beq id id' then some (Nat.beq o o')
  else match h.mem.blk id, h.mem.blk id' with
    | .live _ _ _ true _, .live _ _ _ true _ => bif Nat.blt id 65536 && Nat.blt id' 65536 then some false else none
    | _, _ => none

def ptrEq (P : Program) (h : H) (t : TypeId) (x y : V) : Option Bool :=
  match P.underlying t with
  | some (.pointer e) =>
    match x, y with
    | .nilp, .nilp => some true
    | .nilp, .ptr _ _ => some false
    | .ptr _ _, .nilp => some false
    | .ptr id o, .ptr id' o' =>
      match P.info? e with
      | some i => bif Nat.beq i.size 0 then none else sameV h id o id' o'
      | none => none
    | _, _ => none
  | _ => none

theorem sameV_sound {r : Emb} {h : H} {w : World} (hr : Rel r h w) {id o id' o' : Nat} {b : Bool} (he : sameV h id o id' o' = some b) {x y : Addr}
    (hx : VRel r (.ptr id o) (.pointer (some x))) (hy : VRel r (.ptr id' o') (.pointer (some y))) : (sameAddr x y).run P w = .ok b w := by
  cases hx with
  | @ptr _ _ b1 sh1 c1 h1 =>
    cases hy with
    | @ptr _ _ b2 sh2 c2 h2 =>
      unfold sameV at he
      cases e : Nat.beq id id'
      · rw [e] at he
        simp only [cond_false] at he
        split at he
        · rename_i n1 t1 ro1 ce1 n2 t2 ro2 ce2 hb1 hb2
          cases hlt : (Nat.blt id 65536 && Nat.blt id' 65536) <;> simp only [hlt, cond_true, cond_false, reduceCtorEq, Option.some.injEq] at he
          subst he
          simp only [Bool.and_eq_true, Nat.blt_eq] at hlt
          obtain ⟨b1', sh1', c1', g1, ⟨⟨cs1, fz1, ⟨_, g2, _⟩, _, _, g5, _⟩, _, _⟩⟩ := hr.blk id n1 t1 ro1 true ce1 hlt.1 hb1
          obtain ⟨b2', sh2', c2', k1, ⟨⟨cs2, fz2, ⟨_, k2, _⟩, _, _, k5, _⟩, _, _⟩⟩ := hr.blk id' n2 t2 ro2 true ce2 hlt.2 hb2
          rw [h1] at g1
          cases g1
          rw [h2] at k1
          cases k1
          have hne : b1 ≠ b2 := fun e2 => by
            have := hr.inj id id' b1 sh1 c1 sh2 c2 ⟨n1, t1, ro1, true, ce1, hlt.1, hb1⟩ ⟨n2, t2, ro2, true, ce2, hlt.2, hb2⟩ h1 (by rw [e2]; exact h2)
            subst this
            simp at e
          rw [g5 rfl] at g2
          rw [k5 rfl] at k2
          exact run_sameAddr_other w (a := ⟨b1, o + sh1, none⟩) (b := ⟨b2, o' + sh2, none⟩) (by intro e3; exact hne (congrArg Addr.block e3)) g2 k2
        · simp at he
      · rw [e] at he
        simp only [cond_true, Option.some.injEq] at he
        have e' := Nat.eq_of_beq_eq_true e
        subst e'
        rw [h1] at h2
        cases h2
        subst he
        have : (({ block := b1, off := o + sh1, spot := none } : Addr) == { block := b1, off := o' + sh1, spot := none }) = Nat.beq o o' := by
          rw [Bool.eq_iff_iff, beq_iff_eq]
          constructor
          · intro h
            have e3 : o + sh1 = o' + sh1 := congrArg Addr.off h
            have : o = o' := by omega
            subst this; exact Nat.beq_refl o
          · intro h; rw [Nat.eq_of_beq_eq_true h]
        simp [sameAddr, this]

theorem ptrEq_sound {r : Emb} {h : H} {w : World} (hr : Rel r h w) {t : TypeId} {x y : V} {b : Bool} (he : ptrEq P h t x y = some b) {a c : Value} (hx : VRel r x a) (hy : VRel r y c) :
    (Op.equal t a c).run P w = .ok b w := by
  unfold ptrEq at he
  split at he
  · rename_i e hu
    have key : ∀ d : Nat, (Op.equalIn (d + 1) t a c).run P w = .ok b w := by
      intro d
      split at he
      · cases hx; cases hy
        simp only [Option.some.injEq] at he
        subst he
        simp [Op.equalIn, run_underlying hu]
      · cases hx; cases hy
        simp only [Option.some.injEq] at he
        subst he
        simp [Op.equalIn, run_underlying hu]
      · cases hx; cases hy
        simp only [Option.some.injEq] at he
        subst he
        simp [Op.equalIn, run_underlying hu]
      · split at he
        · rename_i i hi
          cases hz : Nat.beq i.size 0 <;> simp only [hz, cond_true, cond_false, reduceCtorEq] at he
          have hsz : i.size ≠ 0 := fun e0 => by rw [e0] at hz; simp at hz
          cases hx with
          | ptr h1 =>
            cases hy with
            | ptr h2 =>
              have := sameV_sound hr he (.ptr h1) (.ptr h2) (P := P)
              simp [Op.equalIn, run_underlying hu, sizeOf, typeInfo, hi, hsz, this]
        · simp at he
      · simp at he
    simp [Op.equal, Op.maxDepth, key 9999]
  · simp at he

/-- A binary operation. -/
def binV (P : Program) (h : H) (op : BinOp) (t : TypeId) (x y : V) : Option V :=
  match x, y with
  | .int k a, .int k' b => bif isShift op then shiftB op k a b else bif Nat.beq (kc k) (kc k') then intB op k a b else none
  | .str n l, .str m k => strB op n l m k
  | .bool a, .bool b =>
    match op, P.underlying t with
    | .eql, some .bool => some (.bool (a == b))
    | .neq, some .bool => some (.bool (!(a == b)))
    | _, _ => none
  | x, y =>
    match op with
    | .eql => (ptrEq P h t x y).map V.bool
    | .neq => (ptrEq P h t x y).map fun b => V.bool (!b)
    | _ => none

theorem eqGuard_plain {op : BinOp} {t : TypeId} {x y : Operand} {a b : Value} (w : World) (h1 : a ≠ .nilIface) (h2 : ∀ cs, a ≠ .agg cs) : (eqGuard op t x y a b).run P w = .ok () w := by
  cases a <;> first
    | exact absurd rfl h1
    | exact absurd rfl (h2 _)
    | (cases op <;> simp [eqGuard])

theorem binOp_ptr_eql {t : TypeId} {a c : Value} {b : Bool} (w : World) (h : (Op.equal t a c).run P w = .ok b w) (ha : ∀ k n, a ≠ .int k n) (hs : ∀ s, a ≠ .string s) (hf : ∀ k n, a ≠ .float k n) (hc : ∀ k n m, a ≠ .complex k n m) :
    (binOp .eql t a c).run P w = .ok (.bool b) w ∧ (binOp .neq t a c).run P w = .ok (.bool (!b)) w := by
  cases a <;> first
    | exact absurd rfl (ha _ _)
    | exact absurd rfl (hs _)
    | exact absurd rfl (hf _ _)
    | exact absurd rfl (hc _ _ _)
    | (constructor <;> (unfold binOp; simp [h]))

theorem equal_bool {t : TypeId} (hu : P.underlying t = some .bool) (p q : Bool) (w : World) : (Op.equal t (.bool p) (.bool q)).run P w = .ok (p == q) w := by
  have key : ∀ d : Nat, (Op.equalIn (d + 1) t (.bool p) (.bool q)).run P w = .ok (p == q) w := fun d => by simp only [Op.equalIn, Sem.run_bind, run_underlying hu, Result.andThen_ok, Sem.run_pure]
  simp [Op.equal, Op.maxDepth, key 9999]

theorem binV_sound {r : Emb} {h : H} {w : World} (hr : Rel r h w) {op : BinOp} {t : TypeId} {x y v : V} (he : binV P h op t x y = some v) {a c : Value} (hx : VRel r x a) (hy : VRel r y c) (xo yo : Operand) :
    ∃ z, (do eqGuard op t xo yo a c; binOp op t a c : Sem Value).run P w = .ok z w ∧ VRel r v z := by
  unfold binV at he
  split at he
  · rename_i k a' k' b'
    cases hx; cases hy
    have hg : (eqGuard op t xo yo (.int k a') (.int k' b')).run P w = .ok () w := eqGuard_plain w (by simp) (by simp)
    cases hs : isShift op
    · rw [hs] at he
      simp only [cond_false] at he
      cases hk : Nat.beq (kc k) (kc k') <;> simp only [hk, cond_true, cond_false, reduceCtorEq] at he
      have e := kc_inj hk
      subst e
      obtain ⟨z, h1, h2⟩ := intB_sound he t w (P := P)
      exact ⟨z, by simp [hg, h1], h2 r⟩
    · rw [hs] at he
      simp only [cond_true] at he
      obtain ⟨z, h1, h2⟩ := shiftB_sound he t w (P := P) (k' := k')
      exact ⟨z, by simp [hg, h1], h2 r⟩
  · rename_i n l m k
    cases hx with
    | str hx =>
      cases hy with
      | str hy =>
        have hg : (eqGuard op t xo yo (.string (sval n l)) (.string (sval m k))).run P w = .ok () w := eqGuard_plain w (by simp) (by simp)
        obtain ⟨z, h1, h2⟩ := strB_sound he hx hy t w (P := P)
        exact ⟨z, by simp [hg, h1], h2 r⟩
  · rename_i p q
    cases hx; cases hy
    have hg : (eqGuard op t xo yo (.bool p) (.bool q)).run P w = .ok () w := eqGuard_plain w (by simp) (by simp)
    split at he
    · rename_i hu
      simp only [Option.some.injEq] at he
      subst he
      refine ⟨.bool (p == q), ?_, .bool _⟩
      have := equal_bool hu p q w
      simp [hg, (binOp_ptr_eql w this (by simp) (by simp) (by simp) (by simp)).1]
    · rename_i hu
      simp only [Option.some.injEq] at he
      subst he
      refine ⟨.bool (!(p == q)), ?_, .bool _⟩
      have := equal_bool hu p q w
      simp [hg, (binOp_ptr_eql w this (by simp) (by simp) (by simp) (by simp)).2]
    · simp at he
  · split at he
    · cases hp : ptrEq P h t x y with
      | none => rw [hp] at he; simp at he
      | some b =>
        rw [hp] at he
        simp only [Option.map_some, Option.some.injEq] at he
        subst he
        have h1 := ptrEq_sound hr hp hx hy
        have hptr : ∃ q, a = .pointer q := by
          unfold ptrEq at hp
          split at hp
          · split at hp <;> first | (simp at hp; done) | (cases hx; exact ⟨_, rfl⟩)
          · simp at hp
        obtain ⟨q, rfl⟩ := hptr
        have hg : (eqGuard .eql t xo yo (.pointer q) c).run P w = .ok () w := eqGuard_plain w (by simp) (by simp)
        exact ⟨.bool b, by simp [hg, (binOp_ptr_eql w h1 (by simp) (by simp) (by simp) (by simp)).1], .bool _⟩
    · cases hp : ptrEq P h t x y with
      | none => rw [hp] at he; simp at he
      | some b =>
        rw [hp] at he
        simp only [Option.map_some, Option.some.injEq] at he
        subst he
        have h1 := ptrEq_sound hr hp hx hy
        have hptr : ∃ q, a = .pointer q := by
          unfold ptrEq at hp
          split at hp
          · split at hp <;> first | (simp at hp; done) | (cases hx; exact ⟨_, rfl⟩)
          · simp at hp
        obtain ⟨q, rfl⟩ := hptr
        have hg : (eqGuard .neq t xo yo (.pointer q) c).run P w = .ok () w := eqGuard_plain w (by simp) (by simp)
        exact ⟨.bool (!b), by simp [hg, (binOp_ptr_eql w h1 (by simp) (by simp) (by simp) (by simp)).2], .bool _⟩
    · simp at he

end Go.Ev
