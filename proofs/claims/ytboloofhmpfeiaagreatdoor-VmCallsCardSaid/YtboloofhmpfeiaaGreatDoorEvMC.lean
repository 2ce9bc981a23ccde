/- The evaluator's copy. No condition. -/
import Derived.Test.YtboloofhmpfeiaaGreatDoorEvM
import Derived.Laws.IdiomCopy
namespace Go.Ev

variable {P : Program}

/-- So many elements go over. -/
def copyTo (h : H) (size id o id2 o2 k : Nat) : Option (V × H) :=
  bif Nat.beq k 0 then some (.int .i64 (Int.ofNat 0), h) else
  match h.mem.blk id2 with
  | .live n2 _ _ _ c2 =>
    match h.mem.blk id with
    | .live nb tb false pl c =>
      bif Nat.blt id 65536 && (Nat.blt id2 65536 && (Nat.ble (Nat.add o2 (Nat.mul k size)) n2 && (Nat.ble (Nat.add o (Nat.mul k size)) nb && allOne (readFrom c2 o2 (Nat.mul k size))))) then
        some (.int .i64 (Int.ofNat k), h.write id nb tb pl (fillFrom (readFrom c2 o2 (Nat.mul k size)) o c))
      else none
    | _ => none
  | _ => none

def copyV (P : Program) (h : H) (t : TypeId) (x y : V) : Option (V × H) :=
  match P.underlying t with
  | some (.slice e) =>
    match P.info? e with
    | some i =>
      match x, y with
      | .nils, .nils => some (.int .i64 (Int.ofNat 0), h)
      | .nils, .slice _ _ _ _ _ => some (.int .i64 (Int.ofNat 0), h)
      | .slice _ _ _ _ _, .nils => some (.int .i64 (Int.ofNat 0), h)
      | .slice id o len _ _, .slice id2 o2 len2 _ _ => copyTo h i.size id o id2 o2 (bif Nat.ble len2 len then len2 else len)
      | _, _ => none
    | none => none
  | _ => none

theorem run_copy_size (w : World) {dT sT ty e : TypeId} {i : TypeInfo} (hu : P.underlying dT = some (.slice e)) (hi : P.info? e = some i) (b o dLen dCap : Nat) (sa : Option Addr) (sLen sCap k : Nat) (cs : List Value) (hk : Nat.min sLen dLen = k)
    (hsrc : (Builtin.firstCells i.size k (.slice sa sLen sCap)).run P w = .ok cs.toArray w) (hc : ∀ j, j < cs.length → (w.cell? ⟨b, o + j, none⟩).isSome = true) (hf : ∀ j, j < cs.length → w.frozen? ⟨b, o + j, none⟩ = false) (h1 : ∀ v ∈ cs, v.oneCell' = true) :
    (Builtin.copy_ #[dT, sT] ty #[.slice (some ⟨b, o, none⟩) dLen dCap, .slice sa sLen sCap]).run P w = .ok (goInt k) (w.setCells b o cs) := by
  have hst := run_storeCells_cells (P := P) b o cs 0 w (by simpa using hc) (by simpa using hf) h1
  simp [Builtin.copy_, run_underlying hu, Builtin.lenOf, sizeOf, typeInfo, hi, hk, hsrc, hst]

theorem run_copy_zero (w : World) {dT sT ty e : TypeId} {i : TypeInfo} (hu : P.underlying dT = some (.slice e)) (hi : P.info? e = some i) (d a : Option Addr) (dLen dCap sLen sCap : Nat) (hk : Nat.min sLen dLen = 0) :
    (Builtin.copy_ #[dT, sT] ty #[.slice d dLen dCap, .slice a sLen sCap]).run P w = .ok (goInt 0) w := by
  have h0 : (Builtin.firstCells i.size 0 (.slice a sLen sCap)).run P w = .ok #[] w := by
    cases a with
    | none => exact run_firstCells_none w i.size 0 sLen sCap
    | some a => exact run_firstCells_some (P := P) w i.size 0 a sLen sCap [] (by simp) (by simp)
  cases d <;> simp [Builtin.copy_, run_underlying hu, Builtin.lenOf, sizeOf, typeInfo, hi, hk, h0, storeCells]

theorem copy_gives {r : Emb} {h h' : H} {w w' : World} {e : Operand → Value} {o : Oper} {t tx : TypeId} {x y : Operand} (ho : o.op = .call { callee := .builtin .copy, args := #[x, y], argTypes := #[t, tx] })
    {z : Value} {v : V} {r' : Emb} (hrun : (Builtin.copy_ #[t, tx] o.type #[e x, e y]).run P w = .ok z w') (hs : Step r h w r' h' w') (hv : VRel r' v z) : Gives P r h w e o v h' := by
  refine ⟨z, w', r', .inl ?_, hs, hv⟩
  unfold execOp
  simp [ho, resolve, invoke, builtin, hrun]

theorem vrel_slice {r : Emb} {id o len cap esz : Nat} {a : Value} (h : VRel r (.slice id o len cap esz) a) : ∃ ad cap', a = .slice ad len cap' := by
  cases h with
  | slice _ _ _ _ => exact ⟨_, _, rfl⟩
  | slice0 _ _ => exact ⟨_, _, rfl⟩

theorem vrel_slice_pos {r : Emb} {id o len cap esz : Nat} {a : Value} (h : VRel r (.slice id o len cap esz) a) (h0 : 0 < len) : ∃ b sh m cap', r id = some (b, sh, m) ∧ a = .slice (some ⟨b, o + sh, none⟩) len cap' := by
  cases h with
  | slice h1 _ _ _ => exact ⟨_, _, _, _, h1, rfl⟩
  | slice0 _ _ => omega

theorem copyV_sound {r : Emb} {h h' : H} {w : World} (hr : Rel r h w) {e : Operand → Value} {o : Oper} {t tx : TypeId} {x y : Operand} (ho : o.op = .call { callee := .builtin .copy, args := #[x, y], argTypes := #[t, tx] })
    {vx vy v : V} (hx : VRel r vx (e x)) (hy : VRel r vy (e y)) (he : copyV P h t vx vy = some (v, h')) : Gives P r h w e o v h' := by
  unfold copyV at he
  split at he
  · rename_i el hu
    split at he
    · rename_i i hi
      have hz : VRel r (.int .i64 (Int.ofNat 0)) (goInt 0) := .int _ _
      generalize hax : e x = ax at hx
      generalize hay : e y = ay at hy
      have nothing : ∀ {dl dc sl sc : Nat} {d a : Option Addr}, ax = .slice d dl dc → ay = .slice a sl sc → Nat.min sl dl = 0 → v = .int .i64 (Int.ofNat 0) → h' = h → Gives P r h w e o v h' := by
        intro dl dc sl sc d a e1 e2 hk ev eh
        subst ev
        subst eh
        exact copy_gives ho (by rw [hax, hay, e1, e2]; exact run_copy_zero w hu hi d a dl dc sl sc hk) (Step.refl hr) hz
      split at he
      · simp only [Option.some.injEq, Prod.mk.injEq] at he
        cases hx
        cases hy
        exact nothing rfl rfl (by simp) he.1.symm he.2.symm
      · simp only [Option.some.injEq, Prod.mk.injEq] at he
        cases hx
        obtain ⟨ad, cap', rfl⟩ := vrel_slice hy
        exact nothing rfl rfl (by simp) he.1.symm he.2.symm
      · simp only [Option.some.injEq, Prod.mk.injEq] at he
        cases hy
        obtain ⟨ad, cap', rfl⟩ := vrel_slice hx
        exact nothing rfl rfl (by simp) he.1.symm he.2.symm
      · rename_i id off len cap esz id2 o2 len2 cap2 esz2
        have hmin : (bif Nat.ble len2 len then len2 else len) = Nat.min len2 len := by
          cases hb : Nat.ble len2 len
          · have : ¬ len2 ≤ len := fun hle => by rw [Nat.ble_eq_true_of_le hle] at hb; cases hb
            simp only [cond_false]
            exact (Nat.min_eq_right (by omega)).symm
          · simp only [cond_true]
            exact (Nat.min_eq_left (Nat.le_of_ble_eq_true hb)).symm
        rw [hmin] at he
        unfold copyTo at he
        cases hk0 : Nat.beq (Nat.min len2 len) 0
        · rw [hk0] at he
          simp only [cond_false] at he
          have hpos : 0 < Nat.min len2 len := Nat.pos_of_ne_zero (fun e0 => by rw [e0] at hk0; simp at hk0)
          have hp1 : 0 < len := Nat.lt_of_lt_of_le hpos (Nat.min_le_right _ _)
          have hp2 : 0 < len2 := Nat.lt_of_lt_of_le hpos (Nat.min_le_left _ _)
          split at he
          · rename_i n2 t2 ro2 pl2 c2 hb2
            split at he
            · rename_i nb tb pl c hb
              generalize hkk : Nat.min len2 len = k at he
              cases hk : (Nat.blt id 65536 && (Nat.blt id2 65536 && (Nat.ble (Nat.add o2 (Nat.mul k i.size)) n2 && (Nat.ble (Nat.add off (Nat.mul k i.size)) nb && allOne (readFrom c2 o2 (Nat.mul k i.size)))))) <;> simp only [hk, cond_true, cond_false, reduceCtorEq, Option.some.injEq, Prod.mk.injEq] at he
              obtain ⟨rfl, rfl⟩ := he
              simp only [Bool.and_eq_true, Nat.blt_eq] at hk
              obtain ⟨g1, g2, g3, g4, g5⟩ := hk
              have g3' : o2 + k * i.size ≤ n2 := Nat.le_of_ble_eq_true g3
              have g4' : off + k * i.size ≤ nb := Nat.le_of_ble_eq_true g4
              obtain ⟨b2, sh2, m2, q1, hf2⟩ := hr.blk id2 n2 t2 ro2 pl2 c2 g2 hb2
              obtain ⟨b, sh, m, p1, hf⟩ := hr.blk id nb tb false pl c g1 hb
              obtain ⟨xs, x1, x2, x3⟩ := hf2.read (k * i.size) o2 g3'
              obtain ⟨b', sh', m', cap', p1', rfl⟩ := vrel_slice_pos hx hp1
              obtain ⟨b2', sh2', m2', cap2', q1', rfl⟩ := vrel_slice_pos hy hp2
              rw [p1] at p1'
              cases p1'
              rw [q1] at q1'
              cases q1'
              have hl : (readFrom c2 o2 (k * i.size)).length = k * i.size := readFrom_length _ _ _
              have hfit := hf.fit
              have hth := hf.there (off + sh) (k * i.size) (by omega)
              have hsrc : (Builtin.firstCells i.size k (.slice (some ⟨b2, o2 + sh2, none⟩) len2 cap2')).run P w = .ok xs.toArray w :=
                run_firstCells_some (P := P) w i.size k ⟨b2, o2 + sh2, none⟩ len2 cap2' xs x2 (fun j u hj => by rw [Addr.add_mid]; exact x3 j u hj)
              have hrun := run_copy_size (P := P) w (sT := tx) (ty := o.type) hu hi b (off + sh) len cap' (some ⟨b2, o2 + sh2, none⟩) len2 cap2' k xs hkk hsrc
                (fun j hj => (hth j (by omega)).1) (fun j hj => (hth j (by omega)).2) (allOne_sound x1 g5)
              have hst := Step.store hr g1 hb p1 (ws := readFrom c2 o2 (k * i.size)) x1 (o := off) (by rw [hl]; exact g4')
              exact copy_gives ho (by rw [hax, hay]; exact hrun) hst (.int _ _)
            · simp at he
          · simp at he
        · rw [hk0] at he
          simp only [cond_true, Option.some.injEq, Prod.mk.injEq] at he
          obtain ⟨ad, cap', rfl⟩ := vrel_slice hx
          obtain ⟨ad2, cap2', rfl⟩ := vrel_slice hy
          exact nothing rfl rfl (Nat.eq_of_beq_eq_true hk0) he.1.symm he.2.symm
      · simp at he
    · simp at he
  · simp at he

end Go.Ev
