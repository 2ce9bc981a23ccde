/- The evaluator: States that are written down, with names of numbers: from one to another by a check; names are given anew. Code as its pieces, one behind the other. States that are written down, turned: names given anew, rows said otherwise. No condition. -/
import Derived.Test.YtllgeddjlodliaaGreatDoorYEvMi
namespace Go.Ev

variable {P : Program}

/-- What becomes of a name: nobody may speak of it; its number is so much more, within bounds; it stays; it is given, with this number. -/
inductive Nm where
  | no
  | num (f lb ub : Nat)
  | keep
  | at_ (n : Nat)
def mapT (s : Nat → Option Nat) (tb : Nat → Nm) (a b : Nat) : Bool :=
  match tb a with
  | .keep => Nat.beq a b
  | .no => mapId s a b
  | _ => false
def symN (tb : Nat → Nm) (q n : Nat) : Bool :=
  (Nat.ble (sLo q) n && Nat.ble n (sHi q)) && (bif Nat.beq (sId q) 0 then true else match tb (sId q) with
    | .at_ m => Nat.ble (Nat.add m (sC q)) (Nat.add n 1073741824) && Nat.ble (Nat.add n 1073741824) (Nat.add m (sD q))
    | _ => false)
def symT (_ : Nat → Option Nat) (tb : Nat → Nm) (q q' : Nat) : Bool :=
  bif Nat.beq (sId q) 0 then Nat.ble (sLo q) (sLo q') && Nat.ble (sHi q') (sHi q) else
  match tb (sId q) with
  | .num f lb ub => (Nat.beq (sId q) (sId q') && (Nat.ble (Nat.add (sC q) f) (sC q') && Nat.ble (sD q') (Nat.add (sD q) f))) &&
      ((Nat.ble (sLo q) (sLo q') || Nat.ble (Nat.add (sLo q) 1073741824) (Nat.add lb (sC q))) && (Nat.ble (sHi q') (sHi q) || Nat.ble (Nat.add ub (sD q)) (Nat.add (sHi q) 1073741824)))
  | .keep => Nat.beq (sId q) (sId q') && ((Nat.ble (sLo q) (sLo q') && Nat.ble (sHi q') (sHi q)) && (Nat.ble (sC q) (sC q') && Nat.ble (sD q') (sD q)))
  | _ => false
def vleT (s : Nat → Option Nat) (tb : Nat → Nm) : Nat → V → V → Bool
  | 0, _, _ => false
  | k + 1, v, u =>
    match v, u with
    | .any, _ => true
    | .bool a, .bool b => a == b
    | .int t a, .int t' b => Nat.beq (kc t) (kc t') && eqI a b
    | .str n l, .str m j => Nat.beq n m && Nat.beq l j
    | .nilp, .nilp => true
    | .ptr a o, .ptr b o' => mapT s tb a b && Nat.beq o o'
    | .nils, .nils => true
    | .slice a o l c e, .slice b o' l' c' e' => mapT s tb a b && (Nat.beq o o' && (Nat.beq l l' && ((Nat.ble c c' && Nat.ble l c) && Nat.beq e e')))
    | .fn (.func f) xs ys, .fn (.func f') xs' ys' => Nat.beq f f' && (vles (vleT s tb k) xs xs' && vles (vleT s tb k) ys ys')
    | .nilFn, .nilFn => true
    | .iface t x, .iface t' y => Nat.beq t t' && vleT s tb k x y
    | .nilI, .nilI => true
    | .mapv a, .mapv b => mapT s tb a b
    | .nilm, .nilm => true
    | .agg xs, .agg ys => vles (vleT s tb k) xs ys
    | .tup xs, .tup ys => vles (vleT s tb k) xs ys
    | .cls m q, .cls m' q' => (Nat.beq m 0 && Nat.beq m' 0) && (Nat.beq (Nat.mod q 8) (Nat.mod q' 8) && (Nat.blt 0 (Nat.div q 8) && (Nat.blt 0 (Nat.div q' 8) && mapT s tb (Nat.div q 8) (Nat.div q' 8))))
    | .cl2 m q, u => Nat.beq m 0 && unkle q u
    | .msk m q, .int .i64 (.ofNat n) => Nat.beq m 0 && (Nat.beq (Nat.mod q 4) 1 && symN tb (Nat.div q 4) n)
    | .msk m q, .slice b o l c e => Nat.beq m 0 && (Nat.beq (Nat.mod q 4) 2 && (mapT s tb (Nat.mod (Nat.div q 4) 65536) b && (Nat.beq o 0 && (Nat.blt 0 c && (Nat.ble l c && (Nat.beq (Nat.mod (Nat.div (Nat.div q 4) 65536) 16) e && symN tb (Nat.div (Nat.div (Nat.div q 4) 65536) 16) l))))))
    | .msk m q, .msk m' q' => (Nat.beq m 0 && Nat.beq m' 0) && (Nat.beq (Nat.mod q 4) (Nat.mod q' 4) &&
        (bif Nat.beq (Nat.mod q 4) 1 then symT s tb (Nat.div q 4) (Nat.div q' 4)
         else bif Nat.beq (Nat.mod q 4) 2 then mapT s tb (Nat.mod (Nat.div q 4) 65536) (Nat.mod (Nat.div q' 4) 65536) && (Nat.beq (Nat.mod (Nat.div (Nat.div q 4) 65536) 16) (Nat.mod (Nat.div (Nat.div q' 4) 65536) 16) && symT s tb (Nat.div (Nat.div (Nat.div q 4) 65536) 16) (Nat.div (Nat.div (Nat.div q' 4) 65536) 16))
         else bif Nat.beq (Nat.mod q 4) 0 then mapT s tb (Nat.mod (Nat.div q 4) 65536) (Nat.mod (Nat.div q' 4) 65536) && mapT s tb (Nat.div (Nat.div q 4) 65536) (Nat.div (Nat.div q' 4) 65536)
         else Nat.beq (Nat.mod q 4) 3 && (mapT s tb (Nat.mod (Nat.div q 4) 65536) (Nat.mod (Nat.div q' 4) 65536) && (mapT s tb (Nat.mod (Nat.div (Nat.div q 4) 65536) 65536) (Nat.mod (Nat.div (Nat.div q' 4) 65536) 65536) && mapT s tb (Nat.div (Nat.div (Nat.div q 4) 65536) 65536) (Nat.div (Nat.div (Nat.div q' 4) 65536) 65536)))))
    | _, _ => false


/-- What is so of the names, before and behind. -/
structure Names (s : Nat → Option Nat) (tb : Nat → Nm) (r r2 : Emb) : Prop where
  lab : ∀ a b x, tb a = .no → s a = some b → r b = some x → r2 a = some x
  num : ∀ a f lb ub, tb a = .num f lb ub → ∃ x, r a = some (x, 0, 0) ∧ r2 a = some (x + f, 0, 0) ∧ lb ≤ x + f ∧ x + f ≤ ub
  keep : ∀ a x, tb a = .keep → r a = some x → r2 a = some x
  at_ : ∀ a n, tb a = .at_ n → r2 a = some (n, 0, 0)

theorem mapT_of {s : Nat → Option Nat} {tb : Nat → Nm} {r r2 : Emb} (N : Names s tb r r2) {a b : Nat} {x : Nat × Nat × Nat} (h : mapT s tb a b = true) (hr : r b = some x) : r2 a = some x := by
  unfold mapT at h
  split at h
  · rename_i e
    obtain rfl := Nat.eq_of_beq_eq_true h
    exact N.keep _ _ e hr
  · rename_i e
    unfold mapId at h
    split at h
    · rename_i c hc
      obtain rfl := Nat.eq_of_beq_eq_true h
      exact N.lab _ _ _ e hc hr
    · cases h
  · cases h
theorem symN_of {s : Nat → Option Nat} {tb : Nat → Nm} {r r2 : Emb} (N : Names s tb r r2) {q n : Nat} (h : symN tb q n = true) : SNum r2 q (n : Int) := by
  unfold symN at h
  simp only [Bool.and_eq_true] at h
  obtain ⟨⟨h1, h2⟩, h3⟩ := h
  have g1 := Nat.le_of_ble_eq_true h1
  have g2 := Nat.le_of_ble_eq_true h2
  refine ⟨by omega, by omega, ?_⟩
  cases h0 : Nat.beq (sId q) 0
  · rw [h0] at h3
    simp only [cond_false] at h3
    split at h3
    · rename_i m e
      simp only [Bool.and_eq_true] at h3
      have g3 : m + sC q ≤ n + 1073741824 := Nat.le_of_ble_eq_true h3.1
      have g4 : n + 1073741824 ≤ m + sD q := Nat.le_of_ble_eq_true h3.2
      exact .inr ⟨m, 0, 0, N.at_ _ _ e, by omega, by omega⟩
    · cases h3
  · exact .inl (Nat.eq_of_beq_eq_true h0)
theorem symT_of {s : Nat → Option Nat} {tb : Nat → Nm} {r r2 : Emb} (N : Names s tb r r2) {q q' : Nat} {n : Int} (hb : symT s tb q q' = true) (h : SNum r q' n) : SNum r2 q n := by
  unfold symT at hb
  cases h0 : Nat.beq (sId q) 0
  · rw [h0] at hb
    simp only [cond_false] at hb
    split at hb
    · rename_i f lb ub e
      simp only [Bool.and_eq_true, Bool.or_eq_true] at hb
      obtain ⟨⟨b1, b2, b3⟩, b4, b5⟩ := hb
      have e1 := Nat.eq_of_beq_eq_true b1
      have g2 : sC q + f ≤ sC q' := Nat.le_of_ble_eq_true b2
      have g3 : sD q' ≤ sD q + f := Nat.le_of_ble_eq_true b3
      obtain ⟨x, k1, k2, k3, k4⟩ := N.num _ _ _ _ e
      have hne : sId q' ≠ 0 := fun q0 => by
        rw [e1, q0] at h0
        cases h0
      rcases h.2.2 with e0 | ⟨x', y', z', e2, e3, e4⟩
      · exact absurd e0 hne
      · rw [← e1, k1] at e2
        cases e2
        refine ⟨?_, ?_, .inr ⟨x + f, 0, 0, k2, by omega, by omega⟩⟩
        · rcases b4 with b4 | b4
          · have := Nat.le_of_ble_eq_true b4; have := h.1; omega
          · have g : sLo q + 1073741824 ≤ lb + sC q := Nat.le_of_ble_eq_true b4; omega
        · rcases b5 with b5 | b5
          · have := Nat.le_of_ble_eq_true b5; have := h.2.1; omega
          · have g : ub + sD q ≤ sHi q + 1073741824 := Nat.le_of_ble_eq_true b5; omega
    · rename_i e
      simp only [Bool.and_eq_true] at hb
      obtain ⟨b1, ⟨b2, b3⟩, b4, b5⟩ := hb
      have e1 := Nat.eq_of_beq_eq_true b1
      have g2 := Nat.le_of_ble_eq_true b2
      have g3 := Nat.le_of_ble_eq_true b3
      have g4 := Nat.le_of_ble_eq_true b4
      have g5 := Nat.le_of_ble_eq_true b5
      refine ⟨by have := h.1; omega, by have := h.2.1; omega, ?_⟩
      rcases h.2.2 with e0 | ⟨x', y', z', e2, e3, e4⟩
      · rw [e1, e0] at h0; cases h0
      · rw [← e1] at e2
        exact .inr ⟨x', y', z', N.keep _ _ e e2, by omega, by omega⟩
    · cases hb
  · rw [h0] at hb
    simp only [cond_true, Bool.and_eq_true] at hb
    have g2 := Nat.le_of_ble_eq_true hb.1
    have g3 := Nat.le_of_ble_eq_true hb.2
    exact ⟨by have := h.1; omega, by have := h.2.1; omega, .inl (Nat.eq_of_beq_eq_true h0)⟩
theorem vlesT_rel {r r2 : Emb} {p : V → V → Bool} (hp : ∀ v u x, p v u = true → VRel r u x → VRel r2 v x) :
    ∀ (vs us : List V) (xs : List Value), vles p vs us = true → VsRel r us xs → VsRel r2 vs xs
  | [], [], _, _, h => by cases h; exact .nil
  | v :: vs, u :: us, xs, hb, h => by
    simp only [vles, Bool.and_eq_true] at hb
    cases h with
    | cons h hs => exact .cons (hp _ _ _ hb.1 h) (vlesT_rel hp vs us _ hb.2 hs)
  | [], _ :: _, _, hb, _ => by simp [vles] at hb
  | _ :: _, [], _, hb, _ => by simp [vles] at hb
theorem vleT_rel {s : Nat → Option Nat} {tb : Nat → Nm} {r r2 : Emb} (N : Names s tb r r2) : ∀ (k : Nat) (v u : V) (x : Value), vleT s tb k v u = true → VRel r u x → VRel r2 v x := by
  intro k
  induction k with
  | zero => intro v u x hb; cases hb
  | succ k ih =>
    intro v u x hb h
    unfold vleT at hb
    split at hb
    · exact .any _
    · have e : _ = _ := eq_of_beq hb
      subst e
      cases h
      exact .bool _
    · simp only [Bool.and_eq_true] at hb
      obtain ⟨h1, h2⟩ := hb
      rw [eqI_eq] at h2
      have e1 := kc_inj h1
      simp only [beq_iff_eq] at h2
      subst e1 h2
      cases h
      exact .int _ _
    · simp only [Bool.and_eq_true] at hb
      obtain ⟨h1, h2⟩ := hb
      obtain rfl := Nat.eq_of_beq_eq_true h1
      obtain rfl := Nat.eq_of_beq_eq_true h2
      cases h with
      | str hn => exact .str hn
    · cases h; exact .nilp
    · simp only [Bool.and_eq_true] at hb
      obtain ⟨h1, h2⟩ := hb
      obtain rfl := Nat.eq_of_beq_eq_true h2
      cases h with
      | ptr hq => exact .ptr (mapT_of N h1 hq)
    · cases h; exact .nils
    · simp only [Bool.and_eq_true] at hb
      obtain ⟨h1, h2, h3, ⟨h4, h6⟩, h5⟩ := hb
      obtain rfl := Nat.eq_of_beq_eq_true h2
      obtain rfl := Nat.eq_of_beq_eq_true h3
      obtain rfl := Nat.eq_of_beq_eq_true h5
      have h4' := Nat.le_of_ble_eq_true h4
      have h6' := Nat.le_of_ble_eq_true h6
      cases h with
      | slice hq q1 q2 q3 => exact .slice (mapT_of N h1 hq) h6' (Nat.le_trans h4' q2) q3
      | slice0 hq q3 =>
        obtain rfl : _ = 0 := Nat.eq_zero_of_le_zero h4'
        exact .slice0 (mapT_of N h1 hq) q3
    · simp only [Bool.and_eq_true] at hb
      obtain ⟨h1, h2, h3⟩ := hb
      obtain rfl := Nat.eq_of_beq_eq_true h1
      cases h with
      | fn hf g1 g2 => exact .fn rfl (vlesT_rel ih _ _ _ h2 g1) (vlesT_rel ih _ _ _ h3 g2)
    · cases h; exact .nilFn
    · simp only [Bool.and_eq_true] at hb
      obtain ⟨h1, h2⟩ := hb
      obtain rfl := Nat.eq_of_beq_eq_true h1
      cases h with
      | iface hq => exact .iface (ih _ _ _ h2 hq)
    · cases h; exact .nilI
    · cases h with
      | mapv hq => exact .mapv (mapT_of N hb hq)
    · cases h; exact .nilm
    · cases h with
      | agg hq => exact .agg (vlesT_rel ih _ _ _ hb hq)
    · cases h with
      | tup hq => exact .tup (vlesT_rel ih _ _ _ hb hq)
    · rename_i m q m' q'
      simp only [Bool.and_eq_true, Nat.blt_eq] at hb
      obtain ⟨⟨b1, b2⟩, b3, b4, b5, b6⟩ := hb
      obtain rfl := Nat.eq_of_beq_eq_true b1
      obtain rfl := Nat.eq_of_beq_eq_true b2
      have b3' : q % 8 = q' % 8 := Nat.eq_of_beq_eq_true b3
      have b4' : 0 < q / 8 := b4
      have b5' : 0 < q' / 8 := b5
      have b6' : mapT s tb (q / 8) (q' / 8) = true := b6
      generalize hv : V.cls 0 q' = v at h
      cases h with
      | cls hm _ => cases hv; omega
      | @nint id x y z hq =>
        cases hv
        have e : q = 8 * (q / 8) := by omega
        rw [e]
        exact .nint (mapT_of N (by rw [show 8 * id / 8 = id by omega] at b6'; exact b6') hq)
      | @nstr id x y z hq hx =>
        cases hv
        have e : q = 8 * (q / 8) + 1 := by omega
        rw [e]
        exact .nstr (mapT_of N (by rw [show (8 * id + 1) / 8 = id by omega] at b6'; exact b6') hq) hx
      | @nkind id x y z hq hx =>
        cases hv
        have e : q = 8 * (q / 8) + 2 := by omega
        rw [e]
        exact .nkind (mapT_of N (by rw [show (8 * id + 2) / 8 = id by omega] at b6'; exact b6') hq) hx
      | @nshort id x y c z cap a hq hz ha =>
        cases hv
        have e : q = 8 * (q / 8) + 3 := by omega
        rw [e]
        exact .nshort (mapT_of N (by rw [show (8 * id + 3) / 8 = id by omega] at b6'; exact b6') hq) hz ha
      | @nlong id x y z cap a hq hz =>
        cases hv
        have e : q = 8 * (q / 8) + 4 := by omega
        rw [e]
        exact .nlong (mapT_of N (by rw [show (8 * id + 4) / 8 = id by omega] at b6'; exact b6') hq) hz
      | nle _ => cases hv; omega
      | ngt _ => cases hv; omega
      | _ => cases hv
    · simp only [Bool.and_eq_true] at hb
      obtain rfl := Nat.eq_of_beq_eq_true hb.1
      exact unkle_rel hb.2 h
    · rename_i m q n
      simp only [Bool.and_eq_true] at hb
      obtain ⟨b1, b2, b3⟩ := hb
      obtain rfl := Nat.eq_of_beq_eq_true b1
      have b2' : q % 4 = 1 := Nat.eq_of_beq_eq_true b2
      cases h
      have e : q = 4 * (q / 4) + 1 := by omega
      rw [e]
      exact .sym (symN_of N b3)
    · rename_i m q b o l c e
      simp only [Bool.and_eq_true, Nat.blt_eq] at hb
      obtain ⟨b1, b2, b3, b4, b5, b6, b7, b8⟩ := hb
      obtain rfl := Nat.eq_of_beq_eq_true b1
      have b2' : q % 4 = 2 := Nat.eq_of_beq_eq_true b2
      obtain rfl := Nat.eq_of_beq_eq_true b4
      have b6' := Nat.le_of_ble_eq_true b6
      have b7' : q / 4 / 65536 % 16 = e := Nat.eq_of_beq_eq_true b7
      have eq : q = 4 * (q / 4 % 65536 + 65536 * (q / 4 / 65536 % 16 + 16 * (q / 4 / 65536 / 16))) + 2 := by omega
      cases h with
      | slice hq q1 q2 q3 =>
        rw [eq]
        refine .ssl (by omega) (by omega) (by rw [Nat.zero_add]; exact mapT_of N b3 hq) (symN_of N b8) ⟨by omega, by omega⟩ ?_
        rw [b7']
        simpa using q3
      | slice0 hq q3 => omega
    · rename_i m q m' q'
      simp only [Bool.and_eq_true] at hb
      obtain ⟨⟨b1, b2⟩, b3, b4⟩ := hb
      obtain rfl := Nat.eq_of_beq_eq_true b1
      obtain rfl := Nat.eq_of_beq_eq_true b2
      have b3' : q % 4 = q' % 4 := Nat.eq_of_beq_eq_true b3
      cases h1 : Nat.beq (Nat.mod q 4) 1
      · rw [h1] at b4
        simp only [cond_false] at b4
        cases h2 : Nat.beq (Nat.mod q 4) 2
        · rw [h2] at b4
          simp only [cond_false] at b4
          cases h0 : Nat.beq (Nat.mod q 4) 0
          · rw [h0] at b4
            simp only [cond_false, Bool.and_eq_true] at b4
            obtain ⟨c1, c2, c3, c4⟩ := b4
            have c1' : q % 4 = 3 := Nat.eq_of_beq_eq_true c1
            obtain ⟨b, o, x, z, cap, m, rfl, g1, g2, g3, g4⟩ := sat_inv h (by omega)
            have e : q = 4 * (q / 4 % 65536 + 65536 * (q / 4 / 65536 % 65536 + 65536 * (q / 4 / 65536 / 65536))) + 3 := by omega
            rw [e]
            exact .sat (by omega) (by omega) (mapT_of N c2 g1) (mapT_of N c3 g2) (mapT_of N c4 g3) g4
          · rw [h0] at b4
            simp only [cond_true, Bool.and_eq_true] at b4
            obtain ⟨c2, c3⟩ := b4
            have c1' : q % 4 = 0 := Nat.eq_of_beq_eq_true h0
            obtain ⟨x, y, rfl, g1, g2, g3⟩ := snx_inv h (by omega)
            have e : q = 4 * (q / 4 % 65536 + 65536 * (q / 4 / 65536)) := by omega
            rw [e]
            exact .snx (by omega) (mapT_of N c2 g1) (mapT_of N c3 g2) g3
        · rw [h2] at b4
          simp only [cond_true, Bool.and_eq_true] at b4
          obtain ⟨c2, c4, c3⟩ := b4
          have c1' : q % 4 = 2 := Nat.eq_of_beq_eq_true h2
          have c4' : q / 4 / 65536 % 16 = q' / 4 / 65536 % 16 := Nat.eq_of_beq_eq_true c4
          obtain ⟨b, o, z, cap, m, rfl, g1, g2, g3, g4⟩ := ssl_inv h (by omega)
          have e : q = 4 * (q / 4 % 65536 + 65536 * (q / 4 / 65536 % 16 + 16 * (q / 4 / 65536 / 16))) + 2 := by omega
          rw [e]
          exact .ssl (by omega) (by omega) (mapT_of N c2 g1) (symT_of N c3 g2) g3 (by rw [c4']; exact g4)
      · rw [h1] at b4
        simp only [cond_true] at b4
        have h1' : q % 4 = 1 := Nat.eq_of_beq_eq_true h1
        obtain ⟨n, rfl, g1⟩ := sym_inv h (by omega)
        have e : q = 4 * (q / 4) + 1 := by omega
        rw [e]
        exact .sym (symT_of N b4 g1)
    · cases hb

/-- Is no more said than stands in a block? -/
def entleT (s : Nat → Option Nat) (tb : Nat → Nm) (e : Ent) (k : Blk) : Bool :=
  match e, k with
  | .c t ro pl vs, .live n' t' ro' pl' c' => Nat.ble n' 4096 && (Nat.beq t t' && ((ro == ro' || ro) && ((pl == pl' || !pl) && ((Nat.ble vs.length n' && (Nat.beq vs.length n' || !(Nat.beq t bldT))) && vles (vleT s tb 4) vs (readFrom c' 0 vs.length)))))
  | .m es, .mapb es' => esle (vleT s tb 4) es es'
  | _, _ => false
theorem esleT_rel {r r2 : Emb} {p : V → V → Bool} (hp : ∀ v u x, p v u = true → VRel r u x → VRel r2 v x) :
    ∀ (es us : List (V × V)) (l : List MapEntry), esle p es us = true → EsRel r us l → EsRel r2 es l
  | [], [], _, _, h => by cases h; exact .nil
  | (a, b) :: es, (c, d) :: us, l, hb, h => by
    simp only [esle, Bool.and_eq_true] at hb
    cases h with
    | cons hk hv hs => exact .cons (hp _ _ _ hb.1 hk) (hp _ _ _ hb.2.1 hv) (esleT_rel hp es us _ hb.2.2 hs)
  | [], _ :: _, _, hb, _ => by simp [esle] at hb
  | _ :: _, [], _, hb, _ => by simp [esle] at hb

theorem entleT_fit {s : Nat → Option Nat} {tb : Nat → Nm} {r r2 : Emb} (N : Names s tb r r2) {e : Ent} {k : Blk} {b sh m : Nat} {w : World} (hb : entleT s tb e k = true) (h : FitB r k b sh m w) : FitB r2 e.blk b sh m w := by
  unfold entleT at hb
  split at hb
  · rename_i t ro pl vs n' t' ro' pl' c'
    simp only [Bool.and_eq_true] at hb
    obtain ⟨h1, h2, h3, h4, ⟨h6, h7⟩, h5⟩ := hb
    obtain rfl := Nat.eq_of_beq_eq_true h2
    have e3 : ro = false → ro' = false := fun e0 => by
      subst e0
      simp only [Bool.or_false, beq_iff_eq] at h3
      exact h3.symm
    have e4 : pl = true → pl' = true := fun e0 => by
      subst e0
      simp only [Bool.not_true, Bool.or_false, beq_iff_eq] at h4
      exact h4.symm
    have hlen : vs.length ≤ n' := Nat.le_of_ble_eq_true h6
    have hle : vs.length ≤ 4096 := Nat.le_trans hlen (Nat.le_of_ble_eq_true h1)
    obtain ⟨⟨cs, fz, ⟨ty, q1, q1'⟩, q2, q3, q4, q5⟩, q6, q7, q8⟩ := h
    refine ⟨⟨cs, fz, ⟨ty, q1, fun e0 => q1' (e3 e0)⟩, q2, fun e0 => q3 (e3 e0), fun e0 => q4 (e4 e0), fun o ho => ?_⟩, by omega, cellsOf_room vs hle, fun k1 k2 => ?_⟩
    case refine_2 =>
      obtain ⟨k3, k4⟩ := q8 (e3 k1) k2
      simp only [Bool.or_eq_true, Bool.not_eq_true'] at h7
      rcases h7 with h7 | h7
      · exact ⟨k3, (Nat.eq_of_beq_eq_true h7).trans k4⟩
      · rw [k2, Nat.beq_refl] at h7; cases h7
    obtain ⟨x, hx, hv⟩ := q5 o (by omega)
    refine ⟨x, hx, ?_⟩
    rw [cellsOf_get vs hle o ho]
    have key : ∀ (vs : List V) (o n : Nat) (c : Cells), vles (vleT s tb 4) vs (readFrom c o n) = true → ∀ (j : Nat) (hj : j < vs.length), vleT s tb 4 vs[j] (c.get (o + j)) = true := by
      intro vs
      induction vs with
      | nil => intro o n c _ j hj; simp at hj
      | cons v vs ih =>
        intro o n c hb j hj
        cases n with
        | zero => simp [readFrom, vles] at hb
        | succ n =>
          simp only [readFrom, vles, Bool.and_eq_true] at hb
          cases j with
          | zero => exact hb.1
          | succ j =>
            have := ih (o + 1) n c hb.2 j (by simpa using hj)
            rw [show o + 1 + j = o + (j + 1) by omega] at this
            exact this
    have := key vs 0 _ c' h5 o ho
    rw [Nat.zero_add] at this
    exact vleT_rel N 4 _ _ _ this hv
  · obtain ⟨es', clk, g1, g2⟩ := h
    exact ⟨es', clk, g1, esleT_rel (vleT_rel N 4) _ _ _ hb g2⟩
  · cases hb

theorem entleT_live {s : Nat → Option Nat} {tb : Nat → Nm} {e : Ent} {k : Blk} (hb : entleT s tb e k = true) : liveB k = true ∧ (ownB e.blk = true → ownB k = true) := by
  unfold entleT at hb
  split at hb
  · simp only [Bool.and_eq_true] at hb
    obtain ⟨h1, h2, h3, h4, h5⟩ := hb
    refine ⟨rfl, fun h => ?_⟩
    rename_i t ro pl vs n' t' ro' pl' c'
    have h' : ro = false := by simpa [Ent.blk, ownB] using h
    subst h'
    simp only [Bool.or_false, beq_iff_eq] at h3
    rw [← h3]
    rfl
  · exact ⟨rfl, fun h => h⟩
  · cases hb

def entsT (s : Nat → Option Nat) (tb : Nat → Nm) (h : H) : Rws → Bool
  | [] => true
  | (id, old, e) :: l => mapT s tb id old && (entleT s tb e (h.mem.blk old) && entsT s tb h l)

theorem entsT_mem {s : Nat → Option Nat} {tb : Nat → Nm} {h : H} : ∀ {l : Rws} {id old : Nat} {e : Ent}, entsT s tb h l = true → (id, old, e) ∈ l → mapT s tb id old = true ∧ entleT s tb e (h.mem.blk old) = true
  | [], _, _, _, _, hm => by cases hm
  | (i, o, e') :: l, id, old, e, hb, hm => by
    simp only [entsT, Bool.and_eq_true] at hb
    rcases List.mem_cons.1 hm with q | q
    · cases q
      exact ⟨hb.1, hb.2.1⟩
    · exact entsT_mem hb.2.2 q


/-- The labels 10 to 19 are names. -/
def isNam (id : Nat) : Bool := Nat.ble 10 id && Nat.blt id 20
def sT (lo nxt : Nat) (m : NT) (id : Nat) : Option Nat := bif isNam id then none else sOf lo nxt m id
def tbOf (l : List (Nat × Nm)) (a : Nat) : Nm :=
  match l with
  | [] => .no
  | (b, x) :: l => bif Nat.beq a b then x else tbOf l a
def slotsT (s : Nat → Option Nat) (tb : Nat → Nm) (f : Fr) : List (Nat × V) → Bool
  | [] => true
  | (t, v) :: l => vleT s tb 4 v (fget f t) && slotsT s tb f l
def noNm : Rws → Bool
  | [] => true
  | (id, _, _) :: l => !(isNam id) && noNm l
def turnS (s : Nat → Option Nat) (tb : Nat → Nm) (lo : Nat) (f : Fr) (h : H) (S : Snap) : Bool :=
  (Nat.ble lo S.nxt && noNm S.ents) && (rises 0 0 S.ents && (entsT s tb h S.ents && slotsT s tb f S.slots))
/-- May a state that is written down stand for one that was come to, its names given anew? -/
def turnB (lo : Nat) (tb : List (Nat × Nm)) (f : Fr) (h : H) (S : Snap) : Bool := (fun m => turnS (sT lo S.nxt m) (tbOf tb) lo f h S) (ntOf lo S.ents n4)
theorem noNm_mem : ∀ {l : Rws} {id old : Nat} {e : Ent}, noNm l = true → (id, old, e) ∈ l → isNam id = false
  | [], _, _, _, _, h => by cases h
  | (i, o, e') :: l, id, old, e, hb, hm => by
    simp only [noNm, Bool.and_eq_true, Bool.not_eq_true'] at hb
    rcases List.mem_cons.1 hm with q | q
    · cases q; exact hb.1
    · exact noNm_mem hb.2 q
theorem slotsT_le {s : Nat → Option Nat} {tb : Nat → Nm} {f : Fr} : ∀ (l : List (Nat × V)) (g : Fr), (∀ t, vleT s tb 4 (fget g t) (fget f t) = true) → slotsT s tb f l = true → ∀ t, vleT s tb 4 (fget (frOf l g) t) (fget f t) = true
  | [], g, hg, _, t => hg t
  | (u, v) :: l, g, hg, hb, t => by
    simp only [slotsT, Bool.and_eq_true] at hb
    refine slotsT_le l (fset g u v) (fun t => ?_) hb.2 t
    by_cases hi : u < 4096
    · rw [fget_fset _ _ _ _ hi]
      by_cases e : t = u
      · rw [if_pos e, e]; exact hb.1
      · rw [if_neg e]; exact hg t
    · have : Nat.blt u 4096 = false := by rw [← Bool.not_eq_true, Nat.blt_eq]; exact hi
      unfold fset
      rw [this]
      exact hg t

/-- What is asked of names: those that are given, those that stay. -/
structure NmOk (tb : List (Nat × Nm)) (r r2 : Emb) : Prop where
  num : ∀ a f lb ub, tbOf tb a = .num f lb ub → isNam a = true ∧ ∃ x, r a = some (x, 0, 0) ∧ r2 a = some (x + f, 0, 0) ∧ lb ≤ x + f ∧ x + f ≤ ub
  keep : ∀ a, tbOf tb a = .keep → isNam a = true ∧ r2 a = r a
  at_ : ∀ a n, tbOf tb a = .at_ n → isNam a = true ∧ r2 a = some (n, 0, 0)

/-- FROM A STATE TO ANOTHER, names given anew: nm says what they are now. -/
theorem turn_sound {w0 : World} {nb n lo : Nat} {tb : List (Nat × Nm)} {f' : Fr} {h' : H} {S : Snap} (hb : turnB lo tb f' h' S = true) {nm : Nat → Option (Nat × Nat × Nat)} {r0 r' : Emb} {h0 : H} {a : Act} {W w' : World} (hlo : 20 ≤ lo) (hlow : ∀ id, 10 ≤ id → r0 id = none) (hg : GRel P r0)
    (hs : St P w0 nb n r' (fget f') [] h' a w') (st : Step r0 h0 W r' h' w')
    (hN : ∀ r2 : Emb, (∀ id, isNam id = true → r2 id = nm id) → NmOk tb r' r2) :
    ∃ r2 : Emb, (∀ id, isNam id = true → r2 id = nm id) ∧ (∀ id, isNam id = false → id < lo → r2 id = r' id) ∧ St P w0 nb n r2 (fget S.f) [] S.h a w' ∧ Step r0 h0 W r2 S.h w' ∧ (∀ b, Held r2 S.h b → Held r' h' b) ∧ (∀ b, Own r2 S.h b → Own r' h' b) ∧ ∀ id old e, (id, old, e) ∈ S.ents → r2 id = r' old := by
  unfold turnB at hb
  generalize hsg : sT lo S.nxt (ntOf lo S.ents n4) = s at hb
  unfold turnS at hb
  simp only [hsg, Bool.and_eq_true] at hb
  obtain ⟨⟨b1, b0⟩, b2, b3, b4⟩ := hb
  have b1' := Nat.le_of_ble_eq_true b1
  have hnam : ∀ id, isNam id = true → id < 20 := fun id h => by
    unfold isNam at h
    simp only [Bool.and_eq_true, Nat.blt_eq] at h
    exact h.2
  have snam : ∀ id, isNam id = true → s id = none := fun id h => by rw [← hsg]; unfold sT; rw [h]; rfl
  have slow : ∀ id, isNam id = false → id < lo → s id = some id := fun id hn hi => by
    rw [← hsg]
    unfold sT sOf
    have : Nat.blt id lo = true := by rw [Nat.blt_eq]; exact hi
    rw [hn, this]; rfl
  have shigh : ∀ id, S.nxt ≤ id → s id = none := fun id hi => by
    rw [← hsg]
    unfold sT sOf
    have e1 : Nat.blt id lo = false := by rw [← Bool.not_eq_true, Nat.blt_eq]; omega
    have e2 : Nat.blt id S.nxt = false := by rw [← Bool.not_eq_true, Nat.blt_eq]; omega
    rw [e1, e2]
    cases isNam id <;> rfl
  generalize hr2 : (fun id => bif isNam id then nm id else (s id).bind r' : Emb) = r2
  have r2n : ∀ id, isNam id = true → r2 id = nm id := fun id h => by rw [← hr2]; simp only [h, cond_true]
  have r2o : ∀ id, isNam id = false → r2 id = (s id).bind r' := fun id h => by rw [← hr2]; simp only [h, cond_false]
  have ok := hN r2 r2n
  have N : Names s (tbOf tb) r' r2 := by
    refine ⟨fun a b x e1 e2 e3 => ?_, fun a f lb ub e => (ok.num a f lb ub e).2, fun a x e1 e2 => by rw [(ok.keep a e1).2]; exact e2, fun a n e => (ok.at_ a n e).2⟩
    cases hq : isNam a
    · rw [r2o a hq, e2]; exact e3
    · rw [snam a hq] at e2; cases e2
  have hle : r0.le r2 := fun id x e => by
    have hlt : id < 10 := by
      by_cases q : id < 10
      · exact q
      · rw [hlow id (by omega)] at e; cases e
    have hq : isNam id = false := by
      unfold isNam
      have : Nat.ble 10 id = false := by rw [← Bool.not_eq_true]; intro q; have := Nat.le_of_ble_eq_true q; omega
      rw [this]; rfl
    rw [r2o id hq, slow id hq (by omega)]
    exact st.le _ _ e
  have slots : ∀ t, vleT s (tbOf tb) 4 (fget S.f t) (fget f' t) = true := slotsT_le S.slots fr0 (fun t => by rw [fr0_any]; rfl) b4
  have live : ∀ id, Live S.h id → ∃ old e, (id, old, e) ∈ S.ents ∧ S.h.mem.blk id = e.blk ∧ r2 id = r' old ∧ entleT s (tbOf tb) e (h'.mem.blk old) = true ∧ Live h' old := fun id hl => by
    obtain ⟨old, e, q1, q2⟩ := hOf_live b2 hl.1 hl.2
    obtain ⟨q3, q4⟩ := entsT_mem b3 q1
    obtain ⟨_, _, _, q5⟩ := rises_mem b2 q1
    have q6 := noNm_mem b0 q1
    refine ⟨old, e, q1, q2, ?_, q4, q5, (entleT_live q4).1⟩
    unfold mapT at q3
    split at q3
    · rename_i e0
      rw [(ok.keep _ e0).1] at q6; cases q6
    · unfold mapId at q3
      split at q3
      · rename_i c hc
        obtain rfl := Nat.eq_of_beq_eq_true q3
        rw [r2o id q6, hc]; rfl
      · cases q3
    · cases q3
  have hrel2 : Rel r2 S.h w' := by
    refine ⟨fun id hi hl => ?_, fun id id' b sh m sh' m' hl hl' ho e1 e2 => ?_, fun id hi => ?_⟩
    · obtain ⟨old, e, q1, q2, q3, q4, q5⟩ := live id ⟨hi, hl⟩
      obtain ⟨b, sh, m, g1, g2⟩ := hs.rel.fit old q5.1 q5.2
      exact ⟨b, sh, m, by rw [q3]; exact g1, by rw [q2]; exact entleT_fit N q4 g2⟩
    · obtain ⟨old, e, q1, q2, q3, q4, q5⟩ := live id hl
      obtain ⟨old', e', q1', q2', q3', q4', q5'⟩ := live id' hl'
      rw [q2, q2'] at ho
      rw [q3] at e1
      rw [q3'] at e2
      have := hs.rel.inj old old' b sh m sh' m' q5 q5' (ho.imp (entleT_live q4).2 (entleT_live q4').2) e1 e2
      subst this
      exact rises_inj b2 q1 q1'
    · have hi' : S.nxt ≤ id := hi
      have hq : isNam id = false := by
        cases hq : isNam id
        · rfl
        · have := hnam id hq; omega
      rw [r2o id hq, shigh id hi']; rfl
  have hheld : ∀ b, Held r2 S.h b → Held r' h' b := fun b hh => by
    obtain ⟨id, sh, m, hl, e1⟩ := hh
    obtain ⟨old, e, q1, q2, q3, q4, q5⟩ := live id hl
    exact ⟨old, sh, m, q5, by rw [← q3]; exact e1⟩
  have hown : ∀ b, Own r2 S.h b → Own r' h' b := fun b ho => by
    obtain ⟨id, sh, m, hi, hb', e1⟩ := ho
    obtain ⟨old, e, q1, q2, q3, q4, q5⟩ := live id ⟨hi, live_of_own hb'⟩
    rw [q2] at hb'
    exact ⟨old, sh, m, q5.1, (entleT_live q4).2 hb', by rw [← q3]; exact e1⟩
  have st2 : Step r0 h0 W r2 S.h w' :=
    ⟨hle, hrel2, st.size, st.keep, fun b hlt ho => st.own b hlt (hown b ho), fun b hlt hh => st.held b hlt (hheld b hh), st.os, st.out, st.tape⟩
  have hdef : a.defers = [] := by
    have := hs.ds
    cases hq : a.defers with
    | nil => rfl
    | cons _ _ => rw [hq] at this; cases this
  refine ⟨r2, r2n, fun id h1 h2 => by rw [r2o id h1, slow id h1 h2]; rfl, ⟨hrel2, GRel.up hle hg, ⟨hs.base.same, fun b ho => hs.base.own b (hown b ho), hs.base.size⟩, fun t => vleT_rel N 4 _ _ _ (slots t) (hs.tm t), ?_, ?_, hs.sz⟩, st2, hheld, hown, fun id old e hm => ?_⟩
  · rw [hdef]; exact .nil
  · rw [hdef]; exact ⟨hs.mks.1, trivial⟩
  · have q3 := (entsT_mem b3 hm).1
    have q6 := noNm_mem b0 hm
    unfold mapT at q3
    split at q3
    · rename_i e0
      rw [(ok.keep _ e0).1] at q6; cases q6
    · unfold mapId at q3
      split at q3
      · rename_i c hc
        obtain rfl := Nat.eq_of_beq_eq_true q3
        rw [r2o id q6, hc]; rfl
      · cases q3
    · cases q3

end Go.Ev

namespace Go.Ev

variable {P : Program}

def flatC : Code → List Code
  | .seq a b => flatC a ++ flatC b
  | c => [c]
def wpL (P : Program) (Q : Exit → Act → World → Prop) : List Code → Act → World → Prop
  | [], a, w => Q .normal a w
  | c :: cs, a, w => c.wp P (Exit.then (wpL P Q cs) Q) a w
theorem wp_flat {Q : Exit → Act → World → Prop} (c : Code) : ∀ (rest : List Code) (a : Act) (w : World), wpL P Q (flatC c ++ rest) a w → c.wp P (Exit.then (wpL P Q rest) Q) a w := by
  induction c with
  | seq x y ihx ihy =>
    intro rest a w h
    rw [flatC, List.append_assoc] at h
    refine wp_seq (wp_mono (ihx _ a w h) ?_)
    intro e a w hh
    cases e with
    | normal => exact ihy rest a w hh
    | _ => exact hh
  | _ =>
    intro rest a w h
    exact h
theorem wp_pieces {Q : Exit → Act → World → Prop} {c : Code} {a : Act} {w : World} (h : wpL P Q (flatC c) a w) : c.wp P Q a w := by
  refine wp_mono (wp_flat c [] a w (by rw [List.append_nil]; exact h)) ?_
  intro e a w hh
  cases e <;> exact hh

/-- The pieces, evaluated. -/
noncomputable def denL (P : Program) (call : CallFn) (mask fuel : Nat) : List Code → Fr → Ds → H → RC
  | [], f, d, h => .ok .norm f d h
  | c :: cs, f, d, h => RC.casesOn (den P call mask fuel c f d h) .fail fun x f d h => X.casesOn x (denL P call mask fuel cs f d h) (fun id => .ok (.exit id) f d h) (.ok .ret f d h)
theorem denL_sound {W : World} {nb n mask fuel : Nat} {call : CallFn} (hcall : CallFnOk P W call) (hnn : NoNum P) (hdraw : DrawSound P W call) {Q : Exit → Act → World → Prop} {rest : List Code} :
    ∀ (cs : List Code) (f f' : Fr) (d d' : Ds) (h h' : H) (x : X) (r : Emb) (a : Act) (w : World), (cs.all (codeOk n)) = true → Dim mask f → St P W nb n r (fget f) d h a w → denL P call mask fuel cs f d h = .ok x f' d' h' →
      (∀ e r' a' w', XRel x e → Dim mask f' → St P W nb n r' (fget f') d' h' a' w' → Step r h w r' h' w' → Exit.then (wpL P Q rest) Q e a' w') → wpL P Q (cs ++ rest) a w := by
  intro cs
  induction cs with
  | nil =>
    intro f f' d d' h h' x r a w _ hd hs he hq
    simp only [denL, RC.ok.injEq] at he
    obtain ⟨rfl, rfl, rfl, rfl⟩ := he
    exact hq .normal r a w rfl hd hs (Step.refl hs.rel)
  | cons c cs ih =>
    intro f f' d d' h h' x r a w hok hd hs he hq
    simp only [List.all_cons, Bool.and_eq_true] at hok
    simp only [denL] at he
    cases hb : den P call mask fuel c f d h with
    | fail => rw [hb] at he; simp at he
    | ok x1 f1 d1 h1 =>
      rw [hb] at he
      simp only at he
      show c.wp P (Exit.then (wpL P Q (cs ++ rest)) Q) a w
      refine wp_mono (wpIn_wide.1 (den_sound (ro := none) hcall hnn hdraw c f f1 d d1 h h1 x1 r a w hok.1 (.inl rfl) hd hs hb)) ?_
      rintro e a1 w1 ⟨hx, hd1, r1, hs1, st1⟩
      cases x1 with
      | norm =>
        have e1 : e = .normal := hx
        subst e1
        simp only at he
        exact ih f1 f' d1 d' h1 h' x r1 a1 w1 hok.2 hd1 hs1 he (fun e r' a' w' q1 q2 q3 q4 => hq e r' a' w' q1 q2 q3 (st1.trans q4))
      | exit id =>
        have e1 : e = .exit id := hx
        subst e1
        simp only [RC.ok.injEq] at he
        obtain ⟨rfl, rfl, rfl, rfl⟩ := he
        exact hq _ r1 a1 w1 rfl hd1 hs1 st1
      | ret =>
        have e1 : e = .ret := hx
        subst e1
        simp only [RC.ok.injEq] at he
        obtain ⟨rfl, rfl, rfl, rfl⟩ := he
        exact hq _ r1 a1 w1 rfl hd1 hs1 st1

/-- A round of all: the pieces up to the append, the append, the counter. -/
def shapeB : Code → Bool
  | .seq _ (.seq _ (.seq (.block _ (.seq _ (.seq _ (.seq _ (.seq _ (.seq _ _)))))) _)) => true
  | _ => false
def partsOf : Code → List Code × Code × Code
  | .seq r3 (.seq x (.seq (.block _ (.seq r4 (.seq s5 (.seq r7 (.seq r8 (.seq s9 r11)))))) r12)) => ([r3, x, r4, s5, r7, r8, s9], r11, r12)
  | _ => ([], .skip, .skip)
/-- Ahead of the append; or back. -/
def PreQ (P : Program) (c : Code) (Q : Exit → Act → World → Prop) : Exit → Act → World → Prop := fun e a w =>
  (e = .normal ∧ (partsOf c).2.1.wp P (fun e a w => e = .normal ∧ (partsOf c).2.2.wp P Q a w) a w) ∨ (e = .ret ∧ Q .ret a w)
theorem body_wp {c : Code} (hc : shapeB c = true) {Q : Exit → Act → World → Prop} {a : Act} {w : World} (h : wpL P (PreQ P c Q) (partsOf c).1 a w) : c.wp P Q a w := by
  unfold shapeB at hc
  split at hc
  · rename_i r3 x i r4 s5 r7 r8 s9 r11 r12
    have out : ∀ {e : Exit} {a : Act} {w : World}, PreQ P (.seq r3 (.seq x (.seq (.block i (.seq r4 (.seq s5 (.seq r7 (.seq r8 (.seq s9 r11)))))) r12))) Q e a w → e ≠ .normal → e = .ret ∧ Q .ret a w := fun h hn => by
      rcases h with ⟨h, _⟩ | h
      · exact absurd h hn
      · exact h
    refine wp_seq (wp_mono h ?_)
    intro e a w hh
    cases e with
    | normal =>
      refine wp_seq (wp_mono hh ?_)
      intro e a w hh
      cases e with
      | normal =>
        refine wp_seq (wp_block ?_)
        refine wp_seq (wp_mono hh ?_)
        intro e a w hh
        cases e with
        | normal =>
          refine wp_seq (wp_mono hh ?_)
          intro e a w hh
          cases e with
          | normal =>
            refine wp_seq (wp_mono hh ?_)
            intro e a w hh
            cases e with
            | normal =>
              refine wp_seq (wp_mono hh ?_)
              intro e a w hh
              cases e with
              | normal =>
                refine wp_seq (wp_mono hh ?_)
                intro e a w hh
                cases e with
                | normal =>
                  rcases hh with ⟨_, hh⟩ | ⟨hh, _⟩
                  · refine wp_mono hh ?_
                    rintro e a w ⟨rfl, h2⟩
                    exact h2
                  · cases hh
                | _ => obtain ⟨g1, g2⟩ := out hh (by simp); first | (cases g1; done) | exact g2
              | _ => obtain ⟨g1, g2⟩ := out hh (by simp); first | (cases g1; done) | exact g2
            | _ => obtain ⟨g1, g2⟩ := out hh (by simp); first | (cases g1; done) | exact g2
          | _ => obtain ⟨g1, g2⟩ := out hh (by simp); first | (cases g1; done) | exact g2
        | _ => obtain ⟨g1, g2⟩ := out hh (by simp); first | (cases g1; done) | exact g2
      | _ => obtain ⟨g1, g2⟩ := out hh (by simp); first | (cases g1; done) | exact g2
    | _ => obtain ⟨g1, g2⟩ := out hh (by simp); first | (cases g1; done) | exact g2
  · cases hc

end Go.Ev

namespace Go.Ev

variable {P : Program}

theorem ent_live (e : Ent) : liveB e.blk = true := by cases e <;> rfl
theorem rows_blk {nxt : Nat} {l : Rws} (hl : rises 0 0 l = true) {id old : Nat} {e : Ent} (hm : (id, old, e) ∈ l) : (hOf nxt l).mem.blk id = e.blk ∧ Live (hOf nxt l) id := by
  have e1 : (hOf nxt l).mem.blk id = e.blk := putEs_at l m4 0 0 hl id old e hm
  exact ⟨e1, (rises_mem hl hm).2.2.1, by rw [e1]; exact ent_live e⟩
theorem rows_fit {r : Emb} {nxt : Nat} {l : Rws} {w : World} (h : Rel r (hOf nxt l) w) (hl : rises 0 0 l = true) {id old : Nat} {e : Ent} (hm : (id, old, e) ∈ l) :
    ∃ b sh m, r id = some (b, sh, m) ∧ FitB r e.blk b sh m w := by
  obtain ⟨e1, e2⟩ := rows_blk (nxt := nxt) hl hm
  obtain ⟨b, sh, m, h1, h2⟩ := h.fit id e2.1 e2.2
  rw [e1] at h2
  exact ⟨b, sh, m, h1, h2⟩

/-- Rows said otherwise, names given anew. -/
theorem rel_turn {B C : Nat → Prop} {r r2 : Emb} {nxt nxt2 : Nat} {l l2 : Rws} {w : World} (h : Rel r (hOf nxt l) w) (hl : rises 0 0 l = true) (hl2 : rises 0 0 l2 = true)
    (hrow : ∀ id old e, (id, old, e) ∈ l2 → (∃ old' e', (id, old', e') ∈ l ∧ r2 id = r id ∧ (ownB e.blk = true → ownB e'.blk = true) ∧ ∀ b sh m, r id = some (b, sh, m) → FitB r e'.blk b sh m w → FitB r2 e.blk b sh m w) ∨
      (ownB e.blk = false ∧ ∃ b sh m, r2 id = some (b, sh, m) ∧ FitB r2 e.blk b sh m w ∧ ¬ Own r (hOf nxt l) b ∧ C b) ∨
      (∃ b sh m, r2 id = some (b, sh, m) ∧ FitB r2 e.blk b sh m w ∧ B b ∧ ¬ Own r (hOf nxt l) b ∧ C b ∧ ∀ id' old' e', (id', old', e') ∈ l2 → id' ≠ id → ∀ sh' m', r2 id' ≠ some (b, sh', m')))
    (hnew : ∀ id, nxt2 ≤ id → r2 id = none) : Rel r2 (hOf nxt2 l2) w ∧ (∀ b, Own r2 (hOf nxt2 l2) b → Own r (hOf nxt l) b ∨ B b) ∧ ∀ b, Held r2 (hOf nxt2 l2) b → Held r (hOf nxt l) b ∨ C b := by
  have live : ∀ id, Live (hOf nxt2 l2) id → ∃ old e, (id, old, e) ∈ l2 ∧ (hOf nxt2 l2).mem.blk id = e.blk := fun id hl' => hOf_live hl2 hl'.1 hl'.2
  have old : ∀ id, Live (hOf nxt2 l2) id → ownB ((hOf nxt2 l2).mem.blk id) = true → (Live (hOf nxt l) id ∧ ownB ((hOf nxt l).mem.blk id) = true ∧ r2 id = r id) ∨
      (∃ b sh m, r2 id = some (b, sh, m) ∧ B b ∧ ∀ id' old' e', (id', old', e') ∈ l2 → id' ≠ id → ∀ sh' m', r2 id' ≠ some (b, sh', m')) := fun id hl' ho => by
    obtain ⟨o, e, h1, h2⟩ := live id hl'
    rw [h2] at ho
    rcases hrow id o e h1 with ⟨o', e', g1, g2, g3, _⟩ | ⟨g1, _⟩ | ⟨b, sh, m, g1, _, g3, _, _, g4⟩
    · obtain ⟨k1, k2⟩ := rows_blk (nxt := nxt) hl g1
      exact .inl ⟨k2, by rw [k1]; exact g3 ho, g2⟩
    · rw [g1] at ho; cases ho
    · exact .inr ⟨b, sh, m, g1, g3, g4⟩
  refine ⟨⟨fun id hi hb => ?_, fun id id' b sh m sh' m' hl1 hl1' ho e1 e2 => ?_, hnew⟩, fun b ho => ?_, fun b hh => ?_⟩
  case refine_4 =>
    obtain ⟨id, sh, m, hl', e1⟩ := hh
    obtain ⟨o, e, h1, h2⟩ := live id hl'
    rcases hrow id o e h1 with ⟨o', e', g1, g2, _⟩ | ⟨_, b2, sh2, m2, g2, _, _, g3⟩ | ⟨b2, sh2, m2, g2, _, _, _, g3, _⟩
    · exact .inl ⟨id, sh, m, (rows_blk hl g1).2, by rw [← g2]; exact e1⟩
    · rw [g2] at e1
      cases e1
      exact .inr g3
    · rw [g2] at e1
      cases e1
      exact .inr g3
  · obtain ⟨o, e, h1, h2⟩ := live id ⟨hi, hb⟩
    rw [h2]
    rcases hrow id o e h1 with ⟨o', e', g1, g2, g3, g4⟩ | ⟨g1, b, sh, m, g2, g3, _⟩ | ⟨b, sh, m, g2, g3, _⟩
    · obtain ⟨b, sh, m, k1, k2⟩ := rows_fit h hl g1
      exact ⟨b, sh, m, by rw [g2]; exact k1, g4 b sh m k1 k2⟩
    · exact ⟨b, sh, m, g2, g3⟩
    · exact ⟨b, sh, m, g2, g3⟩
  · have key : ∀ i i' b sh m sh' m', Live (hOf nxt2 l2) i → Live (hOf nxt2 l2) i' → ownB ((hOf nxt2 l2).mem.blk i) = true → r2 i = some (b, sh, m) → r2 i' = some (b, sh', m') → i = i' := by
      intro i i' b sh m sh' m' q1 q2 q3 q4 q5
      obtain ⟨o, e, h1, h2⟩ := live i' q2
      rcases old i q1 q3 with ⟨k1, k2, k3⟩ | ⟨b2, sh2, m2, k1, k2, k3⟩
      · rw [k3] at q4
        rcases hrow i' o e h1 with ⟨o', e', g1, g2, g3, g4⟩ | ⟨g1, b2, sh2, m2, g2, g3, g4, _⟩ | ⟨b2, sh2, m2, g2, g3, g4, g5, _⟩
        · rw [g2] at q5
          exact h.inj i i' b sh m sh' m' k1 (rows_blk hl g1).2 (.inl k2) q4 q5
        · rw [g2] at q5
          cases q5
          exact (g4 ⟨i, sh, m, k1.1, k2, q4⟩).elim
        · rw [g2] at q5
          cases q5
          exact (g5 ⟨i, sh, m, k1.1, k2, q4⟩).elim
      · rw [k1] at q4
        cases q4
        refine Classical.byContradiction fun hne => k3 i' o e h1 (fun e => hne e.symm) sh' m' q5
    rcases ho with ho | ho
    · exact key id id' b sh m sh' m' hl1 hl1' ho e1 e2
    · exact (key id' id b sh' m' sh m hl1' hl1 ho e2 e1).symm
  · obtain ⟨id, sh, m, hi, hb, e1⟩ := ho
    rcases old id ⟨hi, live_of_own hb⟩ hb with ⟨k1, k2, k3⟩ | ⟨b2, sh2, m2, k1, k2, k3⟩
    · exact .inl ⟨id, sh, m, k1.1, k2, by rw [← k3]; exact e1⟩
    · rw [k1] at e1
      cases e1
      exact .inr k2

theorem st_turn {w0 : World} {nb n : Nat} {r r2 : Emb} {T T2 : Tm} {h h2 : H} {a : Act} {w : World} (hs : St P w0 nb n r T [] h a w) (hrel : Rel r2 h2 w) (hown : ∀ b, Own r2 h2 b → Own r h b ∨ w0.heap.size ≤ b) (hg : GRel P r2) (ht : TRel r2 T2 a.tmps) :
    St P w0 nb n r2 T2 [] h2 a w := by
  have hdef : a.defers = [] := by
    have := hs.ds
    cases hq : a.defers with
    | nil => rfl
    | cons _ _ => rw [hq] at this; cases this
  refine ⟨hrel, hg, ⟨hs.base.same, fun b ho => (hown b ho).elim (hs.base.own b) id, hs.base.size⟩, ht, ?_, ?_, hs.sz⟩
  · rw [hdef]; exact .nil
  · rw [hdef]; exact ⟨hs.mks.1, trivial⟩

theorem step_turn {r0 r r2 : Emb} {h0 h h2 : H} {W w : World} (st : Step r0 h0 W r h w) (hrel : Rel r2 h2 w) (hle : r0.le r2) (hown : ∀ b, Own r2 h2 b → Own r h b ∨ W.heap.size ≤ b) (hheld : ∀ b, Held r2 h2 b → Held r h b ∨ Held r0 h0 b ∨ W.heap.size ≤ b) :
    Step r0 h0 W r2 h2 w :=
  ⟨hle, hrel, st.size, st.keep, fun b hb ho => (hown b ho).elim (st.own b hb) (fun q => absurd hb (by omega)), fun b hb hh => (hheld b hh).elim (st.held b hb) (fun q => q.elim id (fun q => absurd hb (by omega))), st.os, st.out, st.tape⟩

/-- What is written down is so; where its labels lie. -/
theorem snap_sound3 {w0 : World} {nb n mask lo : Nat} {f' : Fr} {h h' : H} {S : Snap} (hb : snaple lo f' h' S = true) {r r' : Emb} {a : Act} {w w' : World} (hlo : h.next ≤ lo) (hrel : Rel r h w) (hg : GRel P r) (hbase : Base w0 r h w)
    (hd : Dim mask f') (hs : St P w0 nb n r' (fget f') [] h' a w') (st : Step r h w r' h' w') : Dim mask S.f ∧ ∃ r2, St P w0 nb n r2 (fget S.f) [] S.h a w' ∧ Step r h w r2 S.h w' ∧ (∀ id, id < lo → r2 id = r' id) ∧ (∀ id old e, (id, old, e) ∈ S.ents → r2 id = r' old ∧ Live h' old ∧ (ownB e.blk = true → ownB (h'.mem.blk old) = true)) := by
  unfold snaple at hb
  generalize hsg : sOf lo S.nxt (ntOf lo S.ents n4) = s at hb
  unfold snapleS at hb
  simp only [hsg, Bool.and_eq_true] at hb
  obtain ⟨b1, b2, b3, b4⟩ := hb
  have b1' := Nat.le_of_ble_eq_true b1
  have slow : ∀ id, id < lo → s id = some id := fun id hi => by
    rw [← hsg]
    unfold sOf
    have : Nat.blt id lo = true := by rw [Nat.blt_eq]; exact hi
    rw [this]; rfl
  have shigh : ∀ id, S.nxt ≤ id → s id = none := fun id hi => by
    rw [← hsg]
    unfold sOf
    have e1 : Nat.blt id lo = false := by rw [← Bool.not_eq_true, Nat.blt_eq]; omega
    have e2 : Nat.blt id S.nxt = false := by rw [← Bool.not_eq_true, Nat.blt_eq]; omega
    rw [e1, e2]; rfl
  have hle : r.le (ren s r') := fun id x e => by
    have hlt : id < lo := Nat.lt_of_lt_of_le (hrel.lt_next e) hlo
    show (s id).bind r' = some x
    rw [slow id hlt]
    exact st.le _ _ e
  have slots : ∀ t, vle s 4 (fget S.f t) (fget f' t) = true := frOf_le S.slots fr0 (fun t => by rw [fr0_any]; rfl) b4
  have live : ∀ id, Live S.h id → ∃ old e, (id, old, e) ∈ S.ents ∧ S.h.mem.blk id = e.blk ∧ ren s r' id = r' old ∧ entle s e (h'.mem.blk old) = true ∧ Live h' old := fun id hl => by
    obtain ⟨old, e, q1, q2⟩ := hOf_live b2 hl.1 hl.2
    obtain ⟨q3, q4⟩ := entsle_mem b3 q1
    obtain ⟨_, _, _, q5⟩ := rises_mem b2 q1
    refine ⟨old, e, q1, q2, ?_, q4, q5, (entle_live q4).1⟩
    unfold mapId at q3
    split at q3
    · rename_i c hc
      have := Nat.eq_of_beq_eq_true q3
      subst this
      show (s id).bind r' = r' c
      rw [hc]; rfl
    · cases q3
  have hrel2 : Rel (ren s r') S.h w' := by
    refine ⟨fun id hi hl => ?_, fun id id' b sh m sh' m' hl hl' ho e1 e2 => ?_, fun id hi => ?_⟩
    · obtain ⟨old, e, q1, q2, q3, q4, q5⟩ := live id ⟨hi, hl⟩
      obtain ⟨b, sh, m, g1, g2⟩ := hs.rel.fit old q5.1 q5.2
      exact ⟨b, sh, m, by rw [q3]; exact g1, by rw [q2]; exact entle_fit q4 g2⟩
    · obtain ⟨old, e, q1, q2, q3, q4, q5⟩ := live id hl
      obtain ⟨old', e', q1', q2', q3', q4', q5'⟩ := live id' hl'
      rw [q2, q2'] at ho
      rw [q3] at e1
      rw [q3'] at e2
      have := hs.rel.inj old old' b sh m sh' m' q5 q5' (ho.imp (entle_live q4).2 (entle_live q4').2) e1 e2
      subst this
      exact rises_inj b2 q1 q1'
    · show (s id).bind r' = none
      rw [shigh id hi]; rfl
  have st2 : Step r h w (ren s r') S.h w' := by
    refine ⟨hle, hrel2, st.size, st.keep, fun b hlt ho => ?_, fun b hlt hh => ?_, st.os, st.out, st.tape⟩
    · obtain ⟨id, sh, m, hi, hb', e1⟩ := ho
      obtain ⟨old, e, q1, q2, q3, q4, q5⟩ := live id ⟨hi, live_of_own hb'⟩
      rw [q2] at hb'
      exact st.own b hlt ⟨old, sh, m, q5.1, (entle_live q4).2 hb', by rw [← q3]; exact e1⟩
    · obtain ⟨id, sh, m, hl, e1⟩ := hh
      obtain ⟨old, e, q1, q2, q3, q4, q5⟩ := live id hl
      exact st.held b hlt ⟨old, sh, m, q5, by rw [← q3]; exact e1⟩
  have hdef : a.defers = [] := by
    have := hs.ds
    cases hq : a.defers with
    | nil => rfl
    | cons _ _ => rw [hq] at this; cases this
  refine ⟨fun t ht => ?_, ren s r', ⟨hrel2, GRel.up hle hg, hbase.step st2, fun t => vle_rel s r' 4 _ _ _ (slots t) (hs.tm t), ?_, ?_, hs.sz⟩, st2, fun id hi => ?_, fun id old e hl => ?_⟩
  · have h1 := slots t
    rw [hd t ht] at h1
    generalize fget S.f t = v at h1
    cases v <;> first | rfl | (simp [vle, unkle] at h1; done)
  · rw [hdef]; exact .nil
  · rw [hdef]; exact ⟨hs.mks.1, trivial⟩
  · show (s id).bind r' = r' id
    rw [slow id hi]; rfl
  · have q3 := entsle_mem b3 hl
    have q5 := rises_mem b2 hl
    have hm := q3.1
    unfold mapId at hm
    split at hm
    · rename_i c hc
      have := Nat.eq_of_beq_eq_true hm
      subst this
      refine ⟨?_, ⟨q5.2.2.2, (entle_live q3.2).1⟩, (entle_live q3.2).2⟩
      show (s id).bind r' = r' c
      rw [hc]; rfl
    · cases hm

/-! Slots. -/
theorem frOf_rel {r : Emb} {tmps : Array Value} : ∀ (l : List (Nat × V)) (f : Fr), TRel r (fget f) tmps → (∀ t v, (t, v) ∈ l → t < 4096 ∧ VRel r v (tmps.getD t undef)) → TRel r (fget (frOf l f)) tmps
  | [], f, hf, _ => hf
  | (t, v) :: l, f, hf, hl => by
    refine frOf_rel l (fset f t v) (fun u => ?_) (fun t' v' h => hl t' v' (.tail _ h))
    obtain ⟨h1, h2⟩ := hl t v (.head _)
    rw [fget_fset _ _ _ _ h1]
    by_cases e : u = t
    · rw [if_pos e, e]; exact h2
    · rw [if_neg e]; exact hf u
theorem slots_rel {r : Emb} {tmps : Array Value} {l : List (Nat × V)} (hl : ∀ t v, (t, v) ∈ l → t < 4096 ∧ VRel r v (tmps.getD t undef)) : TRel r (fget (frOf l fr0)) tmps :=
  frOf_rel l fr0 (fun t => by rw [fr0_any]; exact .any _) hl
theorem frOf_get : ∀ (l : List (Nat × V)) (f : Fr) (t : Nat), (∀ u v, (u, v) ∈ l → u ≠ t) → fget (frOf l f) t = fget f t
  | [], f, t, _ => rfl
  | (u, v) :: l, f, t, h => by
    rw [frOf, frOf_get l (fset f u v) t (fun u' v' h' => h u' v' (.tail _ h'))]
    by_cases hu : u < 4096
    · rw [fget_fset _ _ _ _ hu, if_neg (fun e => h u v (.head _) e.symm)]
    · have : Nat.blt u 4096 = false := by rw [← Bool.not_eq_true, Nat.blt_eq]; exact hu
      unfold fset
      rw [this]
      rfl
theorem frOf_dim {mask : Nat} {l : List (Nat × V)} (hl : ∀ t v, (t, v) ∈ l → kept mask t = true) : Dim mask (frOf l fr0) := fun t ht => by
  rw [frOf_get l fr0 t (fun u v h e => by
    have := hl u v h
    rw [e, ht] at this
    cases this), fr0_any]

/-- A loop's body, from a state that is written down to one that is. -/
def bodyB (lo : Nat) (body : Fr → Ds → H → RC) (S S' : Snap) : Bool :=
  match body S.f [] S.h with
  | .ok .norm f d h => (match d with | [] => snaple lo f h S' | _ => false)
  | _ => false
theorem body_sound {ro : Option Nat} {W : World} {nb n mask lo K : Nat} {c : Code} {body : Fr → Ds → H → RC} {Q : Exit → Act → World → Prop}
    (hbody : ∀ (f f' : Fr) (d d' : Ds) (h h' : H) (x : X) (r : Emb) (a : Act) (w : World), Dim mask f → St P W nb n r (fget f) d h a w → body f d h = .ok x f' d' h' → c.wpIn (wideR ro) 0 P (Post P W nb n mask r h w x f' d' h') a w)
    {S S' : Snap} (hb : bodyB lo body S S' = true) {r0 r : Emb} {h0 : H} {a : Act} {w : World} (hlo : h0.next ≤ lo) (hrel : Rel r0 h0 W) (hg : GRel P r0) (hbase : Base W r0 h0 W) (hd : Dim mask S.f) (hs : St P W nb n r (fget S.f) [] S.h a w) (st : Step r0 h0 W r S.h w)
    (hq : ∀ (r1 r2 : Emb) (h1 : H) (a' : Act) (w' : World), Step r S.h w r1 h1 w' → Dim mask S'.f → St P W nb n r2 (fget S'.f) [] S'.h a' w' → Step r0 h0 W r2 S'.h w' → (∀ id, id < lo → r2 id = r1 id) →
      (∀ id old e, (id, old, e) ∈ S'.ents → r2 id = r1 old ∧ Live h1 old ∧ (ownB e.blk = true → ownB (h1.mem.blk old) = true)) → Code.roundsIn (wideR ro) 0 P c Q K a' w') :
    Code.roundsIn (wideR ro) 0 P c Q (K + 1) a w := by
  unfold bodyB at hb
  split at hb
  · rename_i f d h1 he
    split at hb
    · rw [roundsIn_succ]
      refine wpIn_mono (hbody S.f f [] [] S.h h1 .norm r a w hd hs he) ?_
      rintro e a1 w1 ⟨hx, hd1, r1, hs1, st1⟩
      have e1 : e = .normal := hx
      subst e1
      obtain ⟨g1, r2, g2, g3, g4, g5⟩ := snap_sound3 hb hlo hrel hg hbase hd1 hs1 (st.trans st1)
      exact hq r1 r2 h1 a1 w1 st1 g1 g2 g3 g4 g5
    · cases hb
  · cases hb

/-! Names given anew: the labels 10 to 19. -/
def isNm (id : Nat) : Bool := Nat.ble 10 id && Nat.blt id 20
def reNm (nm : Nat → Option (Nat × Nat × Nat)) (r : Emb) : Emb := fun id => bif isNm id then nm id else r id
def s0 (id : Nat) : Option Nat := bif isNm id then none else some id
theorem s0_le (nm : Nat → Option (Nat × Nat × Nat)) (r : Emb) : (ren s0 r).le (reNm nm r) := fun id x h => by
  have h' : (s0 id).bind r = some x := h
  unfold s0 at h'
  unfold reNm
  cases hb : isNm id
  · rw [hb] at h'
    exact h'
  · rw [hb] at h'
    cases h'
theorem reNm_old {nm : Nat → Option (Nat × Nat × Nat)} {r : Emb} {id : Nat} (h : isNm id = false) : reNm nm r id = r id := by
  unfold reNm
  rw [h]
  rfl
theorem reNm_new {nm : Nat → Option (Nat × Nat × Nat)} {r : Emb} {id : Nat} (h : isNm id = true) : reNm nm r id = nm id := by
  unfold reNm
  rw [h]
  rfl
theorem fit_free {nm : Nat → Option (Nat × Nat × Nat)} {r : Emb} {e : Ent} {b sh m : Nat} {w : World} (hb : entle s0 e e.blk = true) (h : FitB r e.blk b sh m w) : FitB (reNm nm r) e.blk b sh m w :=
  (entle_fit hb h).keep (s0_le nm r) rfl

/-! Cells said otherwise. -/
def VI (r r2 : Emb) (vs us : List V) : Prop := ∀ (k : Nat) (u : V), us[k]? = some u → ∃ v, vs[k]? = some v ∧ ∀ x, VRel r v x → VRel r2 u x
theorem VI.nil {r r2 : Emb} {vs : List V} : VI r r2 vs [] := fun k u h => by simp at h
theorem VI.cons {r r2 : Emb} {v u : V} {vs us : List V} (h : ∀ x, VRel r v x → VRel r2 u x) (hs : VI r r2 vs us) : VI r r2 (v :: vs) (u :: us) := fun k u' hk => by
  cases k with
  | zero =>
    simp only [List.getElem?_cons_zero, Option.some.injEq] at hk
    subst hk
    exact ⟨v, rfl, h⟩
  | succ k => exact hs k u' (by simpa using hk)
theorem VI.free {nm : Nat → Option (Nat × Nat × Nat)} {r : Emb} : ∀ {vs : List V} {us vs' : List V}, vles (vle s0 4) vs vs = true → VI r (reNm nm r) vs' us → VI r (reNm nm r) (vs ++ vs') (vs ++ us)
  | [], _, _, _, h => h
  | v :: vs, us, vs', hb, h => by
    simp only [vles, Bool.and_eq_true] at hb
    exact VI.cons (fun x hx => (vle_rel s0 r 4 v v x hb.1 hx).up (s0_le nm r)) (VI.free hb.2 h)
theorem fit_turn {r r2 : Emb} {t : TypeId} {ro ro2 pl pl2 : Bool} {vs us : List V} {b sh m : Nat} {w : World} (h : FitB r (Ent.c t ro pl vs).blk b sh m w) (hro : ro2 = false → ro = false) (hpl : pl2 = true → pl = true) (hv : VI r r2 vs us)
    (hlen : vs.length ≤ 4096) (hex : ro2 = false → t = bldT → us.length = vs.length) : FitB r2 (Ent.c t ro2 pl2 us).blk b sh m w := by
  have hl : us.length ≤ vs.length := by
    by_cases h0 : us = []
    · rw [h0]; simp
    · have hp : us.length - 1 < us.length := by
        have := List.length_pos_iff.2 h0
        omega
      obtain ⟨v, h1, _⟩ := hv (us.length - 1) _ (List.getElem?_eq_getElem hp)
      have := (List.getElem?_eq_some_iff.1 h1).1
      omega
  obtain ⟨⟨cs, fz, ⟨ty, q1, q2⟩, q3, q4, q5, q6⟩, q7, q8, q9⟩ := h
  refine ⟨⟨cs, fz, ⟨ty, q1, fun e => q2 (hro e)⟩, q3, fun e => q4 (hro e), fun e => q5 (hpl e), fun o ho => ?_⟩, by omega, cellsOf_room us (by omega), fun e e2 => ?_⟩
  · obtain ⟨v, h1, h2⟩ := hv o _ (List.getElem?_eq_getElem ho)
    have hov : o < vs.length := (List.getElem?_eq_some_iff.1 h1).1
    obtain ⟨x, g1, g2⟩ := q6 o hov
    refine ⟨x, g1, ?_⟩
    rw [cellsOf_get us (by omega) o ho]
    rw [cellsOf_get vs hlen o hov] at g2
    rw [List.getElem?_eq_getElem hov] at h1
    cases h1
    exact h2 x g2
  · obtain ⟨k1, k2⟩ := q9 (hro e) e2
    exact ⟨k1, (hex e e2).trans k2⟩
/-- Cells behind those that are known. -/
theorem fit_more {r : Emb} {t : TypeId} {ro pl : Bool} {vs us : List V} {b sh m : Nat} {w : World} (h : FitB r (Ent.c t ro pl vs).blk b sh m w) (hu : ∀ u ∈ us, u = .any) (hm : vs.length + us.length + sh ≤ m) (hl : vs.length + us.length ≤ 4096) (hne : t ≠ bldT) :
    FitB r (Ent.c t ro pl (vs ++ us)).blk b sh m w := by
  obtain ⟨⟨cs, fz, q1, q3, q4, q5, q6⟩, q7, q8, q9⟩ := h
  have hlen : (vs ++ us).length = vs.length + us.length := List.length_append
  refine ⟨⟨cs, fz, q1, q3, q4, q5, fun o ho => ?_⟩, by rw [hlen]; exact hm, cellsOf_room _ (by rw [hlen]; exact hl), fun _ e => (hne e).elim⟩
  rw [hlen] at ho
  rw [cellsOf_get (vs ++ us) (by rw [hlen]; exact hl) o (by rw [hlen]; exact ho)]
  by_cases hov : o < vs.length
  · obtain ⟨x, g1, g2⟩ := q6 o hov
    rw [cellsOf_get vs (by omega) o hov] at g2
    refine ⟨x, g1, ?_⟩
    rw [List.getElem_append_left hov]
    exact g2
  · have hs : o + sh < cs.size := by omega
    refine ⟨cs[o + sh], Array.getElem?_eq_getElem hs, ?_⟩
    rw [List.getElem_append_right (by omega)]
    rw [hu _ (List.getElem_mem _)]
    exact .any _

end Go.Ev
