/- Less may be known of a memory: labels take other names, blocks are forgotten; a loop may be gone through in pieces. A beginning that owns nothing: labels of blocks that are not written, names of values that are not known. No condition. -/
import Derived.Test.YtjkgefnlennbjaaGreatDoorEvMf
import Derived.Test.YtjkgefnlennbjaaGreatDoorEvMh
set_option linter.all false
namespace Go.Ev

variable {P : Program}

/-! Values, labels renamed. -/
def mapId (s : Nat → Option Nat) (a b : Nat) : Bool := match s a with | some c => Nat.beq c b | none => false
def vles (p : V → V → Bool) : List V → List V → Bool
  | [], [] => true
  | x :: xs, y :: ys => p x y && vles p xs ys
  | _, _ => false
/-- A number, a text, of which nothing is known. -/
def unkle (q : Nat) (u : V) : Bool :=
  match u with
  | .cl2 m q' => Nat.beq m 0 && (Nat.beq q q' && ((Nat.beq (Nat.mod q 64) 60 && Nat.ble 64 q) || Nat.beq q 63))
  | .int k _ => Nat.beq q 316 && Nat.beq (kc k) (kc .i64)
  | .str _ _ => Nat.beq q 63
  | .cls m q' => Nat.beq q 316 && (Nat.beq m 0 && (Nat.beq (Nat.mod q' 8) 0))
  | .msk m q' => Nat.beq q 316 && (Nat.beq m 0 && (Nat.beq (Nat.mod q' 4) 1))
  | _ => false
/-- Bounds that say no more. -/
def symle (s : Nat → Option Nat) (q q' : Nat) : Bool :=
  (Nat.ble (sLo q) (sLo q') && Nat.ble (sHi q') (sHi q)) && (bif Nat.beq (sId q) 0 then true else Nat.blt 0 (sId q') && (mapId s (sId q) (sId q') && (Nat.ble (sC q) (sC q') && Nat.ble (sD q') (sD q))))
def vle (s : Nat → Option Nat) : Nat → V → V → Bool
  | 0, _, _ => false
  | k + 1, v, u =>
    match v, u with
    | .any, _ => true
    | .bool a, .bool b => a == b
    | .int t a, .int t' b => Nat.beq (kc t) (kc t') && eqI a b
    | .str n l, .str m j => Nat.beq n m && Nat.beq l j
    | .nilp, .nilp => true
    | .ptr a o, .ptr b o' => mapId s a b && Nat.beq o o'
    | .nils, .nils => true
    | .slice a o l c e, .slice b o' l' c' e' => mapId s a b && (Nat.beq o o' && (Nat.beq l l' && ((Nat.ble c c' && Nat.ble l c) && Nat.beq e e')))
    | .fn (.func f) xs ys, .fn (.func f') xs' ys' => Nat.beq f f' && (vles (vle s k) xs xs' && vles (vle s k) ys ys')
    | .nilFn, .nilFn => true
    | .iface t x, .iface t' y => Nat.beq t t' && vle s k x y
    | .nilI, .nilI => true
    | .mapv a, .mapv b => mapId s a b
    | .nilm, .nilm => true
    | .agg xs, .agg ys => vles (vle s k) xs ys
    | .tup xs, .tup ys => vles (vle s k) xs ys
    | .cls m q, .cls m' q' => (Nat.beq m 0 && Nat.beq m' 0) && (Nat.beq (Nat.mod q 8) (Nat.mod q' 8) && (Nat.blt 0 (Nat.div q 8) && (Nat.blt 0 (Nat.div q' 8) && mapId s (Nat.div q 8) (Nat.div q' 8))))
    | .cl2 m q, u => Nat.beq m 0 && unkle q u
    | .msk m q, .msk m' q' => (Nat.beq m 0 && Nat.beq m' 0) && (Nat.beq (Nat.mod q 4) (Nat.mod q' 4) &&
        (bif Nat.beq (Nat.mod q 4) 1 then symle s (Nat.div q 4) (Nat.div q' 4)
         else bif Nat.beq (Nat.mod q 4) 2 then mapId s (Nat.mod (Nat.div q 4) 65536) (Nat.mod (Nat.div q' 4) 65536) && (Nat.beq (Nat.mod (Nat.div (Nat.div q 4) 65536) 16) (Nat.mod (Nat.div (Nat.div q' 4) 65536) 16) && symle s (Nat.div (Nat.div (Nat.div q 4) 65536) 16) (Nat.div (Nat.div (Nat.div q' 4) 65536) 16))
         else bif Nat.beq (Nat.mod q 4) 0 then mapId s (Nat.mod (Nat.div q 4) 65536) (Nat.mod (Nat.div q' 4) 65536) && mapId s (Nat.div (Nat.div q 4) 65536) (Nat.div (Nat.div q' 4) 65536)
         else Nat.beq (Nat.mod q 4) 3 && (mapId s (Nat.mod (Nat.div q 4) 65536) (Nat.mod (Nat.div q' 4) 65536) && (mapId s (Nat.mod (Nat.div (Nat.div q 4) 65536) 65536) (Nat.mod (Nat.div (Nat.div q' 4) 65536) 65536) && mapId s (Nat.div (Nat.div (Nat.div q 4) 65536) 65536) (Nat.div (Nat.div (Nat.div q' 4) 65536) 65536)))))
    | _, _ => false

/-- The labels' places under other names. -/
def ren (s : Nat → Option Nat) (r : Emb) : Emb := fun id => (s id).bind r
theorem ren_of {s : Nat → Option Nat} {r : Emb} {a b : Nat} {x : Nat × Nat × Nat} (h : mapId s a b = true) (hr : r b = some x) : ren s r a = some x := by
  unfold mapId at h
  split at h
  · rename_i c hc
    have := Nat.eq_of_beq_eq_true h
    subst this
    show (s a).bind r = some x
    rw [hc]
    exact hr
  · cases h

theorem vles_rel {s : Nat → Option Nat} {r : Emb} {p : V → V → Bool} (hp : ∀ v u x, p v u = true → VRel r u x → VRel (ren s r) v x) :
    ∀ (vs us : List V) (xs : List Value), vles p vs us = true → VsRel r us xs → VsRel (ren s r) vs xs
  | [], [], _, _, h => by cases h; exact .nil
  | v :: vs, u :: us, xs, hb, h => by
    simp only [vles, Bool.and_eq_true] at hb
    cases h with
    | cons h hs => exact .cons (hp _ _ _ hb.1 h) (vles_rel hp vs us _ hb.2 hs)
  | [], _ :: _, _, hb, _ => by simp [vles] at hb
  | _ :: _, [], _, hb, _ => by simp [vles] at hb
theorem vles_length {p : V → V → Bool} : ∀ {vs us : List V}, vles p vs us = true → vs.length = us.length
  | [], [], _ => rfl
  | v :: vs, u :: us, hb => by
    simp only [vles, Bool.and_eq_true] at hb
    simp [vles_length hb.2]
  | [], _ :: _, hb => by simp [vles] at hb
  | _ :: _, [], hb => by simp [vles] at hb

theorem symle_rel {s : Nat → Option Nat} {r : Emb} {q q' : Nat} {n : Int} (hb : symle s q q' = true) (h : SNum r q' n) : SNum (ren s r) q n := by
  unfold symle at hb
  simp only [Bool.and_eq_true] at hb
  obtain ⟨⟨b1, b2⟩, b3⟩ := hb
  have g1 := Nat.le_of_ble_eq_true b1
  have g2 := Nat.le_of_ble_eq_true b2
  refine ⟨by have := h.1; omega, by have := h.2.1; omega, ?_⟩
  cases h0 : Nat.beq (sId q) 0
  · rw [h0] at b3
    simp only [cond_false, Bool.and_eq_true, Nat.blt_eq] at b3
    obtain ⟨k0, k1, k2, k3⟩ := b3
    have k2' := Nat.le_of_ble_eq_true k2
    have k3' := Nat.le_of_ble_eq_true k3
    rcases h.2.2 with e | ⟨x, y, z, e1, e2, e3⟩
    · omega
    · exact .inr ⟨x, y, z, ren_of k1 e1, by omega, by omega⟩
  · exact .inl (Nat.eq_of_beq_eq_true h0)
theorem unkle_rel {r r' : Emb} {q : Nat} {u : V} {x : Value} (hb : unkle q u = true) (h : VRel r u x) : VRel r' (.cl2 0 q) x := by
  have i64 : ∀ n : Int, VRel r' (.cl2 0 316) (.int .i64 n) := fun n => .uint (k := .i64) (fun h => by cases h)
  unfold unkle at hb
  split at hb
  · rename_i m q'
    simp only [Bool.and_eq_true, Bool.or_eq_true] at hb
    obtain ⟨b1, b2, b3⟩ := hb
    obtain rfl := Nat.eq_of_beq_eq_true b1
    obtain rfl := Nat.eq_of_beq_eq_true b2
    rcases b3 with ⟨b3, b4⟩ | b3
    · obtain ⟨k, n, rfl, rfl, hn⟩ := uint_some h (Nat.eq_of_beq_eq_true b3) (Nat.le_of_ble_eq_true b4)
      exact .uint hn
    · obtain rfl := Nat.eq_of_beq_eq_true b3
      obtain ⟨s, rfl⟩ := ustr_inv h
      exact .ustr s
  · simp only [Bool.and_eq_true] at hb
    obtain rfl := Nat.eq_of_beq_eq_true hb.1
    have e := kc_inj hb.2
    subst e
    cases h
    exact i64 _
  · obtain rfl := Nat.eq_of_beq_eq_true hb
    cases h
    exact .ustr _
  · simp only [Bool.and_eq_true] at hb
    obtain ⟨b1, b2, b3⟩ := hb
    obtain rfl := Nat.eq_of_beq_eq_true b1
    obtain rfl := Nat.eq_of_beq_eq_true b2
    obtain ⟨_, _, _, _, rfl⟩ := name0_inv h (Nat.eq_of_beq_eq_true b3)
    exact i64 _
  · simp only [Bool.and_eq_true] at hb
    obtain ⟨b1, b2, b3⟩ := hb
    obtain rfl := Nat.eq_of_beq_eq_true b1
    obtain rfl := Nat.eq_of_beq_eq_true b2
    obtain ⟨n, rfl, _⟩ := sym_inv h (Nat.eq_of_beq_eq_true b3)
    exact i64 _
  · cases hb

theorem vle_rel (s : Nat → Option Nat) (r : Emb) : ∀ (k : Nat) (v u : V) (x : Value), vle s k v u = true → VRel r u x → VRel (ren s r) v x := by
  intro k
  induction k with
  | zero => intro v u x hb; cases hb
  | succ k ih =>
    intro v u x hb h
    unfold vle at hb
    split at hb
    · exact .any _
    · have e : _ = _ := eq_of_beq hb
      subst e
      cases h
      exact .bool _
    · simp only [Bool.and_eq_true] at hb
      obtain ⟨h1, h2⟩ := hb
      rw [eqI_eq] at h2
      have e1 := kc_inj h1
      simp only [beq_iff_eq] at h2
      subst e1 h2
      cases h
      exact .int _ _
    · simp only [Bool.and_eq_true] at hb
      obtain ⟨h1, h2⟩ := hb
      obtain rfl := Nat.eq_of_beq_eq_true h1
      obtain rfl := Nat.eq_of_beq_eq_true h2
      cases h with
      | str hn => exact .str hn
    · cases h; exact .nilp
    · simp only [Bool.and_eq_true] at hb
      obtain ⟨h1, h2⟩ := hb
      obtain rfl := Nat.eq_of_beq_eq_true h2
      cases h with
      | ptr hq => exact .ptr (ren_of h1 hq)
    · cases h; exact .nils
    · simp only [Bool.and_eq_true] at hb
      obtain ⟨h1, h2, h3, ⟨h4, h6⟩, h5⟩ := hb
      obtain rfl := Nat.eq_of_beq_eq_true h2
      obtain rfl := Nat.eq_of_beq_eq_true h3
      obtain rfl := Nat.eq_of_beq_eq_true h5
      have h4' := Nat.le_of_ble_eq_true h4
      have h6' := Nat.le_of_ble_eq_true h6
      cases h with
      | slice hq q1 q2 q3 => exact .slice (ren_of h1 hq) h6' (Nat.le_trans h4' q2) q3
      | slice0 hq q3 =>
        obtain rfl : _ = 0 := Nat.eq_zero_of_le_zero h4'
        exact .slice0 (ren_of h1 hq) q3
    · simp only [Bool.and_eq_true] at hb
      obtain ⟨h1, h2, h3⟩ := hb
      obtain rfl := Nat.eq_of_beq_eq_true h1
      cases h with
      | fn hf g1 g2 => exact .fn rfl (vles_rel ih _ _ _ h2 g1) (vles_rel ih _ _ _ h3 g2)
    · cases h; exact .nilFn
    · simp only [Bool.and_eq_true] at hb
      obtain ⟨h1, h2⟩ := hb
      obtain rfl := Nat.eq_of_beq_eq_true h1
      cases h with
      | iface hq => exact .iface (ih _ _ _ h2 hq)
    · cases h; exact .nilI
    · cases h with
      | mapv hq => exact .mapv (ren_of hb hq)
    · cases h; exact .nilm
    · cases h with
      | agg hq => exact .agg (vles_rel ih _ _ _ hb hq)
    · cases h with
      | tup hq => exact .tup (vles_rel ih _ _ _ hb hq)
    · rename_i m q m' q'
      simp only [Bool.and_eq_true, Nat.blt_eq] at hb
      obtain ⟨⟨b1, b2⟩, b3, b4, b5, b6⟩ := hb
      obtain rfl := Nat.eq_of_beq_eq_true b1
      obtain rfl := Nat.eq_of_beq_eq_true b2
      have b3' : q % 8 = q' % 8 := Nat.eq_of_beq_eq_true b3
      have b4' : 0 < q / 8 := b4
      have b5' : 0 < q' / 8 := b5
      have b6' : mapId s (q / 8) (q' / 8) = true := b6
      generalize hv : V.cls 0 q' = v at h
      cases h with
      | cls hm _ => cases hv; omega
      | @nint id x y z hq =>
        cases hv
        have e : q = 8 * (q / 8) := by omega
        rw [e]
        exact .nint (ren_of (by rw [show 8 * id / 8 = id by omega] at b6'; exact b6') hq)
      | @nstr id x y z hq hx =>
        cases hv
        have e : q = 8 * (q / 8) + 1 := by omega
        rw [e]
        exact .nstr (ren_of (by rw [show (8 * id + 1) / 8 = id by omega] at b6'; exact b6') hq) hx
      | @nkind id x y z hq hx =>
        cases hv
        have e : q = 8 * (q / 8) + 2 := by omega
        rw [e]
        exact .nkind (ren_of (by rw [show (8 * id + 2) / 8 = id by omega] at b6'; exact b6') hq) hx
      | @nshort id x y c z cap a hq hz ha =>
        cases hv
        have e : q = 8 * (q / 8) + 3 := by omega
        rw [e]
        exact .nshort (ren_of (by rw [show (8 * id + 3) / 8 = id by omega] at b6'; exact b6') hq) hz ha
      | @nlong id x y z cap a hq hz =>
        cases hv
        have e : q = 8 * (q / 8) + 4 := by omega
        rw [e]
        exact .nlong (ren_of (by rw [show (8 * id + 4) / 8 = id by omega] at b6'; exact b6') hq) hz
      | nle _ => cases hv; omega
      | ngt _ => cases hv; omega
      | _ => cases hv
    · simp only [Bool.and_eq_true] at hb
      obtain rfl := Nat.eq_of_beq_eq_true hb.1
      exact unkle_rel hb.2 h
    · rename_i m q m' q'
      simp only [Bool.and_eq_true] at hb
      obtain ⟨⟨b1, b2⟩, b3, b4⟩ := hb
      obtain rfl := Nat.eq_of_beq_eq_true b1
      obtain rfl := Nat.eq_of_beq_eq_true b2
      have b3' : q % 4 = q' % 4 := Nat.eq_of_beq_eq_true b3
      cases h1 : Nat.beq (Nat.mod q 4) 1
      · rw [h1] at b4
        simp only [cond_false] at b4
        cases h2 : Nat.beq (Nat.mod q 4) 2
        · rw [h2] at b4
          simp only [cond_false] at b4
          cases h0 : Nat.beq (Nat.mod q 4) 0
          · rw [h0] at b4
            simp only [cond_false, Bool.and_eq_true] at b4
            obtain ⟨c1, c2, c3, c4⟩ := b4
            have c1' : q % 4 = 3 := Nat.eq_of_beq_eq_true c1
            obtain ⟨b, o, x, z, cap, m, rfl, g1, g2, g3, g4⟩ := sat_inv h (by omega)
            have e : q = 4 * (q / 4 % 65536 + 65536 * (q / 4 / 65536 % 65536 + 65536 * (q / 4 / 65536 / 65536))) + 3 := by omega
            rw [e]
            exact .sat (by omega) (by omega) (ren_of c2 g1) (ren_of c3 g2) (ren_of c4 g3) g4
          · rw [h0] at b4
            simp only [cond_true, Bool.and_eq_true] at b4
            obtain ⟨c2, c3⟩ := b4
            have c1' : q % 4 = 0 := Nat.eq_of_beq_eq_true h0
            obtain ⟨x, y, rfl, g1, g2, g3⟩ := snx_inv h (by omega)
            have e : q = 4 * (q / 4 % 65536 + 65536 * (q / 4 / 65536)) := by omega
            rw [e]
            exact .snx (by omega) (ren_of c2 g1) (ren_of c3 g2) g3
        · rw [h2] at b4
          simp only [cond_true, Bool.and_eq_true] at b4
          obtain ⟨c2, c4, c3⟩ := b4
          have c1' : q % 4 = 2 := Nat.eq_of_beq_eq_true h2
          have c4' : q / 4 / 65536 % 16 = q' / 4 / 65536 % 16 := Nat.eq_of_beq_eq_true c4
          obtain ⟨b, o, z, cap, m, rfl, g1, g2, g3, g4⟩ := ssl_inv h (by omega)
          have e : q = 4 * (q / 4 % 65536 + 65536 * (q / 4 / 65536 % 16 + 16 * (q / 4 / 65536 / 16))) + 2 := by omega
          rw [e]
          exact .ssl (by omega) (by omega) (ren_of c2 g1) (symle_rel c3 g2) g3 (by rw [c4']; exact g4)
      · rw [h1] at b4
        simp only [cond_true] at b4
        have h1' : q % 4 = 1 := Nat.eq_of_beq_eq_true h1
        obtain ⟨n, rfl, g1⟩ := sym_inv h (by omega)
        have e : q = 4 * (q / 4) + 1 := by omega
        rw [e]
        exact .sym (symle_rel b4 g1)
    · cases hb

/-! A memory that is written down: its blocks, each with its label, and the label under which it stood. -/
inductive Ent where
  | c (t : Nat) (ro pl : Bool) (vs : List V)
  | m (es : List (V × V))
def Ent.blk : Ent → Blk
  | .c t ro pl vs => .live vs.length t ro pl (cellsOf vs)
  | .m es => .mapb es
def esle (p : V → V → Bool) : List (V × V) → List (V × V) → Bool
  | [], [] => true
  | (a, b) :: xs, (c, d) :: ys => p a c && (p b d && esle p xs ys)
  | _, _ => false
/-- Is no more known than stands in a block? -/
def entle (s : Nat → Option Nat) (e : Ent) (k : Blk) : Bool :=
  match e, k with
  | .c t ro pl vs, .live n' t' ro' pl' c' => Nat.ble n' 4096 && (Nat.beq t t' && (ro == ro' && (pl == pl' && ((Nat.ble vs.length n' && (Nat.beq vs.length n' || !(Nat.beq t bldT))) && vles (vle s 4) vs (readFrom c' 0 vs.length)))))
  | .m es, .mapb es' => esle (vle s 4) es es'
  | _, _ => false

theorem esle_rel {s : Nat → Option Nat} {r : Emb} {p : V → V → Bool} (hp : ∀ v u x, p v u = true → VRel r u x → VRel (ren s r) v x) :
    ∀ (es us : List (V × V)) (l : List MapEntry), esle p es us = true → EsRel r us l → EsRel (ren s r) es l
  | [], [], _, _, h => by cases h; exact .nil
  | (a, b) :: es, (c, d) :: us, l, hb, h => by
    simp only [esle, Bool.and_eq_true] at hb
    cases h with
    | cons hk hv hs => exact .cons (hp _ _ _ hb.1 hk) (hp _ _ _ hb.2.1 hv) (esle_rel hp es us _ hb.2.2 hs)
  | [], _ :: _, _, hb, _ => by simp [esle] at hb
  | _ :: _, [], _, hb, _ => by simp [esle] at hb

theorem entle_fit {s : Nat → Option Nat} {r : Emb} {e : Ent} {k : Blk} {b sh m : Nat} {w : World} (hb : entle s e k = true) (h : FitB r k b sh m w) : FitB (ren s r) e.blk b sh m w := by
  unfold entle at hb
  split at hb
  · rename_i t ro pl vs n' t' ro' pl' c'
    simp only [Bool.and_eq_true] at hb
    obtain ⟨h1, h2, h3, h4, ⟨h6, h7⟩, h5⟩ := hb
    obtain rfl := Nat.eq_of_beq_eq_true h2
    have e3 : ro = ro' := eq_of_beq h3
    have e4 : pl = pl' := eq_of_beq h4
    subst e3 e4
    have hlen : vs.length ≤ n' := Nat.le_of_ble_eq_true h6
    have hle : vs.length ≤ 4096 := Nat.le_trans hlen (Nat.le_of_ble_eq_true h1)
    obtain ⟨⟨cs, fz, q1, q2, q3, q4, q5⟩, q6, q7, q8⟩ := h
    refine ⟨⟨cs, fz, q1, q2, q3, q4, fun o ho => ?_⟩, by omega, cellsOf_room vs hle, fun k1 k2 => ?_⟩
    case refine_2 =>
      obtain ⟨k3, k4⟩ := q8 k1 k2
      simp only [Bool.or_eq_true, Bool.not_eq_true'] at h7
      rcases h7 with h7 | h7
      · exact ⟨k3, (Nat.eq_of_beq_eq_true h7).trans k4⟩
      · rw [k2, Nat.beq_refl] at h7; cases h7
    obtain ⟨x, hx, hv⟩ := q5 o (by omega)
    refine ⟨x, hx, ?_⟩
    rw [cellsOf_get vs hle o ho]
    have key : ∀ (vs : List V) (o n : Nat) (c : Cells), vles (vle s 4) vs (readFrom c o n) = true → ∀ (j : Nat) (hj : j < vs.length), vle s 4 vs[j] (c.get (o + j)) = true := by
      intro vs
      induction vs with
      | nil => intro o n c _ j hj; simp at hj
      | cons v vs ih =>
        intro o n c hb j hj
        cases n with
        | zero => simp [readFrom, vles] at hb
        | succ n =>
          simp only [readFrom, vles, Bool.and_eq_true] at hb
          cases j with
          | zero => exact hb.1
          | succ j =>
            have := ih (o + 1) n c hb.2 j (by simpa using hj)
            rw [show o + 1 + j = o + (j + 1) by omega] at this
            exact this
    have := key vs 0 _ c' h5 o ho
    rw [Nat.zero_add] at this
    exact vle_rel s r 4 _ _ _ this hv
  · obtain ⟨es', clk, g1, g2⟩ := h
    exact ⟨es', clk, g1, esle_rel (vle_rel s r 4) _ _ _ hb g2⟩
  · cases hb

theorem entle_live {s : Nat → Option Nat} {e : Ent} {k : Blk} (hb : entle s e k = true) : liveB k = true ∧ (ownB e.blk = true → ownB k = true) := by
  unfold entle at hb
  split at hb
  · simp only [Bool.and_eq_true] at hb
    obtain ⟨h1, h2, h3, h4, h5⟩ := hb
    have e3 : _ = _ := eq_of_beq h3
    subst e3
    exact ⟨rfl, fun h => h⟩
  · exact ⟨rfl, fun h => h⟩
  · cases hb

abbrev Rws := List (Nat × Nat × Ent)
def putEs : Rws → Mem → Mem
  | [], m => m
  | (id, _, e) :: l, m => putEs l (m.put id e.blk)
def hOf (nxt : Nat) (l : Rws) : H := ⟨nxt, putEs l m4⟩
/-- Has a number the bit? -/
def bitAt (m o : Nat) : Bool := Nat.beq (Nat.land (Nat.shiftRight m o) 1) 1
def bitOn (m o : Nat) : Nat := Nat.lor m (Nat.shiftLeft 1 o)
theorem bitAt_eq (m o : Nat) : bitAt m o = m.testBit o := by
  unfold bitAt
  rw [Nat.testBit]
  show Nat.beq ((m >>> o) &&& 1) 1 = (1 &&& (m >>> o) != 0)
  rw [Nat.and_comm, Nat.one_and_eq_mod_two]
  rcases Nat.mod_two_eq_zero_or_one (m >>> o) with h | h <;> rw [h] <;> rfl
theorem bitOn_bit (m o x : Nat) : (bitOn m o).testBit x = (m.testBit x || decide (x = o)) := by
  unfold bitOn
  show (m ||| 1 <<< o).testBit x = _
  rw [Nat.testBit_or, Nat.one_shiftLeft, Nat.testBit_two_pow]
  congr 1
  by_cases h : x = o
  · subst h; simp
  · simp [h, Ne.symm h]
/-- Labels rise; none stood twice. -/
def rises : Nat → Nat → Rws → Bool
  | _, _, [] => true
  | a, b, (id, old, _) :: l => Nat.ble a id && (!(bitAt b old) && (Nat.blt id 65536 && (Nat.blt old 65536 && rises (Nat.succ id) (bitOn b old) l)))
def entsle (s : Nat → Option Nat) (h : H) : Rws → Bool
  | [] => true
  | (id, old, e) :: l => mapId s id old && (entle s e (h.mem.blk old) && entsle s h l)

theorem entsle_mem {s : Nat → Option Nat} {h : H} : ∀ {l : Rws} {id old : Nat} {e : Ent}, entsle s h l = true → (id, old, e) ∈ l → mapId s id old = true ∧ entle s e (h.mem.blk old) = true
  | [], _, _, _, _, hm => by cases hm
  | (i, o, e') :: l, id, old, e, hb, hm => by
    simp only [entsle, Bool.and_eq_true] at hb
    rcases List.mem_cons.1 hm with q | q
    · cases q
      exact ⟨hb.1, hb.2.1⟩
    · exact entsle_mem hb.2.2 q

theorem rises_mem : ∀ {l : Rws} {a b id old : Nat} {e : Ent}, rises a b l = true → (id, old, e) ∈ l → a ≤ id ∧ b.testBit old = false ∧ id < 65536 ∧ old < 65536
  | [], _, _, _, _, _, _, hm => by cases hm
  | (i, o, e') :: l, a, b, id, old, e, hb, hm => by
    simp only [rises, Bool.and_eq_true, Nat.blt_eq, Bool.not_eq_true'] at hb
    obtain ⟨h1, h2, h3, h4, h5⟩ := hb
    have g1 := Nat.le_of_ble_eq_true h1
    rw [bitAt_eq] at h2
    rcases List.mem_cons.1 hm with q | q
    · cases q
      exact ⟨g1, h2, h3, h4⟩
    · obtain ⟨k1, k2, k3, k4⟩ := rises_mem h5 q
      rw [bitOn_bit, Bool.or_eq_false_iff] at k2
      exact ⟨by omega, k2.1, k3, k4⟩
theorem rises_inj : ∀ {l : Rws} {a b id id' old : Nat} {e e' : Ent}, rises a b l = true → (id, old, e) ∈ l → (id', old, e') ∈ l → id = id'
  | [], _, _, _, _, _, _, _, _, hm, _ => by cases hm
  | (i, o, e0) :: l, a, b, id, id', old, e, e', hb, hm, hm' => by
    simp only [rises, Bool.and_eq_true, Nat.blt_eq] at hb
    obtain ⟨h1, h2, h3, h4, h5⟩ := hb
    have out : ∀ {x : Nat} {ex : Ent}, (x, o, ex) ∈ l → False := fun q => by
      have := (rises_mem h5 q).2.1
      rw [bitOn_bit] at this
      simp at this
    rcases List.mem_cons.1 hm with q | q <;> rcases List.mem_cons.1 hm' with q' | q'
    · cases q; cases q'; rfl
    · cases q
      exact (out q').elim
    · cases q'
      exact (out q).elim
    · exact rises_inj h5 q q'

theorem putEs_live : ∀ (l : Rws) (m : Mem) (a b : Nat), rises a b l = true → ∀ id, id < 65536 → liveB ((putEs l m).blk id) = true → (∃ old e, (id, old, e) ∈ l ∧ (putEs l m).blk id = e.blk) ∨ ((putEs l m).blk id = m.blk id)
  | [], m, _, _, _, id, _, hl => .inr rfl
  | (i, o, e) :: l, m, a, b, hb, id, hi, hl => by
    simp only [rises, Bool.and_eq_true, Nat.blt_eq] at hb
    obtain ⟨h1, h2, h3, h4, h5⟩ := hb
    rcases putEs_live l (m.put i e.blk) _ _ h5 id hi hl with ⟨old, e', q1, q2⟩ | q
    · exact .inl ⟨old, e', .tail _ q1, q2⟩
    · by_cases ei : id = i
      · subst ei
        refine .inl ⟨o, e, .head _, ?_⟩
        show (putEs l (m.put id e.blk)).blk id = e.blk
        rw [q, Mem.blk_put_same _ _ _ hi]
      · refine .inr ?_
        show (putEs l (m.put i e.blk)).blk id = m.blk id
        rw [q, Mem.blk_put_other _ _ _ _ h3 hi ei]

theorem m4_dead2 (id : Nat) : liveB (m4.blk id) = false ∨ 65536 ≤ id := by
  by_cases hi : id < 65536
  · refine .inl ?_
    unfold Mem.blk m4 m3 m2 m1
    rw [T16.get_all _ _ (show Nat.div id 4096 < 16 by show id / 4096 < 16; omega), T16.get_all _ _ (show Nat.mod (Nat.div id 256) 16 < 16 from Nat.mod_lt _ (by omega)), T16.get_all _ _ (show Nat.mod (Nat.div id 16) 16 < 16 from Nat.mod_lt _ (by omega)), T16.get_all _ _ (show Nat.mod id 16 < 16 from Nat.mod_lt _ (by omega))]
    rfl
  · exact .inr (by omega)

theorem hOf_live {nxt : Nat} {l : Rws} {a b id : Nat} (hb : rises a b l = true) (hi : id < 65536) (hl : liveB ((hOf nxt l).mem.blk id) = true) : ∃ old e, (id, old, e) ∈ l ∧ (hOf nxt l).mem.blk id = e.blk := by
  rcases putEs_live l m4 a b hb id hi hl with q | q
  · exact q
  · have hl' : liveB ((putEs l m4).blk id) = true := hl
    rw [q] at hl'
    rcases m4_dead2 id with q2 | q2
    · rw [q2] at hl'; cases hl'
    · omega

theorem putEs_out : ∀ (l : Rws) (m : Mem) (a b : Nat), rises a b l = true → ∀ id, id < 65536 → (∀ old e, (id, old, e) ∉ l) → (putEs l m).blk id = m.blk id
  | [], m, _, _, _, id, _, _ => rfl
  | (i, o, e) :: l, m, a, b, hb, id, hi, hn => by
    simp only [rises, Bool.and_eq_true, Nat.blt_eq] at hb
    obtain ⟨h1, h2, h3, h4, h5⟩ := hb
    have hne : id ≠ i := fun e0 => hn o e (by rw [e0]; exact .head _)
    show (putEs l (m.put i e.blk)).blk id = m.blk id
    rw [putEs_out l _ _ _ h5 id hi (fun old e' hm => hn old e' (.tail _ hm)), Mem.blk_put_other _ _ _ _ h3 hi hne]
theorem putEs_at : ∀ (l : Rws) (m : Mem) (a b : Nat), rises a b l = true → ∀ id old e, (id, old, e) ∈ l → (putEs l m).blk id = e.blk
  | [], m, _, _, _, id, _, _, hm => by cases hm
  | (i, o, e0) :: l, m, a, b, hb, id, old, e, hm => by
    simp only [rises, Bool.and_eq_true, Nat.blt_eq] at hb
    obtain ⟨h1, h2, h3, h4, h5⟩ := hb
    rcases List.mem_cons.1 hm with q | q
    · simp only [Prod.mk.injEq] at q
      obtain ⟨rfl, rfl, rfl⟩ := q
      show (putEs l (m.put id e.blk)).blk id = e.blk
      rw [putEs_out l _ _ _ h5 id h3 (fun old' e' hm' => by
        have := (rises_mem h5 hm').1
        omega), Mem.blk_put_same _ _ _ h3]
    · exact putEs_at l _ _ _ h5 id old e q

/-- The new names: below lo each label keeps its own. -/
abbrev NT := T16 (T16 (T16 (T16 Nat)))
def n1 : T16 Nat := T16.all 0
def n2 : T16 (T16 Nat) := T16.all n1
def n3 : T16 (T16 (T16 Nat)) := T16.all n2
def n4 : NT := T16.all n3
def ntGet (i : Nat) (m : NT) : Nat := (((m.get (Nat.div i 4096)).get (Nat.mod (Nat.div i 256) 16)).get (Nat.mod (Nat.div i 16) 16)).get (Nat.mod i 16)
def ntPut (i x : Nat) (m : NT) : NT :=
  T16.upd (Nat.div i 4096) (T16.upd (Nat.mod (Nat.div i 256) 16) (T16.upd (Nat.mod (Nat.div i 16) 16) (T16.set (Nat.mod i 16) x))) m
def ntOf (lo : Nat) : Rws → NT → NT
  | [], m => m
  | (id, old, _) :: l, m => ntOf lo l (bif Nat.blt id lo then m else ntPut id old m)
def sOf (lo nxt : Nat) (m : NT) (id : Nat) : Option Nat := bif Nat.blt id lo then some id else bif Nat.blt id nxt then some (ntGet id m) else none

/-- A state that is written down: how many labels there are, its blocks, its slots. -/
structure Snap where
  nxt : Nat
  ents : Rws
  slots : List (Nat × V)
def Snap.h (S : Snap) : H := hOf S.nxt S.ents
def frOf : List (Nat × V) → Fr → Fr
  | [], f => f
  | (t, v) :: l, f => frOf l (fset f t v)
def Snap.f (S : Snap) : Fr := frOf S.slots fr0
def slotsle (s : Nat → Option Nat) (f : Fr) : List (Nat × V) → Bool
  | [] => true
  | (t, v) :: l => vle s 4 v (fget f t) && slotsle s f l
def snapleS (s : Nat → Option Nat) (lo : Nat) (f : Fr) (h : H) (S : Snap) : Bool :=
  Nat.ble lo S.nxt && (rises 0 0 S.ents && (entsle s h S.ents && slotsle s f S.slots))
/-- Does a state that is written down say no more than is so? -/
def snaple (lo : Nat) (f : Fr) (h : H) (S : Snap) : Bool := (fun m => snapleS (sOf lo S.nxt m) lo f h S) (ntOf lo S.ents n4)

theorem frOf_le {s : Nat → Option Nat} {f : Fr} : ∀ (l : List (Nat × V)) (g : Fr), (∀ t, vle s 4 (fget g t) (fget f t) = true) → slotsle s f l = true → ∀ t, vle s 4 (fget (frOf l g) t) (fget f t) = true
  | [], g, hg, _, t => hg t
  | (u, v) :: l, g, hg, hb, t => by
    simp only [slotsle, Bool.and_eq_true] at hb
    refine frOf_le l (fset g u v) (fun t => ?_) hb.2 t
    by_cases hi : u < 4096
    · rw [fget_fset _ _ _ _ hi]
      by_cases e : t = u
      · rw [if_pos e, e]; exact hb.1
      · rw [if_neg e]; exact hg t
    · have : Nat.blt u 4096 = false := by rw [← Bool.not_eq_true, Nat.blt_eq]; exact hi
      unfold fset
      rw [this]
      exact hg t

/-- WHAT IS WRITTEN DOWN IS SO, where it says no more. -/
theorem snap_sound {w0 : World} {nb n mask lo : Nat} {f' : Fr} {h h' : H} {S : Snap} (hb : snaple lo f' h' S = true) {r r' : Emb} {a : Act} {w w' : World} (hlo : h.next ≤ lo) (hrel : Rel r h w) (hg : GRel P r) (hbase : Base w0 r h w)
    (hd : Dim mask f') (hs : St P w0 nb n r' (fget f') [] h' a w') (st : Step r h w r' h' w') : Dim mask S.f ∧ ∃ r2, St P w0 nb n r2 (fget S.f) [] S.h a w' ∧ Step r h w r2 S.h w' := by
  unfold snaple at hb
  generalize hsg : sOf lo S.nxt (ntOf lo S.ents n4) = s at hb
  unfold snapleS at hb
  simp only [hsg, Bool.and_eq_true] at hb
  obtain ⟨b1, b2, b3, b4⟩ := hb
  have b1' := Nat.le_of_ble_eq_true b1
  have slow : ∀ id, id < lo → s id = some id := fun id hi => by
    rw [← hsg]
    unfold sOf
    have : Nat.blt id lo = true := by rw [Nat.blt_eq]; exact hi
    rw [this]; rfl
  have shigh : ∀ id, S.nxt ≤ id → s id = none := fun id hi => by
    rw [← hsg]
    unfold sOf
    have e1 : Nat.blt id lo = false := by rw [← Bool.not_eq_true, Nat.blt_eq]; omega
    have e2 : Nat.blt id S.nxt = false := by rw [← Bool.not_eq_true, Nat.blt_eq]; omega
    rw [e1, e2]; rfl
  have hle : r.le (ren s r') := fun id x e => by
    have hlt : id < lo := Nat.lt_of_lt_of_le (hrel.lt_next e) hlo
    show (s id).bind r' = some x
    rw [slow id hlt]
    exact st.le _ _ e
  have slots : ∀ t, vle s 4 (fget S.f t) (fget f' t) = true := frOf_le S.slots fr0 (fun t => by rw [fr0_any]; rfl) b4
  have live : ∀ id, Live S.h id → ∃ old e, (id, old, e) ∈ S.ents ∧ S.h.mem.blk id = e.blk ∧ ren s r' id = r' old ∧ entle s e (h'.mem.blk old) = true ∧ Live h' old := fun id hl => by
    obtain ⟨old, e, q1, q2⟩ := hOf_live b2 hl.1 hl.2
    obtain ⟨q3, q4⟩ := entsle_mem b3 q1
    obtain ⟨_, _, _, q5⟩ := rises_mem b2 q1
    refine ⟨old, e, q1, q2, ?_, q4, q5, (entle_live q4).1⟩
    unfold mapId at q3
    split at q3
    · rename_i c hc
      have := Nat.eq_of_beq_eq_true q3
      subst this
      show (s id).bind r' = r' c
      rw [hc]; rfl
    · cases q3
  have hrel2 : Rel (ren s r') S.h w' := by
    refine ⟨fun id hi hl => ?_, fun id id' b sh m sh' m' hl hl' ho e1 e2 => ?_, fun id hi => ?_⟩
    · obtain ⟨old, e, q1, q2, q3, q4, q5⟩ := live id ⟨hi, hl⟩
      obtain ⟨b, sh, m, g1, g2⟩ := hs.rel.fit old q5.1 q5.2
      exact ⟨b, sh, m, by rw [q3]; exact g1, by rw [q2]; exact entle_fit q4 g2⟩
    · obtain ⟨old, e, q1, q2, q3, q4, q5⟩ := live id hl
      obtain ⟨old', e', q1', q2', q3', q4', q5'⟩ := live id' hl'
      rw [q2, q2'] at ho
      rw [q3] at e1
      rw [q3'] at e2
      have := hs.rel.inj old old' b sh m sh' m' q5 q5' (ho.imp (entle_live q4).2 (entle_live q4').2) e1 e2
      subst this
      exact rises_inj b2 q1 q1'
    · show (s id).bind r' = none
      rw [shigh id hi]; rfl
  have st2 : Step r h w (ren s r') S.h w' := by
    refine ⟨hle, hrel2, st.size, st.keep, fun b hlt ho => ?_, fun b hlt hh => ?_, st.os, st.out, st.tape⟩
    · obtain ⟨id, sh, m, hi, hb', e1⟩ := ho
      obtain ⟨old, e, q1, q2, q3, q4, q5⟩ := live id ⟨hi, live_of_own hb'⟩
      rw [q2] at hb'
      exact st.own b hlt ⟨old, sh, m, q5.1, (entle_live q4).2 hb', by rw [← q3]; exact e1⟩
    · obtain ⟨id, sh, m, hl, e1⟩ := hh
      obtain ⟨old, e, q1, q2, q3, q4, q5⟩ := live id hl
      exact st.held b hlt ⟨old, sh, m, q5, by rw [← q3]; exact e1⟩
  have hdef : a.defers = [] := by
    have := hs.ds
    cases hq : a.defers with
    | nil => rfl
    | cons _ _ => rw [hq] at this; cases this
  refine ⟨fun t ht => ?_, ren s r', ⟨hrel2, GRel.up hle hg, hbase.step st2, fun t => vle_rel s r' 4 _ _ _ (slots t) (hs.tm t), ?_, ?_, hs.sz⟩, st2⟩
  · have h1 := slots t
    rw [hd t ht] at h1
    generalize fget S.f t = v at h1
    cases v <;> first | rfl | (simp [vle, unkle] at h1; done)
  · rw [hdef]; exact .nil
  · rw [hdef]; exact ⟨hs.mks.1, trivial⟩

/-! A loop in pieces. -/
/-- So many rounds. -/
def loopK (body : Fr → Ds → H → RC) : Nat → Fr → Ds → H → RC
  | 0, f, d, h => .ok .norm f d h
  | n + 1, f, d, h => RC.casesOn (body f d h) .fail fun x f d h => X.casesOn x (loopK body n f d h) (fun id => .ok (.exit id) f d h) (.ok .ret f d h)

theorem rounds_piece {ro : Option Nat} {w0 : World} {nb n mask : Nat} {c : Code} {body : Fr → Ds → H → RC} {Q : Exit → Act → World → Prop} {K : Nat}
    (hbody : ∀ (f f' : Fr) (d d' : Ds) (h h' : H) (x : X) (r : Emb) (a : Act) (w : World), Dim mask f → St P w0 nb n r (fget f) d h a w → body f d h = .ok x f' d' h' → c.wpIn (wideR ro) 0 P (Post P w0 nb n mask r h w x f' d' h') a w) :
    ∀ (k : Nat) (f f' : Fr) (d d' : Ds) (h h' : H) (r : Emb) (a : Act) (w : World), Dim mask f → St P w0 nb n r (fget f) d h a w → loopK body k f d h = .ok .norm f' d' h' →
      (∀ r' a' w', Dim mask f' → St P w0 nb n r' (fget f') d' h' a' w' → Step r h w r' h' w' → Code.roundsIn (wideR ro) 0 P c Q K a' w') →
      Code.roundsIn (wideR ro) 0 P c Q (k + K) a w := by
  intro k
  induction k with
  | zero =>
    intro f f' d d' h h' r a w hd hs he hq
    simp only [loopK, RC.ok.injEq, true_and] at he
    obtain ⟨rfl, rfl, rfl⟩ := he
    rw [Nat.zero_add]
    exact hq r a w hd hs (Step.refl hs.rel)
  | succ k ih =>
    intro f f' d d' h h' r a w hd hs he hq
    simp only [loopK] at he
    cases hb : body f d h with
    | fail => rw [hb] at he; simp at he
    | ok x1 f1 d1 h1 =>
      rw [hb] at he
      simp only at he
      rw [show k + 1 + K = (k + K) + 1 by omega, roundsIn_succ]
      refine wpIn_mono (hbody f f1 d d1 h h1 x1 r a w hd hs hb) ?_
      rintro e a1 w1 ⟨hx, hd1, r1, hs1, st1⟩
      cases x1 with
      | norm =>
        simp only at he
        have e1 : e = .normal := hx
        subst e1
        exact ih f1 f' d1 d' h1 h' r1 a1 w1 hd1 hs1 he (fun r' a' w' q1 q2 q3 => hq r' a' w' q1 q2 (st1.trans q3))
      | exit id => simp at he
      | ret => simp at he

/-! States that are written down, from one to the next. -/
def pieceB (lo : Nat) (body : Fr → Ds → H → RC) (S S' : Snap) (k : Nat) : Bool :=
  match loopK body k S.f [] S.h with
  | .ok .norm f d h => (match d with | [] => snaple lo f h S' | _ => false)
  | _ => false
def lastB (lo : Nat) (body : Fr → Ds → H → RC) (S S' : Snap) (k : Nat) : Bool :=
  match loopN body k S.f [] S.h with
  | .ok .ret f d h => (match d with | [] => snaple lo f h S' | _ => false)
  | _ => false

/-- A state that is written down is reached. -/
def At' (P : Program) (w0 : World) (nb n mask : Nat) (r : Emb) (h : H) (w : World) (S : Snap) (a : Act) (w' : World) : Prop :=
  Dim mask S.f ∧ ∃ r2, St P w0 nb n r2 (fget S.f) [] S.h a w' ∧ Step r h w r2 S.h w'

theorem piece_sound {ro : Option Nat} {w0 : World} {nb n mask lo : Nat} {c : Code} {body : Fr → Ds → H → RC} {Q : Exit → Act → World → Prop} {K k : Nat}
    (hbody : ∀ (f f' : Fr) (d d' : Ds) (h h' : H) (x : X) (r : Emb) (a : Act) (w : World), Dim mask f → St P w0 nb n r (fget f) d h a w → body f d h = .ok x f' d' h' → c.wpIn (wideR ro) 0 P (Post P w0 nb n mask r h w x f' d' h') a w)
    {r : Emb} {h : H} {w : World} (hlo : h.next ≤ lo) (hrel : Rel r h w) (hg : GRel P r) (hbase : Base w0 r h w) {S S' : Snap} (hb : pieceB lo body S S' k = true)
    (hq : ∀ a' w', At' P w0 nb n mask r h w S' a' w' → Code.roundsIn (wideR ro) 0 P c Q K a' w') {a1 : Act} {w1 : World} (hs : At' P w0 nb n mask r h w S a1 w1) : Code.roundsIn (wideR ro) 0 P c Q (k + K) a1 w1 := by
  obtain ⟨hd, r1, hs1, st1⟩ := hs
  unfold pieceB at hb
  split at hb
  · rename_i f d h2 he
    split at hb
    · refine rounds_piece hbody k S.f f [] [] S.h h2 r1 a1 w1 hd hs1 he (fun r' a' w' q1 q2 q3 => hq a' w' ?_)
      exact snap_sound hb hlo hrel hg hbase q1 q2 (st1.trans q3)
    · cases hb
  · cases hb

theorem last_sound {ro : Option Nat} {w0 : World} {nb n mask lo : Nat} {c : Code} {body : Fr → Ds → H → RC} {k : Nat}
    (hbody : ∀ (f f' : Fr) (d d' : Ds) (h h' : H) (x : X) (r : Emb) (a : Act) (w : World), Dim mask f → St P w0 nb n r (fget f) d h a w → body f d h = .ok x f' d' h' → c.wpIn (wideR ro) 0 P (Post P w0 nb n mask r h w x f' d' h') a w)
    {r : Emb} {h : H} {w : World} (hlo : h.next ≤ lo) (hrel : Rel r h w) (hg : GRel P r) (hbase : Base w0 r h w) {S S' : Snap} (hb : lastB lo body S S' k = true)
    {a1 : Act} {w1 : World} (hs : At' P w0 nb n mask r h w S a1 w1) : Code.roundsIn (wideR ro) 0 P c (fun e a' w' => e = .ret ∧ At' P w0 nb n mask r h w S' a' w') k a1 w1 := by
  obtain ⟨hd, r1, hs1, st1⟩ := hs
  unfold lastB at hb
  split at hb
  · rename_i f d h2 he
    split at hb
    · refine rounds_mono ?_ k a1 w1 (loop_sound hbody k S.f f [] [] S.h h2 .ret r1 a1 w1 hd hs1 he)
      rintro e a' w' ⟨q0, q1, r', q2, q3⟩
      exact ⟨q0, snap_sound hb hlo hrel hg hbase q1 q2 (st1.trans q3)⟩
    · cases hb
  · cases hb

/-- A chain of pieces: each of so many rounds. -/
inductive Chain (lo : Nat) (body : Fr → Ds → H → RC) (T : Snap) : Snap → Nat → Prop where
  | last {S : Snap} {k : Nat} (h : lastB lo body S T k = true) : Chain lo body T S k
  | step {S S' : Snap} {k K : Nat} (h : pieceB lo body S S' k = true) (hs : Chain lo body T S' K) : Chain lo body T S (k + K)

theorem chain_sound {ro : Option Nat} {w0 : World} {nb n mask lo : Nat} {c : Code} {body : Fr → Ds → H → RC} {T : Snap}
    (hbody : ∀ (f f' : Fr) (d d' : Ds) (h h' : H) (x : X) (r : Emb) (a : Act) (w : World), Dim mask f → St P w0 nb n r (fget f) d h a w → body f d h = .ok x f' d' h' → c.wpIn (wideR ro) 0 P (Post P w0 nb n mask r h w x f' d' h') a w)
    {r : Emb} {h : H} {w : World} (hlo : h.next ≤ lo) (hrel : Rel r h w) (hg : GRel P r) (hbase : Base w0 r h w) {S : Snap} {K : Nat} (hc : Chain lo body T S K) :
    ∀ {a1 : Act} {w1 : World}, At' P w0 nb n mask r h w S a1 w1 → Code.roundsIn (wideR ro) 0 P c (fun e a' w' => e = .ret ∧ At' P w0 nb n mask r h w T a' w') K a1 w1 := by
  induction hc with
  | last hb => exact fun hs => last_sound hbody hlo hrel hg hbase hb hs
  | step hb _ ih => exact fun hs => piece_sound hbody hlo hrel hg hbase hb (fun a' w' q => ih q) hs

/-- The whole loop. -/
theorem chain_loop {w0 : World} {nb n mask lo fuel : Nat} {call : CallFn} (hcall : CallFnOk P w0 call) (hnn : NoNum P) (hdraw : DrawSound P w0 call) {c : Code} (hok : codeOk n c = true) {T S : Snap} {K : Nat}
    (hc : Chain lo (den P call mask fuel c) T S K) {r : Emb} {h : H} {w : World} (hlo : h.next ≤ lo) (hrel : Rel r h w) (hg : GRel P r) (hbase : Base w0 r h w) {a1 : Act} {w1 : World} (hs : At' P w0 nb n mask r h w S a1 w1) :
    (Code.loop c).wp P (fun e a' w' => e = .ret ∧ At' P w0 nb n mask r h w T a' w') a1 w1 := by
  refine wpIn_wide.1 (wpIn_loop_rounds (F := wideR none) (n := 0) K ?_)
  refine chain_sound (ro := none) ?_ hlo hrel hg hbase hc hs
  intro f f' d d' h h' x r a w hd hs he
  exact den_sound (ro := none) hcall hnn hdraw c f f' d d' h h' x r a w hok (.inl rfl) hd hs he

end Go.Ev

namespace Go.Ev

variable {P : Program}

/-- Nothing is owned. -/
structure Quiet (r : Emb) (h : H) (w : World) : Prop where
  rel : Rel r h w
  ro : ∀ id, Live h id → ownB (h.mem.blk id) = false
theorem Quiet.none {r : Emb} {h : H} {w : World} (hq : Quiet r h w) (b : Nat) : ¬ Own r h b := by
  rintro ⟨id, sh, m, hi, ho, _⟩
  rw [hq.ro id ⟨hi, live_of_own ho⟩] at ho
  cases ho
theorem Quiet.base {r : Emb} {h : H} {w : World} (hq : Quiet r h w) : Base w r h w := ⟨fun _ _ => rfl, fun b ho => (hq.none b ho).elim, Nat.le_refl _⟩
theorem Begin.quiet {w0 : World} {r0 : Emb} {h0 : H} (hb : Begin P w0 r0 h0) : Quiet r0 h0 w0 := by
  refine ⟨hb.rel w0 (fun _ _ => rfl), fun id hl => ?_⟩
  cases ho : ownB (h0.mem.blk id)
  · rfl
  · obtain ⟨b, sh, m, h1, _⟩ := (hb.rel w0 (fun _ _ => rfl)).fit id hl.1 hl.2
    exact (hb.none b ⟨id, sh, m, hl.1, ho, h1⟩).elim

/-- A name is given. -/
theorem Quiet.nam {r : Emb} {h : H} {w : World} (hq : Quiet r h w) {id : Nat} (hn : id < h.next) (hr : r id = Option.none) (x : Nat × Nat × Nat) : Quiet (r.put id x) h w := by
  have hle := r.le_put id x hr
  have hne : ∀ i, Live h i → i ≠ id := fun i hl e => by
    obtain ⟨b, sh, m, h1, _⟩ := hq.rel.fit i hl.1 hl.2
    rw [e, hr] at h1
    cases h1
  refine ⟨⟨fun i hi hl => ?_, fun i i' b sh m sh' m' hl hl' ho h1 h2 => ?_, fun i hi => ?_⟩, hq.ro⟩
  · obtain ⟨b, sh, m, h1, h2⟩ := hq.rel.fit i hi hl
    exact ⟨b, sh, m, hle _ _ h1, h2.keep hle rfl⟩
  · rw [Emb.put_other _ _ _ _ (hne i hl)] at h1
    rw [Emb.put_other _ _ _ _ (hne i' hl')] at h2
    exact hq.rel.inj i i' b sh m sh' m' hl hl' ho h1 h2
  · rw [Emb.put_other _ _ _ _ (by omega)]
    exact hq.rel.new i hi

/-- A block that is not written comes under a label. -/
theorem Quiet.lab {r : Emb} {h : H} {w : World} (hq : Quiet r h w) {id : Nat} (hid : id < 65536) (hn : id < h.next) (hr : r id = Option.none) {k : Blk} (hk : ownB k = false) {b sh m : Nat}
    (hf : FitB (r.put id (b, sh, m)) k b sh m w) : Quiet (r.put id (b, sh, m)) (h.setB id k) w := by
  have hq1 := hq.nam hn hr (b, sh, m)
  have hold : ∀ i, i < 65536 → i ≠ id → (h.setB id k).mem.blk i = h.mem.blk i := fun i hi e => blk_setB_other hid hi e
  have hsame : (h.setB id k).mem.blk id = k := blk_setB hid
  have hro : ∀ i, Live (h.setB id k) i → ownB ((h.setB id k).mem.blk i) = false := fun i ⟨hi, hl⟩ => by
    by_cases e : i = id
    · subst e; rw [hsame]; exact hk
    · rw [hold i hi e] at hl ⊢
      exact hq.ro i ⟨hi, hl⟩
  refine ⟨⟨fun i hi hl => ?_, fun i i' b1 sh1 m1 sh' m' hl hl' ho _ _ => ?_, hq1.rel.new⟩, hro⟩
  · by_cases e : i = id
    · subst e
      rw [hsame]
      exact ⟨b, sh, m, Emb.put_same _ _ _, hf⟩
    · rw [hold i hi e] at hl ⊢
      exact hq1.rel.fit i hi hl
  · rcases ho with ho | ho
    · rw [hro i hl] at ho; cases ho
    · rw [hro i' hl'] at ho; cases ho

/-- A call that was evaluated from there: it returns what it returns, and leaves all as it was. -/
theorem Quiet.closes {W : World} {r : Emb} {h h' : H} (hq : Quiet r h W) (hg : GRel P r) {g : FuncId} {vs : List V} (hc : CallOk P W g vs h (.bool true) h') {xs : Array Value} (hx : VsRel r vs xs.toList) :
    Calls P g xs W fun e w' => e = .returned (.bool true) ∧ W.keptBut w' (fun _ => False) := by
  refine (hc r W xs hq.rel hg hq.base hx).mono ?_
  rintro e w' ⟨z, r', rfl, st, hz⟩
  cases hz
  refine ⟨rfl, st.os, st.out, fun i hi => ?_⟩
  rw [st.keep i hi (hq.none i)]
  exact (World.keptBut_refl W (fun _ => False)).2.2 i hi

/-! Names. -/
def nameI (n : Int) : Nat × Nat × Nat := (n.toNat, (-n).toNat, 0)
theorem rel_nameI {r : Emb} {id : Nat} {n : Int} (h : r id = some (nameI n)) : VRel r (.cls 0 (8 * id)) (.int .i64 n) := by
  have := VRel.nint (r := r) (id := id) (x := n.toNat) (y := (-n).toNat) (z := 0) h
  have e : ((n.toNat : Int) - ((-n).toNat : Int)) = n := by omega
  rw [e] at this
  exact this
theorem sval_all (s : ByteArray) : ∃ n l, n < 256 ^ l ∧ sval n l = s := by
  refine ⟨packN (s.data.toList.map UInt8.toNat), (s.data.toList.map UInt8.toNat).length, packN_lt (fun b hb => ?_), ?_⟩
  · obtain ⟨c, _, rfl⟩ := List.mem_map.1 hb
    exact UInt8.toNat_lt c
  · unfold sval
    rw [sdec_packN (fun b hb => ?_)]
    · rw [List.map_map]
      have : (UInt8.ofNat ∘ UInt8.toNat) = id := by funext c; simp
      rw [this, List.map_id]
    · obtain ⟨c, _, rfl⟩ := List.mem_map.1 hb
      exact UInt8.toNat_lt c

/-- Three names more. -/
def H.more3 (h : H) : H := ⟨h.next + 3, h.mem⟩
theorem Step.names {r : Emb} {h : H} {w w' : World} (st : Step r h w r h w') (x y z : Nat × Nat × Nat) :
    Step r h w (((r.put h.next x).put (h.next + 1) y).put (h.next + 2) z) h.more3 w' := by
  have hnew := st.rel.new
  have hle : r.le (((r.put h.next x).put (h.next + 1) y).put (h.next + 2) z) := by
    refine Emb.le_trans (r.le_put _ x (hnew _ (Nat.le_refl _))) (Emb.le_trans (Emb.le_put _ _ y ?_) (Emb.le_put _ _ z ?_))
    · rw [Emb.put_other _ _ _ _ (by omega)]; exact hnew _ (by omega)
    · rw [Emb.put_other _ _ _ _ (by omega), Emb.put_other _ _ _ _ (by omega)]; exact hnew _ (by omega)
  have hother : ∀ i, i < h.next → (((r.put h.next x).put (h.next + 1) y).put (h.next + 2) z) i = r i := fun i hi => by
    rw [Emb.put_other _ _ _ _ (by omega), Emb.put_other _ _ _ _ (by omega), Emb.put_other _ _ _ _ (by omega)]
  have hlt : ∀ i, Live h i → i < h.next := fun i hl => by
    obtain ⟨b, sh, m, h1, _⟩ := st.rel.fit i hl.1 hl.2
    exact st.rel.lt_next h1
  refine ⟨hle, ⟨fun i hi hl => ?_, fun i i' b sh m sh' m' hl hl' ho h1 h2 => ?_, fun i hi => ?_⟩, st.size, st.keep, fun b hb ho => ?_, fun b hb ho => ?_, st.os, st.out, st.tape⟩
  · obtain ⟨b, sh, m, h1, h2⟩ := st.rel.fit i hi hl
    exact ⟨b, sh, m, hle _ _ h1, h2.keep hle rfl⟩
  · have l1 : Live h i := hl
    have l2 : Live h i' := hl'
    rw [hother i (hlt i l1)] at h1
    rw [hother i' (hlt i' l2)] at h2
    exact st.rel.inj i i' b sh m sh' m' l1 l2 ho h1 h2
  · have : h.next + 3 ≤ i := hi
    rw [Emb.put_other _ _ _ _ (by omega), Emb.put_other _ _ _ _ (by omega), Emb.put_other _ _ _ _ (by omega)]
    exact hnew i (by omega)
  · obtain ⟨i, s1, k1, hi, hb', h1⟩ := ho
    have l1 : Live h i := ⟨hi, live_of_own hb'⟩
    rw [hother i (hlt i l1)] at h1
    exact st.own b hb ⟨i, s1, k1, hi, hb', h1⟩
  · obtain ⟨i, s1, k1, hl, h1⟩ := ho
    have l1 : Live h i := hl
    rw [hother i (hlt i l1)] at h1
    exact st.held b hb ⟨i, s1, k1, l1, h1⟩

end Go.Ev
