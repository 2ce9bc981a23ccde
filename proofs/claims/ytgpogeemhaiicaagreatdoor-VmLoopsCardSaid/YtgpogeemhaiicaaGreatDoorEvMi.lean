/- Less may be known of a memory: labels take other names, blocks are forgotten; a loop may be gone through in pieces. What a call does not come to stays as it was: the blocks of those who called. A call whose beginning and end are written down: its contract. States that are written down, names given anew: from one to another by a check; what is said otherwise of a number is told apart. States with names, from one to the next: a loop in pieces. A row is parted: a label for each of some of its elements, a name for its place. VmLoops: the law's text, whatever its numbers are, is one that the scanner takes apart. No condition. -/
import Derived.Test.YtgpogeemhaiicaaGreatDoorEvMf
import Derived.Test.YtgpogeemhaiicaaGreatDoorEvMh
import Derived.Test.YtgpogeemhaiicaaGreatDoorEvMa
set_option linter.all false
namespace Go.Ev

variable {P : Program}

/-! Values, labels renamed. -/
def mapId (s : Nat → Option Nat) (a b : Nat) : Bool := match s a with | some c => Nat.beq c b | none => false
/-- So many labels, one behind the other. -/
def satN (p : Nat → Nat → Bool) (a b : Nat) : Nat → Bool
  | 0 => true
  | n + 1 => p (Nat.add a n) (Nat.add b n) && satN p a b n
theorem satN_of {p : Nat → Nat → Bool} {a b : Nat} : ∀ {n : Nat}, satN p a b n = true → ∀ j, j < n → p (a + j) (b + j) = true
  | 0, _, j, hj => by omega
  | n + 1, h, j, hj => by
    simp only [satN, Bool.and_eq_true] at h
    by_cases e : j = n
    · subst e; exact h.1
    · exact satN_of h.2 j (by omega)
def vles (p : V → V → Bool) : List V → List V → Bool
  | [], [] => true
  | x :: xs, y :: ys => p x y && vles p xs ys
  | _, _ => false
/-- A number, a text, of which nothing is known. -/
def unkle (q : Nat) (u : V) : Bool :=
  match u with
  | .cl2 m q' => Nat.beq m 0 && (Nat.beq q q' && ((Nat.beq (Nat.mod q 64) 60 && Nat.ble 64 q) || Nat.beq q 63))
  | .int k _ => Nat.beq q 316 && Nat.beq (kc k) (kc .i64)
  | .str _ _ => Nat.beq q 63
  | .cls m q' => Nat.beq q 316 && (Nat.beq m 0 && (Nat.beq (Nat.mod q' 8) 0))
  | .msk m q' => Nat.beq q 316 && (Nat.beq m 0 && (Nat.beq (Nat.mod q' 4) 1))
  | _ => false
/-- Bounds that say no more. -/
def symle (s : Nat → Option Nat) (q q' : Nat) : Bool :=
  (Nat.ble (sLo q) (sLo q') && Nat.ble (sHi q') (sHi q)) && (bif Nat.beq (sId q) 0 then true else Nat.blt 0 (sId q') && (mapId s (sId q) (sId q') && (Nat.ble (sC q) (sC q') && Nat.ble (sD q') (sD q))))
def vle (s : Nat → Option Nat) : Nat → V → V → Bool
  | 0, _, _ => false
  | k + 1, v, u =>
    match v, u with
    | .any, _ => true
    | .bool a, .bool b => a == b
    | .int t a, .int t' b => Nat.beq (kc t) (kc t') && eqI a b
    | .str n l, .str m j => Nat.beq n m && Nat.beq l j
    | .nilp, .nilp => true
    | .ptr a o, .ptr b o' => mapId s a b && Nat.beq o o'
    | .nils, .nils => true
    | .slice a o l c e, .slice b o' l' c' e' => mapId s a b && (Nat.beq o o' && (Nat.beq l l' && ((Nat.ble c c' && Nat.ble l c) && Nat.beq e e')))
    | .fn (.func f) xs ys, .fn (.func f') xs' ys' => Nat.beq f f' && (vles (vle s k) xs xs' && vles (vle s k) ys ys')
    | .nilFn, .nilFn => true
    | .iface t x, .iface t' y => Nat.beq t t' && vle s k x y
    | .nilI, .nilI => true
    | .mapv a, .mapv b => mapId s a b
    | .nilm, .nilm => true
    | .agg xs, .agg ys => vles (vle s k) xs ys
    | .tup xs, .tup ys => vles (vle s k) xs ys
    | .cls m q, .cls m' q' => (Nat.beq m 0 && Nat.beq m' 0) && (Nat.beq (Nat.mod q 8) (Nat.mod q' 8) && (Nat.blt 0 (Nat.div q 8) && (Nat.blt 0 (Nat.div q' 8) && mapId s (Nat.div q 8) (Nat.div q' 8))))
    | .cl2 m q, u => Nat.beq m 0 && unkle q u
    | .cl1 m c, .cl1 m' c' => (Nat.beq m 0 && Nat.beq m' 0) && ((Nat.beq c c' && (Nat.beq c 12 || Nat.ble 32 c)) && ((mapId s 10 10 && mapId s 11 11) && (mapId s 12 12 && mapId s 13 13)))
    | .msk m q, .msk m' q' => (Nat.beq m 0 && Nat.beq m' 0) && (Nat.beq (Nat.mod q 4) (Nat.mod q' 4) &&
        (bif Nat.beq (Nat.mod q 4) 1 then symle s (Nat.div q 4) (Nat.div q' 4)
         else bif Nat.beq (Nat.mod q 4) 2 then mapId s (Nat.mod (Nat.div q 4) 65536) (Nat.mod (Nat.div q' 4) 65536) && (Nat.beq (Nat.mod (Nat.div (Nat.div q 4) 65536) 16) (Nat.mod (Nat.div (Nat.div q' 4) 65536) 16) && symle s (Nat.div (Nat.div (Nat.div q 4) 65536) 16) (Nat.div (Nat.div (Nat.div q' 4) 65536) 16))
         else bif Nat.beq (Nat.mod q 4) 0 then mapId s (Nat.mod (Nat.div q 4) 65536) (Nat.mod (Nat.div q' 4) 65536) && mapId s (Nat.div (Nat.div q 4) 65536) (Nat.div (Nat.div q' 4) 65536)
         else Nat.beq (Nat.mod q 4) 3 && ((satN (mapId s) (Nat.mod (Nat.div q 4) 65536) (Nat.mod (Nat.div q' 4) 65536) 10 && satN (mapId s) (Nat.mod (Nat.div (Nat.div q 4) 65536) 65536) (Nat.mod (Nat.div (Nat.div q' 4) 65536) 65536) 10) && mapId s (Nat.div (Nat.div (Nat.div q 4) 65536) 65536) (Nat.div (Nat.div (Nat.div q' 4) 65536) 65536))))
    | _, _ => false

/-- The labels' places under other names. -/
def ren (s : Nat → Option Nat) (r : Emb) : Emb := fun id => (s id).bind r
theorem ren_of {s : Nat → Option Nat} {r : Emb} {a b : Nat} {x : Nat × Nat × Nat} (h : mapId s a b = true) (hr : r b = some x) : ren s r a = some x := by
  unfold mapId at h
  split at h
  · rename_i c hc
    have := Nat.eq_of_beq_eq_true h
    subst this
    show (s a).bind r = some x
    rw [hc]
    exact hr
  · cases h

theorem vles_rel {s : Nat → Option Nat} {r : Emb} {p : V → V → Bool} (hp : ∀ v u x, p v u = true → VRel r u x → VRel (ren s r) v x) :
    ∀ (vs us : List V) (xs : List Value), vles p vs us = true → VsRel r us xs → VsRel (ren s r) vs xs
  | [], [], _, _, h => by cases h; exact .nil
  | v :: vs, u :: us, xs, hb, h => by
    simp only [vles, Bool.and_eq_true] at hb
    cases h with
    | cons h hs => exact .cons (hp _ _ _ hb.1 h) (vles_rel hp vs us _ hb.2 hs)
  | [], _ :: _, _, hb, _ => by simp [vles] at hb
  | _ :: _, [], _, hb, _ => by simp [vles] at hb
theorem vles_length {p : V → V → Bool} : ∀ {vs us : List V}, vles p vs us = true → vs.length = us.length
  | [], [], _ => rfl
  | v :: vs, u :: us, hb => by
    simp only [vles, Bool.and_eq_true] at hb
    simp [vles_length hb.2]
  | [], _ :: _, hb => by simp [vles] at hb
  | _ :: _, [], hb => by simp [vles] at hb

theorem symle_rel {s : Nat → Option Nat} {r : Emb} {q q' : Nat} {n : Int} (hb : symle s q q' = true) (h : SNum r q' n) : SNum (ren s r) q n := by
  unfold symle at hb
  simp only [Bool.and_eq_true] at hb
  obtain ⟨⟨b1, b2⟩, b3⟩ := hb
  have g1 := Nat.le_of_ble_eq_true b1
  have g2 := Nat.le_of_ble_eq_true b2
  refine ⟨by have := h.1; omega, by have := h.2.1; omega, ?_⟩
  cases h0 : Nat.beq (sId q) 0
  · rw [h0] at b3
    simp only [cond_false, Bool.and_eq_true, Nat.blt_eq] at b3
    obtain ⟨k0, k1, k2, k3⟩ := b3
    have k2' := Nat.le_of_ble_eq_true k2
    have k3' := Nat.le_of_ble_eq_true k3
    rcases h.2.2 with e | ⟨x, y, z, e1, e2, e3⟩
    · omega
    · exact .inr ⟨x, y, z, ren_of k1 e1, by omega, by omega⟩
  · exact .inl (Nat.eq_of_beq_eq_true h0)
theorem unkle_rel {r r' : Emb} {q : Nat} {u : V} {x : Value} (hb : unkle q u = true) (h : VRel r u x) : VRel r' (.cl2 0 q) x := by
  have i64 : ∀ n : Int, VRel r' (.cl2 0 316) (.int .i64 n) := fun n => .uint (k := .i64) (fun h => by cases h)
  unfold unkle at hb
  split at hb
  · rename_i m q'
    simp only [Bool.and_eq_true, Bool.or_eq_true] at hb
    obtain ⟨b1, b2, b3⟩ := hb
    obtain rfl := Nat.eq_of_beq_eq_true b1
    obtain rfl := Nat.eq_of_beq_eq_true b2
    rcases b3 with ⟨b3, b4⟩ | b3
    · obtain ⟨k, n, rfl, rfl, hn⟩ := uint_some h (Nat.eq_of_beq_eq_true b3) (Nat.le_of_ble_eq_true b4)
      exact .uint hn
    · obtain rfl := Nat.eq_of_beq_eq_true b3
      obtain ⟨s, rfl⟩ := ustr_inv h
      exact .ustr s
  · simp only [Bool.and_eq_true] at hb
    obtain rfl := Nat.eq_of_beq_eq_true hb.1
    have e := kc_inj hb.2
    subst e
    cases h
    exact i64 _
  · obtain rfl := Nat.eq_of_beq_eq_true hb
    cases h
    exact .ustr _
  · simp only [Bool.and_eq_true] at hb
    obtain ⟨b1, b2, b3⟩ := hb
    obtain rfl := Nat.eq_of_beq_eq_true b1
    obtain rfl := Nat.eq_of_beq_eq_true b2
    obtain ⟨_, _, _, _, rfl⟩ := name0_inv h (Nat.eq_of_beq_eq_true b3)
    exact i64 _
  · simp only [Bool.and_eq_true] at hb
    obtain ⟨b1, b2, b3⟩ := hb
    obtain rfl := Nat.eq_of_beq_eq_true b1
    obtain rfl := Nat.eq_of_beq_eq_true b2
    obtain ⟨n, rfl, _⟩ := sym_inv h (Nat.eq_of_beq_eq_true b3)
    exact i64 _
  · cases hb

theorem vle_rel (s : Nat → Option Nat) (r : Emb) : ∀ (k : Nat) (v u : V) (x : Value), vle s k v u = true → VRel r u x → VRel (ren s r) v x := by
  intro k
  induction k with
  | zero => intro v u x hb; cases hb
  | succ k ih =>
    intro v u x hb h
    unfold vle at hb
    split at hb
    · exact .any _
    · have e : _ = _ := eq_of_beq hb
      subst e
      cases h
      exact .bool _
    · simp only [Bool.and_eq_true] at hb
      obtain ⟨h1, h2⟩ := hb
      rw [eqI_eq] at h2
      have e1 := kc_inj h1
      simp only [beq_iff_eq] at h2
      subst e1 h2
      cases h
      exact .int _ _
    · simp only [Bool.and_eq_true] at hb
      obtain ⟨h1, h2⟩ := hb
      obtain rfl := Nat.eq_of_beq_eq_true h1
      obtain rfl := Nat.eq_of_beq_eq_true h2
      cases h with
      | str hn => exact .str hn
    · cases h; exact .nilp
    · simp only [Bool.and_eq_true] at hb
      obtain ⟨h1, h2⟩ := hb
      obtain rfl := Nat.eq_of_beq_eq_true h2
      cases h with
      | ptr hq => exact .ptr (ren_of h1 hq)
    · cases h; exact .nils
    · simp only [Bool.and_eq_true] at hb
      obtain ⟨h1, h2, h3, ⟨h4, h6⟩, h5⟩ := hb
      obtain rfl := Nat.eq_of_beq_eq_true h2
      obtain rfl := Nat.eq_of_beq_eq_true h3
      obtain rfl := Nat.eq_of_beq_eq_true h5
      have h4' := Nat.le_of_ble_eq_true h4
      have h6' := Nat.le_of_ble_eq_true h6
      cases h with
      | slice hq q1 q2 q3 => exact .slice (ren_of h1 hq) h6' (Nat.le_trans h4' q2) q3
      | slice0 hq q3 =>
        obtain rfl : _ = 0 := Nat.eq_zero_of_le_zero h4'
        exact .slice0 (ren_of h1 hq) q3
    · simp only [Bool.and_eq_true] at hb
      obtain ⟨h1, h2, h3⟩ := hb
      obtain rfl := Nat.eq_of_beq_eq_true h1
      cases h with
      | fn hf g1 g2 => exact .fn rfl (vles_rel ih _ _ _ h2 g1) (vles_rel ih _ _ _ h3 g2)
    · cases h; exact .nilFn
    · simp only [Bool.and_eq_true] at hb
      obtain ⟨h1, h2⟩ := hb
      obtain rfl := Nat.eq_of_beq_eq_true h1
      cases h with
      | iface hq => exact .iface (ih _ _ _ h2 hq)
    · cases h; exact .nilI
    · cases h with
      | mapv hq => exact .mapv (ren_of hb hq)
    · cases h; exact .nilm
    · cases h with
      | agg hq => exact .agg (vles_rel ih _ _ _ hb hq)
    · cases h with
      | tup hq => exact .tup (vles_rel ih _ _ _ hb hq)
    · rename_i m q m' q'
      simp only [Bool.and_eq_true, Nat.blt_eq] at hb
      obtain ⟨⟨b1, b2⟩, b3, b4, b5, b6⟩ := hb
      obtain rfl := Nat.eq_of_beq_eq_true b1
      obtain rfl := Nat.eq_of_beq_eq_true b2
      have b3' : q % 8 = q' % 8 := Nat.eq_of_beq_eq_true b3
      have b4' : 0 < q / 8 := b4
      have b5' : 0 < q' / 8 := b5
      have b6' : mapId s (q / 8) (q' / 8) = true := b6
      generalize hv : V.cls 0 q' = v at h
      cases h with
      | cls hm _ => cases hv; omega
      | @nint id x y z hq =>
        cases hv
        have e : q = 8 * (q / 8) := by omega
        rw [e]
        exact .nint (ren_of (by rw [show 8 * id / 8 = id by omega] at b6'; exact b6') hq)
      | @nstr id x y z hq hx =>
        cases hv
        have e : q = 8 * (q / 8) + 1 := by omega
        rw [e]
        exact .nstr (ren_of (by rw [show (8 * id + 1) / 8 = id by omega] at b6'; exact b6') hq) hx
      | @nkind id x y z hq hx =>
        cases hv
        have e : q = 8 * (q / 8) + 2 := by omega
        rw [e]
        exact .nkind (ren_of (by rw [show (8 * id + 2) / 8 = id by omega] at b6'; exact b6') hq) hx
      | @nshort id x y c z cap a hq hz ha =>
        cases hv
        have e : q = 8 * (q / 8) + 3 := by omega
        rw [e]
        exact .nshort (ren_of (by rw [show (8 * id + 3) / 8 = id by omega] at b6'; exact b6') hq) hz ha
      | @nlong id x y z cap a hq hz =>
        cases hv
        have e : q = 8 * (q / 8) + 4 := by omega
        rw [e]
        exact .nlong (ren_of (by rw [show (8 * id + 4) / 8 = id by omega] at b6'; exact b6') hq) hz
      | nle _ => cases hv; omega
      | ngt _ => cases hv; omega
      | _ => cases hv
    · simp only [Bool.and_eq_true] at hb
      obtain rfl := Nat.eq_of_beq_eq_true hb.1
      exact unkle_rel hb.2 h
    · rename_i m c m' c'
      simp only [Bool.and_eq_true, Bool.or_eq_true] at hb
      obtain ⟨⟨b1, b2⟩, ⟨b3, b4⟩, ⟨b5, b6⟩, b7, b8⟩ := hb
      obtain rfl := Nat.eq_of_beq_eq_true b1
      obtain rfl := Nat.eq_of_beq_eq_true b2
      obtain rfl := Nat.eq_of_beq_eq_true b3
      have b4' : c = 12 ∨ 32 ≤ c := b4.imp Nat.eq_of_beq_eq_true Nat.le_of_ble_eq_true
      exact nam_up b4' (fun _ h => ren_of b5 h) (fun _ h => ren_of b6 h) (fun _ h => ren_of b7 h) (fun _ h => ren_of b8 h) h
    · rename_i m q m' q'
      simp only [Bool.and_eq_true] at hb
      obtain ⟨⟨b1, b2⟩, b3, b4⟩ := hb
      obtain rfl := Nat.eq_of_beq_eq_true b1
      obtain rfl := Nat.eq_of_beq_eq_true b2
      have b3' : q % 4 = q' % 4 := Nat.eq_of_beq_eq_true b3
      cases h1 : Nat.beq (Nat.mod q 4) 1
      · rw [h1] at b4
        simp only [cond_false] at b4
        cases h2 : Nat.beq (Nat.mod q 4) 2
        · rw [h2] at b4
          simp only [cond_false] at b4
          cases h0 : Nat.beq (Nat.mod q 4) 0
          · rw [h0] at b4
            simp only [cond_false, Bool.and_eq_true] at b4
            obtain ⟨c1, ⟨c2, c3⟩, c4⟩ := b4
            have c1' : q % 4 = 3 := Nat.eq_of_beq_eq_true c1
            obtain ⟨b, o, z, cap, _, rfl, g1, g3⟩ := sat_inv h (by omega)
            have e : q = 4 * (q / 4 % 65536 + 65536 * (q / 4 / 65536 % 65536 + 65536 * (q / 4 / 65536 / 65536))) + 3 := by omega
            rw [e]
            exact .sat (by omega) (by omega) (fun j hj => by
              obtain ⟨x, m, k1, k2, k3⟩ := g1 j hj
              exact ⟨x, m, ren_of (satN_of c2 j hj) k1, ren_of (satN_of c3 j hj) k2, k3⟩) (ren_of c4 g3)
          · rw [h0] at b4
            simp only [cond_true, Bool.and_eq_true] at b4
            obtain ⟨c2, c3⟩ := b4
            have c1' : q % 4 = 0 := Nat.eq_of_beq_eq_true h0
            obtain ⟨x, y, rfl, g1, g2, g3⟩ := snx_inv h (by omega)
            have e : q = 4 * (q / 4 % 65536 + 65536 * (q / 4 / 65536)) := by omega
            rw [e]
            exact .snx (by omega) (ren_of c2 g1) (ren_of c3 g2) g3
        · rw [h2] at b4
          simp only [cond_true, Bool.and_eq_true] at b4
          obtain ⟨c2, c4, c3⟩ := b4
          have c1' : q % 4 = 2 := Nat.eq_of_beq_eq_true h2
          have c4' : q / 4 / 65536 % 16 = q' / 4 / 65536 % 16 := Nat.eq_of_beq_eq_true c4
          obtain ⟨b, o, z, cap, m, rfl, g1, g2, g3, g4⟩ := ssl_inv h (by omega)
          have e : q = 4 * (q / 4 % 65536 + 65536 * (q / 4 / 65536 % 16 + 16 * (q / 4 / 65536 / 16))) + 2 := by omega
          rw [e]
          exact .ssl (by omega) (by omega) (ren_of c2 g1) (symle_rel c3 g2) g3 (by rw [c4']; exact g4)
      · rw [h1] at b4
        simp only [cond_true] at b4
        have h1' : q % 4 = 1 := Nat.eq_of_beq_eq_true h1
        obtain ⟨n, rfl, g1⟩ := sym_inv h (by omega)
        have e : q = 4 * (q / 4) + 1 := by omega
        rw [e]
        exact .sym (symle_rel b4 g1)
    · cases hb

/-! A memory that is written down: its blocks, each with its label, and the label under which it stood. -/
inductive Ent where
  | c (t : Nat) (ro pl : Bool) (vs : List V)
  | m (es : List (V × V))
def Ent.blk : Ent → Blk
  | .c t ro pl vs => .live vs.length t ro pl (cellsOf vs)
  | .m es => .mapb es
def esle (p : V → V → Bool) : List (V × V) → List (V × V) → Bool
  | [], [] => true
  | (a, b) :: xs, (c, d) :: ys => p a c && (p b d && esle p xs ys)
  | _, _ => false
/-- Is no more known than stands in a block? -/
def entle (s : Nat → Option Nat) (e : Ent) (k : Blk) : Bool :=
  match e, k with
  | .c t ro pl vs, .live n' t' ro' pl' c' => Nat.ble n' 4096 && (Nat.beq t t' && (ro == ro' && (pl == pl' && ((Nat.ble vs.length n' && (Nat.beq vs.length n' || !(Nat.beq t bldT))) && vles (vle s 4) vs (readFrom c' 0 vs.length)))))
  | .m es, .mapb es' => esle (vle s 4) es es'
  | _, _ => false

theorem esle_rel {s : Nat → Option Nat} {r : Emb} {p : V → V → Bool} (hp : ∀ v u x, p v u = true → VRel r u x → VRel (ren s r) v x) :
    ∀ (es us : List (V × V)) (l : List MapEntry), esle p es us = true → EsRel r us l → EsRel (ren s r) es l
  | [], [], _, _, h => by cases h; exact .nil
  | (a, b) :: es, (c, d) :: us, l, hb, h => by
    simp only [esle, Bool.and_eq_true] at hb
    cases h with
    | cons hk hv hs => exact .cons (hp _ _ _ hb.1 hk) (hp _ _ _ hb.2.1 hv) (esle_rel hp es us _ hb.2.2 hs)
  | [], _ :: _, _, hb, _ => by simp [esle] at hb
  | _ :: _, [], _, hb, _ => by simp [esle] at hb

theorem entle_fit {s : Nat → Option Nat} {r : Emb} {e : Ent} {k : Blk} {b sh m : Nat} {w : World} (hb : entle s e k = true) (h : FitB r k b sh m w) : FitB (ren s r) e.blk b sh m w := by
  unfold entle at hb
  split at hb
  · rename_i t ro pl vs n' t' ro' pl' c'
    simp only [Bool.and_eq_true] at hb
    obtain ⟨h1, h2, h3, h4, ⟨h6, h7⟩, h5⟩ := hb
    obtain rfl := Nat.eq_of_beq_eq_true h2
    have e3 : ro = ro' := eq_of_beq h3
    have e4 : pl = pl' := eq_of_beq h4
    subst e3 e4
    have hlen : vs.length ≤ n' := Nat.le_of_ble_eq_true h6
    have hle : vs.length ≤ 4096 := Nat.le_trans hlen (Nat.le_of_ble_eq_true h1)
    obtain ⟨⟨cs, fz, q1, q2, q3, q4, q5⟩, q6, q7, q8⟩ := h
    refine ⟨⟨cs, fz, q1, q2, q3, q4, fun o ho => ?_⟩, by omega, cellsOf_room vs hle, fun k1 k2 => ?_⟩
    case refine_2 =>
      obtain ⟨k3, k4⟩ := q8 k1 k2
      simp only [Bool.or_eq_true, Bool.not_eq_true'] at h7
      rcases h7 with h7 | h7
      · exact ⟨k3, (Nat.eq_of_beq_eq_true h7).trans k4⟩
      · rw [k2, Nat.beq_refl] at h7; cases h7
    obtain ⟨x, hx, hv⟩ := q5 o (by omega)
    refine ⟨x, hx, ?_⟩
    rw [cellsOf_get vs hle o ho]
    have key : ∀ (vs : List V) (o n : Nat) (c : Cells), vles (vle s 4) vs (readFrom c o n) = true → ∀ (j : Nat) (hj : j < vs.length), vle s 4 vs[j] (c.get (o + j)) = true := by
      intro vs
      induction vs with
      | nil => intro o n c _ j hj; simp at hj
      | cons v vs ih =>
        intro o n c hb j hj
        cases n with
        | zero => simp [readFrom, vles] at hb
        | succ n =>
          simp only [readFrom, vles, Bool.and_eq_true] at hb
          cases j with
          | zero => exact hb.1
          | succ j =>
            have := ih (o + 1) n c hb.2 j (by simpa using hj)
            rw [show o + 1 + j = o + (j + 1) by omega] at this
            exact this
    have := key vs 0 _ c' h5 o ho
    rw [Nat.zero_add] at this
    exact vle_rel s r 4 _ _ _ this hv
  · obtain ⟨es', clk, g1, g2⟩ := h
    exact ⟨es', clk, g1, esle_rel (vle_rel s r 4) _ _ _ hb g2⟩
  · cases hb

theorem entle_live {s : Nat → Option Nat} {e : Ent} {k : Blk} (hb : entle s e k = true) : liveB k = true ∧ (ownB e.blk = true → ownB k = true) := by
  unfold entle at hb
  split at hb
  · simp only [Bool.and_eq_true] at hb
    obtain ⟨h1, h2, h3, h4, h5⟩ := hb
    have e3 : _ = _ := eq_of_beq h3
    subst e3
    exact ⟨rfl, fun h => h⟩
  · exact ⟨rfl, fun h => h⟩
  · cases hb

abbrev Rws := List (Nat × Nat × Ent)
def putEs : Rws → Mem → Mem
  | [], m => m
  | (id, _, e) :: l, m => putEs l (m.put id e.blk)
def hOf (nxt : Nat) (l : Rws) : H := ⟨nxt, putEs l m4⟩
/-- Has a number the bit? -/
def bitAt (m o : Nat) : Bool := Nat.beq (Nat.land (Nat.shiftRight m o) 1) 1
def bitOn (m o : Nat) : Nat := Nat.lor m (Nat.shiftLeft 1 o)
theorem bitAt_eq (m o : Nat) : bitAt m o = m.testBit o := by
  unfold bitAt
  rw [Nat.testBit]
  show Nat.beq ((m >>> o) &&& 1) 1 = (1 &&& (m >>> o) != 0)
  rw [Nat.and_comm, Nat.one_and_eq_mod_two]
  rcases Nat.mod_two_eq_zero_or_one (m >>> o) with h | h <;> rw [h] <;> rfl
theorem bitOn_bit (m o x : Nat) : (bitOn m o).testBit x = (m.testBit x || decide (x = o)) := by
  unfold bitOn
  show (m ||| 1 <<< o).testBit x = _
  rw [Nat.testBit_or, Nat.one_shiftLeft, Nat.testBit_two_pow]
  congr 1
  by_cases h : x = o
  · subst h; simp
  · simp [h, Ne.symm h]
/-- Labels rise; none stood twice. -/
def rises : Nat → Nat → Rws → Bool
  | _, _, [] => true
  | a, b, (id, old, _) :: l => Nat.ble a id && (!(bitAt b old) && (Nat.blt id 65536 && (Nat.blt old 65536 && rises (Nat.succ id) (bitOn b old) l)))
def entsle (s : Nat → Option Nat) (h : H) : Rws → Bool
  | [] => true
  | (id, old, e) :: l => mapId s id old && (entle s e (h.mem.blk old) && entsle s h l)

theorem entsle_mem {s : Nat → Option Nat} {h : H} : ∀ {l : Rws} {id old : Nat} {e : Ent}, entsle s h l = true → (id, old, e) ∈ l → mapId s id old = true ∧ entle s e (h.mem.blk old) = true
  | [], _, _, _, _, hm => by cases hm
  | (i, o, e') :: l, id, old, e, hb, hm => by
    simp only [entsle, Bool.and_eq_true] at hb
    rcases List.mem_cons.1 hm with q | q
    · cases q
      exact ⟨hb.1, hb.2.1⟩
    · exact entsle_mem hb.2.2 q

theorem rises_mem : ∀ {l : Rws} {a b id old : Nat} {e : Ent}, rises a b l = true → (id, old, e) ∈ l → a ≤ id ∧ b.testBit old = false ∧ id < 65536 ∧ old < 65536
  | [], _, _, _, _, _, _, hm => by cases hm
  | (i, o, e') :: l, a, b, id, old, e, hb, hm => by
    simp only [rises, Bool.and_eq_true, Nat.blt_eq, Bool.not_eq_true'] at hb
    obtain ⟨h1, h2, h3, h4, h5⟩ := hb
    have g1 := Nat.le_of_ble_eq_true h1
    rw [bitAt_eq] at h2
    rcases List.mem_cons.1 hm with q | q
    · cases q
      exact ⟨g1, h2, h3, h4⟩
    · obtain ⟨k1, k2, k3, k4⟩ := rises_mem h5 q
      rw [bitOn_bit, Bool.or_eq_false_iff] at k2
      exact ⟨by omega, k2.1, k3, k4⟩
theorem rises_inj : ∀ {l : Rws} {a b id id' old : Nat} {e e' : Ent}, rises a b l = true → (id, old, e) ∈ l → (id', old, e') ∈ l → id = id'
  | [], _, _, _, _, _, _, _, _, hm, _ => by cases hm
  | (i, o, e0) :: l, a, b, id, id', old, e, e', hb, hm, hm' => by
    simp only [rises, Bool.and_eq_true, Nat.blt_eq] at hb
    obtain ⟨h1, h2, h3, h4, h5⟩ := hb
    have out : ∀ {x : Nat} {ex : Ent}, (x, o, ex) ∈ l → False := fun q => by
      have := (rises_mem h5 q).2.1
      rw [bitOn_bit] at this
      simp at this
    rcases List.mem_cons.1 hm with q | q <;> rcases List.mem_cons.1 hm' with q' | q'
    · cases q; cases q'; rfl
    · cases q
      exact (out q').elim
    · cases q'
      exact (out q).elim
    · exact rises_inj h5 q q'

theorem putEs_live : ∀ (l : Rws) (m : Mem) (a b : Nat), rises a b l = true → ∀ id, id < 65536 → liveB ((putEs l m).blk id) = true → (∃ old e, (id, old, e) ∈ l ∧ (putEs l m).blk id = e.blk) ∨ ((putEs l m).blk id = m.blk id)
  | [], m, _, _, _, id, _, hl => .inr rfl
  | (i, o, e) :: l, m, a, b, hb, id, hi, hl => by
    simp only [rises, Bool.and_eq_true, Nat.blt_eq] at hb
    obtain ⟨h1, h2, h3, h4, h5⟩ := hb
    rcases putEs_live l (m.put i e.blk) _ _ h5 id hi hl with ⟨old, e', q1, q2⟩ | q
    · exact .inl ⟨old, e', .tail _ q1, q2⟩
    · by_cases ei : id = i
      · subst ei
        refine .inl ⟨o, e, .head _, ?_⟩
        show (putEs l (m.put id e.blk)).blk id = e.blk
        rw [q, Mem.blk_put_same _ _ _ hi]
      · refine .inr ?_
        show (putEs l (m.put i e.blk)).blk id = m.blk id
        rw [q, Mem.blk_put_other _ _ _ _ h3 hi ei]

theorem m4_dead2 (id : Nat) : liveB (m4.blk id) = false ∨ 65536 ≤ id := by
  by_cases hi : id < 65536
  · refine .inl ?_
    unfold Mem.blk m4 m3 m2 m1
    rw [T16.get_all _ _ (show Nat.div id 4096 < 16 by show id / 4096 < 16; omega), T16.get_all _ _ (show Nat.mod (Nat.div id 256) 16 < 16 from Nat.mod_lt _ (by omega)), T16.get_all _ _ (show Nat.mod (Nat.div id 16) 16 < 16 from Nat.mod_lt _ (by omega)), T16.get_all _ _ (show Nat.mod id 16 < 16 from Nat.mod_lt _ (by omega))]
    rfl
  · exact .inr (by omega)

theorem hOf_live {nxt : Nat} {l : Rws} {a b id : Nat} (hb : rises a b l = true) (hi : id < 65536) (hl : liveB ((hOf nxt l).mem.blk id) = true) : ∃ old e, (id, old, e) ∈ l ∧ (hOf nxt l).mem.blk id = e.blk := by
  rcases putEs_live l m4 a b hb id hi hl with q | q
  · exact q
  · have hl' : liveB ((putEs l m4).blk id) = true := hl
    rw [q] at hl'
    rcases m4_dead2 id with q2 | q2
    · rw [q2] at hl'; cases hl'
    · omega

theorem putEs_out : ∀ (l : Rws) (m : Mem) (a b : Nat), rises a b l = true → ∀ id, id < 65536 → (∀ old e, (id, old, e) ∉ l) → (putEs l m).blk id = m.blk id
  | [], m, _, _, _, id, _, _ => rfl
  | (i, o, e) :: l, m, a, b, hb, id, hi, hn => by
    simp only [rises, Bool.and_eq_true, Nat.blt_eq] at hb
    obtain ⟨h1, h2, h3, h4, h5⟩ := hb
    have hne : id ≠ i := fun e0 => hn o e (by rw [e0]; exact .head _)
    show (putEs l (m.put i e.blk)).blk id = m.blk id
    rw [putEs_out l _ _ _ h5 id hi (fun old e' hm => hn old e' (.tail _ hm)), Mem.blk_put_other _ _ _ _ h3 hi hne]
theorem putEs_at : ∀ (l : Rws) (m : Mem) (a b : Nat), rises a b l = true → ∀ id old e, (id, old, e) ∈ l → (putEs l m).blk id = e.blk
  | [], m, _, _, _, id, _, _, hm => by cases hm
  | (i, o, e0) :: l, m, a, b, hb, id, old, e, hm => by
    simp only [rises, Bool.and_eq_true, Nat.blt_eq] at hb
    obtain ⟨h1, h2, h3, h4, h5⟩ := hb
    rcases List.mem_cons.1 hm with q | q
    · simp only [Prod.mk.injEq] at q
      obtain ⟨rfl, rfl, rfl⟩ := q
      show (putEs l (m.put id e.blk)).blk id = e.blk
      rw [putEs_out l _ _ _ h5 id h3 (fun old' e' hm' => by
        have := (rises_mem h5 hm').1
        omega), Mem.blk_put_same _ _ _ h3]
    · exact putEs_at l _ _ _ h5 id old e q

/-- The new names: below lo each label keeps its own. -/
abbrev NT := T16 (T16 (T16 (T16 Nat)))
def n1 : T16 Nat := T16.all 0
def n2 : T16 (T16 Nat) := T16.all n1
def n3 : T16 (T16 (T16 Nat)) := T16.all n2
def n4 : NT := T16.all n3
def ntGet (i : Nat) (m : NT) : Nat := (((m.get (Nat.div i 4096)).get (Nat.mod (Nat.div i 256) 16)).get (Nat.mod (Nat.div i 16) 16)).get (Nat.mod i 16)
def ntPut (i x : Nat) (m : NT) : NT :=
  T16.upd (Nat.div i 4096) (T16.upd (Nat.mod (Nat.div i 256) 16) (T16.upd (Nat.mod (Nat.div i 16) 16) (T16.set (Nat.mod i 16) x))) m
def ntOf (lo : Nat) : Rws → NT → NT
  | [], m => m
  | (id, old, _) :: l, m => ntOf lo l (bif Nat.blt id lo then m else ntPut id old m)
def sOf (lo nxt : Nat) (m : NT) (id : Nat) : Option Nat := bif Nat.blt id lo then some id else bif Nat.blt id nxt then some (ntGet id m) else none

/-- A state that is written down: how many labels there are, its blocks, its slots. -/
structure Snap where
  nxt : Nat
  ents : Rws
  slots : List (Nat × V)
def Snap.h (S : Snap) : H := hOf S.nxt S.ents
def frOf : List (Nat × V) → Fr → Fr
  | [], f => f
  | (t, v) :: l, f => frOf l (fset f t v)
def Snap.f (S : Snap) : Fr := frOf S.slots fr0
def slotsle (s : Nat → Option Nat) (f : Fr) : List (Nat × V) → Bool
  | [] => true
  | (t, v) :: l => vle s 4 v (fget f t) && slotsle s f l
def snapleS (s : Nat → Option Nat) (lo : Nat) (f : Fr) (h : H) (S : Snap) : Bool :=
  Nat.ble lo S.nxt && (rises 0 0 S.ents && (entsle s h S.ents && slotsle s f S.slots))
/-- Does a state that is written down say no more than is so? -/
def snaple (lo : Nat) (f : Fr) (h : H) (S : Snap) : Bool := (fun m => snapleS (sOf lo S.nxt m) lo f h S) (ntOf lo S.ents n4)

theorem frOf_le {s : Nat → Option Nat} {f : Fr} : ∀ (l : List (Nat × V)) (g : Fr), (∀ t, vle s 4 (fget g t) (fget f t) = true) → slotsle s f l = true → ∀ t, vle s 4 (fget (frOf l g) t) (fget f t) = true
  | [], g, hg, _, t => hg t
  | (u, v) :: l, g, hg, hb, t => by
    simp only [slotsle, Bool.and_eq_true] at hb
    refine frOf_le l (fset g u v) (fun t => ?_) hb.2 t
    by_cases hi : u < 4096
    · rw [fget_fset _ _ _ _ hi]
      by_cases e : t = u
      · rw [if_pos e, e]; exact hb.1
      · rw [if_neg e]; exact hg t
    · have : Nat.blt u 4096 = false := by rw [← Bool.not_eq_true, Nat.blt_eq]; exact hi
      unfold fset
      rw [this]
      exact hg t

/-- WHAT IS WRITTEN DOWN IS SO, where it says no more. -/
theorem snap_sound {w0 : World} {nb n mask lo : Nat} {f' : Fr} {h h' : H} {S : Snap} (hb : snaple lo f' h' S = true) {r r' : Emb} {a : Act} {w w' : World} (hlo : h.next ≤ lo) (hrel : Rel r h w) (hg : GRel P r) (hbase : Base w0 r h w)
    (hd : Dim mask f') (hs : St P w0 nb n r' (fget f') [] h' a w') (st : Step r h w r' h' w') : Dim mask S.f ∧ ∃ r2, St P w0 nb n r2 (fget S.f) [] S.h a w' ∧ Step r h w r2 S.h w' := by
  unfold snaple at hb
  generalize hsg : sOf lo S.nxt (ntOf lo S.ents n4) = s at hb
  unfold snapleS at hb
  simp only [hsg, Bool.and_eq_true] at hb
  obtain ⟨b1, b2, b3, b4⟩ := hb
  have b1' := Nat.le_of_ble_eq_true b1
  have slow : ∀ id, id < lo → s id = some id := fun id hi => by
    rw [← hsg]
    unfold sOf
    have : Nat.blt id lo = true := by rw [Nat.blt_eq]; exact hi
    rw [this]; rfl
  have shigh : ∀ id, S.nxt ≤ id → s id = none := fun id hi => by
    rw [← hsg]
    unfold sOf
    have e1 : Nat.blt id lo = false := by rw [← Bool.not_eq_true, Nat.blt_eq]; omega
    have e2 : Nat.blt id S.nxt = false := by rw [← Bool.not_eq_true, Nat.blt_eq]; omega
    rw [e1, e2]; rfl
  have hle : r.le (ren s r') := fun id x e => by
    have hlt : id < lo := Nat.lt_of_lt_of_le (hrel.lt_next e) hlo
    show (s id).bind r' = some x
    rw [slow id hlt]
    exact st.le _ _ e
  have slots : ∀ t, vle s 4 (fget S.f t) (fget f' t) = true := frOf_le S.slots fr0 (fun t => by rw [fr0_any]; rfl) b4
  have live : ∀ id, Live S.h id → ∃ old e, (id, old, e) ∈ S.ents ∧ S.h.mem.blk id = e.blk ∧ ren s r' id = r' old ∧ entle s e (h'.mem.blk old) = true ∧ Live h' old := fun id hl => by
    obtain ⟨old, e, q1, q2⟩ := hOf_live b2 hl.1 hl.2
    obtain ⟨q3, q4⟩ := entsle_mem b3 q1
    obtain ⟨_, _, _, q5⟩ := rises_mem b2 q1
    refine ⟨old, e, q1, q2, ?_, q4, q5, (entle_live q4).1⟩
    unfold mapId at q3
    split at q3
    · rename_i c hc
      have := Nat.eq_of_beq_eq_true q3
      subst this
      show (s id).bind r' = r' c
      rw [hc]; rfl
    · cases q3
  have hrel2 : Rel (ren s r') S.h w' := by
    refine ⟨fun id hi hl => ?_, fun id id' b sh m sh' m' hl hl' ho e1 e2 => ?_, fun id hi => ?_⟩
    · obtain ⟨old, e, q1, q2, q3, q4, q5⟩ := live id ⟨hi, hl⟩
      obtain ⟨b, sh, m, g1, g2⟩ := hs.rel.fit old q5.1 q5.2
      exact ⟨b, sh, m, by rw [q3]; exact g1, by rw [q2]; exact entle_fit q4 g2⟩
    · obtain ⟨old, e, q1, q2, q3, q4, q5⟩ := live id hl
      obtain ⟨old', e', q1', q2', q3', q4', q5'⟩ := live id' hl'
      rw [q2, q2'] at ho
      rw [q3] at e1
      rw [q3'] at e2
      have := hs.rel.inj old old' b sh m sh' m' q5 q5' (ho.imp (entle_live q4).2 (entle_live q4').2) e1 e2
      subst this
      exact rises_inj b2 q1 q1'
    · show (s id).bind r' = none
      rw [shigh id hi]; rfl
  have st2 : Step r h w (ren s r') S.h w' := by
    refine ⟨hle, hrel2, st.size, st.keep, fun b hlt ho => ?_, fun b hlt hh => ?_, st.os, st.out, st.tape⟩
    · obtain ⟨id, sh, m, hi, hb', e1⟩ := ho
      obtain ⟨old, e, q1, q2, q3, q4, q5⟩ := live id ⟨hi, live_of_own hb'⟩
      rw [q2] at hb'
      exact st.own b hlt ⟨old, sh, m, q5.1, (entle_live q4).2 hb', by rw [← q3]; exact e1⟩
    · obtain ⟨id, sh, m, hl, e1⟩ := hh
      obtain ⟨old, e, q1, q2, q3, q4, q5⟩ := live id hl
      exact st.held b hlt ⟨old, sh, m, q5, by rw [← q3]; exact e1⟩
  have hdef : a.defers = [] := by
    have := hs.ds
    cases hq : a.defers with
    | nil => rfl
    | cons _ _ => rw [hq] at this; cases this
  refine ⟨fun t ht => ?_, ren s r', ⟨hrel2, GRel.up hle hg, hbase.step st2, fun t => vle_rel s r' 4 _ _ _ (slots t) (hs.tm t), ?_, ?_, hs.sz⟩, st2⟩
  · have h1 := slots t
    rw [hd t ht] at h1
    generalize fget S.f t = v at h1
    cases v <;> first | rfl | (simp [vle, unkle] at h1; done)
  · rw [hdef]; exact .nil
  · rw [hdef]; exact ⟨hs.mks.1, trivial⟩

/-! A loop in pieces. -/
/-- So many rounds. -/
def loopK (body : Fr → Ds → H → RC) : Nat → Fr → Ds → H → RC
  | 0, f, d, h => .ok .norm f d h
  | n + 1, f, d, h => RC.casesOn (body f d h) .fail fun x f d h => X.casesOn x (loopK body n f d h) (fun id => .ok (.exit id) f d h) (.ok .ret f d h)

theorem rounds_piece {ro : Option Nat} {w0 : World} {nb n mask : Nat} {c : Code} {body : Fr → Ds → H → RC} {Q : Exit → Act → World → Prop} {K : Nat}
    (hbody : ∀ (f f' : Fr) (d d' : Ds) (h h' : H) (x : X) (r : Emb) (a : Act) (w : World), Dim mask f → St P w0 nb n r (fget f) d h a w → body f d h = .ok x f' d' h' → c.wpIn (wideR ro) 0 P (Post P w0 nb n mask r h w x f' d' h') a w) :
    ∀ (k : Nat) (f f' : Fr) (d d' : Ds) (h h' : H) (r : Emb) (a : Act) (w : World), Dim mask f → St P w0 nb n r (fget f) d h a w → loopK body k f d h = .ok .norm f' d' h' →
      (∀ r' a' w', Dim mask f' → St P w0 nb n r' (fget f') d' h' a' w' → Step r h w r' h' w' → Code.roundsIn (wideR ro) 0 P c Q K a' w') →
      Code.roundsIn (wideR ro) 0 P c Q (k + K) a w := by
  intro k
  induction k with
  | zero =>
    intro f f' d d' h h' r a w hd hs he hq
    simp only [loopK, RC.ok.injEq, true_and] at he
    obtain ⟨rfl, rfl, rfl⟩ := he
    rw [Nat.zero_add]
    exact hq r a w hd hs (Step.refl hs.rel)
  | succ k ih =>
    intro f f' d d' h h' r a w hd hs he hq
    simp only [loopK] at he
    cases hb : body f d h with
    | fail => rw [hb] at he; simp at he
    | ok x1 f1 d1 h1 =>
      rw [hb] at he
      simp only at he
      rw [show k + 1 + K = (k + K) + 1 by omega, roundsIn_succ]
      refine wpIn_mono (hbody f f1 d d1 h h1 x1 r a w hd hs hb) ?_
      rintro e a1 w1 ⟨hx, hd1, r1, hs1, st1⟩
      cases x1 with
      | norm =>
        simp only at he
        have e1 : e = .normal := hx
        subst e1
        exact ih f1 f' d1 d' h1 h' r1 a1 w1 hd1 hs1 he (fun r' a' w' q1 q2 q3 => hq r' a' w' q1 q2 (st1.trans q3))
      | exit id => simp at he
      | ret => simp at he

/-! States that are written down, from one to the next. -/
def pieceB (lo : Nat) (body : Fr → Ds → H → RC) (S S' : Snap) (k : Nat) : Bool :=
  match loopK body k S.f [] S.h with
  | .ok .norm f d h => (match d with | [] => snaple lo f h S' | _ => false)
  | _ => false
def lastB (lo : Nat) (body : Fr → Ds → H → RC) (S S' : Snap) (k : Nat) : Bool :=
  match loopN body k S.f [] S.h with
  | .ok .ret f d h => (match d with | [] => snaple lo f h S' | _ => false)
  | _ => false

/-- A state that is written down is reached. -/
def At' (P : Program) (w0 : World) (nb n mask : Nat) (r : Emb) (h : H) (w : World) (S : Snap) (a : Act) (w' : World) : Prop :=
  Dim mask S.f ∧ ∃ r2, St P w0 nb n r2 (fget S.f) [] S.h a w' ∧ Step r h w r2 S.h w'

theorem piece_sound {ro : Option Nat} {w0 : World} {nb n mask lo : Nat} {c : Code} {body : Fr → Ds → H → RC} {Q : Exit → Act → World → Prop} {K k : Nat}
    (hbody : ∀ (f f' : Fr) (d d' : Ds) (h h' : H) (x : X) (r : Emb) (a : Act) (w : World), Dim mask f → St P w0 nb n r (fget f) d h a w → body f d h = .ok x f' d' h' → c.wpIn (wideR ro) 0 P (Post P w0 nb n mask r h w x f' d' h') a w)
    {r : Emb} {h : H} {w : World} (hlo : h.next ≤ lo) (hrel : Rel r h w) (hg : GRel P r) (hbase : Base w0 r h w) {S S' : Snap} (hb : pieceB lo body S S' k = true)
    (hq : ∀ a' w', At' P w0 nb n mask r h w S' a' w' → Code.roundsIn (wideR ro) 0 P c Q K a' w') {a1 : Act} {w1 : World} (hs : At' P w0 nb n mask r h w S a1 w1) : Code.roundsIn (wideR ro) 0 P c Q (k + K) a1 w1 := by
  obtain ⟨hd, r1, hs1, st1⟩ := hs
  unfold pieceB at hb
  split at hb
  · rename_i f d h2 he
    split at hb
    · refine rounds_piece hbody k S.f f [] [] S.h h2 r1 a1 w1 hd hs1 he (fun r' a' w' q1 q2 q3 => hq a' w' ?_)
      exact snap_sound hb hlo hrel hg hbase q1 q2 (st1.trans q3)
    · cases hb
  · cases hb

theorem last_sound {ro : Option Nat} {w0 : World} {nb n mask lo : Nat} {c : Code} {body : Fr → Ds → H → RC} {k : Nat}
    (hbody : ∀ (f f' : Fr) (d d' : Ds) (h h' : H) (x : X) (r : Emb) (a : Act) (w : World), Dim mask f → St P w0 nb n r (fget f) d h a w → body f d h = .ok x f' d' h' → c.wpIn (wideR ro) 0 P (Post P w0 nb n mask r h w x f' d' h') a w)
    {r : Emb} {h : H} {w : World} (hlo : h.next ≤ lo) (hrel : Rel r h w) (hg : GRel P r) (hbase : Base w0 r h w) {S S' : Snap} (hb : lastB lo body S S' k = true)
    {a1 : Act} {w1 : World} (hs : At' P w0 nb n mask r h w S a1 w1) : Code.roundsIn (wideR ro) 0 P c (fun e a' w' => e = .ret ∧ At' P w0 nb n mask r h w S' a' w') k a1 w1 := by
  obtain ⟨hd, r1, hs1, st1⟩ := hs
  unfold lastB at hb
  split at hb
  · rename_i f d h2 he
    split at hb
    · refine rounds_mono ?_ k a1 w1 (loop_sound hbody k S.f f [] [] S.h h2 .ret r1 a1 w1 hd hs1 he)
      rintro e a' w' ⟨q0, q1, r', q2, q3⟩
      exact ⟨q0, snap_sound hb hlo hrel hg hbase q1 q2 (st1.trans q3)⟩
    · cases hb
  · cases hb

/-- A chain of pieces: each of so many rounds. -/
inductive Chain (lo : Nat) (body : Fr → Ds → H → RC) (T : Snap) : Snap → Nat → Prop where
  | last {S : Snap} {k : Nat} (h : lastB lo body S T k = true) : Chain lo body T S k
  | step {S S' : Snap} {k K : Nat} (h : pieceB lo body S S' k = true) (hs : Chain lo body T S' K) : Chain lo body T S (k + K)

theorem chain_sound {ro : Option Nat} {w0 : World} {nb n mask lo : Nat} {c : Code} {body : Fr → Ds → H → RC} {T : Snap}
    (hbody : ∀ (f f' : Fr) (d d' : Ds) (h h' : H) (x : X) (r : Emb) (a : Act) (w : World), Dim mask f → St P w0 nb n r (fget f) d h a w → body f d h = .ok x f' d' h' → c.wpIn (wideR ro) 0 P (Post P w0 nb n mask r h w x f' d' h') a w)
    {r : Emb} {h : H} {w : World} (hlo : h.next ≤ lo) (hrel : Rel r h w) (hg : GRel P r) (hbase : Base w0 r h w) {S : Snap} {K : Nat} (hc : Chain lo body T S K) :
    ∀ {a1 : Act} {w1 : World}, At' P w0 nb n mask r h w S a1 w1 → Code.roundsIn (wideR ro) 0 P c (fun e a' w' => e = .ret ∧ At' P w0 nb n mask r h w T a' w') K a1 w1 := by
  induction hc with
  | last hb => exact fun hs => last_sound hbody hlo hrel hg hbase hb hs
  | step hb _ ih => exact fun hs => piece_sound hbody hlo hrel hg hbase hb (fun a' w' q => ih q) hs

/-- The whole loop. -/
theorem chain_loop {w0 : World} {nb n mask lo fuel : Nat} {call : CallFn} (hcall : CallFnOk P w0 call) (hnn : NoNum P) (hdraw : DrawSound P w0 call) {c : Code} (hok : codeOk n c = true) {T S : Snap} {K : Nat}
    (hc : Chain lo (den P call mask fuel c) T S K) {r : Emb} {h : H} {w : World} (hlo : h.next ≤ lo) (hrel : Rel r h w) (hg : GRel P r) (hbase : Base w0 r h w) {a1 : Act} {w1 : World} (hs : At' P w0 nb n mask r h w S a1 w1) :
    (Code.loop c).wp P (fun e a' w' => e = .ret ∧ At' P w0 nb n mask r h w T a' w') a1 w1 := by
  refine wpIn_wide.1 (wpIn_loop_rounds (F := wideR none) (n := 0) K ?_)
  refine chain_sound (ro := none) ?_ hlo hrel hg hbase hc hs
  intro f f' d d' h h' x r a w hd hs he
  exact den_sound (ro := none) hcall hnn hdraw c f f' d d' h h' x r a w hok (.inl rfl) hd hs he

end Go.Ev

namespace Go.Ev

variable {P : Program}

/-- The same, and old labels keep their places. -/
theorem snap_sound2 {w0 : World} {nb n mask lo : Nat} {f' : Fr} {h h' : H} {S : Snap} (hb : snaple lo f' h' S = true) {r r' : Emb} {a : Act} {w w' : World} (hlo : h.next ≤ lo) (hrel : Rel r h w) (hg : GRel P r) (hbase : Base w0 r h w)
    (hd : Dim mask f') (hs : St P w0 nb n r' (fget f') [] h' a w') (st : Step r h w r' h' w') : Dim mask S.f ∧ ∃ r2, St P w0 nb n r2 (fget S.f) [] S.h a w' ∧ Step r h w r2 S.h w' ∧ (∀ id, id < lo → r2 id = r' id) ∧ (∀ id, id < lo → Live S.h id → Live h' id ∧ ∃ e, (id, id, e) ∈ S.ents) := by
  unfold snaple at hb
  generalize hsg : sOf lo S.nxt (ntOf lo S.ents n4) = s at hb
  unfold snapleS at hb
  simp only [hsg, Bool.and_eq_true] at hb
  obtain ⟨b1, b2, b3, b4⟩ := hb
  have b1' := Nat.le_of_ble_eq_true b1
  have slow : ∀ id, id < lo → s id = some id := fun id hi => by
    rw [← hsg]
    unfold sOf
    have : Nat.blt id lo = true := by rw [Nat.blt_eq]; exact hi
    rw [this]; rfl
  have shigh : ∀ id, S.nxt ≤ id → s id = none := fun id hi => by
    rw [← hsg]
    unfold sOf
    have e1 : Nat.blt id lo = false := by rw [← Bool.not_eq_true, Nat.blt_eq]; omega
    have e2 : Nat.blt id S.nxt = false := by rw [← Bool.not_eq_true, Nat.blt_eq]; omega
    rw [e1, e2]; rfl
  have hle : r.le (ren s r') := fun id x e => by
    have hlt : id < lo := Nat.lt_of_lt_of_le (hrel.lt_next e) hlo
    show (s id).bind r' = some x
    rw [slow id hlt]
    exact st.le _ _ e
  have slots : ∀ t, vle s 4 (fget S.f t) (fget f' t) = true := frOf_le S.slots fr0 (fun t => by rw [fr0_any]; rfl) b4
  have live : ∀ id, Live S.h id → ∃ old e, (id, old, e) ∈ S.ents ∧ S.h.mem.blk id = e.blk ∧ ren s r' id = r' old ∧ entle s e (h'.mem.blk old) = true ∧ Live h' old := fun id hl => by
    obtain ⟨old, e, q1, q2⟩ := hOf_live b2 hl.1 hl.2
    obtain ⟨q3, q4⟩ := entsle_mem b3 q1
    obtain ⟨_, _, _, q5⟩ := rises_mem b2 q1
    refine ⟨old, e, q1, q2, ?_, q4, q5, (entle_live q4).1⟩
    unfold mapId at q3
    split at q3
    · rename_i c hc
      have := Nat.eq_of_beq_eq_true q3
      subst this
      show (s id).bind r' = r' c
      rw [hc]; rfl
    · cases q3
  have hrel2 : Rel (ren s r') S.h w' := by
    refine ⟨fun id hi hl => ?_, fun id id' b sh m sh' m' hl hl' ho e1 e2 => ?_, fun id hi => ?_⟩
    · obtain ⟨old, e, q1, q2, q3, q4, q5⟩ := live id ⟨hi, hl⟩
      obtain ⟨b, sh, m, g1, g2⟩ := hs.rel.fit old q5.1 q5.2
      exact ⟨b, sh, m, by rw [q3]; exact g1, by rw [q2]; exact entle_fit q4 g2⟩
    · obtain ⟨old, e, q1, q2, q3, q4, q5⟩ := live id hl
      obtain ⟨old', e', q1', q2', q3', q4', q5'⟩ := live id' hl'
      rw [q2, q2'] at ho
      rw [q3] at e1
      rw [q3'] at e2
      have := hs.rel.inj old old' b sh m sh' m' q5 q5' (ho.imp (entle_live q4).2 (entle_live q4').2) e1 e2
      subst this
      exact rises_inj b2 q1 q1'
    · show (s id).bind r' = none
      rw [shigh id hi]; rfl
  have st2 : Step r h w (ren s r') S.h w' := by
    refine ⟨hle, hrel2, st.size, st.keep, fun b hlt ho => ?_, fun b hlt hh => ?_, st.os, st.out, st.tape⟩
    · obtain ⟨id, sh, m, hi, hb', e1⟩ := ho
      obtain ⟨old, e, q1, q2, q3, q4, q5⟩ := live id ⟨hi, live_of_own hb'⟩
      rw [q2] at hb'
      exact st.own b hlt ⟨old, sh, m, q5.1, (entle_live q4).2 hb', by rw [← q3]; exact e1⟩
    · obtain ⟨id, sh, m, hl, e1⟩ := hh
      obtain ⟨old, e, q1, q2, q3, q4, q5⟩ := live id hl
      exact st.held b hlt ⟨old, sh, m, q5, by rw [← q3]; exact e1⟩
  have hdef : a.defers = [] := by
    have := hs.ds
    cases hq : a.defers with
    | nil => rfl
    | cons _ _ => rw [hq] at this; cases this
  refine ⟨fun t ht => ?_, ren s r', ⟨hrel2, GRel.up hle hg, hbase.step st2, fun t => vle_rel s r' 4 _ _ _ (slots t) (hs.tm t), ?_, ?_, hs.sz⟩, st2, fun id hi => ?_, fun id hi hl => ?_⟩
  · have h1 := slots t
    rw [hd t ht] at h1
    generalize fget S.f t = v at h1
    cases v <;> first | rfl | (simp [vle, unkle] at h1; done)
  · rw [hdef]; exact .nil
  · rw [hdef]; exact ⟨hs.mks.1, trivial⟩
  · show (s id).bind r' = r' id
    rw [slow id hi]; rfl
  · obtain ⟨old, e, q1, q2, q3, q4, q5⟩ := live id hl
    have hm := (entsle_mem b3 q1).1
    unfold mapId at hm
    rw [slow id hi] at hm
    have := Nat.eq_of_beq_eq_true hm
    subst this
    exact ⟨q5, e, q1⟩

/-! Blocks that a piece does not come to. -/
def killEs : Rws → Mem → Mem
  | [], m => m
  | (id, _, _) :: l, m => killEs l (m.put id .dead)
theorem killEs_live : ∀ (l : Rws) (m : Mem) (a b : Nat), rises a b l = true → ∀ id, id < 65536 → liveB ((killEs l m).blk id) = true → (killEs l m).blk id = m.blk id ∧ ∀ old e, (id, old, e) ∉ l
  | [], m, _, _, _, id, _, _ => ⟨rfl, fun _ _ h => by cases h⟩
  | (i, o, e) :: l, m, a, b, hb, id, hi, hl => by
    simp only [rises, Bool.and_eq_true, Nat.blt_eq] at hb
    obtain ⟨h1, h2, h3, h4, h5⟩ := hb
    obtain ⟨q1, q2⟩ := killEs_live l (m.put i .dead) _ _ h5 id hi hl
    have hl' : liveB ((killEs l (m.put i .dead)).blk id) = true := hl
    rw [q1] at hl'
    have hne : id ≠ i := fun e0 => by
      subst e0
      rw [Mem.blk_put_same _ _ _ hi] at hl'
      cases hl'
    refine ⟨?_, fun old e' hm => ?_⟩
    · show (killEs l (m.put i .dead)).blk id = m.blk id
      rw [q1, Mem.blk_put_other _ _ _ _ h3 hi hne]
    · rcases List.mem_cons.1 hm with q | q
      · cases q; exact hne rfl
      · exact q2 old e' q
/-- A memory in which the blocks of S were turned into those of T. -/
def overlay (h : H) (S T : Snap) : H := ⟨T.nxt, putEs T.ents (killEs S.ents h.mem)⟩

theorem overlay_live {h : H} {S T : Snap} (hS : rises 0 0 S.ents = true) (hT : rises 0 0 T.ents = true) {id : Nat} (hl : Live (overlay h S T) id) :
    (Live T.h id ∧ (overlay h S T).mem.blk id = T.h.mem.blk id) ∨ ((∀ old e, (id, old, e) ∉ T.ents) ∧ (∀ old e, (id, old, e) ∉ S.ents) ∧ Live h id ∧ (overlay h S T).mem.blk id = h.mem.blk id) := by
  obtain ⟨hi, hb⟩ := hl
  by_cases hm : ∃ old e, (id, old, e) ∈ T.ents
  · obtain ⟨old, e, hm⟩ := hm
    have e1 : (overlay h S T).mem.blk id = e.blk := putEs_at _ _ _ _ hT id old e hm
    have e2 : T.h.mem.blk id = e.blk := putEs_at _ _ _ _ hT id old e hm
    refine .inl ⟨⟨hi, ?_⟩, by rw [e1, e2]⟩
    rw [e2, ← e1]
    exact hb
  · have hm' : ∀ old e, (id, old, e) ∉ T.ents := fun old e h => hm ⟨old, e, h⟩
    have e1 : (overlay h S T).mem.blk id = (killEs S.ents h.mem).blk id := putEs_out _ _ _ _ hT id hi hm'
    have hb' := hb
    rw [e1] at hb'
    obtain ⟨q1, q2⟩ := killEs_live _ _ _ _ hS id hi hb'
    refine .inr ⟨hm', q2, ⟨hi, ?_⟩, by rw [e1, q1]⟩
    rw [← q1]
    exact hb'

/-- What a step from S to T does not come to stays. -/
theorem overlay_sound {lo : Nat} {S T : Snap} {r1 rS rT : Emb} {h1 : H} {w1 wT : World} (hS : rises 0 0 S.ents = true) (hT : rises 0 0 T.ents = true) (hSn : S.nxt ≤ lo)
    (hr : Rel r1 h1 w1) (hrS : Rel rS S.h w1) (h12 : ∀ id, id < lo → rS id = r1 id) (hlv : ∀ id, id < lo → Live S.h id → Live h1 id ∧ ∃ e, (id, id, e) ∈ S.ents) (hr1S : r1.le rS)
    (hown : ∀ b, b < w1.heap.size → Own rS S.h b → Own r1 h1 b) (hheld : ∀ b, b < w1.heap.size → Held rS S.h b → Held r1 h1 b)
    (st : Step rS S.h w1 rT T.h wT) : Step r1 h1 w1 rT (overlay h1 S T) wT := by
  have hleT : r1.le rT := Emb.le_trans hr1S st.le
  -- a label of S
  have hSlt : ∀ id, Live S.h id → ∀ x, rS id = some x → id < lo := fun id hl x e => Nat.lt_of_lt_of_le (hrS.lt_next e) hSn
  have free : ∀ id b sh m, Live h1 id → ownB (h1.mem.blk id) = true → (∀ old e, (id, old, e) ∉ S.ents) → r1 id = some (b, sh, m) → ¬ Held rS S.h b := fun id b sh m hl how hno e hh => by
    obtain ⟨i, sh', m', hl', e'⟩ := hh
    have hilt := hSlt i hl' _ e'
    obtain ⟨g1, e0, g2⟩ := hlv i hilt hl'
    rw [h12 i hilt] at e'
    have := hr.inj i id b sh' m' sh m g1 hl (.inr how) e' e
    subst this
    exact hno i e0 g2
  have freeO : ∀ id b sh m, Live h1 id → (∀ old e, (id, old, e) ∉ S.ents) → r1 id = some (b, sh, m) → ¬ Own rS S.h b := fun id b sh m hl hno e ho => by
    obtain ⟨i, sh', m', hi, hb, e'⟩ := hown b (hr.lt hl e) ho
    have := hr.inj i id b sh' m' sh m ⟨hi, live_of_own hb⟩ hl (.inl hb) e' e
    subst this
    exact free i b sh m hl hb hno e ho.held
  have same : ∀ id b sh m, Live h1 id → (∀ old e, (id, old, e) ∉ S.ents) → r1 id = some (b, sh, m) → wT.heap[b]? = w1.heap[b]? := fun id b sh m hl hno e =>
    st.keep b (hr.lt hl e) (freeO id b sh m hl hno e)
  have hrel : Rel rT (overlay h1 S T) wT := by
    refine ⟨fun id hi hl => ?_, fun i i' b sh m sh' m' hl hl' ho e e' => ?_, fun id hi => ?_⟩
    · rcases overlay_live hS hT ⟨hi, hl⟩ with ⟨g1, g2⟩ | ⟨g1, g2, g3, g4⟩
      · obtain ⟨b, sh, m, k1, k2⟩ := st.rel.fit id g1.1 g1.2
        exact ⟨b, sh, m, k1, by rw [g2]; exact k2⟩
      · obtain ⟨b, sh, m, k1, k2⟩ := hr.fit id g3.1 g3.2
        exact ⟨b, sh, m, hleT _ _ k1, by rw [g4]; exact k2.keep hleT (same id b sh m g3 g2 k1)⟩
    · have key : ∀ i i' b sh m sh' m', Live T.h i → Live h1 i' → (∀ old e, (i', old, e) ∉ S.ents) → ownB (T.h.mem.blk i) = true ∨ ownB (h1.mem.blk i') = true → rT i = some (b, sh, m) → rT i' = some (b, sh', m') → False := fun i i' b sh m sh' m' g1 g2 g3 ho e e' => by
        obtain ⟨b2, sh2, m2, k1, k2⟩ := hr.fit i' g2.1 g2.2
        have k3 := hleT _ _ k1
        rw [e'] at k3
        cases k3
        have hlt := hr.lt g2 k1
        rcases ho with ho | ho
        · exact freeO i' b sh' m' g2 g3 k1 (st.own b hlt ⟨i, sh, m, g1.1, ho, e⟩)
        · exact free i' b sh' m' g2 ho g3 k1 (st.held b hlt ⟨i, sh, m, g1, e⟩)
      rcases overlay_live hS hT hl with ⟨g1, g2⟩ | ⟨g1, g2, g3, g4⟩ <;> rcases overlay_live hS hT hl' with ⟨g1', g2'⟩ | ⟨g1', g2', g3', g4'⟩
      · rw [g2, g2'] at ho
        exact st.rel.inj i i' b sh m sh' m' g1 g1' ho e e'
      · rw [g2, g4'] at ho
        exact (key i i' b sh m sh' m' g1 g3' g2' ho e e').elim
      · rw [g4, g2'] at ho
        exact (key i' i b sh' m' sh m g1' g3 g2 ho.symm e' e).elim
      · rw [g4, g4'] at ho
        obtain ⟨b2, sh2, m2, k1, _⟩ := hr.fit i g3.1 g3.2
        obtain ⟨b3, sh3, m3, k2, _⟩ := hr.fit i' g3'.1 g3'.2
        have q1 := hleT _ _ k1
        have q2 := hleT _ _ k2
        rw [e] at q1
        rw [e'] at q2
        cases q1
        cases q2
        exact hr.inj i i' b sh m sh' m' g3 g3' ho k1 k2
    · exact st.rel.new id hi
  refine ⟨hleT, hrel, st.size, fun b hlt hno => st.keep b hlt (fun ho => hno (hown b hlt ho)), fun b hlt ho => ?_, fun b hlt hh => ?_, st.os, st.out, st.tape⟩
  · obtain ⟨id, sh, m, hi, hb, e⟩ := ho
    rcases overlay_live hS hT ⟨hi, live_of_own hb⟩ with ⟨g1, g2⟩ | ⟨g1, g2, g3, g4⟩
    · rw [g2] at hb
      exact hown b hlt (st.own b hlt ⟨id, sh, m, hi, hb, e⟩)
    · rw [g4] at hb
      obtain ⟨b2, sh2, m2, k1, _⟩ := hr.fit id g3.1 g3.2
      have q1 := hleT _ _ k1
      rw [e] at q1
      cases q1
      exact ⟨id, sh, m, hi, hb, k1⟩
  · obtain ⟨id, sh, m, hl, e⟩ := hh
    rcases overlay_live hS hT hl with ⟨g1, g2⟩ | ⟨g1, g2, g3, g4⟩
    · exact hheld b hlt (st.held b hlt ⟨id, sh, m, g1, e⟩)
    · obtain ⟨b2, sh2, m2, k1, _⟩ := hr.fit id g3.1 g3.2
      have q1 := hleT _ _ k1
      rw [e] at q1
      cases q1
      exact ⟨id, sh, m, g3, k1⟩

end Go.Ev

namespace Go.Ev

variable {P : Program}

def veqL : List V → List V → Bool
  | [], [] => true
  | x :: xs, y :: ys => veq x y && veqL xs ys
  | _, _ => false
theorem veqL_eq : ∀ {xs ys : List V}, veqL xs ys = true → xs = ys
  | [], [], _ => rfl
  | x :: xs, y :: ys, h => by
    simp only [veqL, Bool.and_eq_true] at h
    rw [veq_eq h.1, veqL_eq h.2]
  | [], _ :: _, h => by simp [veqL] at h
  | _ :: _, [], h => by simp [veqL] at h

/-- A call that began as S says ends as T says. -/
def pieceC (lo : Nat) (call : CallFn) (g : FuncId) (avs : List V) (S T : Snap) : Bool :=
  match call g avs S.h with
  | some (v, h') => snaple lo (fset fr0 0 v) h' T
  | none => false
/-- What a call comes to that begins as S says: T. -/
def callE (lo : Nat) (avs : List V) (S T : Snap) (vs : List V) (h : H) : Option (V × H) :=
  bif Nat.beq h.next lo && (veqL vs avs && (snaple lo fr0 h S && (Nat.ble S.nxt lo && (rises 0 0 S.ents && rises 0 0 T.ents)))) then some (fget T.f 0, overlay h S T) else none

theorem callE_ok {W : World} {call : CallFn} (hcall : CallFnOk P W call) {g : FuncId} (hy : Nat.beq g yieldG = false) {lo : Nat} {avs : List V} {S T : Snap} (hp : pieceC lo call g avs S T = true) {vs : List V} {h h' : H} {v : V}
    (he : callE lo avs S T vs h = some (v, h')) : CallOk P W g vs h v h' := by
  intro r w xs hr hg hba hvs
  unfold callE at he
  cases hb : (Nat.beq h.next lo && (veqL vs avs && (snaple lo fr0 h S && (Nat.ble S.nxt lo && (rises 0 0 S.ents && rises 0 0 T.ents)))))
  · rw [hb] at he; cases he
  rw [hb] at he
  simp only [cond_true, Option.some.injEq, Prod.mk.injEq] at he
  obtain ⟨rfl, rfl⟩ := he
  simp only [Bool.and_eq_true] at hb
  obtain ⟨b1, b2, b3, b4, b5, b6⟩ := hb
  have hlo : h.next ≤ lo := Nat.le_of_eq (Nat.eq_of_beq_eq_true b1)
  obtain rfl := veqL_eq b2
  have hSn := Nat.le_of_ble_eq_true b4
  obtain ⟨hd0, hs0⟩ := St.enter (P := P) (n := 0) (mask := 0) hr hg hba (.nil : VsRel r [] (#[] : Array Value).toList)
  obtain ⟨-, rS, hsS, stS, k1, k2⟩ := snap_sound2 b3 hlo hr hg hba hd0 hs0 (Step.refl hr)
  unfold pieceC at hp
  split at hp
  · rename_i v0 h0 hc
    refine ((hcall g vs S.h v0 h0 hc).1 hy rS w xs hsS.rel hsS.gl hsS.base (hvs.up stS.le)).mono ?_
    rintro e w' ⟨z, r', rfl, st1, hv⟩
    have hb1 := hsS.base.step st1
    obtain ⟨hd1, hs1⟩ := St.enter (P := P) (n := 0) (mask := 1) st1.rel (GRel.up st1.le hsS.gl) hb1 (VsRel.cons hv .nil : VsRel r' [v0] (#[z] : Array Value).toList)
    have e1 : args0 1 0 [v0] fr0 = fset fr0 0 v0 := rfl
    rw [e1] at hd1 hs1
    obtain ⟨-, rT, hsT, stT, -, -⟩ := snap_sound2 hp hSn hsS.rel hsS.gl hsS.base hd1 hs1 st1
    have stO := overlay_sound b5 b6 hSn hr hsS.rel k1 k2 stS.le stS.own stS.held stT
    refine ⟨z, rT, rfl, stO, ?_⟩
    have := hsT.tm 0
    simpa [Array.getD_eq_getD_getElem?] using this
  · cases hp

end Go.Ev

namespace Go.Ev

variable {P : Program}

/-- The labels that are names. -/
def isNam (id : Nat) : Bool := Nat.ble 40000 id && Nat.blt id 40040
/-- What is said otherwise. -/
def cvIn : List (V × V) → V → V → Bool
  | [], _, _ => false
  | (a, b) :: l, v, u => (veq1 a v && veq1 b u) || cvIn l v u
theorem cvIn_mem : ∀ {l : List (V × V)} {v u : V}, cvIn l v u = true → (v, u) ∈ l
  | [], _, _, h => by cases h
  | (a, b) :: l, v, u, h => by
    simp only [cvIn, Bool.or_eq_true, Bool.and_eq_true] at h
    rcases h with h | h
    · rw [veq1_eq h.1, veq1_eq h.2]; exact .head _
    · exact .tail _ (cvIn_mem h)
def vleC1 (s : Nat → Option Nat) (p : V → V → Bool) (v u : V) : Bool :=
  match v, u with
  | .any, _ => true
  | .bool a, .bool b => a == b
  | .int t a, .int t' b => Nat.beq (kc t) (kc t') && eqI a b
  | .str n l, .str m j => Nat.beq n m && Nat.beq l j
  | .nilp, .nilp => true
  | .ptr a o, .ptr b o' => mapId s a b && Nat.beq o o'
  | .nils, .nils => true
  | .slice a o l c e, .slice b o' l' c' e' => mapId s a b && (Nat.beq o o' && (Nat.beq l l' && ((Nat.ble c c' && Nat.ble l c) && Nat.beq e e')))
  | .fn (.func f) xs ys, .fn (.func f') xs' ys' => Nat.beq f f' && (vles p xs xs' && vles p ys ys')
  | .nilFn, .nilFn => true
  | .iface t x, .iface t' y => Nat.beq t t' && p x y
  | .nilI, .nilI => true
  | .mapv a, .mapv b => mapId s a b
  | .nilm, .nilm => true
  | .agg xs, .agg ys => vles p xs ys
  | .tup xs, .tup ys => vles p xs ys
  | .cls m q, .cls m' q' => (Nat.beq m 0 && Nat.beq m' 0) && (Nat.beq (Nat.mod q 8) (Nat.mod q' 8) && (Nat.blt 0 (Nat.div q 8) && (Nat.blt 0 (Nat.div q' 8) && mapId s (Nat.div q 8) (Nat.div q' 8))))
  | .cl2 m q, u => Nat.beq m 0 && unkle q u
  | .cl1 m c, .cl1 m' c' => (Nat.beq m 0 && Nat.beq m' 0) && ((Nat.beq c c' && (Nat.beq c 12 || Nat.ble 32 c)) && ((mapId s 10 10 && mapId s 11 11) && (mapId s 12 12 && mapId s 13 13)))
  | .msk m q, .msk m' q' => (Nat.beq m 0 && Nat.beq m' 0) && (Nat.beq (Nat.mod q 4) (Nat.mod q' 4) &&
      (bif Nat.beq (Nat.mod q 4) 1 then symle s (Nat.div q 4) (Nat.div q' 4)
       else bif Nat.beq (Nat.mod q 4) 2 then mapId s (Nat.mod (Nat.div q 4) 65536) (Nat.mod (Nat.div q' 4) 65536) && (Nat.beq (Nat.mod (Nat.div (Nat.div q 4) 65536) 16) (Nat.mod (Nat.div (Nat.div q' 4) 65536) 16) && symle s (Nat.div (Nat.div (Nat.div q 4) 65536) 16) (Nat.div (Nat.div (Nat.div q' 4) 65536) 16))
       else bif Nat.beq (Nat.mod q 4) 0 then mapId s (Nat.mod (Nat.div q 4) 65536) (Nat.mod (Nat.div q' 4) 65536) && mapId s (Nat.div (Nat.div q 4) 65536) (Nat.div (Nat.div q' 4) 65536)
       else Nat.beq (Nat.mod q 4) 3 && ((satN (mapId s) (Nat.mod (Nat.div q 4) 65536) (Nat.mod (Nat.div q' 4) 65536) 10 && satN (mapId s) (Nat.mod (Nat.div (Nat.div q 4) 65536) 65536) (Nat.mod (Nat.div (Nat.div q' 4) 65536) 65536) 10) && mapId s (Nat.div (Nat.div (Nat.div q 4) 65536) 65536) (Nat.div (Nat.div (Nat.div q' 4) 65536) 65536))))
  | _, _ => false
def vleC (s : Nat → Option Nat) (cv : List (V × V)) : Nat → V → V → Bool
  | 0, _, _ => false
  | k + 1, v, u => vleC1 s (vleC s cv k) v u || cvIn cv v u

/-- What is so of the labels, before and behind. -/
def Labs (s : Nat → Option Nat) (r r2 : Emb) : Prop := ∀ a b x, s a = some b → r b = some x → r2 a = some x
theorem Labs.of {s : Nat → Option Nat} {r r2 : Emb} (N : Labs s r r2) {a b : Nat} {x : Nat × Nat × Nat} (h : mapId s a b = true) (hr : r b = some x) : r2 a = some x := by
  unfold mapId at h
  split at h
  · rename_i c hc
    obtain rfl := Nat.eq_of_beq_eq_true h
    exact N _ _ _ hc hr
  · cases h
theorem symleC {s : Nat → Option Nat} {r r2 : Emb} (N : Labs s r r2) {q q' : Nat} {n : Int} (hb : symle s q q' = true) (h : SNum r q' n) : SNum r2 q n := by
  unfold symle at hb
  simp only [Bool.and_eq_true] at hb
  obtain ⟨⟨b1, b2⟩, b3⟩ := hb
  have g1 := Nat.le_of_ble_eq_true b1
  have g2 := Nat.le_of_ble_eq_true b2
  refine ⟨by have := h.1; omega, by have := h.2.1; omega, ?_⟩
  cases h0 : Nat.beq (sId q) 0
  · rw [h0] at b3
    simp only [cond_false, Bool.and_eq_true, Nat.blt_eq] at b3
    obtain ⟨k0, k1, k2, k3⟩ := b3
    have k2' := Nat.le_of_ble_eq_true k2
    have k3' := Nat.le_of_ble_eq_true k3
    rcases h.2.2 with e | ⟨x, y, z, e1, e2, e3⟩
    · omega
    · exact .inr ⟨x, y, z, N.of k1 e1, by omega, by omega⟩
  · exact .inl (Nat.eq_of_beq_eq_true h0)
theorem vlesC_rel {r r2 : Emb} {p : V → V → Bool} (hp : ∀ v u x, p v u = true → VRel r u x → VRel r2 v x) :
    ∀ (vs us : List V) (xs : List Value), vles p vs us = true → VsRel r us xs → VsRel r2 vs xs
  | [], [], _, _, h => by cases h; exact .nil
  | v :: vs, u :: us, xs, hb, h => by
    simp only [vles, Bool.and_eq_true] at hb
    cases h with
    | cons h hs => exact .cons (hp _ _ _ hb.1 h) (vlesC_rel hp vs us _ hb.2 hs)
  | [], _ :: _, _, hb, _ => by simp [vles] at hb
  | _ :: _, [], _, hb, _ => by simp [vles] at hb
theorem vleC1_rel {s : Nat → Option Nat} {r r2 : Emb} (N : Labs s r r2) {p : V → V → Bool} (hp : ∀ v u x, p v u = true → VRel r u x → VRel r2 v x) (v u : V) (x : Value) (hb : vleC1 s p v u = true) (h : VRel r u x) : VRel r2 v x := by
  unfold vleC1 at hb
  split at hb
  · exact .any _
  · have e : _ = _ := eq_of_beq hb
    subst e
    cases h
    exact .bool _
  · simp only [Bool.and_eq_true] at hb
    obtain ⟨h1, h2⟩ := hb
    rw [eqI_eq] at h2
    have e1 := kc_inj h1
    simp only [beq_iff_eq] at h2
    subst e1 h2
    cases h
    exact .int _ _
  · simp only [Bool.and_eq_true] at hb
    obtain ⟨h1, h2⟩ := hb
    obtain rfl := Nat.eq_of_beq_eq_true h1
    obtain rfl := Nat.eq_of_beq_eq_true h2
    cases h with
    | str hn => exact .str hn
  · cases h; exact .nilp
  · simp only [Bool.and_eq_true] at hb
    obtain ⟨h1, h2⟩ := hb
    obtain rfl := Nat.eq_of_beq_eq_true h2
    cases h with
    | ptr hq => exact .ptr (N.of h1 hq)
  · cases h; exact .nils
  · simp only [Bool.and_eq_true] at hb
    obtain ⟨h1, h2, h3, ⟨h4, h6⟩, h5⟩ := hb
    obtain rfl := Nat.eq_of_beq_eq_true h2
    obtain rfl := Nat.eq_of_beq_eq_true h3
    obtain rfl := Nat.eq_of_beq_eq_true h5
    have h4' := Nat.le_of_ble_eq_true h4
    have h6' := Nat.le_of_ble_eq_true h6
    cases h with
    | slice hq q1 q2 q3 => exact .slice (N.of h1 hq) h6' (Nat.le_trans h4' q2) q3
    | slice0 hq q3 =>
      obtain rfl : _ = 0 := Nat.eq_zero_of_le_zero h4'
      exact .slice0 (N.of h1 hq) q3
  · simp only [Bool.and_eq_true] at hb
    obtain ⟨h1, h2, h3⟩ := hb
    obtain rfl := Nat.eq_of_beq_eq_true h1
    cases h with
    | fn hf g1 g2 => exact .fn rfl (vlesC_rel hp _ _ _ h2 g1) (vlesC_rel hp _ _ _ h3 g2)
  · cases h; exact .nilFn
  · simp only [Bool.and_eq_true] at hb
    obtain ⟨h1, h2⟩ := hb
    obtain rfl := Nat.eq_of_beq_eq_true h1
    cases h with
    | iface hq => exact .iface (hp _ _ _ h2 hq)
  · cases h; exact .nilI
  · cases h with
    | mapv hq => exact .mapv (N.of hb hq)
  · cases h; exact .nilm
  · cases h with
    | agg hq => exact .agg (vlesC_rel hp _ _ _ hb hq)
  · cases h with
    | tup hq => exact .tup (vlesC_rel hp _ _ _ hb hq)
  · rename_i m q m' q'
    simp only [Bool.and_eq_true, Nat.blt_eq] at hb
    obtain ⟨⟨b1, b2⟩, b3, b4, b5, b6⟩ := hb
    obtain rfl := Nat.eq_of_beq_eq_true b1
    obtain rfl := Nat.eq_of_beq_eq_true b2
    have b3' : q % 8 = q' % 8 := Nat.eq_of_beq_eq_true b3
    have b4' : 0 < q / 8 := b4
    have b5' : 0 < q' / 8 := b5
    have b6' : mapId s (q / 8) (q' / 8) = true := b6
    generalize hv : V.cls 0 q' = v at h
    cases h with
    | cls hm _ => cases hv; omega
    | @nint id x y z hq =>
      cases hv
      have e : q = 8 * (q / 8) := by omega
      rw [e]
      exact .nint (N.of (by rw [show 8 * id / 8 = id by omega] at b6'; exact b6') hq)
    | @nstr id x y z hq hx =>
      cases hv
      have e : q = 8 * (q / 8) + 1 := by omega
      rw [e]
      exact .nstr (N.of (by rw [show (8 * id + 1) / 8 = id by omega] at b6'; exact b6') hq) hx
    | @nkind id x y z hq hx =>
      cases hv
      have e : q = 8 * (q / 8) + 2 := by omega
      rw [e]
      exact .nkind (N.of (by rw [show (8 * id + 2) / 8 = id by omega] at b6'; exact b6') hq) hx
    | @nshort id x y c z cap a hq hz ha =>
      cases hv
      have e : q = 8 * (q / 8) + 3 := by omega
      rw [e]
      exact .nshort (N.of (by rw [show (8 * id + 3) / 8 = id by omega] at b6'; exact b6') hq) hz ha
    | @nlong id x y z cap a hq hz =>
      cases hv
      have e : q = 8 * (q / 8) + 4 := by omega
      rw [e]
      exact .nlong (N.of (by rw [show (8 * id + 4) / 8 = id by omega] at b6'; exact b6') hq) hz
    | nle _ => cases hv; omega
    | ngt _ => cases hv; omega
    | _ => cases hv
  · simp only [Bool.and_eq_true] at hb
    obtain rfl := Nat.eq_of_beq_eq_true hb.1
    exact unkle_rel hb.2 h
  · rename_i m c m' c'
    simp only [Bool.and_eq_true, Bool.or_eq_true] at hb
    obtain ⟨⟨b1, b2⟩, ⟨b3, b4⟩, ⟨b5, b6⟩, b7, b8⟩ := hb
    obtain rfl := Nat.eq_of_beq_eq_true b1
    obtain rfl := Nat.eq_of_beq_eq_true b2
    obtain rfl := Nat.eq_of_beq_eq_true b3
    have b4' : c = 12 ∨ 32 ≤ c := b4.imp Nat.eq_of_beq_eq_true Nat.le_of_ble_eq_true
    exact nam_up b4' (fun _ h => N.of b5 h) (fun _ h => N.of b6 h) (fun _ h => N.of b7 h) (fun _ h => N.of b8 h) h
  · rename_i m q m' q'
    simp only [Bool.and_eq_true] at hb
    obtain ⟨⟨b1, b2⟩, b3, b4⟩ := hb
    obtain rfl := Nat.eq_of_beq_eq_true b1
    obtain rfl := Nat.eq_of_beq_eq_true b2
    have b3' : q % 4 = q' % 4 := Nat.eq_of_beq_eq_true b3
    cases h1 : Nat.beq (Nat.mod q 4) 1
    · rw [h1] at b4
      simp only [cond_false] at b4
      cases h2 : Nat.beq (Nat.mod q 4) 2
      · rw [h2] at b4
        simp only [cond_false] at b4
        cases h0 : Nat.beq (Nat.mod q 4) 0
        · rw [h0] at b4
          simp only [cond_false, Bool.and_eq_true] at b4
          obtain ⟨c1, ⟨c2, c3⟩, c4⟩ := b4
          have c1' : q % 4 = 3 := Nat.eq_of_beq_eq_true c1
          obtain ⟨b, o, z, cap, _, rfl, g1, g3⟩ := sat_inv h (by omega)
          have e : q = 4 * (q / 4 % 65536 + 65536 * (q / 4 / 65536 % 65536 + 65536 * (q / 4 / 65536 / 65536))) + 3 := by omega
          rw [e]
          exact .sat (by omega) (by omega) (fun j hj => by
            obtain ⟨x, m, k1, k2, k3⟩ := g1 j hj
            exact ⟨x, m, N.of (satN_of c2 j hj) k1, N.of (satN_of c3 j hj) k2, k3⟩) (N.of c4 g3)
        · rw [h0] at b4
          simp only [cond_true, Bool.and_eq_true] at b4
          obtain ⟨c2, c3⟩ := b4
          have c1' : q % 4 = 0 := Nat.eq_of_beq_eq_true h0
          obtain ⟨x, y, rfl, g1, g2, g3⟩ := snx_inv h (by omega)
          have e : q = 4 * (q / 4 % 65536 + 65536 * (q / 4 / 65536)) := by omega
          rw [e]
          exact .snx (by omega) (N.of c2 g1) (N.of c3 g2) g3
      · rw [h2] at b4
        simp only [cond_true, Bool.and_eq_true] at b4
        obtain ⟨c2, c4, c3⟩ := b4
        have c1' : q % 4 = 2 := Nat.eq_of_beq_eq_true h2
        have c4' : q / 4 / 65536 % 16 = q' / 4 / 65536 % 16 := Nat.eq_of_beq_eq_true c4
        obtain ⟨b, o, z, cap, m, rfl, g1, g2, g3, g4⟩ := ssl_inv h (by omega)
        have e : q = 4 * (q / 4 % 65536 + 65536 * (q / 4 / 65536 % 16 + 16 * (q / 4 / 65536 / 16))) + 2 := by omega
        rw [e]
        exact .ssl (by omega) (by omega) (N.of c2 g1) (symleC N c3 g2) g3 (by rw [c4']; exact g4)
    · rw [h1] at b4
      simp only [cond_true] at b4
      have h1' : q % 4 = 1 := Nat.eq_of_beq_eq_true h1
      obtain ⟨n, rfl, g1⟩ := sym_inv h (by omega)
      have e : q = 4 * (q / 4) + 1 := by omega
      rw [e]
      exact .sym (symleC N b4 g1)
  · cases hb
theorem vleC_rel {s : Nat → Option Nat} {cv : List (V × V)} {r r2 : Emb} (N : Labs s r r2) (hc : ∀ v u x, (v, u) ∈ cv → VRel r u x → VRel r2 v x) : ∀ (k : Nat) (v u : V) (x : Value), vleC s cv k v u = true → VRel r u x → VRel r2 v x := by
  intro k
  induction k with
  | zero => intro v u x hb; cases hb
  | succ k ih =>
    intro v u x hb h
    simp only [vleC, Bool.or_eq_true] at hb
    rcases hb with hb | hb
    · exact vleC1_rel N ih v u x hb h
    · exact hc v u x (cvIn_mem hb) h
/-- Is no more said than stands in a block? -/
def entleC (s : Nat → Option Nat) (cv : List (V × V)) (e : Ent) (k : Blk) : Bool :=
  match e, k with
  | .c t ro pl vs, .live n' t' ro' pl' c' => Nat.ble n' 4096 && (Nat.beq t t' && ((ro == ro' || ro) && ((pl == pl' || !pl) && ((Nat.ble vs.length n' && (Nat.beq vs.length n' || !(Nat.beq t bldT))) && vles (vleC s cv 4) vs (readFrom c' 0 vs.length)))))
  | .m es, .mapb es' => esle (vleC s cv 4) es es'
  | _, _ => false
theorem esleC_rel {r r2 : Emb} {p : V → V → Bool} (hp : ∀ v u x, p v u = true → VRel r u x → VRel r2 v x) :
    ∀ (es us : List (V × V)) (l : List MapEntry), esle p es us = true → EsRel r us l → EsRel r2 es l
  | [], [], _, _, h => by cases h; exact .nil
  | (a, b) :: es, (c, d) :: us, l, hb, h => by
    simp only [esle, Bool.and_eq_true] at hb
    cases h with
    | cons hk hv hs => exact .cons (hp _ _ _ hb.1 hk) (hp _ _ _ hb.2.1 hv) (esleC_rel hp es us _ hb.2.2 hs)
  | [], _ :: _, _, hb, _ => by simp [esle] at hb
  | _ :: _, [], _, hb, _ => by simp [esle] at hb

theorem entleC_fit {s : Nat → Option Nat} {cv : List (V × V)} {r r2 : Emb} (N : Labs s r r2) (hc : ∀ v u x, (v, u) ∈ cv → VRel r u x → VRel r2 v x) {e : Ent} {k : Blk} {b sh m : Nat} {w : World} (hb : entleC s cv e k = true) (h : FitB r k b sh m w) : FitB r2 e.blk b sh m w := by
  unfold entleC at hb
  split at hb
  · rename_i t ro pl vs n' t' ro' pl' c'
    simp only [Bool.and_eq_true] at hb
    obtain ⟨h1, h2, h3, h4, ⟨h6, h7⟩, h5⟩ := hb
    obtain rfl := Nat.eq_of_beq_eq_true h2
    have e3 : ro = false → ro' = false := fun e0 => by
      subst e0
      simp only [Bool.or_false, beq_iff_eq] at h3
      exact h3.symm
    have e4 : pl = true → pl' = true := fun e0 => by
      subst e0
      simp only [Bool.not_true, Bool.or_false, beq_iff_eq] at h4
      exact h4.symm
    have hlen : vs.length ≤ n' := Nat.le_of_ble_eq_true h6
    have hle : vs.length ≤ 4096 := Nat.le_trans hlen (Nat.le_of_ble_eq_true h1)
    obtain ⟨⟨cs, fz, ⟨ty, q1, q1'⟩, q2, q3, q4, q5⟩, q6, q7, q8⟩ := h
    refine ⟨⟨cs, fz, ⟨ty, q1, fun e0 => q1' (e3 e0)⟩, q2, fun e0 => q3 (e3 e0), fun e0 => q4 (e4 e0), fun o ho => ?_⟩, by omega, cellsOf_room vs hle, fun k1 k2 => ?_⟩
    case refine_2 =>
      obtain ⟨k3, k4⟩ := q8 (e3 k1) k2
      simp only [Bool.or_eq_true, Bool.not_eq_true'] at h7
      rcases h7 with h7 | h7
      · exact ⟨k3, (Nat.eq_of_beq_eq_true h7).trans k4⟩
      · rw [k2, Nat.beq_refl] at h7; cases h7
    obtain ⟨x, hx, hv⟩ := q5 o (by omega)
    refine ⟨x, hx, ?_⟩
    rw [cellsOf_get vs hle o ho]
    have key : ∀ (vs : List V) (o n : Nat) (c : Cells), vles (vleC s cv 4) vs (readFrom c o n) = true → ∀ (j : Nat) (hj : j < vs.length), vleC s cv 4 vs[j] (c.get (o + j)) = true := by
      intro vs
      induction vs with
      | nil => intro o n c _ j hj; simp at hj
      | cons v vs ih =>
        intro o n c hb j hj
        cases n with
        | zero => simp [readFrom, vles] at hb
        | succ n =>
          simp only [readFrom, vles, Bool.and_eq_true] at hb
          cases j with
          | zero => exact hb.1
          | succ j =>
            have := ih (o + 1) n c hb.2 j (by simpa using hj)
            rw [show o + 1 + j = o + (j + 1) by omega] at this
            exact this
    have := key vs 0 _ c' h5 o ho
    rw [Nat.zero_add] at this
    exact vleC_rel N hc 4 _ _ _ this hv
  · obtain ⟨es', clk, g1, g2⟩ := h
    exact ⟨es', clk, g1, esleC_rel (vleC_rel N hc 4) _ _ _ hb g2⟩
  · cases hb

theorem entleC_live {s : Nat → Option Nat} {cv : List (V × V)} {e : Ent} {k : Blk} (hb : entleC s cv e k = true) : liveB k = true ∧ (ownB e.blk = true → ownB k = true) := by
  unfold entleC at hb
  split at hb
  · simp only [Bool.and_eq_true] at hb
    obtain ⟨h1, h2, h3, h4, h5⟩ := hb
    refine ⟨rfl, fun h => ?_⟩
    rename_i t ro pl vs n' t' ro' pl' c'
    have h' : ro = false := by simpa [Ent.blk, ownB] using h
    subst h'
    simp only [Bool.or_false, beq_iff_eq] at h3
    rw [← h3]
    rfl
  · exact ⟨rfl, fun h => h⟩
  · cases hb

def entsC (s : Nat → Option Nat) (cv : List (V × V)) (h : H) : Rws → Bool
  | [] => true
  | (id, old, e) :: l => mapId s id old && (entleC s cv e (h.mem.blk old) && entsC s cv h l)

theorem entsC_mem {s : Nat → Option Nat} {cv : List (V × V)} {h : H} : ∀ {l : Rws} {id old : Nat} {e : Ent}, entsC s cv h l = true → (id, old, e) ∈ l → mapId s id old = true ∧ entleC s cv e (h.mem.blk old) = true
  | [], _, _, _, _, hm => by cases hm
  | (i, o, e') :: l, id, old, e, hb, hm => by
    simp only [entsC, Bool.and_eq_true] at hb
    rcases List.mem_cons.1 hm with q | q
    · cases q
      exact ⟨hb.1, hb.2.1⟩
    · exact entsC_mem hb.2.2 q


def sNm (lo nxt : Nat) (m : NT) (id : Nat) : Option Nat := bif isNam id then none else sOf lo nxt m id
def slotsC (s : Nat → Option Nat) (cv : List (V × V)) (f : Fr) : List (Nat × V) → Bool
  | [] => true
  | (t, v) :: l => vleC s cv 4 v (fget f t) && slotsC s cv f l
def noNm : Rws → Bool
  | [] => true
  | (id, _, _) :: l => !(isNam id) && noNm l
def turnCS (s : Nat → Option Nat) (cv : List (V × V)) (lo : Nat) (f : Fr) (h : H) (S : Snap) : Bool :=
  (Nat.ble lo S.nxt && noNm S.ents) && (rises 0 0 S.ents && (entsC s cv h S.ents && slotsC s cv f S.slots))
/-- May a state that is written down stand for one that was come to, its names given anew? -/
def ntX : List (Nat × Nat) → NT → NT
  | [], m => m
  | (id, old) :: l, m => ntX l (ntPut id old m)
def turnX (lo : Nat) (xs : List (Nat × Nat)) (cv : List (V × V)) (f : Fr) (h : H) (S : Snap) : Bool := (fun m => turnCS (sNm lo S.nxt m) cv lo f h S) (ntX xs (ntOf lo S.ents n4))
def turnC (lo : Nat) (cv : List (V × V)) (f : Fr) (h : H) (S : Snap) : Bool := turnX lo [] cv f h S
theorem noNm_mem : ∀ {l : Rws} {id old : Nat} {e : Ent}, noNm l = true → (id, old, e) ∈ l → isNam id = false
  | [], _, _, _, _, h => by cases h
  | (i, o, e') :: l, id, old, e, hb, hm => by
    simp only [noNm, Bool.and_eq_true, Bool.not_eq_true'] at hb
    rcases List.mem_cons.1 hm with q | q
    · cases q; exact hb.1
    · exact noNm_mem hb.2 q
theorem slotsC_le {s : Nat → Option Nat} {cv : List (V × V)} {f : Fr} : ∀ (l : List (Nat × V)) (g : Fr), (∀ t, vleC s cv 4 (fget g t) (fget f t) = true) → slotsC s cv f l = true → ∀ t, vleC s cv 4 (fget (frOf l g) t) (fget f t) = true
  | [], g, hg, _, t => hg t
  | (u, v) :: l, g, hg, hb, t => by
    simp only [slotsC, Bool.and_eq_true] at hb
    refine slotsC_le l (fset g u v) (fun t => ?_) hb.2 t
    by_cases hi : u < 4096
    · rw [fget_fset _ _ _ _ hi]
      by_cases e : t = u
      · rw [if_pos e, e]; exact hb.1
      · rw [if_neg e]; exact hg t
    · have : Nat.blt u 4096 = false := by rw [← Bool.not_eq_true, Nat.blt_eq]; exact hi
      unfold fset
      rw [this]
      exact hg t

/-- FROM A STATE TO ANOTHER, names given anew: nm says what they are now. -/
theorem turnX_sound {w0 : World} {nb n mask lo : Nat} {xs : List (Nat × Nat)} {cv : List (V × V)} {f' : Fr} {h' : H} {S : Snap} (hb : turnX lo xs cv f' h' S = true) {nm : Nat → Option (Nat × Nat × Nat)} {r0 r' : Emb} {h0 : H} {a : Act} {W w' : World} (hlo : h0.next ≤ lo) (hlo2 : h0.next ≤ 40000) (hn2 : 40040 ≤ S.nxt ∨ ∀ id, nm id = none) (hr0 : Rel r0 h0 W) (hg : GRel P r0)
    (hd : Dim mask f') (hs : St P w0 nb n r' (fget f') [] h' a w') (st : Step r0 h0 W r' h' w')
    (hN : ∀ r2 : Emb, (∀ id, isNam id = true → r2 id = nm id) → (∀ id, isNam id = false → r2 id = (sNm lo S.nxt (ntX xs (ntOf lo S.ents n4)) id).bind r') → r0.le r2 → ∀ v u x, (v, u) ∈ cv → VRel r' u x → VRel r2 v x) :
    Dim mask S.f ∧ ∃ r2 : Emb, (∀ id, isNam id = true → r2 id = nm id) ∧ (∀ id, isNam id = false → id < lo → r2 id = r' id) ∧ St P w0 nb n r2 (fget S.f) [] S.h a w' ∧ Step r0 h0 W r2 S.h w' ∧ (∀ id, isNam id = false → r2 id = (sNm lo S.nxt (ntX xs (ntOf lo S.ents n4)) id).bind r') := by
  unfold turnX at hb
  generalize hsg : sNm lo S.nxt (ntX xs (ntOf lo S.ents n4)) = s at hb
  unfold turnCS at hb
  simp only [hsg, Bool.and_eq_true] at hb
  obtain ⟨⟨b1, b0⟩, b2, b3, b4⟩ := hb
  have b1' := Nat.le_of_ble_eq_true b1
  have hnam : ∀ id, isNam id = true → id < 40040 ∧ 40000 ≤ id := fun id h => by
    unfold isNam at h
    simp only [Bool.and_eq_true, Nat.blt_eq] at h
    exact ⟨h.2, Nat.le_of_ble_eq_true h.1⟩
  have snam : ∀ id, isNam id = true → s id = none := fun id h => by rw [← hsg]; unfold sNm; rw [h]; rfl
  have slow : ∀ id, isNam id = false → id < lo → s id = some id := fun id hn hi => by
    rw [← hsg]
    unfold sNm sOf
    have : Nat.blt id lo = true := by rw [Nat.blt_eq]; exact hi
    rw [hn, this]; rfl
  have shigh : ∀ id, S.nxt ≤ id → s id = none := fun id hi => by
    rw [← hsg]
    unfold sNm sOf
    have e1 : Nat.blt id lo = false := by rw [← Bool.not_eq_true, Nat.blt_eq]; omega
    have e2 : Nat.blt id S.nxt = false := by rw [← Bool.not_eq_true, Nat.blt_eq]; omega
    rw [e1, e2]
    cases isNam id <;> rfl
  generalize hr2 : (fun id => bif isNam id then nm id else (s id).bind r' : Emb) = r2
  have r2n : ∀ id, isNam id = true → r2 id = nm id := fun id h => by rw [← hr2]; simp only [h, cond_true]
  have r2o : ∀ id, isNam id = false → r2 id = (s id).bind r' := fun id h => by rw [← hr2]; simp only [h, cond_false]
  have r2l : ∀ id, isNam id = false → id < lo → r2 id = r' id := fun id h1 h2 => by rw [r2o id h1, slow id h1 h2]; rfl
  have N : Labs s r' r2 := fun a b x e2 e3 => by
    cases hq : isNam a
    · rw [r2o a hq, e2]; exact e3
    · rw [snam a hq] at e2; cases e2
  have hle : r0.le r2 := fun id x e => by
    have hlt : id < h0.next := hr0.lt_next e
    have hq : isNam id = false := by
      cases hq : isNam id
      · rfl
      · have := (hnam id hq).2; omega
    rw [r2o id hq, slow id hq (by omega)]
    exact st.le _ _ e
  have hc := hN r2 r2n (fun id h => by rw [hsg]; exact r2o id h) hle
  have slots : ∀ t, vleC s cv 4 (fget S.f t) (fget f' t) = true := slotsC_le S.slots fr0 (fun t => by rw [fr0_any]; rfl) b4
  have live : ∀ id, Live S.h id → ∃ old e, (id, old, e) ∈ S.ents ∧ S.h.mem.blk id = e.blk ∧ r2 id = r' old ∧ entleC s cv e (h'.mem.blk old) = true ∧ Live h' old := fun id hl => by
    obtain ⟨old, e, q1, q2⟩ := hOf_live b2 hl.1 hl.2
    obtain ⟨q3, q4⟩ := entsC_mem b3 q1
    obtain ⟨_, _, _, q5⟩ := rises_mem b2 q1
    have q6 := noNm_mem b0 q1
    refine ⟨old, e, q1, q2, ?_, q4, q5, (entleC_live q4).1⟩
    unfold mapId at q3
    split at q3
    · rename_i c hc
      obtain rfl := Nat.eq_of_beq_eq_true q3
      rw [r2o id q6, hc]; rfl
    · cases q3
  have hrel2 : Rel r2 S.h w' := by
    refine ⟨fun id hi hl => ?_, fun id id' b sh m sh' m' hl hl' ho e1 e2 => ?_, fun id hi => ?_⟩
    · obtain ⟨old, e, q1, q2, q3, q4, q5⟩ := live id ⟨hi, hl⟩
      obtain ⟨b, sh, m, g1, g2⟩ := hs.rel.fit old q5.1 q5.2
      exact ⟨b, sh, m, by rw [q3]; exact g1, by rw [q2]; exact entleC_fit N hc q4 g2⟩
    · obtain ⟨old, e, q1, q2, q3, q4, q5⟩ := live id hl
      obtain ⟨old', e', q1', q2', q3', q4', q5'⟩ := live id' hl'
      rw [q2, q2'] at ho
      rw [q3] at e1
      rw [q3'] at e2
      have := hs.rel.inj old old' b sh m sh' m' q5 q5' (ho.imp (entleC_live q4).2 (entleC_live q4').2) e1 e2
      subst this
      exact rises_inj b2 q1 q1'
    · have hi' : S.nxt ≤ id := hi
      cases hq : isNam id
      · rw [r2o id hq, shigh id hi']; rfl
      · rw [r2n id hq]
        rcases hn2 with hn2 | hn2
        · have := (hnam id hq).1; omega
        · exact hn2 id
  have hheld : ∀ b, Held r2 S.h b → Held r' h' b := fun b hh => by
    obtain ⟨id, sh, m, hl, e1⟩ := hh
    obtain ⟨old, e, q1, q2, q3, q4, q5⟩ := live id hl
    exact ⟨old, sh, m, q5, by rw [← q3]; exact e1⟩
  have hown : ∀ b, Own r2 S.h b → Own r' h' b := fun b ho => by
    obtain ⟨id, sh, m, hi, hb', e1⟩ := ho
    obtain ⟨old, e, q1, q2, q3, q4, q5⟩ := live id ⟨hi, live_of_own hb'⟩
    rw [q2] at hb'
    exact ⟨old, sh, m, q5.1, (entleC_live q4).2 hb', by rw [← q3]; exact e1⟩
  have st2 : Step r0 h0 W r2 S.h w' :=
    ⟨hle, hrel2, st.size, st.keep, fun b hlt ho => st.own b hlt (hown b ho), fun b hlt hh => st.held b hlt (hheld b hh), st.os, st.out, st.tape⟩
  have hdef : a.defers = [] := by
    have := hs.ds
    cases hq : a.defers with
    | nil => rfl
    | cons _ _ => rw [hq] at this; cases this
  refine ⟨fun t ht => ?_, r2, r2n, r2l, ⟨hrel2, GRel.up hle hg, ⟨hs.base.same, fun b ho => hs.base.own b (hown b ho), hs.base.size⟩, fun t => vleC_rel N hc 4 _ _ _ (slots t) (hs.tm t), ?_, ?_, hs.sz⟩, st2, r2o⟩
  · have h1 := slots t
    rw [hd t ht] at h1
    simp only [vleC, Bool.or_eq_true] at h1
    rcases h1 with h1 | h1
    · generalize fget S.f t = v at h1
      cases v <;> first | rfl | (simp [vleC1, unkle] at h1; done)
    · have h2 : ∀ {l : List (V × V)} {v : V}, cvIn l v .any = true → False := by
        intro l
        induction l with
        | nil => intro v h; cases h
        | cons p l ih =>
          intro v h
          obtain ⟨a, b⟩ := p
          simp only [cvIn, Bool.or_eq_true, Bool.and_eq_true] at h
          rcases h with h | h
          · have := h.2
            cases b <;> simp [veq1] at this
          · exact ih h
      exact (h2 h1).elim
  · rw [hdef]; exact .nil
  · rw [hdef]; exact ⟨hs.mks.1, trivial⟩

end Go.Ev

namespace Go.Ev

variable {P : Program}

/-- A state with names is come to. -/
def AtN (P : Program) (w0 : World) (nb n mask : Nat) (r : Emb) (h : H) (w : World) (S : H × Fr) (nm : Nat → Option (Nat × Nat × Nat)) (a : Act) (w' : World) : Prop :=
  Dim mask S.2 ∧ ∃ r2 : Emb, (∀ id, isNam id = true → r2 id = nm id) ∧ St P w0 nb n r2 (fget S.2) [] S.1 a w' ∧ Step r h w r2 S.1 w'

/-- What is said otherwise is so. -/
def CvOk (r : Emb) (nm nm' : Nat → Option (Nat × Nat × Nat)) (cv : List (V × V)) : Prop :=
  ∀ r1 r2 : Emb, r.le r1 → r.le r2 → (∀ id x, isNam id = true → nm id = some x → r1 id = some x) → (∀ id, isNam id = true → r2 id = nm' id) → ∀ v u x, (v, u) ∈ cv → VRel r1 u x → VRel r2 v x

/-- Rounds that lead from one state to another. -/
def pieceN (lo : Nat) (cv : List (V × V)) (body : Fr → Ds → H → RC) (S : H × Fr) (T : Snap) (k : Nat) : Bool :=
  match loopK body k S.2 [] S.1 with
  | .ok .norm f d h => (match d with | [] => turnC lo cv f h T && Nat.ble 40040 T.nxt | _ => false)
  | _ => false
def lastN (lo : Nat) (cv : List (V × V)) (body : Fr → Ds → H → RC) (S : H × Fr) (T : Snap) (k : Nat) : Bool :=
  match loopN body k S.2 [] S.1 with
  | .ok .ret f d h => (match d with | [] => turnC lo cv f h T && Nat.ble 40040 T.nxt | _ => false)
  | _ => false
/-- The same state, said otherwise. -/
def sayN (lo : Nat) (cv : List (V × V)) (S : H × Fr) (T : Snap) : Bool := turnC lo cv S.2 S.1 T && Nat.ble 40040 T.nxt

theorem turnN {w0 : World} {nb n mask lo : Nat} {cv : List (V × V)} {f' : Fr} {h' : H} {T : Snap} (hb : (turnC lo cv f' h' T && Nat.ble 40040 T.nxt) = true) {nm nm' : Nat → Option (Nat × Nat × Nat)} {r r1 r' : Emb} {h : H} {w w' : World} {a : Act} (hlo : h.next ≤ lo) (hlo2 : h.next ≤ 40000) (hrel : Rel r h w) (hg : GRel P r)
    (hcv : CvOk r nm nm' cv) (hn : ∀ id, isNam id = true → r1 id = nm id) (hle : r1.le r') (hd : Dim mask f') (hs : St P w0 nb n r' (fget f') [] h' a w') (st : Step r h w r' h' w') : AtN P w0 nb n mask r h w (T.h, T.f) nm' a w' := by
  simp only [Bool.and_eq_true] at hb
  obtain ⟨q1, r2, q2, -, q3, q4, -⟩ := turnX_sound hb.1 hlo hlo2 (.inl (Nat.le_of_ble_eq_true hb.2)) hrel hg hd hs st (fun r2 e1 _ e2 v u x hm hv => hcv r' r2 st.le e2 (fun id y hi hy => hle id y (by rw [hn id hi]; exact hy)) e1 v u x hm hv)
  exact ⟨q1, r2, q2, q3, q4⟩

theorem sayN_sound {w0 : World} {nb n mask lo : Nat} {cv : List (V × V)} {S : H × Fr} {T : Snap} (hb : sayN lo cv S T = true) {nm nm' : Nat → Option (Nat × Nat × Nat)} {r : Emb} {h : H} {w w' : World} {a : Act} (hlo : h.next ≤ lo) (hlo2 : h.next ≤ 40000) (hrel : Rel r h w) (hg : GRel P r)
    (hcv : CvOk r nm nm' cv) (hs : AtN P w0 nb n mask r h w S nm a w') : AtN P w0 nb n mask r h w (T.h, T.f) nm' a w' := by
  obtain ⟨hd, r1, h1, h2, h3⟩ := hs
  exact turnN hb hlo hlo2 hrel hg hcv h1 r1.le_refl hd h2 h3

theorem pieceN_sound {ro : Option Nat} {w0 : World} {nb n mask lo : Nat} {cv : List (V × V)} {c : Code} {body : Fr → Ds → H → RC} {Q : Exit → Act → World → Prop} {K k : Nat}
    (hbody : ∀ (f f' : Fr) (d d' : Ds) (h h' : H) (x : X) (r : Emb) (a : Act) (w : World), Dim mask f → St P w0 nb n r (fget f) d h a w → body f d h = .ok x f' d' h' → c.wpIn (wideR ro) 0 P (Post P w0 nb n mask r h w x f' d' h') a w)
    {S : H × Fr} {T : Snap} (hb : pieceN lo cv body S T k = true) {nm nm' : Nat → Option (Nat × Nat × Nat)} {r : Emb} {h : H} {w : World} (hlo : h.next ≤ lo) (hlo2 : h.next ≤ 40000) (hrel : Rel r h w) (hg : GRel P r) (hcv : CvOk r nm nm' cv)
    (hq : ∀ a' w', AtN P w0 nb n mask r h w (T.h, T.f) nm' a' w' → Code.roundsIn (wideR ro) 0 P c Q K a' w') {a1 : Act} {w1 : World} (hs : AtN P w0 nb n mask r h w S nm a1 w1) : Code.roundsIn (wideR ro) 0 P c Q (k + K) a1 w1 := by
  obtain ⟨hd, r1, hn, hs1, st1⟩ := hs
  unfold pieceN at hb
  split at hb
  · rename_i f d h2 he
    split at hb
    · refine rounds_piece hbody k S.2 f [] [] S.1 h2 r1 a1 w1 hd hs1 he (fun r' a' w' q1 q2 q3 => hq a' w' ?_)
      exact turnN hb hlo hlo2 hrel hg hcv hn q3.le q1 q2 (st1.trans q3)
    · cases hb
  · cases hb

theorem lastN_sound {ro : Option Nat} {w0 : World} {nb n mask lo : Nat} {cv : List (V × V)} {c : Code} {body : Fr → Ds → H → RC} {k : Nat}
    (hbody : ∀ (f f' : Fr) (d d' : Ds) (h h' : H) (x : X) (r : Emb) (a : Act) (w : World), Dim mask f → St P w0 nb n r (fget f) d h a w → body f d h = .ok x f' d' h' → c.wpIn (wideR ro) 0 P (Post P w0 nb n mask r h w x f' d' h') a w)
    {S : H × Fr} {T : Snap} (hb : lastN lo cv body S T k = true) {nm nm' : Nat → Option (Nat × Nat × Nat)} {r : Emb} {h : H} {w : World} (hlo : h.next ≤ lo) (hlo2 : h.next ≤ 40000) (hrel : Rel r h w) (hg : GRel P r) (hcv : CvOk r nm nm' cv)
    {a1 : Act} {w1 : World} (hs : AtN P w0 nb n mask r h w S nm a1 w1) : Code.roundsIn (wideR ro) 0 P c (fun e a' w' => e = .ret ∧ AtN P w0 nb n mask r h w (T.h, T.f) nm' a' w') k a1 w1 := by
  obtain ⟨hd, r1, hn, hs1, st1⟩ := hs
  unfold lastN at hb
  split at hb
  · rename_i f d h2 he
    split at hb
    · refine rounds_mono ?_ k a1 w1 (loop_sound hbody k S.2 f [] [] S.1 h2 .ret r1 a1 w1 hd hs1 he)
      rintro e a' w' ⟨q0, q1, r', q2, q3⟩
      exact ⟨q0, turnN hb hlo hlo2 hrel hg hcv hn q3.le q1 q2 (st1.trans q3)⟩
    · cases hb
  · cases hb
end Go.Ev

namespace Go.Ev

variable {P : Program}

/-- A row that is no more written. -/
theorem Step.ro {r : Emb} {h : H} {w : World} (hr : Rel r h w) {id n : Nat} {t : TypeId} {pl : Bool} {c : Cells} (hid : id < 65536) (hb : h.mem.blk id = .live n t false pl c) {b sh m : Nat} (h1 : r id = some (b, sh, m)) :
    Step r h w r (h.setB id (.live n t true pl c)) w ∧ ¬ Own r (h.setB id (.live n t true pl c)) b ∧ Fits r n t true pl c b sh m w := by
  obtain ⟨b', sh', m', h1', hf⟩ := hr.blk id n t false pl c hid hb
  rw [h1] at h1'
  cases h1'
  obtain ⟨⟨cs, fz, ⟨ty, q1, q1'⟩, q2, q3, q4, q5⟩, q6, q7, q8⟩ := hf
  have hf2 : Fits r n t true pl c b sh m w := ⟨⟨cs, fz, ⟨ty, q1, fun e => by cases e⟩, q2, fun e => (by cases e), q4, q5⟩, q6, q7, fun e => by cases e⟩
  refine ⟨Step.setB hr hid (by rw [hb]; rfl) h1 (fun _ _ => rfl) rfl rfl rfl rfl hf2, fun ho => ?_, hf2⟩
  obtain ⟨i, s, k, hi, hbi, e⟩ := ho
  by_cases q : i = id
  · subst q
    rw [blk_setB hid] at hbi
    cases hbi
  · rw [blk_setB_other hid hi q] at hbi
    exact q (hr.inj i id b s k sh m ⟨hi, live_of_own hbi⟩ ⟨hid, by rw [hb]; rfl⟩ (.inl hbi) e h1)

/-- A label more for a part of a block that nobody writes. -/
theorem Step.view {r : Emb} {h : H} {w : World} (hr : Rel r h w) (hn : h.next < 65536) {n : Nat} {t : TypeId} {pl : Bool} {c : Cells} {b sh m : Nat} (hno : ¬ Own r h b) (hheld : Held r h b) (hf : Fits r n t true pl c b sh m w) :
    Step r h w (r.put h.next (b, sh, m)) (h.layB (.live n t true pl c)) w := by
  have hle := r.le_put h.next (b, sh, m) (hr.new _ (Nat.le_refl _))
  have hold : ∀ i, i < 65536 → i ≠ h.next → (h.layB (.live n t true pl c)).mem.blk i = h.mem.blk i := fun i hi hne => Mem.blk_put_other _ _ _ _ hn hi hne
  have hnew : (h.layB (.live n t true pl c)).mem.blk h.next = .live n t true pl c := Mem.blk_put_same _ _ _ hn
  have hlive : ∀ i, Live (h.layB (.live n t true pl c)) i → i ≠ h.next → Live h i := fun i ⟨hi, hb'⟩ hne => ⟨hi, by rw [hold i hi hne] at hb'; exact hb'⟩
  have hf' : Fits (r.put h.next (b, sh, m)) n t true pl c b sh m w := Fits.keep hle hf rfl
  have key : ∀ i, i < 65536 → ownB ((h.layB (.live n t true pl c)).mem.blk i) = true → i ≠ h.next ∧ ownB (h.mem.blk i) = true := fun i hi ho => by
    by_cases e : i = h.next
    · subst e; rw [hnew] at ho; cases ho
    · exact ⟨e, by rw [hold i hi e] at ho; exact ho⟩
  have rel : Rel (r.put h.next (b, sh, m)) (h.layB (.live n t true pl c)) w := by
    refine ⟨fun i hi hl => ?_, fun i i' k s1 k1 s2 k2 hl hl' ho h1 h2 => ?_, fun i hi => ?_⟩
    · by_cases e : i = h.next
      · subst e
        rw [hnew]
        exact ⟨b, sh, m, Emb.put_same _ _ _, hf'⟩
      · rw [hold i hi e] at hl ⊢
        obtain ⟨b2, s2, m2, h2, h3⟩ := hr.fit i hi hl
        exact ⟨b2, s2, m2, by rw [Emb.put_other _ _ _ _ e]; exact h2, h3.keep hle rfl⟩
    · have one : ∀ i i' s1 k1 s2 k2, Live (h.layB (.live n t true pl c)) i → Live (h.layB (.live n t true pl c)) i' → ownB ((h.layB (.live n t true pl c)).mem.blk i) = true → (r.put h.next (b, sh, m)) i = some (k, s1, k1) → (r.put h.next (b, sh, m)) i' = some (k, s2, k2) → i = i' := by
        intro i i' s1 k1 s2 k2 hl hl' ho h1 h2
        obtain ⟨e, ho'⟩ := key i hl.1 ho
        rw [Emb.put_other _ _ _ _ e] at h1
        by_cases e' : i' = h.next
        · subst e'
          rw [Emb.put_same] at h2
          cases h2
          exact (hno ⟨i, s1, k1, hl.1, ho', h1⟩).elim
        · rw [Emb.put_other _ _ _ _ e'] at h2
          exact hr.inj i i' k s1 k1 s2 k2 (hlive i hl e) (hlive i' hl' e') (.inl ho') h1 h2
      rcases ho with ho | ho
      · exact one i i' s1 k1 s2 k2 hl hl' ho h1 h2
      · exact (one i' i s2 k2 s1 k1 hl' hl ho h2 h1).symm
    · have : h.next + 1 ≤ i := hi
      rw [Emb.put_other _ _ _ _ (by omega)]
      exact hr.new i (by omega)
  refine ⟨hle, rel, Nat.le_refl _, fun _ _ _ => rfl, fun x _ ho => ?_, fun x _ ho => ?_, rfl, rfl, rfl⟩
  · obtain ⟨i, s, k, hi, hbi, e⟩ := ho
    obtain ⟨e1, e2⟩ := key i hi hbi
    rw [Emb.put_other _ _ _ _ e1] at e
    exact ⟨i, s, k, hi, e2, e⟩
  · obtain ⟨i, s, k, hl, e⟩ := ho
    by_cases q : i = h.next
    · subst q
      rw [Emb.put_same] at e
      cases e
      exact hheld
    · rw [Emb.put_other _ _ _ _ q] at e
      exact ⟨i, s, k, hlive i hl q, e⟩

/-- A name more. -/
def H.nameB (h : H) : H := ⟨h.next + 1, h.mem⟩
theorem Step.name {r : Emb} {h : H} {w : World} (hr : Rel r h w) (hn : h.next < 65536) (x : Nat × Nat × Nat) : Step r h w (r.put h.next x) h.nameB w := by
  have hle := r.le_put h.next x (hr.new _ (Nat.le_refl _))
  have hne : ∀ i, Live h i → i ≠ h.next := fun i hl e => by
    subst e
    obtain ⟨b, sh, m, h1, _⟩ := hr.fit h.next hl.1 hl.2
    rw [hr.new _ (Nat.le_refl _)] at h1
    cases h1
  refine ⟨hle, ⟨fun i hi hl => ?_, fun i i' b sh m sh' m' hl hl' ho h1 h2 => ?_, fun i hi => ?_⟩, Nat.le_refl _, fun _ _ _ => rfl, fun b _ ho => ?_, fun b _ ho => ?_, rfl, rfl, rfl⟩
  · obtain ⟨b, sh, m, h1, h2⟩ := hr.fit i hi hl
    exact ⟨b, sh, m, hle _ _ h1, h2.keep hle rfl⟩
  · rw [Emb.put_other _ _ _ _ (hne i hl)] at h1
    rw [Emb.put_other _ _ _ _ (hne i' hl')] at h2
    exact hr.inj i i' b sh m sh' m' hl hl' ho h1 h2
  · have : h.next + 1 ≤ i := hi
    rw [Emb.put_other _ _ _ _ (by omega)]
    exact hr.new i (by omega)
  · obtain ⟨i, s, k, hi, hbi, e⟩ := ho
    rw [Emb.put_other _ _ _ _ (hne i ⟨hi, live_of_own hbi⟩)] at e
    exact ⟨i, s, k, hi, hbi, e⟩
  · obtain ⟨i, s, k, hl, e⟩ := ho
    rw [Emb.put_other _ _ _ _ (hne i hl)] at e
    exact ⟨i, s, k, hl, e⟩

/-- A part of what lies in a row. -/
theorem Fits.part {r : Emb} {n : Nat} {t : TypeId} {pl : Bool} {c : Cells} {b sh m : Nat} {w : World} (hf : Fits r n t true pl c b sh m w) {s : Nat} (hs : s + 3 ≤ n) : Fits r 3 t true pl (cellsOf (readFrom c s 3)) b (sh + s) m w := by
  obtain ⟨⟨cs, fz, ⟨ty, q1, q1'⟩, q2, q3, q4, q5⟩, q6, q7, q8⟩ := hf
  have hlen : (readFrom c s 3).length = 3 := rfl
  refine ⟨⟨cs, fz, ⟨ty, q1, fun e => by cases e⟩, q2, fun e => (by cases e), q4, fun o ho => ?_⟩, by omega, by have := cellsOf_room (readFrom c s 3) (by omega); omega, fun e => by cases e⟩
  obtain ⟨x, h1, h2⟩ := q5 (s + o) (by omega)
  refine ⟨x, by rw [show o + (sh + s) = s + o + sh by omega]; exact h1, ?_⟩
  rw [cellsOf_get _ (by omega) o (by omega)]
  match o, ho with
  | 0, _ => exact h2
  | 1, _ => exact h2
  | 2, _ => exact h2

/-- Labels for the elements at these places. -/
def viewsH (t : TypeId) (pl : Bool) (c : Cells) : List Nat → H → H
  | [], h => h
  | x :: xs, h => viewsH t pl c xs (h.layB (.live 3 t true pl (cellsOf (readFrom c (Nat.mul x 3) 3))))
def namesH : List Nat → H → H
  | [], h => h
  | _ :: xs, h => namesH xs h.nameB
theorem viewsH_next (t : TypeId) (pl : Bool) (c : Cells) : ∀ (xs : List Nat) (h : H), (viewsH t pl c xs h).next = h.next + xs.length
  | [], h => rfl
  | x :: xs, h => by
    rw [viewsH, viewsH_next t pl c xs]
    show h.next + 1 + xs.length = h.next + (xs.length + 1)
    omega
theorem namesH_next : ∀ (xs : List Nat) (h : H), (namesH xs h).next = h.next + xs.length
  | [], h => rfl
  | x :: xs, h => by
    rw [namesH, namesH_next xs]
    show h.next + 1 + xs.length = h.next + (xs.length + 1)
    omega
theorem views_sound {n : Nat} {t : TypeId} {pl : Bool} {c : Cells} {b sh m : Nat} {w : World} : ∀ (xs : List Nat) {r : Emb} {h : H}, Rel r h w → ¬ Own r h b → Held r h b → Fits r n t true pl c b sh m w → (∀ x ∈ xs, x * 3 + 3 ≤ n) → h.next + xs.length ≤ 65536 →
    ∃ r', Step r h w r' (viewsH t pl c xs h) w ∧ ∀ j x, xs[j]? = some x → r' (h.next + j) = some (b, sh + x * 3, m)
  | [], r, h, hr, _, _, _, _, _ => ⟨r, Step.refl hr, fun j x hx => by simp at hx⟩
  | x :: xs, r, h, hr, hno, hheld, hf, hx, hn => by
    simp only [List.length_cons] at hn
    have s1 := Step.view hr (by omega) hno hheld (hf.part (hx x (by simp)))
    have hno' : ¬ Own (r.put h.next (b, sh + x * 3, m)) (h.layB (.live 3 t true pl (cellsOf (readFrom c (x * 3) 3)))) b := fun ho => hno (s1.own b (by
      obtain ⟨i, s, k, hl, e⟩ := hheld
      exact hr.lt hl e) ho)
    have hheld' : Held (r.put h.next (b, sh + x * 3, m)) (h.layB (.live 3 t true pl (cellsOf (readFrom c (x * 3) 3)))) b :=
      ⟨h.next, sh + x * 3, m, ⟨by omega, by rw [show (h.layB (.live 3 t true pl (cellsOf (readFrom c (x * 3) 3)))).mem.blk h.next = _ from Mem.blk_put_same _ _ _ (by omega)]; rfl⟩, Emb.put_same _ _ _⟩
    obtain ⟨r', s2, h2⟩ := views_sound xs s1.rel hno' hheld' (Fits.keep s1.le hf rfl) (fun y hy => hx y (by simp [hy])) (by show h.next + 1 + xs.length ≤ 65536; omega)
    refine ⟨r', s1.trans s2, fun j y hy => ?_⟩
    cases j with
    | zero =>
      simp at hy
      subst hy
      exact s2.le _ _ (Emb.put_same _ _ _)
    | succ j =>
      have := h2 j y (by simpa using hy)
      rw [show h.next + (j + 1) = (h.layB (.live 3 t true pl (cellsOf (readFrom c (x * 3) 3)))).next + j by show _ = h.next + 1 + j; omega]
      exact this
theorem names_sound {w : World} : ∀ (xs : List Nat) {r : Emb} {h : H}, Rel r h w → h.next + xs.length ≤ 65536 → ∃ r', Step r h w r' (namesH xs h) w ∧ ∀ j x, xs[j]? = some x → r' (h.next + j) = some (x, 0, 0)
  | [], r, h, hr, _ => ⟨r, Step.refl hr, fun j x hx => by simp at hx⟩
  | x :: xs, r, h, hr, hn => by
    simp only [List.length_cons] at hn
    have s1 := Step.name hr (by omega) (x, 0, 0)
    obtain ⟨r', s2, h2⟩ := names_sound xs s1.rel (by show h.next + 1 + xs.length ≤ 65536; omega)
    refine ⟨r', s1.trans s2, fun j y hy => ?_⟩
    cases j with
    | zero =>
      simp at hy
      subst hy
      exact s2.le _ _ (Emb.put_same _ _ _)
    | succ j =>
      have := h2 j y (by simpa using hy)
      rw [show h.next + (j + 1) = h.nameB.next + j by show _ = h.next + 1 + j; omega]
      exact this
/-- The row parted: it is no more written; its elements' labels, their names, its length's name. -/
def splitH (id : Nat) (xs : List Nat) (h : H) : Option H :=
  match h.mem.blk id with
  | .live n t false pl c => bif xs.all (fun x => Nat.ble (Nat.add (Nat.mul x 3) 3) n) && (Nat.ble (Nat.add h.next (Nat.add (Nat.add xs.length xs.length) 1)) 65536 && Nat.blt id 65536)
    then some (namesH xs (viewsH t pl c xs (h.setB id (.live n t true pl c)))).nameB else none
  | _ => none
theorem split_sound {r : Emb} {h h2 : H} {w : World} (hr : Rel r h w) {id : Nat} {xs : List Nat} (hs : splitH id xs h = some h2) {b sh m : Nat} (h1 : r id = some (b, sh, m)) (len cap : Nat) :
    ∃ r', Step r h w r' h2 w ∧ (∀ j x, xs[j]? = some x → r' (h.next + j) = some (b, sh + x * 3, m) ∧ r' (h.next + xs.length + j) = some (x, 0, 0)) ∧ r' (h.next + xs.length + xs.length) = some (len, cap, 0) := by
  unfold splitH at hs
  split at hs
  · rename_i n t pl c hb
    cases hc : (xs.all (fun x => Nat.ble (Nat.add (Nat.mul x 3) 3) n) && (Nat.ble (Nat.add h.next (Nat.add (Nat.add xs.length xs.length) 1)) 65536 && Nat.blt id 65536)) <;> simp only [hc, cond_true, cond_false, reduceCtorEq, Option.some.injEq] at hs
    subst hs
    simp only [Bool.and_eq_true, Nat.blt_eq, List.all_eq_true] at hc
    obtain ⟨c1, c2, c3⟩ := hc
    have c2' : h.next + (xs.length + xs.length + 1) ≤ 65536 := Nat.le_of_ble_eq_true c2
    obtain ⟨s0, hno, hf⟩ := Step.ro hr c3 hb h1
    have hn0 : (h.setB id (.live n t true pl c)).next = h.next := rfl
    obtain ⟨r1, s1, g1⟩ := views_sound xs s0.rel hno ⟨id, sh, m, ⟨c3, by rw [blk_setB c3]; rfl⟩, h1⟩ hf (fun x hx => Nat.le_of_ble_eq_true (c1 x hx)) (by rw [hn0]; omega)
    have hn1 := viewsH_next t pl c xs (h.setB id (.live n t true pl c))
    rw [hn0] at hn1 g1
    obtain ⟨r2, s2, g2⟩ := names_sound xs s1.rel (by omega)
    have hn2 := namesH_next xs (viewsH t pl c xs (h.setB id (.live n t true pl c)))
    rw [hn1] at hn2 g2
    have s3 := Step.name s2.rel (by omega) (len, cap, 0)
    refine ⟨_, ((s0.trans s1).trans s2).trans s3, fun j x hx => ⟨s3.le _ _ (s2.le _ _ (g1 j x hx)), s3.le _ _ (g2 j x hx)⟩, ?_⟩
    rw [← hn2]
    exact Emb.put_same _ _ _
  · cases hs
end Go.Ev

namespace Go.Ev
set_option maxRecDepth 100000

def pcS0 : List (Bool × (Tok ⊕ Nat)) := [(false, .inl (1, 111, 1)), (false, .inl (5, 46, 1)), (false, .inl (1, 97, 1)), (true, .inl (5, 61, 1)), (true, .inl (3, 48, 1)), (false, .inl (5, 59, 1)), (true, .inl (1, 111, 1)), (false, .inl (5, 46, 1)), (false, .inl (1, 98, 1)), (true, .inl (5, 61, 1)), (true, .inl (3, 48, 1)), (false, .inl (5, 59, 1)), (true, .inl (1, 111, 1)), (false, .inl (5, 46, 1)), (false, .inl (1, 99, 1)), (true, .inl (5, 61, 1)), (true, .inl (3, 48, 1)), (false, .inl (5, 59, 1)), (true, .inl (5, 123, 1)), (true, .inl (2, 7628140, 3)), (true, .inl (1, 107, 1)), (true, .inl (5, 61, 1)), (true, .inl (3, 49, 1)), (false, .inl (5, 59, 1)), (true, .inl (2, 7499622, 3)), (true, .inl (5, 40, 1)), (false, .inl (2, 7628140, 3)), (true, .inl (1, 105, 1)), (true, .inl (5, 61, 1)), (true, .inl (3, 48, 1)), (false, .inl (5, 59, 1)), (true, .inl (1, 105, 1)), (true, .inl (5, 60, 1)), (true, .inr 0), (false, .inl (5, 59, 1)), (true, .inl (1, 105, 1)), (false, .inl (5, 11051, 2)), (false, .inl (5, 41, 1)), (true, .inl (5, 123, 1)), (true, .inl (2, 26217, 2)), (true, .inl (5, 40, 1)), (false, .inl (1, 105, 1)), (true, .inl (5, 4013373, 3)), (true, .inr 1), (false, .inl (5, 41, 1)), (true, .inl (2, 461195539042, 5)), (false, .inl (5, 59, 1)), (true, .inl (2, 26217, 2)), (true, .inl (5, 40, 1)), (false, .inl (1, 105, 1)), (true, .inl (5, 4013373, 3)), (true, .inr 2)]
def pcS1 : List (Bool × (Tok ⊕ Nat)) := [(false, .inl (5, 41, 1)), (true, .inl (2, 7310870969309884259, 8)), (false, .inl (5, 59, 1)), (true, .inl (1, 107, 1)), (true, .inl (5, 61, 1)), (true, .inl (1, 107, 1)), (true, .inl (5, 42, 1)), (true, .inl (3, 51, 1)), (true, .inl (5, 43, 1)), (true, .inl (1, 105, 1)), (false, .inl (5, 59, 1)), (true, .inl (1, 107, 1)), (true, .inl (5, 61, 1)), (true, .inl (1, 107, 1)), (true, .inl (5, 37, 1)), (true, .inl (3, 237031665713, 5)), (false, .inl (5, 59, 1)), (true, .inl (5, 125, 1)), (true, .inl (1, 111, 1)), (false, .inl (5, 46, 1)), (false, .inl (1, 97, 1)), (true, .inl (5, 61, 1)), (true, .inl (1, 107, 1)), (false, .inl (5, 59, 1)), (true, .inl (5, 125, 1)), (true, .inl (5, 123, 1)), (true, .inl (2, 7628140, 3)), (true, .inl (1, 107, 1)), (true, .inl (5, 61, 1)), (true, .inl (3, 49, 1)), (false, .inl (5, 44, 1)), (true, .inl (1, 105, 1)), (true, .inl (5, 61, 1)), (true, .inl (5, 45, 1)), (false, .inl (3, 49, 1)), (false, .inl (5, 59, 1)), (true, .inl (2, 435610544247, 5)), (true, .inl (5, 40, 1)), (false, .inl (5, 11051, 2)), (false, .inl (1, 105, 1)), (true, .inl (5, 60, 1)), (true, .inr 0), (false, .inl (5, 41, 1)), (true, .inl (5, 123, 1)), (true, .inl (2, 26217, 2)), (true, .inl (5, 40, 1)), (false, .inl (1, 105, 1)), (true, .inl (5, 4013373, 3)), (true, .inr 1), (false, .inl (5, 41, 1)), (true, .inl (2, 461195539042, 5)), (false, .inl (5, 59, 1))]
def pcS2 : List (Bool × (Tok ⊕ Nat)) := [(true, .inl (2, 26217, 2)), (true, .inl (5, 40, 1)), (false, .inl (1, 105, 1)), (true, .inl (5, 4013373, 3)), (true, .inr 2), (false, .inl (5, 41, 1)), (true, .inl (2, 7310870969309884259, 8)), (false, .inl (5, 59, 1)), (true, .inl (1, 107, 1)), (true, .inl (5, 61, 1)), (true, .inl (1, 107, 1)), (true, .inl (5, 42, 1)), (true, .inl (3, 51, 1)), (true, .inl (5, 43, 1)), (true, .inl (1, 105, 1)), (false, .inl (5, 59, 1)), (true, .inl (1, 107, 1)), (true, .inl (5, 61, 1)), (true, .inl (1, 107, 1)), (true, .inl (5, 37, 1)), (true, .inl (3, 237031665713, 5)), (false, .inl (5, 59, 1)), (true, .inl (5, 125, 1)), (true, .inl (1, 111, 1)), (false, .inl (5, 46, 1)), (false, .inl (1, 98, 1)), (true, .inl (5, 61, 1)), (true, .inl (1, 107, 1)), (false, .inl (5, 59, 1)), (true, .inl (5, 125, 1)), (true, .inl (5, 123, 1)), (true, .inl (2, 7628140, 3)), (true, .inl (1, 107, 1)), (true, .inl (5, 61, 1)), (true, .inl (3, 49, 1)), (false, .inl (5, 44, 1)), (true, .inl (1, 105, 1)), (true, .inl (5, 61, 1)), (true, .inl (3, 48, 1)), (false, .inl (5, 59, 1)), (true, .inl (2, 26217, 2)), (true, .inl (5, 40, 1)), (false, .inl (1, 105, 1)), (true, .inl (5, 60, 1)), (true, .inr 0), (false, .inl (5, 41, 1)), (true, .inl (1, 108, 1)), (false, .inl (5, 58, 1)), (true, .inl (2, 28516, 2)), (true, .inl (5, 123, 1)), (true, .inl (1, 109, 1)), (false, .inl (5, 58, 1))]
def pcS3 : List (Bool × (Tok ⊕ Nat)) := [(true, .inl (5, 123, 1)), (true, .inl (2, 26217, 2)), (true, .inl (5, 40, 1)), (false, .inl (1, 105, 1)), (true, .inl (5, 4013373, 3)), (true, .inr 1), (false, .inl (5, 41, 1)), (true, .inl (2, 461195539042, 5)), (true, .inl (1, 108, 1)), (false, .inl (5, 59, 1)), (true, .inl (2, 26217, 2)), (true, .inl (5, 40, 1)), (false, .inl (1, 105, 1)), (true, .inl (5, 4013373, 3)), (true, .inr 2), (false, .inl (5, 41, 1)), (true, .inl (2, 461195539042, 5)), (true, .inl (1, 109, 1)), (false, .inl (5, 59, 1)), (true, .inl (1, 107, 1)), (true, .inl (5, 61, 1)), (true, .inl (1, 107, 1)), (true, .inl (5, 42, 1)), (true, .inl (3, 51, 1)), (true, .inl (5, 43, 1)), (true, .inl (1, 105, 1)), (false, .inl (5, 59, 1)), (true, .inl (1, 107, 1)), (true, .inl (5, 61, 1)), (true, .inl (1, 107, 1)), (true, .inl (5, 37, 1)), (true, .inl (3, 237031665713, 5)), (false, .inl (5, 59, 1)), (true, .inl (5, 125, 1)), (true, .inl (5, 125, 1)), (true, .inl (2, 435610544247, 5)), (true, .inl (5, 40, 1)), (false, .inl (5, 11051, 2)), (false, .inl (1, 105, 1)), (true, .inl (5, 60, 1)), (true, .inr 0), (false, .inl (5, 41, 1)), (false, .inl (5, 59, 1)), (true, .inl (1, 111, 1)), (false, .inl (5, 46, 1)), (false, .inl (1, 99, 1)), (true, .inl (5, 61, 1)), (true, .inl (1, 107, 1)), (false, .inl (5, 59, 1)), (true, .inl (5, 125, 1))]
def pcS : List (Bool × (Tok ⊕ Nat)) := pcS0 ++ pcS1 ++ pcS2 ++ pcS3
def tokZ (X0 X1 X2 : Nat) : Tok ⊕ Nat → Tok
  | .inl t => t
  | .inr j => nTok (selX j X0 X1 X2)
def pcZ (X0 X1 X2 : Nat) (p : Bool × (Tok ⊕ Nat)) : Bool × Tok := (p.1, tokZ X0 X1 X2 p.2)
theorem pcs_eq (X0 X1 X2 : Nat) : pcsL X0 X1 X2 = pcS.map (pcZ X0 X1 X2) := rfl
theorem pcS_len : pcS.length = 206 := by decide +kernel

/-! Is each token one that the scanner finds? It hangs on the byte behind it. -/
def mism : List UInt8 → List UInt8 → Bool
  | a :: x, b :: y => !(a == b) || mism x y
  | _, _ => false
theorem mism_pre : ∀ (x y l : List UInt8), mism x y = true → Lib.hasPrefix (x ++ l) y = false
  | a :: x, b :: y, l, h => by
    simp only [mism, Bool.or_eq_true, Bool.not_eq_true', beq_eq_false_iff_ne, ne_eq] at h
    rw [List.cons_append, hasPrefix_cons]
    rcases h with h | h
    · have : (b == a) = false := by rw [beq_eq_false_iff_ne]; exact fun e => h e.symm
      rw [this]; rfl
    · rw [mism_pre x y l h, Bool.and_false]
  | [], _, _, h => by simp [mism] at h
  | _ :: _, [], _, h => by simp [mism] at h
def okSign1 (t : Tok) (c : UInt8) : Bool := Nat.blt (sgnIdx t) 36 && (sgnT.getD (sgnIdx t) [] == tB t && (((List.range (sgnIdx t)).all fun i => mism (tB t ++ [c]) (sgnT.getD i [])) && (match tB t with | [] => false | c :: _ => nonL.contains c.toNat && !(Nat.beq c.toNat 32))))
def okTok1 (t : Tok) (c : UInt8) : Bool :=
  match t.1 with
  | 5 => okSign1 t c
  | 3 => okNum t && nonL.contains c.toNat
  | _ => txtL.contains t && nonL.contains c.toNat
theorem okSign1_ok {t : Tok} {c : UInt8} {l : List UInt8} (h : okSign1 t c = true) : okSign t (c :: l) = true := by
  unfold okSign1 at h
  unfold okSign
  simp only [Bool.and_eq_true, List.all_eq_true] at h ⊢
  refine ⟨h.1, h.2.1, fun i hi => ?_, h.2.2.2⟩
  have := mism_pre _ _ l (h.2.2.1 i hi)
  rw [List.append_assoc, List.singleton_append] at this
  rw [this]
  rfl
theorem okTok1_ok {t : Tok} {c : UInt8} {l : List UInt8} (h : okTok1 t c = true) : okTok t (c :: l) = true := by
  unfold okTok1 at h
  unfold okTok
  split at h
  · rename_i e
    rw [e]
    exact okSign1_ok h
  · rename_i e
    rw [e]
    exact h
  · rename_i e1 e2
    split
    · rename_i e; exact (e1 e).elim
    · rename_i e; exact (e2 e).elim
    · exact h
/-- The byte at which a text of pieces begins. -/
def headZ : List (Bool × (Tok ⊕ Nat)) → Option UInt8
  | [] => none
  | (true, _) :: _ => some 32
  | (false, .inl t) :: _ => (tB t).head?
  | (false, .inr _) :: _ => none
def okZ : List (Bool × (Tok ⊕ Nat)) → Bool
  | [] => true
  | (_, .inl t) :: l => (match headZ l with | some c => okTok1 t c | none => (match l with | [] => okTok t [] | _ => false)) && okZ l
  | (_, .inr _) :: l => (match headZ l with | some c => nonL.contains c.toNat | none => false) && okZ l
theorem headZ_ok (X0 X1 X2 : Nat) {l : List (Bool × (Tok ⊕ Nat))} {c : UInt8} (h : headZ l = some c) : ∃ r, psB (l.map (pcZ X0 X1 X2)) = c :: r := by
  match l, h with
  | (true, t) :: l, h =>
    simp only [headZ, Option.some.injEq] at h
    subst h
    exact ⟨_, rfl⟩
  | (false, .inl t) :: l, h =>
    simp only [headZ] at h
    cases hb : tB t with
    | nil => rw [hb] at h; cases h
    | cons a bs =>
      rw [hb] at h
      simp only [List.head?_cons, Option.some.injEq] at h
      subst h
      refine ⟨bs ++ psB (l.map (pcZ X0 X1 X2)), ?_⟩
      show pB (false, t) ++ psB (l.map (pcZ X0 X1 X2)) = _
      unfold pB
      rw [hb]
      rfl
theorem nTok_ok : ∀ X, X < 40 → okNum (nTok X) = true ∧ (nTok X).1 = 3 ∧ nOf (nTok X) = X ∧ (nTok X).2.2 ≤ 2 := by decide +kernel
theorem okZ_ok {X0 X1 X2 : Nat} (h0 : X0 ≤ 39) (h1 : X1 ≤ 39) (h2 : X2 ≤ 39) : ∀ (l : List (Bool × (Tok ⊕ Nat))), okZ l = true → okPs (l.map (pcZ X0 X1 X2)) = true
  | [], _ => rfl
  | (b, .inl t) :: l, h => by
    simp only [okZ, Bool.and_eq_true] at h
    obtain ⟨ha, hb⟩ := h
    rw [List.map_cons, okPs, Bool.and_eq_true]
    refine ⟨?_, okZ_ok h0 h1 h2 l hb⟩
    show okTok t (psB (l.map (pcZ X0 X1 X2))) = true
    split at ha
    · rename_i c hc
      obtain ⟨r, hr⟩ := headZ_ok X0 X1 X2 hc
      rw [hr]
      exact okTok1_ok ha
    · split at ha
      · exact ha
      · cases ha
  | (b, .inr j) :: l, h => by
    simp only [okZ, Bool.and_eq_true] at h
    obtain ⟨ha, hb⟩ := h
    rw [List.map_cons, okPs, Bool.and_eq_true]
    refine ⟨?_, okZ_ok h0 h1 h2 l hb⟩
    show okTok (nTok (selX j X0 X1 X2)) (psB (l.map (pcZ X0 X1 X2))) = true
    have hx : selX j X0 X1 X2 < 40 := by unfold selX; split <;> omega
    obtain ⟨n1, n2, _⟩ := nTok_ok _ hx
    split at ha
    · rename_i c hc
      obtain ⟨r, hr⟩ := headZ_ok X0 X1 X2 hc
      rw [hr]
      unfold okTok
      rw [n2]
      simp only [Bool.and_eq_true]
      exact ⟨n1, ha⟩
    · cases ha
theorem okZ_true : okZ pcS = true := by decide +kernel
theorem pcs_ok {X0 X1 X2 : Nat} (h0 : X0 ≤ 39) (h1 : X1 ≤ 39) (h2 : X2 ≤ 39) : okPs (pcsL X0 X1 X2) = true := by
  rw [pcs_eq]
  exact okZ_ok h0 h1 h2 pcS okZ_true
/-- How long the text is at most. -/
def lenZ : List (Bool × (Tok ⊕ Nat)) → Nat
  | [] => 0
  | (_, .inl t) :: l => 1 + t.2.2 + lenZ l
  | (_, .inr _) :: l => 3 + lenZ l
theorem lenZ_ok {X0 X1 X2 : Nat} (h0 : X0 ≤ 39) (h1 : X1 ≤ 39) (h2 : X2 ≤ 39) : ∀ (l : List (Bool × (Tok ⊕ Nat))), (psB (l.map (pcZ X0 X1 X2))).length ≤ lenZ l
  | [] => Nat.zero_le _
  | (b, x) :: l => by
    have ih := lenZ_ok h0 h1 h2 l
    have e : psB (((b, x) :: l).map (pcZ X0 X1 X2)) = pB (b, tokZ X0 X1 X2 x) ++ psB (l.map (pcZ X0 X1 X2)) := rfl
    have hp : (pB (b, tokZ X0 X1 X2 x)).length ≤ 1 + (tokZ X0 X1 X2 x).2.2 := by
      have hl : (tB (tokZ X0 X1 X2 x)).length = (tokZ X0 X1 X2 x).2.2 := by
        unfold tB
        generalize (tokZ X0 X1 X2 x).2.1 = n
        generalize (tokZ X0 X1 X2 x).2.2 = m
        induction m generalizing n with
        | zero => rfl
        | succ m ih => rw [sdec, List.length_cons, ih]
      unfold pB
      rw [List.length_append, hl]
      cases b <;> simp
    rw [e, List.length_append]
    cases x with
    | inl t =>
      have : (tokZ X0 X1 X2 (.inl t)).2.2 = t.2.2 := rfl
      rw [this] at hp
      simp only [lenZ]
      omega
    | inr j =>
      have hx : selX j X0 X1 X2 < 40 := by unfold selX; split <;> omega
      have : (tokZ X0 X1 X2 (.inr j)).2.2 ≤ 2 := (nTok_ok _ hx).2.2.2
      simp only [lenZ]
      omega
theorem lenZ_pcS : lenZ pcS ≤ 1000 := by decide +kernel
theorem src_size {X0 X1 X2 : Nat} (h0 : X0 ≤ 39) (h1 : X1 ≤ 39) (h2 : X2 ≤ 39) : (srcOf X0 X1 X2).size ≤ 1000 := by
  have : (srcOf X0 X1 X2).size = (psB (pcsL X0 X1 X2)).length := by
    show (psB (pcsL X0 X1 X2)).toArray.size = _
    rw [List.size_toArray]
  rw [this, pcs_eq]
  exact Nat.le_trans (lenZ_ok h0 h1 h2 pcS) lenZ_pcS
/-- A token's cells, in the evaluator's words. -/
def valZ (t : Tok) : Nat := if t.1 = 3 then valD (tB t) else 0
def rowZ : Tok ⊕ Nat → List V
  | .inl t => [.int .i64 (.ofNat t.1), .str t.2.1 t.2.2, .cl2 0 316, .int .i64 (.ofNat (valZ t))]
  | .inr j => [.int .i64 3, .cl2 0 63, .cl2 0 316, .cl1 0 (Nat.add 528 j)]
def strZ : List (Bool × (Tok ⊕ Nat)) → Bool
  | [] => true
  | (_, .inl t) :: l => Nat.blt t.2.1 (Nat.pow 256 t.2.2) && strZ l
  | (_, .inr j) :: l => Nat.blt j 3 && strZ l
theorem strZ_true : strZ pcS = true := by decide +kernel
end Go.Ev
