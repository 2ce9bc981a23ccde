/- ParseLists: the parser's functions by the evaluator, where the tokens at hand are pinned. No condition. -/
import Derived.Test.YtcaomilekhhhlaaDoorEvQa
namespace Go.Proofs.YtcaomilekhhhlaaDoor
open Go.Ev Go.RowKit
set_option maxRecDepth 100000

/-- The tokens' slice; a place so many behind the name's number. -/
def satT : V := .msk 0 (4 * (600 + 65536 * (601 + 65536 * 602)) + 3)
def plV (id f lo hi : Nat) : V := .msk 0 (4 * sPack id (1073741824 + f) (1073741824 + f) lo hi + 1)
/-- Which kind of place, where its pin lies, how far behind. -/
def plOf (v : V) : Option (Nat × Nat × Nat) :=
  match v with
  | .int .i64 (.ofNat a) => some (0, 603, a)
  | .msk m q => bif Nat.beq m 0 && (Nat.beq (Nat.mod q 4) 1 && (Nat.beq (sC (Nat.div q 4)) (sD (Nat.div q 4)) && Nat.ble 1073741824 (sC (Nat.div q 4)))) then
      (bif Nat.beq (sId (Nat.div q 4)) 11 then some (1, 14, Nat.sub (sC (Nat.div q 4)) 1073741824) else bif Nat.beq (sId (Nat.div q 4)) 700 then some (2, 702, Nat.sub (sC (Nat.div q 4)) 1073741824) else none) else none
  | _ => none
def pinOf (h : H) (id : Nat) : Nat := match h.mem.blk id with | .u16b k => k | _ => 0
def tokOf (h : H) (v : V) (n : Nat) : Option Tok :=
  match plOf v with
  | some (kd, id, f) => bif Nat.blt 0 (pinOf h id) && Nat.beq (Nat.mod (Nat.pred (pinOf h id)) 3) kd then (winOf (Nat.div (Nat.pred (pinOf h id)) 3))[f + n]? else none
  | none => none
def aheadV (vs : List V) (h : H) : Option V :=
  match vs with
  | [.ptr p o, .int .i64 (.ofNat n)] => (match h.mem.blk p with
    | .live m _ _ _ c => bif Nat.beq o 0 && (Nat.beq m 5 && (Nat.blt p 65536 && veq (c.get 0) satT)) then (match tokOf h (c.get 1) n with
      | some t => bif Nat.blt t.2.1 (Nat.pow 256 t.2.2) then some (.agg [.int .i64 (.ofNat t.1), .str t.2.1 t.2.2, .cl2 0 (kq .i64), .int .i64 0]) else none
      | none => none) else none
    | _ => none)
  | _ => none

theorem satT_inv {r : Emb} {x : Value} (h : VRel r satT x) {tb z len cap : Nat} (h1 : r 600 = some (tb, 0, z)) (h2 : r 601 = some (0, 0, 0)) (h3 : r 602 = some (len, cap, 0)) : x = .slice (some ⟨tb, 0, none⟩) len cap := by
  obtain ⟨b, o, x', z', cap', m, rfl, g1, g2, g3, _⟩ := sat_inv (q := 4 * (600 + 65536 * (601 + 65536 * 602)) + 3) h (by decide)
  have f1 : r 600 = some (b, o + x', m) := g1
  have f2 : r 601 = some (x', 0, 0) := g2
  have f3 : r 602 = some (z', cap', 0) := g3
  rw [h1] at f1
  rw [h2] at f2
  rw [h3] at f3
  simp only [Option.some.injEq, Prod.mk.injEq] at f1 f2 f3
  obtain ⟨rfl, f12, _⟩ := f1
  obtain ⟨rfl, _⟩ := f2
  obtain ⟨rfl, rfl, _⟩ := f3
  have : o = 0 := by omega
  rw [this]
/-- What a place's value is. -/
theorem plOf_inv {r : Emb} {v : V} {x : Value} {kd id f : Nat} (h : plOf v = some (kd, id, f)) (hv : VRel r v x) {j : Nat} (hp : plaOf kd j r) : x = .int .i64 ((j + f : Nat) : Int) := by
  unfold plOf at h
  split at h
  · rename_i a
    simp only [Option.some.injEq, Prod.mk.injEq] at h
    obtain ⟨rfl, rfl, rfl⟩ := h
    have e : j = 0 := hp
    subst e
    cases hv
    rw [Nat.zero_add]
    rfl
  · rename_i m q
    cases hb : (Nat.beq m 0 && (Nat.beq (Nat.mod q 4) 1 && (Nat.beq (sC (Nat.div q 4)) (sD (Nat.div q 4)) && Nat.ble 1073741824 (sC (Nat.div q 4)))))
    · rw [hb] at h; cases h
    rw [hb] at h
    simp only [Bool.and_eq_true] at hb
    obtain ⟨b1, b2, b3, b4⟩ := hb
    obtain rfl := Nat.eq_of_beq_eq_true b1
    have g2 : q % 4 = 1 := Nat.eq_of_beq_eq_true b2
    have g3 : sC (q / 4) = sD (q / 4) := Nat.eq_of_beq_eq_true b3
    have g4 : 1073741824 ≤ sC (q / 4) := Nat.le_of_ble_eq_true b4
    obtain ⟨k, rfl, k1, k2, k3⟩ := sym_inv hv g2
    simp only [cond_true] at h
    have fin : ∀ i, r i = some (j, 0, 0) → sId (q / 4) = i → 0 < i → k = ((j + (sC (q / 4) - 1073741824) : Nat) : Int) := fun i hi e h0 => by
      rcases k3 with k3 | ⟨x, y, z, e1, e2, e3⟩
      · omega
      · rw [e, hi] at e1
        cases e1
        rw [← g3] at e3
        omega
    cases h11 : Nat.beq (sId (Nat.div q 4)) 11
    · rw [h11] at h
      cases h7 : Nat.beq (sId (Nat.div q 4)) 700
      · rw [h7] at h; cases h
      · rw [h7] at h
        simp only [cond_true, cond_false, Option.some.injEq, Prod.mk.injEq] at h
        obtain ⟨rfl, rfl, rfl⟩ := h
        have := fin 700 hp (Nat.eq_of_beq_eq_true h7) (by decide)
        rw [this]
        rfl
    · rw [h11] at h
      simp only [cond_true, Option.some.injEq, Prod.mk.injEq] at h
      obtain ⟨rfl, rfl, rfl⟩ := h
      have := fin 11 hp (Nat.eq_of_beq_eq_true h11) (by decide)
      rw [this]
      rfl
  · cases h
theorem plOf_lt {v : V} {kd id f : Nat} (h : plOf v = some (kd, id, f)) : id < 65536 := by
  unfold plOf at h
  split at h
  · simp only [Option.some.injEq, Prod.mk.injEq] at h; omega
  · rename_i m q
    cases hb : (Nat.beq m 0 && (Nat.beq (Nat.mod q 4) 1 && (Nat.beq (sC (Nat.div q 4)) (sD (Nat.div q 4)) && Nat.ble 1073741824 (sC (Nat.div q 4)))))
    · rw [hb] at h; cases h
    rw [hb] at h
    simp only [cond_true] at h
    cases h11 : Nat.beq (sId (Nat.div q 4)) 11
    · rw [h11] at h
      cases h7 : Nat.beq (sId (Nat.div q 4)) 700
      · rw [h7] at h; cases h
      · rw [h7] at h
        simp only [cond_true, cond_false, Option.some.injEq, Prod.mk.injEq] at h
        omega
    · rw [h11] at h
      simp only [cond_true, Option.some.injEq, Prod.mk.injEq] at h
      omega
  · cases h
theorem vs_two {r : Emb} {u v : V} {xs : Array Value} (h : VsRel r [u, v] xs.toList) : ∃ x y, xs = #[x, y] ∧ VRel r u x ∧ VRel r v y := by
  cases xs with | mk l =>
  cases h with
  | cons h1 h2 => cases h2 with
    | cons h2 h3 => cases h3; exact ⟨_, _, rfl, h1, h2⟩
theorem pin_of {r : Emb} {h : H} {w : World} (hr : Rel r h w) {id : Nat} (hid : id < 65536) (hp : Nat.blt 0 (pinOf h id) = true) : ∃ b, tokSpec (pinOf h id) r b w := by
  unfold pinOf at hp ⊢
  cases hk : h.mem.blk id <;> simp only [hk] at hp ⊢ <;> first | (exact absurd hp (by decide)) | skip
  obtain ⟨b, sh, m, h1, h2⟩ := hr.fit id hid (by rw [hk]; rfl)
  rw [hk] at h2
  exact ⟨b, h2.1⟩
theorem ahead_ok {W : World} {vs : List V} {h : H} {v : V} (he : aheadV vs h = some v) : CallOk Tryd.prog W 13 vs h v h := by
  intro r w xs hr hg hba hvs
  unfold aheadV at he
  split at he
  · rename_i p o n
    split at he
    · rename_i m ty ro pl c hblk
      cases hb : (Nat.beq o 0 && (Nat.beq m 5 && (Nat.blt p 65536 && veq (c.get 0) satT)))
      · rw [hb] at he; cases he
      rw [hb] at he
      simp only [Bool.and_eq_true] at hb
      obtain ⟨b1, b2, b3, b4⟩ := hb
      obtain rfl := Nat.eq_of_beq_eq_true b1
      obtain rfl := Nat.eq_of_beq_eq_true b2
      have hp : p < 65536 := by rwa [Nat.blt_eq] at b3
      simp only [cond_true] at he
      split at he
      · rename_i t ht
        cases hlt : Nat.blt t.2.1 (Nat.pow 256 t.2.2)
        · rw [hlt] at he; cases he
        rw [hlt] at he
        simp only [cond_true, Option.some.injEq] at he
        subst he
        have htl : t.2.1 < 256 ^ t.2.2 := by rwa [Nat.blt_eq] at hlt
        unfold tokOf at ht
        split at ht
        · rename_i kd id f hpl
          cases hpin : (Nat.blt 0 (pinOf h id) && Nat.beq (Nat.mod (Nat.pred (pinOf h id)) 3) kd)
          · rw [hpin] at ht; cases ht
          rw [hpin] at ht
          simp only [cond_true] at ht
          simp only [Bool.and_eq_true] at hpin
          obtain ⟨q1, q2⟩ := hpin
          have hid : id < 65536 := plOf_lt hpl
          obtain ⟨tb, hsp⟩ := pin_of hr hid q1
          obtain ⟨k, hk⟩ : ∃ k, pinOf h id = k + 1 := ⟨pinOf h id - 1, by rw [Nat.blt_eq] at q1; omega⟩
          rw [hk] at hsp q2 ht
          obtain ⟨len, cap, z, j, s0, s1, s2, s3, s4, s5⟩ := hsp
          have q2' : k % 3 = kd := Nat.eq_of_beq_eq_true q2
          have ht' : (winOf (k / 3))[f + n]? = some t := ht
          obtain ⟨x, y, rfl, v1, v2⟩ := vs_two hvs
          cases v2
          obtain ⟨pb, sh, mm, e1, hf⟩ := hr.blk p 5 ty ro pl c hp hblk
          cases v1 with
          | @ptr _ _ b' sh' c' e2 =>
          rw [e1] at e2
          cases e2
          obtain ⟨⟨cs, fz, ⟨t', g1, _⟩, g2, g3, g4, g5⟩, _⟩ := hf
          obtain ⟨x0, hx0, vx0⟩ := g5 0 (by decide)
          obtain ⟨x1, hx1, vx1⟩ := g5 1 (by decide)
          rw [veq_eq b4] at vx0
          obtain rfl := satT_inv vx0 s1 s2 s3
          obtain rfl := plOf_inv hpl vx1 (by rw [← q2']; exact s4)
          obtain ⟨u1, u2⟩ := s5 (f + n) t ht'
          have c0 : w.cell? ⟨pb, 0 + sh, none⟩ = some (.slice (some ⟨tb, 0, none⟩) len cap) := by
            simp only [World.cell?, g1]
            simpa using hx0
          have c1 : w.cell? ⟨pb, 0 + sh + 1, none⟩ = some (.int .i64 ((j + f : Nat) : Int)) := by
            simp only [World.cell?, g1]
            rw [show 0 + sh + 1 = 1 + sh by omega]
            simpa using hx1
          refine (ahead_walk (n := n) (q := j + (f + n)) c0 c1 (by omega) u1 s0 u2).mono ?_
          rintro e w' ⟨⟨x, rfl⟩, hk⟩
          refine ⟨_, r, rfl, Step.kept hr hk.size hk.block hk.os hk.output hk.tape, .agg (.cons (.int .i64 _) (.cons (.str htl) (.cons (.uint (k := .i64) (fun q => by cases q)) (.cons (.int .i64 0) .nil))))⟩
        · cases ht
      · cases he
    · cases he
  · cases he
end Go.Proofs.YtcaomilekhhhlaaDoor
