/- ParseLists: the token at hand, by the parser. ParseLists: the parser's functions by the evaluator, where the tokens at hand are pinned. ParseLists: the parser's functions by the evaluator, from the parser's cells. ParseLists: single functions of the parser at the pinned tokens. No condition. -/
import Derived.Test.YtjkgefnlennbjaaGreatDoorEvMl
set_option linter.all false
namespace Go.Proofs.YtjkgefnlennbjaaGreatDoor
open Go.Ev Go.RowKit
set_option maxHeartbeats 4000000
set_option maxRecDepth 100000

theorem tok1_ret {fn : Func} {R : Ending → World → Prop} {tmps : Array Value} {w : World} {b : Nat} {x0 x1 x2 x3 : Value} {fz : Nat × Nat} (hr : fn.results = #[.cell 4 45]) (h4 : tmps.getD 4 undef = .pointer (some ⟨b, 0, none⟩)) (hb : w.heap[b]? = some (.cells #[x0, x1, x2, x3] 45 fz))
    (hR : R (.returned (.agg #[x0, x1, x2, x3])) w) : bodyPost Tryz.prog fn R .ret { tmps := tmps, defers := [] } w := by
  refine bodyPost_ret (v := .agg #[x0, x1, x2, x3]) ?_ rfl hR
  have h1 : (loadVar 45 ⟨b, 0, none⟩).run Tryz.prog w = .ok (.agg #[x0, x1, x2, x3]) w := run_loadVar_row _ b 45 45 _ _ _ hb Tryz.underlying45 rfl (by kernel_rfl)
  have h4' : tmps[4]?.getD undef = .pointer (some ⟨b, 0, none⟩) := by rw [← Array.getD_eq_getD_getElem?]; exact h4
  simp [results, hr, h4', asAddr, h1]
theorem ahead_walk {w : World} {pb po tb len cap j n q : Nat} {t : Tok} (c0 : w.cell? ⟨pb, po, none⟩ = some (.slice (some ⟨tb, 0, none⟩) len cap)) (c1 : w.cell? ⟨pb, po + 1, none⟩ = some (.int .i64 j)) (hq : j + n = q) (hj : q < len) (hlen : len ≤ 2000) (ht : tokAt w tb q t) :
    Calls Tryz.prog 16 #[.pointer (some ⟨pb, po, none⟩), .int .i64 n] w fun e w' => (∃ x : Int, e = .returned (.agg #[.int .i64 t.1, .string (sval t.2.1 t.2.2), .int .i64 x, .int .i64 (nOf t)])) ∧ Below w.heap.size w w' := by
  obtain ⟨x, t0, t1, t2, t3⟩ := ht
  replace t3 : w.cell? ⟨tb, q * 4 + 3, none⟩ = some (.int .i64 (nOf t)) := t3
  generalize nOf t = k3 at t3 ⊢
  have w1 : IntKind.i64.wrap ((j : Int) + (n : Int)) = (q : Int) := by subst hq; have := Go.Ev.wrap_small IntKind.i64 (j + n) (by show _ ≤ 9223372036854775807; omega); simpa using this
  obtain ⟨m, hm⟩ : ∃ m, len - 1 = m := ⟨_, rfl⟩
  have w2 : IntKind.i64.wrap ((len : Int) - 1) = (m : Int) := by
    have := Go.Ev.wrap_small IntKind.i64 m (by show _ ≤ 9223372036854775807; omega)
    rw [show ((len : Int) - 1) = Int.ofNat m by simp only [Int.ofNat_eq_natCast]; omega]
    exact this
  have hmq : (q : Int) ≤ (m : Int) := by omega
  have hmin : min (q : Int) (m : Int) = (q : Int) := by omega
  have hq0 : (0 : Int) ≤ (q : Int) := by omega
  have hql : (q : Int) < (len : Int) := by omega
  clear hq hm hlen hj
  generalize ((t.1 : Nat) : Int) = k0 at t0 ⊢
  generalize sval t.2.1 t.2.2 = k1 at t1 ⊢
  go_enter Tryz.func16, Tryz.ntmps16
  go_wp2
  obtain ⟨w5, hw5⟩ : ∃ w5, w.alloc (Obj.cells #[Value.int IntKind.i64 0, Value.string { data := #[] }, Value.int IntKind.i64 0, Value.int IntKind.i64 0] 45) = w5 := ⟨_, rfl⟩
  rw [hw5]
  have hb5 : Below w.heap.size w w5 := by rw [← hw5]; exact (Below.refl _ w).alloc (Nat.le_refl _) _
  have h4 : w5.heap[w.heap.size]? = some (.cells #[.int .i64 0, .string ⟨#[]⟩, .int .i64 0, .int .i64 0] 45 (0, 0)) := by rw [← hw5]; exact heap_alloc_new w _
  have lp : pb < w.heap.size := World.block_lt_of_cell? w _ c0
  have lt : tb < w.heap.size := World.block_lt_of_cell? w _ t0
  replace c0 := (hb5.cell (p := ⟨pb, po, none⟩) lp).trans c0
  replace c1 := (hb5.cell (p := ⟨pb, po + 1, none⟩) lp).trans c1
  replace t0 := (hb5.cell (p := ⟨tb, q * 4, none⟩) lt).trans t0
  replace t1 := (hb5.cell (p := ⟨tb, q * 4 + 1, none⟩) lt).trans t1
  replace t2 := (hb5.cell (p := ⟨tb, q * 4 + 2, none⟩) lt).trans t2
  replace t3 := (hb5.cell (p := ⟨tb, q * 4 + 3, none⟩) lt).trans t3
  clear hw5
  generalize hg : w.heap.size = g at h4 hb5 ⊢
  obtain ⟨r0, r1, r2, r3, f0, f1, f2, f3⟩ := four_at h4
  go_region
  go_wp2
  have hE : (((((w5.setCell ⟨g, 0, none⟩ (.int .i64 k0)).setCell ⟨g, 1, none⟩ (.string k1)).setCell ⟨g, 2, none⟩ (.int .i64 x)).setCell ⟨g, 3, none⟩ (.int .i64 k3)).drew).heap[g]? = some (.cells #[.int .i64 k0, .string k1, .int .i64 x, .int .i64 k3] 45 (0, 0)) := four_set h4 _ _ _ _
  exact tok1_ret rfl rfl hE ⟨⟨x, rfl⟩, by rw [hg]; exact (below_set (below_set (below_set (below_set hb5 0 _) 1 _) 2 _) 3 _).drew⟩
end Go.Proofs.YtjkgefnlennbjaaGreatDoor

namespace Go.Proofs.YtjkgefnlennbjaaGreatDoor
open Go.Ev Go.RowKit
set_option maxRecDepth 100000

/-- The tokens' slice; a place so many behind the name's number. -/
def satT : V := .msk 0 (4 * (600 + 65536 * (601 + 65536 * 602)) + 3)
def plV (id f lo hi : Nat) : V := .msk 0 (4 * sPack id (1073741824 + f) (1073741824 + f) lo hi + 1)
/-- Which kind of place, where its pin lies, how far behind. -/
def plOf (v : V) : Option (Nat × Nat × Nat) :=
  match v with
  | .int .i64 (.ofNat a) => some (0, 603, a)
  | .msk m q => bif Nat.beq m 0 && (Nat.beq (Nat.mod q 4) 1 && (Nat.beq (sC (Nat.div q 4)) (sD (Nat.div q 4)) && Nat.ble 1073741824 (sC (Nat.div q 4)))) then
      (bif Nat.beq (sId (Nat.div q 4)) 11 then some (1, 14, Nat.sub (sC (Nat.div q 4)) 1073741824) else bif Nat.beq (sId (Nat.div q 4)) 700 then some (2, 702, Nat.sub (sC (Nat.div q 4)) 1073741824) else none) else none
  | _ => none
def pinOf (h : H) (id : Nat) : Nat := match h.mem.blk id with | .u16b k => k | _ => 0
def tokOf (h : H) (v : V) (n : Nat) : Option Tok :=
  match plOf v with
  | some (kd, id, f) => bif Nat.blt 0 (pinOf h id) && Nat.beq (Nat.mod (Nat.pred (pinOf h id)) 3) kd then (winOf (Nat.div (Nat.pred (pinOf h id)) 3))[f + n]? else none
  | none => none
def aheadV (vs : List V) (h : H) : Option V :=
  match vs with
  | [.ptr p o, .int .i64 (.ofNat n)] => (match h.mem.blk p with
    | .live m _ _ _ c => bif Nat.beq o 0 && (Nat.beq m 5 && (Nat.blt p 65536 && veq (c.get 0) satT)) then (match tokOf h (c.get 1) n with
      | some t => bif Nat.blt t.2.1 (Nat.pow 256 t.2.2) then some (.agg [.int .i64 (.ofNat t.1), .str t.2.1 t.2.2, .cl2 0 (kq .i64), .int .i64 (nOf t)]) else none
      | none => none) else none
    | _ => none)
  | _ => none

theorem satT_inv {r : Emb} {x : Value} (h : VRel r satT x) {tb z len cap : Nat} (h1 : r 600 = some (tb, 0, z)) (h2 : r 601 = some (0, 0, 0)) (h3 : r 602 = some (len, cap, 0)) : x = .slice (some ⟨tb, 0, none⟩) len cap := by
  obtain ⟨b, o, x', z', cap', m, rfl, g1, g2, g3, _⟩ := sat_inv (q := 4 * (600 + 65536 * (601 + 65536 * 602)) + 3) h (by decide)
  have f1 : r 600 = some (b, o + x', m) := g1
  have f2 : r 601 = some (x', 0, 0) := g2
  have f3 : r 602 = some (z', cap', 0) := g3
  rw [h1] at f1
  rw [h2] at f2
  rw [h3] at f3
  simp only [Option.some.injEq, Prod.mk.injEq] at f1 f2 f3
  obtain ⟨rfl, f12, _⟩ := f1
  obtain ⟨rfl, _⟩ := f2
  obtain ⟨rfl, rfl, _⟩ := f3
  have : o = 0 := by omega
  rw [this]
/-- What a place's value is. -/
theorem plOf_inv {r : Emb} {v : V} {x : Value} {kd id f : Nat} (h : plOf v = some (kd, id, f)) (hv : VRel r v x) {j : Nat} (hp : plaOf kd j r) : x = .int .i64 ((j + f : Nat) : Int) := by
  unfold plOf at h
  split at h
  · rename_i a
    simp only [Option.some.injEq, Prod.mk.injEq] at h
    obtain ⟨rfl, rfl, rfl⟩ := h
    have e : j = 0 := hp
    subst e
    cases hv
    rw [Nat.zero_add]
    rfl
  · rename_i m q
    cases hb : (Nat.beq m 0 && (Nat.beq (Nat.mod q 4) 1 && (Nat.beq (sC (Nat.div q 4)) (sD (Nat.div q 4)) && Nat.ble 1073741824 (sC (Nat.div q 4)))))
    · rw [hb] at h; cases h
    rw [hb] at h
    simp only [Bool.and_eq_true] at hb
    obtain ⟨b1, b2, b3, b4⟩ := hb
    obtain rfl := Nat.eq_of_beq_eq_true b1
    have g2 : q % 4 = 1 := Nat.eq_of_beq_eq_true b2
    have g3 : sC (q / 4) = sD (q / 4) := Nat.eq_of_beq_eq_true b3
    have g4 : 1073741824 ≤ sC (q / 4) := Nat.le_of_ble_eq_true b4
    obtain ⟨k, rfl, k1, k2, k3⟩ := sym_inv hv g2
    simp only [cond_true] at h
    have fin : ∀ i, r i = some (j, 0, 0) → sId (q / 4) = i → 0 < i → k = ((j + (sC (q / 4) - 1073741824) : Nat) : Int) := fun i hi e h0 => by
      rcases k3 with k3 | ⟨x, y, z, e1, e2, e3⟩
      · omega
      · rw [e, hi] at e1
        cases e1
        rw [← g3] at e3
        omega
    cases h11 : Nat.beq (sId (Nat.div q 4)) 11
    · rw [h11] at h
      cases h7 : Nat.beq (sId (Nat.div q 4)) 700
      · rw [h7] at h; cases h
      · rw [h7] at h
        simp only [cond_true, cond_false, Option.some.injEq, Prod.mk.injEq] at h
        obtain ⟨rfl, rfl, rfl⟩ := h
        have := fin 700 hp (Nat.eq_of_beq_eq_true h7) (by decide)
        rw [this]
        rfl
    · rw [h11] at h
      simp only [cond_true, Option.some.injEq, Prod.mk.injEq] at h
      obtain ⟨rfl, rfl, rfl⟩ := h
      have := fin 11 hp (Nat.eq_of_beq_eq_true h11) (by decide)
      rw [this]
      rfl
  · cases h
theorem plOf_lt {v : V} {kd id f : Nat} (h : plOf v = some (kd, id, f)) : id < 65536 := by
  unfold plOf at h
  split at h
  · simp only [Option.some.injEq, Prod.mk.injEq] at h; omega
  · rename_i m q
    cases hb : (Nat.beq m 0 && (Nat.beq (Nat.mod q 4) 1 && (Nat.beq (sC (Nat.div q 4)) (sD (Nat.div q 4)) && Nat.ble 1073741824 (sC (Nat.div q 4)))))
    · rw [hb] at h; cases h
    rw [hb] at h
    simp only [cond_true] at h
    cases h11 : Nat.beq (sId (Nat.div q 4)) 11
    · rw [h11] at h
      cases h7 : Nat.beq (sId (Nat.div q 4)) 700
      · rw [h7] at h; cases h
      · rw [h7] at h
        simp only [cond_true, cond_false, Option.some.injEq, Prod.mk.injEq] at h
        omega
    · rw [h11] at h
      simp only [cond_true, Option.some.injEq, Prod.mk.injEq] at h
      omega
  · cases h
theorem vs_two {r : Emb} {u v : V} {xs : Array Value} (h : VsRel r [u, v] xs.toList) : ∃ x y, xs = #[x, y] ∧ VRel r u x ∧ VRel r v y := by
  cases xs with | mk l =>
  cases h with
  | cons h1 h2 => cases h2 with
    | cons h2 h3 => cases h3; exact ⟨_, _, rfl, h1, h2⟩
theorem pin_of {r : Emb} {h : H} {w : World} (hr : Rel r h w) {id : Nat} (hid : id < 65536) (hp : Nat.blt 0 (pinOf h id) = true) : ∃ b, tokSpec (pinOf h id) r b w := by
  unfold pinOf at hp ⊢
  cases hk : h.mem.blk id <;> simp only [hk] at hp ⊢ <;> first | (exact absurd hp (by decide)) | skip
  obtain ⟨b, sh, m, h1, h2⟩ := hr.fit id hid (by rw [hk]; rfl)
  rw [hk] at h2
  exact ⟨b, h2.1⟩
theorem ahead_ok {W : World} {vs : List V} {h : H} {v : V} (he : aheadV vs h = some v) : CallOk Tryz.prog W 16 vs h v h := by
  intro r w xs hr hg hba hvs
  unfold aheadV at he
  split at he
  · rename_i p o n
    split at he
    · rename_i m ty ro pl c hblk
      cases hb : (Nat.beq o 0 && (Nat.beq m 5 && (Nat.blt p 65536 && veq (c.get 0) satT)))
      · rw [hb] at he; cases he
      rw [hb] at he
      simp only [Bool.and_eq_true] at hb
      obtain ⟨b1, b2, b3, b4⟩ := hb
      obtain rfl := Nat.eq_of_beq_eq_true b1
      obtain rfl := Nat.eq_of_beq_eq_true b2
      have hp : p < 65536 := by rwa [Nat.blt_eq] at b3
      simp only [cond_true] at he
      split at he
      · rename_i t ht
        cases hlt : Nat.blt t.2.1 (Nat.pow 256 t.2.2)
        · rw [hlt] at he; cases he
        rw [hlt] at he
        simp only [cond_true, Option.some.injEq] at he
        subst he
        have htl : t.2.1 < 256 ^ t.2.2 := by rwa [Nat.blt_eq] at hlt
        unfold tokOf at ht
        split at ht
        · rename_i kd id f hpl
          cases hpin : (Nat.blt 0 (pinOf h id) && Nat.beq (Nat.mod (Nat.pred (pinOf h id)) 3) kd)
          · rw [hpin] at ht; cases ht
          rw [hpin] at ht
          simp only [cond_true] at ht
          simp only [Bool.and_eq_true] at hpin
          obtain ⟨q1, q2⟩ := hpin
          have hid : id < 65536 := plOf_lt hpl
          obtain ⟨tb, hsp⟩ := pin_of hr hid q1
          obtain ⟨k, hk⟩ : ∃ k, pinOf h id = k + 1 := ⟨pinOf h id - 1, by rw [Nat.blt_eq] at q1; omega⟩
          rw [hk] at hsp q2 ht
          obtain ⟨len, cap, z, j, s0, s1, s2, s3, s4, s5⟩ := hsp
          have q2' : k % 3 = kd := Nat.eq_of_beq_eq_true q2
          have ht' : (winOf (k / 3))[f + n]? = some t := ht
          obtain ⟨x, y, rfl, v1, v2⟩ := vs_two hvs
          cases v2
          obtain ⟨pb, sh, mm, e1, hf⟩ := hr.blk p 5 ty ro pl c hp hblk
          cases v1 with
          | @ptr _ _ b' sh' c' e2 =>
          rw [e1] at e2
          cases e2
          obtain ⟨⟨cs, fz, ⟨t', g1, _⟩, g2, g3, g4, g5⟩, _⟩ := hf
          obtain ⟨x0, hx0, vx0⟩ := g5 0 (by decide)
          obtain ⟨x1, hx1, vx1⟩ := g5 1 (by decide)
          rw [veq_eq b4] at vx0
          obtain rfl := satT_inv vx0 s1 s2 s3
          obtain rfl := plOf_inv hpl vx1 (by rw [← q2']; exact s4)
          obtain ⟨u1, u2⟩ := s5 (f + n) t ht'
          have c0 : w.cell? ⟨pb, 0 + sh, none⟩ = some (.slice (some ⟨tb, 0, none⟩) len cap) := by
            simp only [World.cell?, g1]
            simpa using hx0
          have c1 : w.cell? ⟨pb, 0 + sh + 1, none⟩ = some (.int .i64 ((j + f : Nat) : Int)) := by
            simp only [World.cell?, g1]
            rw [show 0 + sh + 1 = 1 + sh by omega]
            simpa using hx1
          refine (ahead_walk (n := n) (q := j + (f + n)) c0 c1 (by omega) u1 s0 u2).mono ?_
          rintro e w' ⟨⟨x, rfl⟩, hk⟩
          refine ⟨_, r, rfl, Step.kept hr hk.size hk.block hk.os hk.output hk.tape, .agg (.cons (.int .i64 _) (.cons (.str htl) (.cons (.uint (k := .i64) (fun q => by cases q)) (.cons (.int .i64 _) .nil))))⟩
        · cases ht
      · cases he
    · cases he
  · cases he
end Go.Proofs.YtjkgefnlennbjaaGreatDoor

namespace Go.Proofs.YtjkgefnlennbjaaGreatDoor
open Go.Ev Go.RowKit
set_option maxRecDepth 100000

def extP : CallFn := fun g vs h => bif Nat.beq g 16 then (aheadV vs h).map fun v => (v, h) else none
def isExtP (g : FuncId) : Bool := Nat.beq g 16
noncomputable def callP : CallFn := callS Tryz.prog extP isExtP mask tab 1000 60
theorem callP_ok {W : World} : CallFnOk Tryz.prog W callP := by
  unfold callP
  rw [callS_eq _ _ _ tabOk]
  refine callN_sound (by kernel_rfl) (fun g hg vs h v h' he => ?_) noNum progOk (fun call hc => draws call hc) 60
  obtain rfl := Nat.eq_of_beq_eq_true hg
  obtain ⟨e1, rfl⟩ := map_of (o := aheadV vs h) he
  exact ahead_ok e1

/-- The parser's cells. -/
structure PAt (w : World) (pb tb len cap j d : Nat) : Prop where
  blk : w.heap[pb]? = some (.cells #[.slice (some ⟨tb, 0, none⟩) len cap, .int .i64 j, .int .i64 d, .int .i64 0, .int .i64 0] 43 (0, 0))
/-- All blocks but the parser's are as they were. -/
structure Pk (pb : Nat) (w w' : World) : Prop where
  os : w'.os = w.os
  tape : w'.tape = w.tape
  output : w'.output = w.output
  size : w.heap.size ≤ w'.heap.size
  block : ∀ k, k < w.heap.size → k ≠ pb → w'.heap[k]? = w.heap[k]?
theorem Pk.refl (pb : Nat) (w : World) : Pk pb w w := ⟨rfl, rfl, rfl, Nat.le_refl _, fun _ _ _ => rfl⟩
theorem Pk.trans {pb : Nat} {a b c : World} (h : Pk pb a b) (k : Pk pb b c) : Pk pb a c :=
  ⟨k.os.trans h.os, k.tape.trans h.tape, k.output.trans h.output, Nat.le_trans h.size k.size, fun i hi hn => (k.block i (Nat.lt_of_lt_of_le hi h.size) hn).trans (h.block i hi hn)⟩
theorem Pk.below {pb : Nat} {a b : World} (h : Below a.heap.size a b) : Pk pb a b := ⟨h.os, h.tape, h.output, h.size, fun k hk _ => h.block k hk⟩
theorem Pk.set {pb : Nat} (w : World) (i : Nat) (y : Value) : Pk pb w (w.setCell ⟨pb, i, none⟩ y) :=
  ⟨rfl, rfl, rfl, by simp [World.setCell], fun k _ hn => Below.heap_setCell w ⟨pb, i, none⟩ y k hn⟩

def kOf (cls : Nat) : Nat := 3 * cls + 2
def SPc (d : Nat) : List V := [satT, plV 11 0 0 1000, .int .i64 (.ofNat d), .int .i64 0, .int .i64 0]
def SPh (cls d : Nat) : H := ⟨604, (m4.put 14 (.u16b (kOf cls))).put 20 (.live 5 43 false true (cellsOf (SPc d)))⟩
noncomputable def rP (W : World) (j tb tz len cap pb : Nat) : Emb := fun id =>
  if id = 11 then some (j, 0, 0) else if id = 14 then some (tb, 0, tz) else if id = 20 then some (pb, 0, 5) else if id = 600 then some (tb, 0, tz) else if id = 601 then some (0, 0, 0) else if id = 602 then some (len, cap, 0) else globEmb Tryz.prog W id
theorem glob_none (W : World) {id : Nat} (h : 4 ≤ id) : globEmb Tryz.prog W id = none := by
  have : Tryz.prog.globals.size = 4 := by kernel_rfl
  simp only [globEmb, this]
  rw [if_neg (by omega)]
theorem rP_gl (W : World) (j tb tz len cap pb : Nat) : GRel Tryz.prog (rP W j tb tz len cap pb) := fun g hg => by
  have hs : Tryz.prog.globals.size = 4 := by kernel_rfl
  obtain ⟨m, h⟩ := globEmb_gl Tryz.prog W g hg
  refine ⟨m, ?_⟩
  unfold rP
  rw [if_neg (by omega), if_neg (by omega), if_neg (by omega), if_neg (by omega), if_neg (by omega), if_neg (by omega)]
  exact h
theorem rP_hi (W : World) (j tb tz len cap pb : Nat) {id : Nat} (h : 604 ≤ id) : rP W j tb tz len cap pb id = none := by
  unfold rP
  rw [if_neg (by omega), if_neg (by omega), if_neg (by omega), if_neg (by omega), if_neg (by omega), if_neg (by omega)]
  exact glob_none W (by omega)
theorem SPh_live {cls d id : Nat} (h : Live (SPh cls d) id) : id = 14 ∨ id = 20 := by
  obtain ⟨hi, hl⟩ := h
  by_cases e20 : id = 20
  · exact .inr e20
  by_cases e14 : id = 14
  · exact .inl e14
  exfalso
  have : (SPh cls d).mem.blk id = .dead := by
    show ((m4.put 14 _).put 20 _).blk id = _
    rw [Mem.blk_put_other _ _ _ _ (by decide) hi e20, Mem.blk_put_other _ _ _ _ (by decide) hi e14]
    exact m4_dead id hi
  rw [this] at hl
  cases hl
theorem SPh_14 (cls d : Nat) : (SPh cls d).mem.blk 14 = .u16b (kOf cls) := by
  show ((m4.put 14 _).put 20 _).blk 14 = _
  rw [Mem.blk_put_other _ _ _ _ (by decide) (by decide) (by decide)]
  exact Mem.blk_put_same _ _ _ (by decide)
theorem SPh_20 (cls d : Nat) : (SPh cls d).mem.blk 20 = .live 5 43 false true (cellsOf (SPc d)) := by
  show ((m4.put 14 _).put 20 _).blk 20 = _
  exact Mem.blk_put_same _ _ _ (by decide)

section
variable {W w : World} {pb tb len cap j d cls : Nat}
/-- The beginning, as the evaluator sees it. -/
theorem rP_rel (hp : PAt w pb tb len cap j d) (hne : pb ≠ tb) (htb : tb < w.heap.size) (hlen : len ≤ 2000) (hj : j ≤ 1000) (h0 : 0 < len)
    (hwin : ∀ i t, (winOf cls)[i]? = some t → j + i < len ∧ tokAt w tb (j + i) t) (tz : Nat) : Rel (rP W j tb tz len cap pb) (SPh cls d) w := by
  refine ⟨fun id hi hl => ?_, fun id id' b sh m sh' m' hl hl' _ e e' => ?_, fun id hi => rP_hi W j tb tz len cap pb hi⟩
  · rcases SPh_live ⟨hi, hl⟩ with rfl | rfl
    · refine ⟨tb, 0, tz, rfl, ?_⟩
      rw [SPh_14]
      refine ⟨?_, htb, .inl (by show 0 < kOf cls; unfold kOf; omega)⟩
      show tokSpec (3 * cls + 1 + 1) _ _ _
      refine ⟨len, cap, tz, j, hlen, rfl, rfl, rfl, ?_, fun i t hi => ?_⟩
      · rw [show (3 * cls + 1) % 3 = 1 by omega]; rfl
      · rw [show (3 * cls + 1) / 3 = cls by omega] at hi
        exact hwin i t hi
    · refine ⟨pb, 0, 5, rfl, ?_⟩
      rw [SPh_20]
      refine ⟨⟨_, _, ⟨43, hp.blk, fun _ => rfl⟩, rfl, fun _ x _ => by omega, fun _ => rfl, fun o ho => ?_⟩, by decide, by have := cellsOf_room (SPc d) (show (SPc d).length ≤ 4096 by show 5 ≤ 4096; decide); exact this, fun _ q => by cases q⟩
      rw [cellsOf_get (SPc d) (by show 5 ≤ 4096; decide) o ho]
      match o, ho with
      | 0, _ => exact ⟨_, rfl, .sat (L := 600) (id := 601) (iz := 602) (b := tb) (o := 0) (x := 0) (z := len) (cap := cap) (m := tz) (by decide) (by decide) rfl rfl rfl h0⟩
      | 1, _ => exact ⟨_, rfl, .sym ⟨by rw [sPack_lo (by decide) (by decide) (by decide) (by decide)]; omega, by rw [sPack_hi (by decide) (by decide) (by decide) (by decide)]; omega, .inr ⟨j, 0, 0, by rw [sPack_id (by decide)]; rfl, by rw [sPack_c (by decide) (by decide)]; omega, by rw [sPack_d (by decide) (by decide) (by decide)]; omega⟩⟩⟩
      | 2, _ => exact ⟨_, rfl, .int .i64 _⟩
      | 3, _ => exact ⟨_, rfl, .int .i64 0⟩
      | 4, _ => exact ⟨_, rfl, .int .i64 0⟩
  · have f14 : rP W j tb tz len cap pb 14 = some (tb, 0, tz) := rfl
    have f20 : rP W j tb tz len cap pb 20 = some (pb, 0, 5) := rfl
    rcases SPh_live hl with rfl | rfl <;> rcases SPh_live hl' with rfl | rfl
    · rfl
    · rw [f14] at e; rw [f20] at e'; cases e; cases e'; exact (hne rfl).elim
    · rw [f20] at e; rw [f14] at e'; cases e; cases e'; exact (hne rfl).elim
    · rfl
theorem rP_own {tz b : Nat} (h : Own (rP W j tb tz len cap pb) (SPh cls d) b) : b = pb := by
  obtain ⟨id, sh, m, hi, ho, e⟩ := h
  rcases SPh_live ⟨hi, live_of_own ho⟩ with rfl | rfl
  · rw [SPh_14] at ho; cases ho
  · have f20 : rP W j tb tz len cap pb 20 = some (pb, 0, 5) := rfl
    rw [f20] at e
    cases e
    rfl
/-- A call of the parser's, by the evaluator. -/
theorem evP (hB : Below W.heap.size W w) (hpb : W.heap.size ≤ pb) (hp : PAt w pb tb len cap j d) (hne : pb ≠ tb) (htb : tb < w.heap.size) (hlen : len ≤ 2000) (hj : j ≤ 1000) (h0 : 0 < len)
    (hwin : ∀ i t, (winOf cls)[i]? = some t → j + i < len ∧ tokAt w tb (j + i) t) {g : FuncId} {vs : List V} {v : V} {h' : H} (hy : Nat.beq g yieldG = false) (hc : callP g vs (SPh cls d) = some (v, h')) {xs : Array Value} (hvs : VsRel (rP W j tb 0 len cap pb) vs xs.toList) :
    Calls Tryz.prog g xs w fun e w' => ∃ z r', e = .returned z ∧ VRel r' v z ∧ Rel r' h' w' ∧ (rP W j tb 0 len cap pb).le r' ∧ Pk pb w w' ∧ ∀ b, Own r' h' b → b = pb ∨ w.heap.size ≤ b := by
  have hr := rP_rel (W := W) hp hne htb hlen hj h0 hwin 0
  refine (((callP_ok (W := W)) g vs (SPh cls d) v h' hc).1 hy _ w xs hr (rP_gl W j tb 0 len cap pb) ⟨hB.block, fun b ho => by rw [rP_own ho]; exact hpb, hB.size⟩ hvs).mono ?_
  rintro e w' ⟨z, r', rfl, st, hv⟩
  exact ⟨z, r', rfl, hv, st.rel, st.le, ⟨st.os, st.tape, st.out, st.size, fun k hk hn => st.keep k hk (fun ho => hn (rP_own ho))⟩, fun b hb => (Nat.lt_or_ge b w.heap.size).elim (fun hl => .inl (rP_own (st.own b hl hb))) .inr⟩
end
end Go.Proofs.YtjkgefnlennbjaaGreatDoor

namespace Go.Proofs.YtjkgefnlennbjaaGreatDoor
open Go.Ev Go.RowKit
set_option maxRecDepth 100000

/-- The parser's cells at the end: so many tokens on. -/
def endP (h : H) (f d : Nat) : Bool :=
  match h.mem.blk 20 with
  | .live m t ro pl c => Nat.beq m 5 && (Nat.beq t 43 && (!ro && (pl && (veq (c.get 0) satT && ((match plOf (c.get 1) with | some (kd, _, f') => Nat.beq kd 1 && Nat.beq f' f | none => false) && (veq (c.get 2) (.int .i64 (.ofNat d)) && (veq (c.get 3) (.int .i64 0) && veq (c.get 4) (.int .i64 0))))))))
  | _ => false
theorem arr5 {cs : Array Value} {x0 x1 x2 x3 x4 : Value} (hs : cs.size = 5) (h0 : cs[0]? = some x0) (h1 : cs[1]? = some x1) (h2 : cs[2]? = some x2) (h3 : cs[3]? = some x3) (h4 : cs[4]? = some x4) : cs = #[x0, x1, x2, x3, x4] := by
  apply Array.ext_getElem?
  intro i
  match i with
  | 0 => simpa using h0
  | 1 => simpa using h1
  | 2 => simpa using h2
  | 3 => simpa using h3
  | 4 => simpa using h4
  | k + 5 => rw [Array.getElem?_eq_none (by omega)]; simp
theorem endP_at {h : H} {f d : Nat} (hb : endP h f d = true) {W w : World} {r : Emb} {j tb len cap pb : Nat} (hr : Rel r h w) (hle : (rP W j tb 0 len cap pb).le r) : PAt w pb tb len cap (j + f) d := by
  unfold endP at hb
  split at hb
  · rename_i m t ro pl c hblk
    simp only [Bool.and_eq_true, Bool.not_eq_true'] at hb
    obtain ⟨b1, b2, b3, b4, b5, b6, b7, b8, b9⟩ := hb
    obtain rfl := Nat.eq_of_beq_eq_true b1
    obtain rfl := Nat.eq_of_beq_eq_true b2
    subst b3 b4
    obtain ⟨b, sh, mm, e1, hf⟩ := hr.blk 20 5 43 false true c (by decide) hblk
    have e2 : r 20 = some (pb, 0, 5) := hle _ _ rfl
    rw [e1] at e2
    cases e2
    obtain ⟨⟨cs, fz, ⟨t', g1, gt⟩, g2, _, g4, g5⟩, _⟩ := hf
    obtain rfl := gt rfl
    obtain rfl := g4 rfl
    obtain ⟨x0, h0, v0⟩ := g5 0 (by decide)
    obtain ⟨x1, h1, v1⟩ := g5 1 (by decide)
    obtain ⟨x2, h2, v2⟩ := g5 2 (by decide)
    obtain ⟨x3, h3, v3⟩ := g5 3 (by decide)
    obtain ⟨x4, h4, v4⟩ := g5 4 (by decide)
    rw [veq_eq b5] at v0
    rw [veq_eq b7] at v2
    rw [veq_eq b8] at v3
    rw [veq_eq b9] at v4
    obtain rfl := satT_inv v0 (hle 600 _ rfl) (hle 601 _ rfl) (hle 602 _ rfl)
    cases v2
    cases v3
    cases v4
    split at b6
    · rename_i kd id f' hpl
      simp only [Bool.and_eq_true] at b6
      obtain rfl := Nat.eq_of_beq_eq_true b6.1
      obtain rfl := Nat.eq_of_beq_eq_true b6.2
      obtain rfl := plOf_inv hpl v1 (j := j) (hle 11 _ rfl)
      refine ⟨?_⟩
      rw [g1, arr5 g2 h0 h1 h2 h3 h4]
      rfl
    · cases b6
  · cases hb
noncomputable def boolC (g : FuncId) (vs : List V) (cls d f : Nat) (b0 : Bool) : Bool := match callP g vs (SPh cls d) with | some (.bool b, h) => (b == b0) && endP h f d | _ => false
noncomputable def unitC (g : FuncId) (vs : List V) (cls d f : Nat) : Bool := match callP g vs (SPh cls d) with | some (.tup [], h) => endP h f d | _ => false
noncomputable def tokC (g : FuncId) (vs : List V) (cls d : Nat) : Bool := match callP g vs (SPh cls d) with | some (.agg [.int .i64 _, .str _ _, .cl2 m q, .int .i64 _], h) => Nat.beq m 0 && (Nat.beq q (kq .i64) && endP h 0 d) | _ => false
/-- A node of this kind, its place. -/
noncomputable def nodeC (g : FuncId) (vs : List V) (cls d f kd : Nat) : Bool :=
  match callP g vs (SPh cls d) with
  | some (.ptr id o, h) => Nat.beq o 0 && (Nat.blt id 65536 && (!(Nat.beq id 20) && (endP h f d && (match h.mem.blk id with
    | .live m t ro pl c => Nat.beq m 6 && (Nat.beq t 34 && (!ro && (pl && (veq (c.get 0) (.int .i64 (.ofNat kd)) && (match c.get 1 with | .cl2 m q => Nat.beq m 0 && Nat.beq q (kq .i64) | _ => false)))))
    | _ => false))))
  | _ => false
theorem i64_unk {r : Emb} {m q : Nat} {x : Value} (h1 : Nat.beq m 0 = true) (h2 : Nat.beq q (kq .i64) = true) (h : VRel r (.cl2 m q) x) : ∃ n : Int, x = .int .i64 n := by
  obtain rfl := Nat.eq_of_beq_eq_true h1
  obtain rfl := Nat.eq_of_beq_eq_true h2
  generalize hv : V.cl2 0 (kq .i64) = v at h
  cases h with
  | cl2 hm _ => cases hv; omega
  | lslice hL _ _ _ hj6 => simp only [V.cl2.injEq] at hv; have := kq_mod .i64; omega
  | llen _ _ hj6 => simp only [V.cl2.injEq] at hv; have := kq_mod .i64; omega
  | lbig _ => simp only [V.cl2.injEq] at hv; have := kq_mod .i64; omega
  | lbigl _ => simp only [V.cl2.injEq] at hv; have := kq_mod .i64; omega
  | lvoid => simp only [V.cl2.injEq] at hv; have := kq_mod .i64; omega
  | @uint k n hn =>
    simp only [V.cl2.injEq, true_and] at hv
    obtain rfl := kq_inj hv
    exact ⟨n, rfl⟩
  | ustr s => simp only [V.cl2.injEq] at hv; have := kq_mod .i64; omega
  | _ => cases hv
/-- A node, as it lies. -/
def NodeAt (w : World) (nb no kd : Nat) : Prop := (∃ cs fz, w.heap[nb]? = some (.cells cs 34 fz)) ∧ w.cell? ⟨nb, no, none⟩ = some (.int .i64 kd) ∧ ∃ x : Int, w.cell? ⟨nb, no + 1, none⟩ = some (.int .i64 x)
theorem NodeAt.keep {w w' : World} {nb no kd : Nat} (h : NodeAt w nb no kd) (hw : w'.heap[nb]? = w.heap[nb]?) : NodeAt w' nb no kd := by
  have key : ∀ o, w'.cell? ⟨nb, o, none⟩ = w.cell? ⟨nb, o, none⟩ := fun o => by unfold World.cell?; rw [hw]
  obtain ⟨h0, h1, x, h2⟩ := h
  exact ⟨by rw [hw]; exact h0, by rw [key]; exact h1, x, by rw [key]; exact h2⟩

/-- Where the parser is, the tokens. -/
structure Ps (W w : World) (pb tb len cap j d : Nat) (T : List Tok) : Prop where
  hB : Below W.heap.size W w
  hpb : W.heap.size ≤ pb
  hp : PAt w pb tb len cap j d
  hne : pb ≠ tb
  htb : tb < w.heap.size
  hlen : len ≤ 2000
  hT : T.length = len
  toks : ∀ i t, T[i]? = some t → tokAt w tb i t
theorem Ps.next {W w w' : World} {pb tb len cap j j' d : Nat} {T : List Tok} (h : Ps W w pb tb len cap j d T) (hp : PAt w' pb tb len cap j' d) (hk : Pk pb w w') : Ps W w' pb tb len cap j' d T :=
  ⟨⟨hk.os.trans h.hB.os, hk.tape.trans h.hB.tape, hk.output.trans h.hB.output, Nat.le_trans h.hB.size hk.size, fun k hl => (hk.block k (Nat.lt_of_lt_of_le hl h.hB.size) (by have := h.hpb; omega)).trans (h.hB.block k hl)⟩, h.hpb, hp, h.hne, Nat.lt_of_lt_of_le h.htb hk.size, h.hlen, h.hT, fun i t hi => (h.toks i t hi).keep (hk.block tb h.htb (Ne.symm h.hne))⟩
section
variable {W w : World} {pb tb len cap j d cls : Nat} {T : List Tok}
theorem Ps.win (h : Ps W w pb tb len cap j d T) {pre win rest : List Tok} (hT : T = pre ++ (win ++ rest)) (hj : pre.length = j) (hw : winOf cls = win) : ∀ i t, (winOf cls)[i]? = some t → j + i < len ∧ tokAt w tb (j + i) t := by
  intro i t hi
  rw [hw] at hi
  have hlt := (List.getElem?_eq_some_iff.1 hi).1
  have e : T[j + i]? = some t := by
    rw [hT, ← hj, List.getElem?_append_right (by omega), show pre.length + i - pre.length = i by omega, List.getElem?_append_left hlt]
    exact hi
  exact ⟨by rw [← h.hT]; exact (List.getElem?_eq_some_iff.1 e).1, h.toks _ _ e⟩
theorem bool_P {g : FuncId} {vs : List V} {f : Nat} {b0 : Bool} (hc : boolC g vs cls d f b0 = true) (hy : Nat.beq g yieldG = false) (h : Ps W w pb tb len cap j d T) {pre win rest : List Tok} (hT : T = pre ++ (win ++ rest)) (hj : pre.length = j) (hw : winOf cls = win) (hw0 : win ≠ []) (hj1 : j ≤ 1000) {xs : Array Value} (hvs : VsRel (rP W j tb 0 len cap pb) vs xs.toList) :
    Calls Tryz.prog g xs w fun e w' => e = .returned (.bool b0) ∧ Ps W w' pb tb len cap (j + f) d T ∧ Pk pb w w' := by
  unfold boolC at hc
  split at hc
  · rename_i b h' he
    simp only [Bool.and_eq_true, beq_iff_eq] at hc
    obtain ⟨rfl, hE⟩ := hc
    have hwin := h.win hT hj hw
    have h0 : 0 < len := by
      cases win with
      | nil => exact (hw0 rfl).elim
      | cons t _ => have := (hwin 0 t (by rw [hw]; rfl)).1; omega
    refine (evP h.hB h.hpb h.hp h.hne h.htb h.hlen hj1 h0 hwin hy he hvs).mono ?_
    rintro e w' ⟨z, r', rfl, hv, hr, hle, hk, -⟩
    cases hv
    exact ⟨rfl, h.next (endP_at hE hr hle) hk, hk⟩
  · cases hc
theorem unit_P {g : FuncId} {vs : List V} {f : Nat} (hc : unitC g vs cls d f = true) (hy : Nat.beq g yieldG = false) (h : Ps W w pb tb len cap j d T) {pre win rest : List Tok} (hT : T = pre ++ (win ++ rest)) (hj : pre.length = j) (hw : winOf cls = win) (hw0 : win ≠ []) (hj1 : j ≤ 1000) {xs : Array Value} (hvs : VsRel (rP W j tb 0 len cap pb) vs xs.toList) :
    Calls Tryz.prog g xs w fun e w' => e = .returned (.tuple #[]) ∧ Ps W w' pb tb len cap (j + f) d T ∧ Pk pb w w' := by
  unfold unitC at hc
  split at hc
  · rename_i h' he
    have hwin := h.win hT hj hw
    have h0 : 0 < len := by
      cases win with
      | nil => exact (hw0 rfl).elim
      | cons t _ => have := (hwin 0 t (by rw [hw]; rfl)).1; omega
    refine (evP h.hB h.hpb h.hp h.hne h.htb h.hlen hj1 h0 hwin hy he hvs).mono ?_
    rintro e w' ⟨z, r', rfl, hv, hr, hle, hk, -⟩
    cases hv with
    | @tup _ ys hx =>
      cases ys with | mk l =>
      cases hx
      exact ⟨rfl, h.next (endP_at hc hr hle) hk, hk⟩
  · cases hc
theorem tok_P {g : FuncId} {vs : List V} (hc : tokC g vs cls d = true) (hy : Nat.beq g yieldG = false) (h : Ps W w pb tb len cap j d T) {pre win rest : List Tok} (hT : T = pre ++ (win ++ rest)) (hj : pre.length = j) (hw : winOf cls = win) (hw0 : win ≠ []) (hj1 : j ≤ 1000) {xs : Array Value} (hvs : VsRel (rP W j tb 0 len cap pb) vs xs.toList) :
    Calls Tryz.prog g xs w fun e w' => (∃ (y0 : Int) (y1 : ByteArray) (y3 x : Int), e = .returned (.agg #[.int .i64 y0, .string y1, .int .i64 x, .int .i64 y3])) ∧ Ps W w' pb tb len cap j d T ∧ Pk pb w w' := by
  unfold tokC at hc
  split at hc
  · rename_i u0 un ul m q u3 h' he
    simp only [Bool.and_eq_true] at hc
    have hwin := h.win hT hj hw
    have h0 : 0 < len := by
      cases win with
      | nil => exact (hw0 rfl).elim
      | cons t _ => have := (hwin 0 t (by rw [hw]; rfl)).1; omega
    refine (evP h.hB h.hpb h.hp h.hne h.htb h.hlen hj1 h0 hwin hy he hvs).mono ?_
    rintro e w' ⟨z, r', rfl, hv, hr, hle, hk, -⟩
    refine ⟨?_, h.next (endP_at hc.2.2 hr hle) hk, hk⟩
    cases hv with
    | @agg _ ys hx =>
      cases ys with | mk l =>
      cases hx with
      | cons g0 hx => cases hx with
        | cons g1 hx => cases hx with
          | cons g2 hx => cases hx with
            | cons g3 hx =>
              cases hx
              obtain ⟨n, rfl⟩ := i64_unk hc.1 hc.2.1 g2
              cases g0
              cases g1
              cases g3
              exact ⟨_, _, _, n, rfl⟩
  · cases hc
theorem node_P {g : FuncId} {vs : List V} {f kd : Nat} (hc : nodeC g vs cls d f kd = true) (hy : Nat.beq g yieldG = false) (h : Ps W w pb tb len cap j d T) {pre win rest : List Tok} (hT : T = pre ++ (win ++ rest)) (hj : pre.length = j) (hw : winOf cls = win) (hw0 : win ≠ []) (hj1 : j ≤ 1000) {xs : Array Value} (hvs : VsRel (rP W j tb 0 len cap pb) vs xs.toList) :
    Calls Tryz.prog g xs w fun e w' => ∃ nb no, e = .returned (.pointer (some ⟨nb, no, none⟩)) ∧ w.heap.size ≤ nb ∧ nb < w'.heap.size ∧ nb ≠ pb ∧ NodeAt w' nb no kd ∧ Ps W w' pb tb len cap (j + f) d T ∧ Pk pb w w' := by
  unfold nodeC at hc
  split at hc
  · rename_i id o h' he
    simp only [Bool.and_eq_true, Bool.not_eq_true'] at hc
    obtain ⟨c1, c2, c3, c4, c5⟩ := hc
    obtain rfl := Nat.eq_of_beq_eq_true c1
    have hid : id < 65536 := by rwa [Nat.blt_eq] at c2
    have hid20 : id ≠ 20 := Nat.ne_of_beq_eq_false c3
    have hwin := h.win hT hj hw
    have h0 : 0 < len := by
      cases win with
      | nil => exact (hw0 rfl).elim
      | cons t _ => have := (hwin 0 t (by rw [hw]; rfl)).1; omega
    refine (evP h.hB h.hpb h.hp h.hne h.htb h.hlen hj1 h0 hwin hy he hvs).mono ?_
    rintro e w' ⟨z, r', rfl, hv, hr, hle, hk, ho⟩
    split at c5
    · rename_i m t ro pl c hblk
      simp only [Bool.and_eq_true, Bool.not_eq_true'] at c5
      obtain ⟨d1, d2, d3, d4, d5, d6⟩ := c5
      obtain rfl := Nat.eq_of_beq_eq_true d1
      obtain rfl := Nat.eq_of_beq_eq_true d2
      subst d3 d4
      obtain ⟨nb, sh, mm, e1, hf⟩ := hr.blk id 6 34 false true c hid hblk
      cases hv with
      | @ptr _ _ b' sh' c' e2 =>
      rw [e1] at e2
      cases e2
      have hlive : Live h' id := live_of hid hblk
      have hown : Own r' h' nb := own_of hid hblk e1
      have hpn : nb ≠ pb := fun q => by
        have e20 : r' 20 = some (pb, 0, 5) := hle _ _ rfl
        have l20 : Live h' 20 := by
          unfold endP at c4
          split at c4
          · rename_i hb20; exact live_of (by decide) hb20
          · cases c4
        rw [q] at e1
        exact hid20 (hr.inj id 20 pb sh mm 0 5 hlive l20 (.inl (by rw [hblk]; rfl)) e1 e20)
      refine ⟨nb, 0 + sh, rfl, (ho nb hown).resolve_left hpn, hr.lt hlive e1, hpn, ?_, h.next (endP_at c4 hr hle) hk, hk⟩
      obtain ⟨⟨cs, fz, ⟨t', g1, gt⟩, _, _, _, g5⟩, _⟩ := hf
      obtain rfl := gt rfl
      obtain ⟨x0, h0', v0⟩ := g5 0 (by decide)
      obtain ⟨x1, h1', v1⟩ := g5 1 (by decide)
      rw [veq_eq d5] at v0
      cases v0
      refine ⟨⟨cs, fz, g1⟩, by simp only [World.cell?, g1]; simpa using h0', ?_⟩
      split at d6
      · rename_i m2 q2 hq
        simp only [Bool.and_eq_true] at d6
        rw [hq] at v1
        obtain ⟨n, rfl⟩ := i64_unk d6.1 d6.2 v1
        refine ⟨n, ?_⟩
        simp only [World.cell?, g1]
        rw [show 0 + sh + 1 = 1 + sh by omega]
        simpa using h1'
      · cases d6
    · cases c5
  · cases hc
end
end Go.Proofs.YtjkgefnlennbjaaGreatDoor
