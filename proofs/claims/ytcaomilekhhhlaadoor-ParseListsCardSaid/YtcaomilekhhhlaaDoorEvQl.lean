/- ParseLists: the parser behind a fault. No condition. -/
import Derived.Test.YtcaomilekhhhlaaDoorEvQk
namespace Go.Proofs.YtcaomilekhhhlaaDoor
open Go.Ev Go.RowKit
set_option maxRecDepth 100000

/-- The parser's cells, a fault told. -/
structure PFt (w : World) (pb tb len cap j d : Nat) : Prop where
  blk : ∃ x : Int, w.heap[pb]? = some (.cells #[.slice (some ⟨tb, 0, none⟩) len cap, .int .i64 j, .int .i64 d, .int .i64 4, .int .i64 x] 39 (0, 0))
def SFc (d : Nat) : List V := [satT, plV 11 0 0 1000, .int .i64 (.ofNat d), .int .i64 4, .cl2 0 (kq .i64)]
def SFh (cls d : Nat) : H := ⟨604, (m4.put 14 (.u16b (kOf cls))).put 20 (.live 5 39 false true (cellsOf (SFc d)))⟩
theorem SFh_live {cls d id : Nat} (h : Live (SFh cls d) id) : id = 14 ∨ id = 20 := by
  obtain ⟨hi, hl⟩ := h
  by_cases e20 : id = 20
  · exact .inr e20
  by_cases e14 : id = 14
  · exact .inl e14
  exfalso
  have : (SFh cls d).mem.blk id = .dead := by
    show ((m4.put 14 _).put 20 _).blk id = _
    rw [Mem.blk_put_other _ _ _ _ (by decide) hi e20, Mem.blk_put_other _ _ _ _ (by decide) hi e14]
    exact m4_dead id hi
  rw [this] at hl
  cases hl
theorem SFh_14 (cls d : Nat) : (SFh cls d).mem.blk 14 = .u16b (kOf cls) := by
  show ((m4.put 14 _).put 20 _).blk 14 = _
  rw [Mem.blk_put_other _ _ _ _ (by decide) (by decide) (by decide)]
  exact Mem.blk_put_same _ _ _ (by decide)
theorem SFh_20 (cls d : Nat) : (SFh cls d).mem.blk 20 = .live 5 39 false true (cellsOf (SFc d)) := by
  show ((m4.put 14 _).put 20 _).blk 20 = _
  exact Mem.blk_put_same _ _ _ (by decide)

section
variable {W w : World} {pb tb len cap j d cls : Nat}
/-- The beginning, as the evaluator sees it. -/
theorem rF_rel (hp : PFt w pb tb len cap j d) (hne : pb ≠ tb) (htb : tb < w.heap.size) (hlen : len ≤ 2000) (hj : j ≤ 1000) (h0 : 0 < len)
    (hwin : ∀ i t, (winOf cls)[i]? = some t → j + i < len ∧ tokAt w tb (j + i) t) (tz : Nat) : Rel (rP W j tb tz len cap pb) (SFh cls d) w := by
  refine ⟨fun id hi hl => ?_, fun id id' b sh m sh' m' hl hl' _ e e' => ?_, fun id hi => rP_hi W j tb tz len cap pb hi⟩
  · rcases SFh_live ⟨hi, hl⟩ with rfl | rfl
    · refine ⟨tb, 0, tz, rfl, ?_⟩
      rw [SFh_14]
      refine ⟨?_, htb, .inl (by show 0 < kOf cls; unfold kOf; omega)⟩
      show tokSpec (3 * cls + 1 + 1) _ _ _
      refine ⟨len, cap, tz, j, hlen, rfl, rfl, rfl, ?_, fun i t hi => ?_⟩
      · rw [show (3 * cls + 1) % 3 = 1 by omega]; rfl
      · rw [show (3 * cls + 1) / 3 = cls by omega] at hi
        exact hwin i t hi
    · refine ⟨pb, 0, 5, rfl, ?_⟩
      rw [SFh_20]
      obtain ⟨fx, hblk⟩ := hp.blk
      refine ⟨⟨_, _, ⟨39, hblk, fun _ => rfl⟩, rfl, fun _ x _ => by omega, fun _ => rfl, fun o ho => ?_⟩, by decide, by have := cellsOf_room (SFc d) (show (SFc d).length ≤ 4096 by show 5 ≤ 4096; decide); exact this, fun _ q => by cases q⟩
      rw [cellsOf_get (SFc d) (by show 5 ≤ 4096; decide) o ho]
      match o, ho with
      | 0, _ => exact ⟨_, rfl, .sat (L := 600) (id := 601) (iz := 602) (b := tb) (o := 0) (x := 0) (z := len) (cap := cap) (m := tz) (by decide) (by decide) rfl rfl rfl h0⟩
      | 1, _ => exact ⟨_, rfl, .sym ⟨by rw [sPack_lo (by decide) (by decide) (by decide) (by decide)]; omega, by rw [sPack_hi (by decide) (by decide) (by decide) (by decide)]; omega, .inr ⟨j, 0, 0, by rw [sPack_id (by decide)]; rfl, by rw [sPack_c (by decide) (by decide)]; omega, by rw [sPack_d (by decide) (by decide) (by decide)]; omega⟩⟩⟩
      | 2, _ => exact ⟨_, rfl, .int .i64 _⟩
      | 3, _ => exact ⟨_, rfl, .int .i64 4⟩
      | 4, _ => exact ⟨_, rfl, .uint (k := .i64) (fun q => by cases q)⟩
  · have f14 : rP W j tb tz len cap pb 14 = some (tb, 0, tz) := rfl
    have f20 : rP W j tb tz len cap pb 20 = some (pb, 0, 5) := rfl
    rcases SFh_live hl with rfl | rfl <;> rcases SFh_live hl' with rfl | rfl
    · rfl
    · rw [f14] at e; rw [f20] at e'; cases e; cases e'; exact (hne rfl).elim
    · rw [f20] at e; rw [f14] at e'; cases e; cases e'; exact (hne rfl).elim
    · rfl
theorem rF_own {tz b : Nat} (h : Own (rP W j tb tz len cap pb) (SFh cls d) b) : b = pb := by
  obtain ⟨id, sh, m, hi, ho, e⟩ := h
  rcases SFh_live ⟨hi, live_of_own ho⟩ with rfl | rfl
  · rw [SFh_14] at ho; cases ho
  · have f20 : rP W j tb tz len cap pb 20 = some (pb, 0, 5) := rfl
    rw [f20] at e
    cases e
    rfl
/-- A call of the parser's, by the evaluator. -/
theorem evF (hB : Below W.heap.size W w) (hpb : W.heap.size ≤ pb) (hp : PFt w pb tb len cap j d) (hne : pb ≠ tb) (htb : tb < w.heap.size) (hlen : len ≤ 2000) (hj : j ≤ 1000) (h0 : 0 < len)
    (hwin : ∀ i t, (winOf cls)[i]? = some t → j + i < len ∧ tokAt w tb (j + i) t) {g : FuncId} {vs : List V} {v : V} {h' : H} (hy : Nat.beq g yieldG = false) (hc : callP g vs (SFh cls d) = some (v, h')) {xs : Array Value} (hvs : VsRel (rP W j tb 0 len cap pb) vs xs.toList) :
    Calls Tryd.prog g xs w fun e w' => ∃ z r', e = .returned z ∧ VRel r' v z ∧ Rel r' h' w' ∧ (rP W j tb 0 len cap pb).le r' ∧ Pk pb w w' ∧ ∀ b, Own r' h' b → b = pb ∨ w.heap.size ≤ b := by
  have hr := rF_rel (W := W) hp hne htb hlen hj h0 hwin 0
  refine (((callP_ok (W := W)) g vs (SFh cls d) v h' hc).1 hy _ w xs hr (rP_gl W j tb 0 len cap pb) ⟨hB.block, fun b ho => by rw [rF_own ho]; exact hpb, hB.size⟩ hvs).mono ?_
  rintro e w' ⟨z, r', rfl, st, hv⟩
  exact ⟨z, r', rfl, hv, st.rel, st.le, ⟨st.os, st.tape, st.out, st.size, fun k hk hn => st.keep k hk (fun ho => hn (rF_own ho))⟩, fun b hb => (Nat.lt_or_ge b w.heap.size).elim (fun hl => .inl (rF_own (st.own b hl hb))) .inr⟩
end
/-- The parser's cells at the end: so many tokens on. -/
def endF (h : H) (f d : Nat) : Bool :=
  match h.mem.blk 20 with
  | .live m t ro pl c => Nat.beq m 5 && (Nat.beq t 39 && (!ro && (pl && (veq (c.get 0) satT && ((match plOf (c.get 1) with | some (kd, _, f') => Nat.beq kd 1 && Nat.beq f' f | none => false) && (veq (c.get 2) (.int .i64 (.ofNat d)) && (veq (c.get 3) (.int .i64 4) && (match c.get 4 with | .cl2 m q => Nat.beq m 0 && Nat.beq q (kq .i64) | _ => false))))))))
  | _ => false
theorem endF_at {h : H} {f d : Nat} (hb : endF h f d = true) {W w : World} {r : Emb} {j tb len cap pb : Nat} (hr : Rel r h w) (hle : (rP W j tb 0 len cap pb).le r) : PFt w pb tb len cap (j + f) d := by
  unfold endF at hb
  split at hb
  · rename_i m t ro pl c hblk
    simp only [Bool.and_eq_true, Bool.not_eq_true'] at hb
    obtain ⟨b1, b2, b3, b4, b5, b6, b7, b8, b9⟩ := hb
    obtain rfl := Nat.eq_of_beq_eq_true b1
    obtain rfl := Nat.eq_of_beq_eq_true b2
    subst b3 b4
    obtain ⟨b, sh, mm, e1, hf⟩ := hr.blk 20 5 39 false true c (by decide) hblk
    have e2 : r 20 = some (pb, 0, 5) := hle _ _ rfl
    rw [e1] at e2
    cases e2
    obtain ⟨⟨cs, fz, ⟨t', g1, gt⟩, g2, _, g4, g5⟩, _⟩ := hf
    obtain rfl := gt rfl
    obtain rfl := g4 rfl
    obtain ⟨x0, h0, v0⟩ := g5 0 (by decide)
    obtain ⟨x1, h1, v1⟩ := g5 1 (by decide)
    obtain ⟨x2, h2, v2⟩ := g5 2 (by decide)
    obtain ⟨x3, h3, v3⟩ := g5 3 (by decide)
    obtain ⟨x4, h4, v4⟩ := g5 4 (by decide)
    rw [veq_eq b5] at v0
    rw [veq_eq b7] at v2
    rw [veq_eq b8] at v3
    obtain rfl := satT_inv v0 (hle 600 _ rfl) (hle 601 _ rfl) (hle 602 _ rfl)
    cases v2
    cases v3
    obtain ⟨fx, rfl⟩ : ∃ n : Int, x4 = .int .i64 n := by
      split at b9
      · rename_i m9 q9 h9
        simp only [Bool.and_eq_true] at b9
        rw [h9] at v4
        exact i64_unk b9.1 b9.2 v4
      · cases b9
    split at b6
    · rename_i kd id f' hpl
      simp only [Bool.and_eq_true] at b6
      obtain rfl := Nat.eq_of_beq_eq_true b6.1
      obtain rfl := Nat.eq_of_beq_eq_true b6.2
      obtain rfl := plOf_inv hpl v1 (j := j) (hle 11 _ rfl)
      refine ⟨fx, ?_⟩
      rw [g1, arr5 g2 h0 h1 h2 h3 h4]
      rfl
    · cases b6
  · cases hb
noncomputable def boolF (g : FuncId) (vs : List V) (cls d f : Nat) (b0 : Bool) : Bool := match callP g vs (SFh cls d) with | some (.bool b, h) => (b == b0) && endF h f d | _ => false
noncomputable def unitF (g : FuncId) (vs : List V) (cls d f : Nat) : Bool := match callP g vs (SFh cls d) with | some (.tup [], h) => endF h f d | _ => false
/-- Where the parser is, the tokens. -/
structure Pf (W w : World) (pb tb len cap j d : Nat) (T : List Tok) : Prop where
  hB : Below W.heap.size W w
  hpb : W.heap.size ≤ pb
  hp : PFt w pb tb len cap j d
  hne : pb ≠ tb
  htb : tb < w.heap.size
  hlen : len ≤ 2000
  hT : T.length = len
  toks : ∀ i t, T[i]? = some t → tokAt w tb i t
theorem Pf.next {W w w' : World} {pb tb len cap j j' d : Nat} {T : List Tok} (h : Pf W w pb tb len cap j d T) (hp : PFt w' pb tb len cap j' d) (hk : Pk pb w w') : Pf W w' pb tb len cap j' d T :=
  ⟨⟨hk.os.trans h.hB.os, hk.tape.trans h.hB.tape, hk.output.trans h.hB.output, Nat.le_trans h.hB.size hk.size, fun k hl => (hk.block k (Nat.lt_of_lt_of_le hl h.hB.size) (by have := h.hpb; omega)).trans (h.hB.block k hl)⟩, h.hpb, hp, h.hne, Nat.lt_of_lt_of_le h.htb hk.size, h.hlen, h.hT, fun i t hi => (h.toks i t hi).keep (hk.block tb h.htb (Ne.symm h.hne))⟩
section
variable {W w : World} {pb tb len cap j d cls : Nat} {T : List Tok}
theorem Pf.win (h : Pf W w pb tb len cap j d T) {pre win rest : List Tok} (hT : T = pre ++ (win ++ rest)) (hj : pre.length = j) (hw : winOf cls = win) : ∀ i t, (winOf cls)[i]? = some t → j + i < len ∧ tokAt w tb (j + i) t := by
  intro i t hi
  rw [hw] at hi
  have hlt := (List.getElem?_eq_some_iff.1 hi).1
  have e : T[j + i]? = some t := by
    rw [hT, ← hj, List.getElem?_append_right (by omega), show pre.length + i - pre.length = i by omega, List.getElem?_append_left hlt]
    exact hi
  exact ⟨by rw [← h.hT]; exact (List.getElem?_eq_some_iff.1 e).1, h.toks _ _ e⟩
theorem bool_F {g : FuncId} {vs : List V} {f : Nat} {b0 : Bool} (hc : boolF g vs cls d f b0 = true) (hy : Nat.beq g yieldG = false) (h : Pf W w pb tb len cap j d T) {pre win rest : List Tok} (hT : T = pre ++ (win ++ rest)) (hj : pre.length = j) (hw : winOf cls = win) (hw0 : win ≠ []) (hj1 : j ≤ 1000) {xs : Array Value} (hvs : VsRel (rP W j tb 0 len cap pb) vs xs.toList) :
    Calls Tryd.prog g xs w fun e w' => e = .returned (.bool b0) ∧ Pf W w' pb tb len cap (j + f) d T ∧ Pk pb w w' := by
  unfold boolF at hc
  split at hc
  · rename_i b h' he
    simp only [Bool.and_eq_true, beq_iff_eq] at hc
    obtain ⟨rfl, hE⟩ := hc
    have hwin := h.win hT hj hw
    have h0 : 0 < len := by
      cases win with
      | nil => exact (hw0 rfl).elim
      | cons t _ => have := (hwin 0 t (by rw [hw]; rfl)).1; omega
    refine (evF h.hB h.hpb h.hp h.hne h.htb h.hlen hj1 h0 hwin hy he hvs).mono ?_
    rintro e w' ⟨z, r', rfl, hv, hr, hle, hk, -⟩
    cases hv
    exact ⟨rfl, h.next (endF_at hE hr hle) hk, hk⟩
  · cases hc
theorem unit_F {g : FuncId} {vs : List V} {f : Nat} (hc : unitF g vs cls d f = true) (hy : Nat.beq g yieldG = false) (h : Pf W w pb tb len cap j d T) {pre win rest : List Tok} (hT : T = pre ++ (win ++ rest)) (hj : pre.length = j) (hw : winOf cls = win) (hw0 : win ≠ []) (hj1 : j ≤ 1000) {xs : Array Value} (hvs : VsRel (rP W j tb 0 len cap pb) vs xs.toList) :
    Calls Tryd.prog g xs w fun e w' => e = .returned (.tuple #[]) ∧ Pf W w' pb tb len cap (j + f) d T ∧ Pk pb w w' := by
  unfold unitF at hc
  split at hc
  · rename_i h' he
    have hwin := h.win hT hj hw
    have h0 : 0 < len := by
      cases win with
      | nil => exact (hw0 rfl).elim
      | cons t _ => have := (hwin 0 t (by rw [hw]; rfl)).1; omega
    refine (evF h.hB h.hpb h.hp h.hne h.htb h.hlen hj1 h0 hwin hy he hvs).mono ?_
    rintro e w' ⟨z, r', rfl, hv, hr, hle, hk, -⟩
    cases hv with
    | @tup _ ys hx =>
      cases ys with | mk l =>
      cases hx
      exact ⟨rfl, h.next (endF_at hc hr hle) hk, hk⟩
  · cases hc
end
end Go.Proofs.YtcaomilekhhhlaaDoor
