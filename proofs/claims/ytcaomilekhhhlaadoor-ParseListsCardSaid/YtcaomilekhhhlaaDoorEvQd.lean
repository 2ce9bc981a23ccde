/- ParseLists: single functions of the parser at the pinned tokens. No condition. -/
import Derived.Test.YtcaomilekhhhlaaDoorEvQc
namespace Go.Proofs.YtcaomilekhhhlaaDoor
open Go.Ev Go.RowKit
set_option maxRecDepth 100000

/-- The parser's cells at the end: so many tokens on. -/
def endP (h : H) (f d : Nat) : Bool :=
  match h.mem.blk 20 with
  | .live m t ro pl c => Nat.beq m 5 && (Nat.beq t 39 && (!ro && (pl && (veq (c.get 0) satT && ((match plOf (c.get 1) with | some (kd, _, f') => Nat.beq kd 1 && Nat.beq f' f | none => false) && (veq (c.get 2) (.int .i64 (.ofNat d)) && (veq (c.get 3) (.int .i64 0) && veq (c.get 4) (.int .i64 0))))))))
  | _ => false
theorem arr5 {cs : Array Value} {x0 x1 x2 x3 x4 : Value} (hs : cs.size = 5) (h0 : cs[0]? = some x0) (h1 : cs[1]? = some x1) (h2 : cs[2]? = some x2) (h3 : cs[3]? = some x3) (h4 : cs[4]? = some x4) : cs = #[x0, x1, x2, x3, x4] := by
  apply Array.ext_getElem?
  intro i
  match i with
  | 0 => simpa using h0
  | 1 => simpa using h1
  | 2 => simpa using h2
  | 3 => simpa using h3
  | 4 => simpa using h4
  | k + 5 => rw [Array.getElem?_eq_none (by omega)]; simp
theorem endP_at {h : H} {f d : Nat} (hb : endP h f d = true) {W w : World} {r : Emb} {j tb len cap pb : Nat} (hr : Rel r h w) (hle : (rP W j tb 0 len cap pb).le r) : PAt w pb tb len cap (j + f) d := by
  unfold endP at hb
  split at hb
  · rename_i m t ro pl c hblk
    simp only [Bool.and_eq_true, Bool.not_eq_true'] at hb
    obtain ⟨b1, b2, b3, b4, b5, b6, b7, b8, b9⟩ := hb
    obtain rfl := Nat.eq_of_beq_eq_true b1
    obtain rfl := Nat.eq_of_beq_eq_true b2
    subst b3 b4
    obtain ⟨b, sh, mm, e1, hf⟩ := hr.blk 20 5 39 false true c (by decide) hblk
    have e2 : r 20 = some (pb, 0, 5) := hle _ _ rfl
    rw [e1] at e2
    cases e2
    obtain ⟨⟨cs, fz, ⟨t', g1, gt⟩, g2, _, g4, g5⟩, _⟩ := hf
    obtain rfl := gt rfl
    obtain rfl := g4 rfl
    obtain ⟨x0, h0, v0⟩ := g5 0 (by decide)
    obtain ⟨x1, h1, v1⟩ := g5 1 (by decide)
    obtain ⟨x2, h2, v2⟩ := g5 2 (by decide)
    obtain ⟨x3, h3, v3⟩ := g5 3 (by decide)
    obtain ⟨x4, h4, v4⟩ := g5 4 (by decide)
    rw [veq_eq b5] at v0
    rw [veq_eq b7] at v2
    rw [veq_eq b8] at v3
    rw [veq_eq b9] at v4
    obtain rfl := satT_inv v0 (hle 600 _ rfl) (hle 601 _ rfl) (hle 602 _ rfl)
    cases v2
    cases v3
    cases v4
    split at b6
    · rename_i kd id f' hpl
      simp only [Bool.and_eq_true] at b6
      obtain rfl := Nat.eq_of_beq_eq_true b6.1
      obtain rfl := Nat.eq_of_beq_eq_true b6.2
      obtain rfl := plOf_inv hpl v1 (j := j) (hle 11 _ rfl)
      refine ⟨?_⟩
      rw [g1, arr5 g2 h0 h1 h2 h3 h4]
      rfl
    · cases b6
  · cases hb
noncomputable def boolC (g : FuncId) (vs : List V) (cls d f : Nat) (b0 : Bool) : Bool := match callP g vs (SPh cls d) with | some (.bool b, h) => (b == b0) && endP h f d | _ => false
noncomputable def unitC (g : FuncId) (vs : List V) (cls d f : Nat) : Bool := match callP g vs (SPh cls d) with | some (.tup [], h) => endP h f d | _ => false
noncomputable def tokC (g : FuncId) (vs : List V) (cls d : Nat) : Bool := match callP g vs (SPh cls d) with | some (.agg [.int .i64 _, .str _ _, .cl2 m q, .int .i64 _], h) => Nat.beq m 0 && (Nat.beq q (kq .i64) && endP h 0 d) | _ => false
/-- A node of this kind, its place. -/
noncomputable def nodeC (g : FuncId) (vs : List V) (cls d f kd : Nat) : Bool :=
  match callP g vs (SPh cls d) with
  | some (.ptr id o, h) => Nat.beq o 0 && (Nat.blt id 65536 && (!(Nat.beq id 20) && (endP h f d && (match h.mem.blk id with
    | .live m t ro pl c => Nat.beq m 6 && (Nat.beq t 32 && (!ro && (pl && (veq (c.get 0) (.int .i64 (.ofNat kd)) && (match c.get 1 with | .cl2 m q => Nat.beq m 0 && Nat.beq q (kq .i64) | _ => false)))))
    | _ => false))))
  | _ => false
theorem i64_unk {r : Emb} {m q : Nat} {x : Value} (h1 : Nat.beq m 0 = true) (h2 : Nat.beq q (kq .i64) = true) (h : VRel r (.cl2 m q) x) : ∃ n : Int, x = .int .i64 n := by
  obtain rfl := Nat.eq_of_beq_eq_true h1
  obtain rfl := Nat.eq_of_beq_eq_true h2
  generalize hv : V.cl2 0 (kq .i64) = v at h
  cases h with
  | cl2 hm _ => cases hv; omega
  | lslice hL _ _ _ hj6 => simp only [V.cl2.injEq] at hv; have := kq_mod .i64; omega
  | llen _ _ hj6 => simp only [V.cl2.injEq] at hv; have := kq_mod .i64; omega
  | lbig _ => simp only [V.cl2.injEq] at hv; have := kq_mod .i64; omega
  | lbigl _ => simp only [V.cl2.injEq] at hv; have := kq_mod .i64; omega
  | lvoid => simp only [V.cl2.injEq] at hv; have := kq_mod .i64; omega
  | @uint k n hn =>
    simp only [V.cl2.injEq, true_and] at hv
    obtain rfl := kq_inj hv
    exact ⟨n, rfl⟩
  | ustr s => simp only [V.cl2.injEq] at hv; have := kq_mod .i64; omega
  | _ => cases hv
/-- A node, as it lies. -/
def NodeAt (w : World) (nb no kd : Nat) : Prop := (∃ cs fz, w.heap[nb]? = some (.cells cs 32 fz)) ∧ w.cell? ⟨nb, no, none⟩ = some (.int .i64 kd) ∧ ∃ x : Int, w.cell? ⟨nb, no + 1, none⟩ = some (.int .i64 x)
theorem NodeAt.keep {w w' : World} {nb no kd : Nat} (h : NodeAt w nb no kd) (hw : w'.heap[nb]? = w.heap[nb]?) : NodeAt w' nb no kd := by
  have key : ∀ o, w'.cell? ⟨nb, o, none⟩ = w.cell? ⟨nb, o, none⟩ := fun o => by unfold World.cell?; rw [hw]
  obtain ⟨h0, h1, x, h2⟩ := h
  exact ⟨by rw [hw]; exact h0, by rw [key]; exact h1, x, by rw [key]; exact h2⟩

/-- Where the parser is, the tokens. -/
structure Ps (W w : World) (pb tb len cap j d : Nat) (T : List Tok) : Prop where
  hB : Below W.heap.size W w
  hpb : W.heap.size ≤ pb
  hp : PAt w pb tb len cap j d
  hne : pb ≠ tb
  htb : tb < w.heap.size
  hlen : len ≤ 2000
  hT : T.length = len
  toks : ∀ i t, T[i]? = some t → tokAt w tb i t
theorem Ps.next {W w w' : World} {pb tb len cap j j' d : Nat} {T : List Tok} (h : Ps W w pb tb len cap j d T) (hp : PAt w' pb tb len cap j' d) (hk : Pk pb w w') : Ps W w' pb tb len cap j' d T :=
  ⟨⟨hk.os.trans h.hB.os, hk.tape.trans h.hB.tape, hk.output.trans h.hB.output, Nat.le_trans h.hB.size hk.size, fun k hl => (hk.block k (Nat.lt_of_lt_of_le hl h.hB.size) (by have := h.hpb; omega)).trans (h.hB.block k hl)⟩, h.hpb, hp, h.hne, Nat.lt_of_lt_of_le h.htb hk.size, h.hlen, h.hT, fun i t hi => (h.toks i t hi).keep (hk.block tb h.htb (Ne.symm h.hne))⟩
section
variable {W w : World} {pb tb len cap j d cls : Nat} {T : List Tok}
theorem Ps.win (h : Ps W w pb tb len cap j d T) {pre win rest : List Tok} (hT : T = pre ++ (win ++ rest)) (hj : pre.length = j) (hw : winOf cls = win) : ∀ i t, (winOf cls)[i]? = some t → j + i < len ∧ tokAt w tb (j + i) t := by
  intro i t hi
  rw [hw] at hi
  have hlt := (List.getElem?_eq_some_iff.1 hi).1
  have e : T[j + i]? = some t := by
    rw [hT, ← hj, List.getElem?_append_right (by omega), show pre.length + i - pre.length = i by omega, List.getElem?_append_left hlt]
    exact hi
  exact ⟨by rw [← h.hT]; exact (List.getElem?_eq_some_iff.1 e).1, h.toks _ _ e⟩
theorem bool_P {g : FuncId} {vs : List V} {f : Nat} {b0 : Bool} (hc : boolC g vs cls d f b0 = true) (hy : Nat.beq g yieldG = false) (h : Ps W w pb tb len cap j d T) {pre win rest : List Tok} (hT : T = pre ++ (win ++ rest)) (hj : pre.length = j) (hw : winOf cls = win) (hw0 : win ≠ []) (hj1 : j ≤ 1000) {xs : Array Value} (hvs : VsRel (rP W j tb 0 len cap pb) vs xs.toList) :
    Calls Tryd.prog g xs w fun e w' => e = .returned (.bool b0) ∧ Ps W w' pb tb len cap (j + f) d T ∧ Pk pb w w' := by
  unfold boolC at hc
  split at hc
  · rename_i b h' he
    simp only [Bool.and_eq_true, beq_iff_eq] at hc
    obtain ⟨rfl, hE⟩ := hc
    have hwin := h.win hT hj hw
    have h0 : 0 < len := by
      cases win with
      | nil => exact (hw0 rfl).elim
      | cons t _ => have := (hwin 0 t (by rw [hw]; rfl)).1; omega
    refine (evP h.hB h.hpb h.hp h.hne h.htb h.hlen hj1 h0 hwin hy he hvs).mono ?_
    rintro e w' ⟨z, r', rfl, hv, hr, hle, hk, -⟩
    cases hv
    exact ⟨rfl, h.next (endP_at hE hr hle) hk, hk⟩
  · cases hc
theorem unit_P {g : FuncId} {vs : List V} {f : Nat} (hc : unitC g vs cls d f = true) (hy : Nat.beq g yieldG = false) (h : Ps W w pb tb len cap j d T) {pre win rest : List Tok} (hT : T = pre ++ (win ++ rest)) (hj : pre.length = j) (hw : winOf cls = win) (hw0 : win ≠ []) (hj1 : j ≤ 1000) {xs : Array Value} (hvs : VsRel (rP W j tb 0 len cap pb) vs xs.toList) :
    Calls Tryd.prog g xs w fun e w' => e = .returned (.tuple #[]) ∧ Ps W w' pb tb len cap (j + f) d T ∧ Pk pb w w' := by
  unfold unitC at hc
  split at hc
  · rename_i h' he
    have hwin := h.win hT hj hw
    have h0 : 0 < len := by
      cases win with
      | nil => exact (hw0 rfl).elim
      | cons t _ => have := (hwin 0 t (by rw [hw]; rfl)).1; omega
    refine (evP h.hB h.hpb h.hp h.hne h.htb h.hlen hj1 h0 hwin hy he hvs).mono ?_
    rintro e w' ⟨z, r', rfl, hv, hr, hle, hk, -⟩
    cases hv with
    | @tup _ ys hx =>
      cases ys with | mk l =>
      cases hx
      exact ⟨rfl, h.next (endP_at hc hr hle) hk, hk⟩
  · cases hc
theorem tok_P {g : FuncId} {vs : List V} (hc : tokC g vs cls d = true) (hy : Nat.beq g yieldG = false) (h : Ps W w pb tb len cap j d T) {pre win rest : List Tok} (hT : T = pre ++ (win ++ rest)) (hj : pre.length = j) (hw : winOf cls = win) (hw0 : win ≠ []) (hj1 : j ≤ 1000) {xs : Array Value} (hvs : VsRel (rP W j tb 0 len cap pb) vs xs.toList) :
    Calls Tryd.prog g xs w fun e w' => (∃ (y0 : Int) (y1 : ByteArray) (y3 x : Int), e = .returned (.agg #[.int .i64 y0, .string y1, .int .i64 x, .int .i64 y3])) ∧ Ps W w' pb tb len cap j d T ∧ Pk pb w w' := by
  unfold tokC at hc
  split at hc
  · rename_i u0 un ul m q u3 h' he
    simp only [Bool.and_eq_true] at hc
    have hwin := h.win hT hj hw
    have h0 : 0 < len := by
      cases win with
      | nil => exact (hw0 rfl).elim
      | cons t _ => have := (hwin 0 t (by rw [hw]; rfl)).1; omega
    refine (evP h.hB h.hpb h.hp h.hne h.htb h.hlen hj1 h0 hwin hy he hvs).mono ?_
    rintro e w' ⟨z, r', rfl, hv, hr, hle, hk, -⟩
    refine ⟨?_, h.next (endP_at hc.2.2 hr hle) hk, hk⟩
    cases hv with
    | @agg _ ys hx =>
      cases ys with | mk l =>
      cases hx with
      | cons g0 hx => cases hx with
        | cons g1 hx => cases hx with
          | cons g2 hx => cases hx with
            | cons g3 hx =>
              cases hx
              obtain ⟨n, rfl⟩ := i64_unk hc.1 hc.2.1 g2
              cases g0
              cases g1
              cases g3
              exact ⟨_, _, _, n, rfl⟩
  · cases hc
theorem node_P {g : FuncId} {vs : List V} {f kd : Nat} (hc : nodeC g vs cls d f kd = true) (hy : Nat.beq g yieldG = false) (h : Ps W w pb tb len cap j d T) {pre win rest : List Tok} (hT : T = pre ++ (win ++ rest)) (hj : pre.length = j) (hw : winOf cls = win) (hw0 : win ≠ []) (hj1 : j ≤ 1000) {xs : Array Value} (hvs : VsRel (rP W j tb 0 len cap pb) vs xs.toList) :
    Calls Tryd.prog g xs w fun e w' => ∃ nb no, e = .returned (.pointer (some ⟨nb, no, none⟩)) ∧ w.heap.size ≤ nb ∧ nb < w'.heap.size ∧ nb ≠ pb ∧ NodeAt w' nb no kd ∧ Ps W w' pb tb len cap (j + f) d T ∧ Pk pb w w' := by
  unfold nodeC at hc
  split at hc
  · rename_i id o h' he
    simp only [Bool.and_eq_true, Bool.not_eq_true'] at hc
    obtain ⟨c1, c2, c3, c4, c5⟩ := hc
    obtain rfl := Nat.eq_of_beq_eq_true c1
    have hid : id < 65536 := by rwa [Nat.blt_eq] at c2
    have hid20 : id ≠ 20 := Nat.ne_of_beq_eq_false c3
    have hwin := h.win hT hj hw
    have h0 : 0 < len := by
      cases win with
      | nil => exact (hw0 rfl).elim
      | cons t _ => have := (hwin 0 t (by rw [hw]; rfl)).1; omega
    refine (evP h.hB h.hpb h.hp h.hne h.htb h.hlen hj1 h0 hwin hy he hvs).mono ?_
    rintro e w' ⟨z, r', rfl, hv, hr, hle, hk, ho⟩
    split at c5
    · rename_i m t ro pl c hblk
      simp only [Bool.and_eq_true, Bool.not_eq_true'] at c5
      obtain ⟨d1, d2, d3, d4, d5, d6⟩ := c5
      obtain rfl := Nat.eq_of_beq_eq_true d1
      obtain rfl := Nat.eq_of_beq_eq_true d2
      subst d3 d4
      obtain ⟨nb, sh, mm, e1, hf⟩ := hr.blk id 6 32 false true c hid hblk
      cases hv with
      | @ptr _ _ b' sh' c' e2 =>
      rw [e1] at e2
      cases e2
      have hlive : Live h' id := live_of hid hblk
      have hown : Own r' h' nb := own_of hid hblk e1
      have hpn : nb ≠ pb := fun q => by
        have e20 : r' 20 = some (pb, 0, 5) := hle _ _ rfl
        have l20 : Live h' 20 := by
          unfold endP at c4
          split at c4
          · rename_i hb20; exact live_of (by decide) hb20
          · cases c4
        rw [q] at e1
        exact hid20 (hr.inj id 20 pb sh mm 0 5 hlive l20 (.inl (by rw [hblk]; rfl)) e1 e20)
      refine ⟨nb, 0 + sh, rfl, (ho nb hown).resolve_left hpn, hr.lt hlive e1, hpn, ?_, h.next (endP_at c4 hr hle) hk, hk⟩
      obtain ⟨⟨cs, fz, ⟨t', g1, gt⟩, _, _, _, g5⟩, _⟩ := hf
      obtain rfl := gt rfl
      obtain ⟨x0, h0', v0⟩ := g5 0 (by decide)
      obtain ⟨x1, h1', v1⟩ := g5 1 (by decide)
      rw [veq_eq d5] at v0
      cases v0
      refine ⟨⟨cs, fz, g1⟩, by simp only [World.cell?, g1]; simpa using h0', ?_⟩
      split at d6
      · rename_i m2 q2 hq
        simp only [Bool.and_eq_true] at d6
        rw [hq] at v1
        obtain ⟨n, rfl⟩ := i64_unk d6.1 d6.2 v1
        refine ⟨n, ?_⟩
        simp only [World.cell?, g1]
        rw [show 0 + sh + 1 = 1 + sh by omega]
        simpa using h1'
      · cases d6
    · cases c5
  · cases hc
end
end Go.Proofs.YtcaomilekhhhlaaDoor
