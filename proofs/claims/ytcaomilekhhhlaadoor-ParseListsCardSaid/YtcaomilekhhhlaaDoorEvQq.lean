/- ParseLists: behind an expression. No condition. -/
import Derived.Test.YtcaomilekhhhlaaDoorEvQp
namespace Go.Proofs.YtcaomilekhhhlaaDoor
open Go.Ev Go.RowKit
set_option maxHeartbeats 8000000
set_option maxRecDepth 1000000

/-- A token of a kind and a text that are known; a number; from the parser's cells. -/
noncomputable def tokS (g : FuncId) (vs : List V) (cls d : Nat) (a n l : Nat) : Bool := match callP g vs (SPh cls d) with | some (.agg [.int .i64 a', .str n' l', .cl2 m q, .int .i64 _], h) => decide (a' = (a : Int)) && (Nat.beq n' n && (Nat.beq l' l && (Nat.beq m 0 && (Nat.beq q (kq .i64) && endP h 0 d)))) | _ => false
noncomputable def intC (g : FuncId) (vs : List V) (cls d : Nat) (a : Int) : Bool := match callP g vs (SPh cls d) with | some (.int .i64 a', h) => decide (a' = a) && endP h 0 d | _ => false
noncomputable def tokF (g : FuncId) (vs : List V) (cls d : Nat) : Bool := match callP g vs (SFh cls d) with | some (.agg [.int .i64 _, .str _ _, .cl2 m q, .int .i64 _], h) => Nat.beq m 0 && (Nat.beq q (kq .i64) && endF h 0 d) | _ => false
section
variable {W w : World} {pb tb len cap j d cls : Nat} {T : List Tok}
theorem boolS {g f n l : Nat} {s : ByteArray} {b0 : Bool} (hc : boolC g [.ptr 20 0, .str n l] cls d f b0 = true) (hy : Nat.beq g yieldG = false) (hw0 : winOf cls ≠ []) (hs : sval n l = s) (hl : n < 256 ^ l) (h : Ps W w pb tb len cap j d T) (hw : WinAt T j cls) (hj1 : j ≤ 1000) :
    Calls Tryd.prog g #[.pointer (some ⟨pb, 0, none⟩), .string s] w fun e w' => e = .returned (.bool b0) ∧ Ps W w' pb tb len cap (j + f) d T ∧ Pk pb w w' := by
  obtain ⟨pre, rest, h1, h2⟩ := hw
  subst hs
  exact bool_P hc hy h h1 h2 rfl hw0 hj1 (.cons (rP_ptr W j tb len cap pb) (.cons (VRel.str hl) .nil))
theorem tok_S {a n l : Nat} {g : FuncId} {vs : List V} (hc : tokS g vs cls d a n l = true) (hy : Nat.beq g yieldG = false) (h : Ps W w pb tb len cap j d T) (hw : WinAt T j cls) (hw0 : winOf cls ≠ []) (hj1 : j ≤ 1000) {xs : Array Value} (hvs : VsRel (rP W j tb 0 len cap pb) vs xs.toList) :
    Calls Tryd.prog g xs w fun e w' => (∃ (x y3 : Int), e = .returned (.agg #[.int .i64 (a : Int), .string (sval n l), .int .i64 x, .int .i64 y3])) ∧ Ps W w' pb tb len cap j d T ∧ Pk pb w w' := by
  unfold tokS at hc
  split at hc
  · rename_i u0 un ul m q u3 h' he
    simp only [Bool.and_eq_true] at hc
    obtain ⟨ha, hn, hl, hm, hq, hE⟩ := hc
    have ha' : u0 = (a : Int) := by simpa using ha
    subst ha'
    obtain rfl := Nat.eq_of_beq_eq_true hn
    obtain rfl := Nat.eq_of_beq_eq_true hl
    obtain ⟨pre, rest, hT, hj⟩ := hw
    have hwin := h.win hT hj rfl
    have h0 : 0 < len := by
      cases hq : winOf cls with
      | nil => exact (hw0 hq).elim
      | cons t _ => have := (hwin 0 t (by rw [hq]; rfl)).1; omega
    refine (evP h.hB h.hpb h.hp h.hne h.htb h.hlen hj1 h0 hwin hy he hvs).mono ?_
    rintro e w' ⟨z, r', rfl, hv, hr, hle, hk, -⟩
    refine ⟨?_, h.next (endP_at hE hr hle) hk, hk⟩
    cases hv with
    | @agg _ ys hx =>
      cases ys with | mk l =>
      cases hx with
      | cons g0 hx => cases hx with
        | cons g1 hx => cases hx with
          | cons g2 hx => cases hx with
            | cons g3 hx =>
              cases hx
              obtain ⟨n, rfl⟩ := i64_unk hm hq g2
              cases g0
              cases g1
              cases g3
              exact ⟨n, _, rfl⟩
  · cases hc
theorem int_S {a : Int} {g : FuncId} {vs : List V} (hc : intC g vs cls d a = true) (hy : Nat.beq g yieldG = false) (h : Ps W w pb tb len cap j d T) (hw : WinAt T j cls) (hw0 : winOf cls ≠ []) (hj1 : j ≤ 1000) {xs : Array Value} (hvs : VsRel (rP W j tb 0 len cap pb) vs xs.toList) :
    Calls Tryd.prog g xs w fun e w' => e = .returned (.int .i64 a) ∧ Ps W w' pb tb len cap j d T ∧ Pk pb w w' := by
  unfold intC at hc
  split at hc
  · rename_i u0 h' he
    simp only [Bool.and_eq_true] at hc
    obtain ⟨ha, hE⟩ := hc
    have ha' : u0 = a := by simpa using ha
    subst ha'
    obtain ⟨pre, rest, hT, hj⟩ := hw
    have hwin := h.win hT hj rfl
    have h0 : 0 < len := by
      cases hq : winOf cls with
      | nil => exact (hw0 hq).elim
      | cons t _ => have := (hwin 0 t (by rw [hq]; rfl)).1; omega
    refine (evP h.hB h.hpb h.hp h.hne h.htb h.hlen hj1 h0 hwin hy he hvs).mono ?_
    rintro e w' ⟨z, r', rfl, hv, hr, hle, hk, -⟩
    refine ⟨?_, h.next (endP_at hE hr hle) hk, hk⟩
    cases hv
    rfl
  · cases hc
theorem tok_F {g : FuncId} {vs : List V} (hc : tokF g vs cls d = true) (hy : Nat.beq g yieldG = false) (h : Pf W w pb tb len cap j d T) (hw : WinAt T j cls) (hw0 : winOf cls ≠ []) (hj1 : j ≤ 1000) {xs : Array Value} (hvs : VsRel (rP W j tb 0 len cap pb) vs xs.toList) :
    Calls Tryd.prog g xs w fun e w' => (∃ (y0 : Int) (y1 : ByteArray) (y3 x : Int), e = .returned (.agg #[.int .i64 y0, .string y1, .int .i64 x, .int .i64 y3])) ∧ Pf W w' pb tb len cap j d T ∧ Pk pb w w' := by
  unfold tokF at hc
  split at hc
  · rename_i u0 un ul m q u3 h' he
    simp only [Bool.and_eq_true] at hc
    obtain ⟨hm, hq, hE⟩ := hc
    obtain ⟨pre, rest, hT, hj⟩ := hw
    have hwin := h.win hT hj rfl
    have h0 : 0 < len := by
      cases hq : winOf cls with
      | nil => exact (hw0 hq).elim
      | cons t _ => have := (hwin 0 t (by rw [hq]; rfl)).1; omega
    refine (evF h.hB h.hpb h.hp h.hne h.htb h.hlen hj1 h0 hwin hy he hvs).mono ?_
    rintro e w' ⟨z, r', rfl, hv, hr, hle, hk, -⟩
    refine ⟨?_, h.next (endF_at hE hr hle) hk, hk⟩
    cases hv with
    | @agg _ ys hx =>
      cases ys with | mk l =>
      cases hx with
      | cons g0 hx => cases hx with
        | cons g1 hx => cases hx with
          | cons g2 hx => cases hx with
            | cons g3 hx =>
              cases hx
              obtain ⟨n, rfl⟩ := i64_unk hm hq g2
              cases g0
              cases g1
              cases g3
              exact ⟨_, _, _, n, rfl⟩
  · cases hc
end
/-- A token; a sign that is known, where all is well. -/
def TokIs (s0 : ByteArray) (b : Bool) (e : Ending) : Prop := ∃ (k : Int) (s : ByteArray) (x y3 : Int), e = .returned (.agg #[.int .i64 k, .string s, .int .i64 x, .int .i64 y3]) ∧ (b = true → k = 5 ∧ s = s0)
/-- Behind an expression: at a sign that goes no further; or behind a fault. -/
structure Tail (pb N : Nat) (S : World → Prop) (s0 : ByteArray) (b : Bool) : Prop where
  pn : pb < N
  lt : ∀ w, S w → N ≤ w.heap.size
  off : ∀ w w' B, S w → Below B w w' → N ≤ B → S w'
  ok : ∀ w, S w → Calls Tryd.prog 8 #[.pointer (some ⟨pb, 0, none⟩)] w fun e w' => e = .returned (.bool b) ∧ S w' ∧ Pk pb w w'
  tok : ∀ w, S w → Calls Tryd.prog 9 #[.pointer (some ⟨pb, 0, none⟩)] w fun e w' => TokIs s0 b e ∧ S w' ∧ Pk pb w w'
  tq : ∀ w, S w → Calls Tryd.prog 31 #[.pointer (some ⟨pb, 0, none⟩), .string ⟨#[63]⟩] w fun e w' => e = .returned (.bool false) ∧ S w' ∧ Pk pb w w'
  td : b = true → ∀ w, S w → Calls Tryd.prog 31 #[.pointer (some ⟨pb, 0, none⟩), .string ⟨#[46]⟩] w fun e w' => e = .returned (.bool false) ∧ S w' ∧ Pk pb w w'
  tb : b = true → ∀ w, S w → Calls Tryd.prog 31 #[.pointer (some ⟨pb, 0, none⟩), .string ⟨#[91]⟩] w fun e w' => e = .returned (.bool false) ∧ S w' ∧ Pk pb w w'
  tp : b = true → ∀ w, S w → Calls Tryd.prog 31 #[.pointer (some ⟨pb, 0, none⟩), .string ⟨#[40]⟩] w fun e w' => e = .returned (.bool false) ∧ S w' ∧ Pk pb w w'
  iu : b = true → ∀ w, S w → Calls Tryd.prog 14 #[.pointer (some ⟨pb, 0, none⟩), .string ⟨#[43, 43]⟩] w fun e w' => e = .returned (.bool false) ∧ S w' ∧ Pk pb w w'
  id : b = true → ∀ w, S w → Calls Tryd.prog 14 #[.pointer (some ⟨pb, 0, none⟩), .string ⟨#[45, 45]⟩] w fun e w' => e = .returned (.bool false) ∧ S w' ∧ Pk pb w w'
  lv : b = true → ∀ w, S w → Calls Tryd.prog 93 #[.string s0] w fun e w' => e = .returned (.int .i64 (-1)) ∧ S w' ∧ Pk pb w w'
theorem Tail.still {pb N : Nat} {S : World → Prop} {s0 : ByteArray} {b : Bool} (t : Tail pb N S s0 b) : ∀ w w', S w → Below w.heap.size w w' → S w' := fun w w' h hk => t.off w w' _ h hk (t.lt w h)
/-- Above this no block matters. -/
def nof (W : World) (pb tb : Nat) : Nat := max (max (pb + 1) (tb + 1)) W.heap.size
noncomputable def tailC (cls d n : Nat) : Bool :=
  boolC 8 [.ptr 20 0] cls d 0 true && (tokS 9 [.ptr 20 0] cls d 5 n 1 && (intC 93 [.str n 1] cls d (-1) &&
  ((boolC 31 [.ptr 20 0, .str 63 1] cls d 0 false && (boolC 31 [.ptr 20 0, .str 46 1] cls d 0 false && (boolC 31 [.ptr 20 0, .str 91 1] cls d 0 false && boolC 31 [.ptr 20 0, .str 40 1] cls d 0 false))) &&
  (boolC 14 [.ptr 20 0, .str 11051 2] cls d 0 false && boolC 14 [.ptr 20 0, .str 11565 2] cls d 0 false))))
theorem tail_P {W : World} {pb tb len cap j d cls n : Nat} {T : List Tok} (hc : tailC cls d n = true) (hw0 : winOf cls ≠ []) (hw : WinAt T j cls) (hj1 : j ≤ 1000) (s0 : ByteArray) (hs : sval n 1 = s0) (hn : n < 256) : Tail pb (nof W pb tb) (fun w => Ps W w pb tb len cap j d T) s0 true := by
  subst hs
  unfold tailC at hc
  simp only [Bool.and_eq_true] at hc
  obtain ⟨a1, a2, a3, ⟨b1, b2, b3, b4⟩, c1, c2⟩ := hc
  exact ⟨by unfold nof; omega, fun w h => by have h1 := (Array.getElem?_eq_some_iff.1 h.hp.blk).1; have h2 := h.htb; have h3 := h.hB.size; unfold nof; omega, fun w w' B h hk hN => h.other hk (by unfold nof at hN; omega) (by unfold nof at hN; omega) (by unfold nof at hN; omega), fun w h => bool1 a1 rfl hw0 h hw hj1,
    fun w h => (tok_S a2 rfl h hw hw0 hj1 (.cons (rP_ptr W j tb len cap pb) .nil)).mono fun e w' ⟨⟨x, y3, h1⟩, h2, h3⟩ => ⟨⟨5, _, x, y3, h1, fun _ => ⟨rfl, rfl⟩⟩, h2, h3⟩,
    fun w h => bool2 b1 rfl hw0 (by decide) h hw hj1, fun _ w h => bool2 b2 rfl hw0 (by decide) h hw hj1, fun _ w h => bool2 b3 rfl hw0 (by decide) h hw hj1, fun _ w h => bool2 b4 rfl hw0 (by decide) h hw hj1,
    fun _ w h => boolS c1 rfl hw0 rfl (by decide) h hw hj1, fun _ w h => boolS c2 rfl hw0 rfl (by decide) h hw hj1,
    fun _ w h => int_S a3 rfl h hw hw0 hj1 (.cons (VRel.str (by omega)) .nil)⟩
noncomputable def tailF (cls d : Nat) : Bool := boolF 8 [.ptr 20 0] cls d 0 false && (tokF 9 [.ptr 20 0] cls d && boolF 31 [.ptr 20 0, .str 63 1] cls d 0 false)
theorem tail_F {W : World} {pb tb len cap j d cls : Nat} {T : List Tok} (hc : tailF cls d = true) (hw0 : winOf cls ≠ []) (hw : WinAt T j cls) (hj1 : j ≤ 1000) (s0 : ByteArray) : Tail pb (nof W pb tb) (fun w => Pf W w pb tb len cap j d T) s0 false := by
  unfold tailF at hc
  simp only [Bool.and_eq_true] at hc
  obtain ⟨a1, a2, b1⟩ := hc
  exact ⟨by unfold nof; omega, fun w h => by obtain ⟨x, hx⟩ := h.hp.blk; have h1 := (Array.getElem?_eq_some_iff.1 hx).1; have h2 := h.htb; have h3 := h.hB.size; unfold nof; omega, fun w w' B h hk hN => h.row hk (by unfold nof at hN; omega) (by unfold nof at hN; omega) (by unfold nof at hN; omega), fun w h => boolF1 a1 rfl hw0 h hw hj1,
    fun w h => (tok_F a2 rfl h hw hw0 hj1 (.cons (rP_ptr W j tb len cap pb) .nil)).mono fun e w' ⟨⟨y0, y1, y3, x, h1⟩, h2, h3⟩ => ⟨⟨y0, y1, x, y3, h1, fun q => (by cases q)⟩, h2, h3⟩,
    fun w h => boolF2 b1 rfl hw0 (by decide) h hw hj1, fun q => (by cases q), fun q => (by cases q), fun q => (by cases q), fun q => (by cases q), fun q => (by cases q), fun q => (by cases q)⟩
theorem t85 : tailC 8 5 41 = true := by decide +kernel
theorem t84 : tailC 8 4 41 = true := by decide +kernel
theorem t103 : tailC 10 3 59 = true := by decide +kernel
theorem t102 : tailC 10 2 59 = true := by decide +kernel
theorem t93 : tailC 9 3 61 = true := by decide +kernel
theorem t92 : tailC 9 2 61 = true := by decide +kernel
theorem f63 : tailF 6 3 = true := by decide +kernel
theorem f62 : tailF 6 2 = true := by decide +kernel
/-- What lies from a base on is as it was, but for the parser's block. -/
def Pkb (base pb : Nat) (w w' : World) : Prop := w.heap.size ≤ w'.heap.size ∧ ∀ k, base ≤ k → k < w.heap.size → k ≠ pb → w'.heap[k]? = w.heap[k]?
theorem Pk.b {pb : Nat} {w w' : World} (h : Pk pb w w') (base : Nat) : Pkb base pb w w' := ⟨h.size, fun k _ h1 h2 => h.block k h1 h2⟩
theorem Pkb.set {base pb : Nat} (w : World) (b o : Nat) (v : Value) (h : b < base) : Pkb base pb w (w.setCell ⟨b, o, none⟩ v) := ⟨by simp [World.setCell], fun k hk _ _ => Below.heap_setCell w ⟨b, o, none⟩ v k (by show k ≠ b; omega)⟩
theorem Pkb.trans {base pb : Nat} {a b c : World} (h : Pkb base pb a b) (k : Pkb base pb b c) : Pkb base pb a c := ⟨Nat.le_trans h.1 k.1, fun i h1 h2 h3 => (k.2 i h1 (Nat.lt_of_lt_of_le h2 h.1) h3).trans (h.2 i h1 h2 h3)⟩
/-- A node given back: where the parser is then, and what is known of the node, from a base on. -/
def Res (S : World → Prop) (Φ : Nat → Addr → World → Prop) (pb : Nat) (w0 : World) (e : Ending) (w' : World) : Prop := ∃ a, e = .returned (.pointer (some a)) ∧ S w' ∧ Φ w0.heap.size a w' ∧ Pk pb w0 w'
/-- What is known of a node hangs on no block of the parser's, and on none below the base. -/
structure Firm (Φ : Nat → Addr → World → Prop) (pb : Nat) : Prop where
  keep : ∀ base a w w', Φ base a w → Pkb base pb w w' → Φ base a w'
  mono : ∀ base base' a w, Φ base a w → base' ≤ base → Φ base' a w
theorem Firm.up {Φ : Nat → Addr → World → Prop} {pb : Nat} (h : Firm Φ pb) {w1 w2 : World} {a : Addr} {base base' : Nat} (hf : Φ base a w1) (hb : base' ≤ base) (hk : Pk pb w1 w2) : Φ base' a w2 := h.mono _ _ _ _ (h.keep _ _ _ _ hf (hk.b _)) hb
theorem Res.up {S : World → Prop} {Φ : Nat → Addr → World → Prop} {pb : Nat} {w0 w1 : World} {e : Ending} {w' : World} (hΦ : Firm Φ pb) (h : Res S Φ pb w1 e w') (hk : Pk pb w0 w1) : Res S Φ pb w0 e w' := by
  obtain ⟨a, h1, h2, h3, h4⟩ := h
  exact ⟨a, h1, h2, hΦ.mono _ _ _ _ h3 hk.size, hk.trans h4⟩
end Go.Proofs.YtcaomilekhhhlaaDoor
