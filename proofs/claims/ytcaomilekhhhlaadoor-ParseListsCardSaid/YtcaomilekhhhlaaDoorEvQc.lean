/- ParseLists: the parser's functions by the evaluator, from the parser's cells. No condition. -/
import Derived.Test.YtcaomilekhhhlaaDoorEvQb
namespace Go.Proofs.YtcaomilekhhhlaaDoor
open Go.Ev Go.RowKit
set_option maxRecDepth 100000

def extP : CallFn := fun g vs h => bif Nat.beq g 13 then (aheadV vs h).map fun v => (v, h) else none
def isExtP (g : FuncId) : Bool := Nat.beq g 13
noncomputable def callP : CallFn := callS Tryd.prog extP isExtP mask tab 1000 60
theorem callP_ok {W : World} : CallFnOk Tryd.prog W callP := by
  unfold callP
  rw [callS_eq _ _ _ tabOk]
  refine callN_sound (by kernel_rfl) (fun g hg vs h v h' he => ?_) noNum progOk (fun call hc => draws call hc) 60
  obtain rfl := Nat.eq_of_beq_eq_true hg
  obtain ⟨e1, rfl⟩ := map_of (o := aheadV vs h) he
  exact ahead_ok e1

/-- The parser's cells. -/
structure PAt (w : World) (pb tb len cap j d : Nat) : Prop where
  blk : w.heap[pb]? = some (.cells #[.slice (some ⟨tb, 0, none⟩) len cap, .int .i64 j, .int .i64 d, .int .i64 0, .int .i64 0] 39 (0, 0))
/-- All blocks but the parser's are as they were. -/
structure Pk (pb : Nat) (w w' : World) : Prop where
  os : w'.os = w.os
  tape : w'.tape = w.tape
  output : w'.output = w.output
  size : w.heap.size ≤ w'.heap.size
  block : ∀ k, k < w.heap.size → k ≠ pb → w'.heap[k]? = w.heap[k]?
theorem Pk.refl (pb : Nat) (w : World) : Pk pb w w := ⟨rfl, rfl, rfl, Nat.le_refl _, fun _ _ _ => rfl⟩
theorem Pk.trans {pb : Nat} {a b c : World} (h : Pk pb a b) (k : Pk pb b c) : Pk pb a c :=
  ⟨k.os.trans h.os, k.tape.trans h.tape, k.output.trans h.output, Nat.le_trans h.size k.size, fun i hi hn => (k.block i (Nat.lt_of_lt_of_le hi h.size) hn).trans (h.block i hi hn)⟩
theorem Pk.below {pb : Nat} {a b : World} (h : Below a.heap.size a b) : Pk pb a b := ⟨h.os, h.tape, h.output, h.size, fun k hk _ => h.block k hk⟩
theorem Pk.set {pb : Nat} (w : World) (i : Nat) (y : Value) : Pk pb w (w.setCell ⟨pb, i, none⟩ y) :=
  ⟨rfl, rfl, rfl, by simp [World.setCell], fun k _ hn => Below.heap_setCell w ⟨pb, i, none⟩ y k hn⟩

def kOf (cls : Nat) : Nat := 3 * cls + 2
def SPc (d : Nat) : List V := [satT, plV 11 0 0 1000, .int .i64 (.ofNat d), .int .i64 0, .int .i64 0]
def SPh (cls d : Nat) : H := ⟨604, (m4.put 14 (.u16b (kOf cls))).put 20 (.live 5 39 false true (cellsOf (SPc d)))⟩
noncomputable def rP (W : World) (j tb tz len cap pb : Nat) : Emb := fun id =>
  if id = 11 then some (j, 0, 0) else if id = 14 then some (tb, 0, tz) else if id = 20 then some (pb, 0, 5) else if id = 600 then some (tb, 0, tz) else if id = 601 then some (0, 0, 0) else if id = 602 then some (len, cap, 0) else globEmb Tryd.prog W id
theorem glob_none (W : World) {id : Nat} (h : 4 ≤ id) : globEmb Tryd.prog W id = none := by
  have : Tryd.prog.globals.size = 4 := by kernel_rfl
  simp only [globEmb, this]
  rw [if_neg (by omega)]
theorem rP_gl (W : World) (j tb tz len cap pb : Nat) : GRel Tryd.prog (rP W j tb tz len cap pb) := fun g hg => by
  have hs : Tryd.prog.globals.size = 4 := by kernel_rfl
  obtain ⟨m, h⟩ := globEmb_gl Tryd.prog W g hg
  refine ⟨m, ?_⟩
  unfold rP
  rw [if_neg (by omega), if_neg (by omega), if_neg (by omega), if_neg (by omega), if_neg (by omega), if_neg (by omega)]
  exact h
theorem rP_hi (W : World) (j tb tz len cap pb : Nat) {id : Nat} (h : 604 ≤ id) : rP W j tb tz len cap pb id = none := by
  unfold rP
  rw [if_neg (by omega), if_neg (by omega), if_neg (by omega), if_neg (by omega), if_neg (by omega), if_neg (by omega)]
  exact glob_none W (by omega)
theorem SPh_live {cls d id : Nat} (h : Live (SPh cls d) id) : id = 14 ∨ id = 20 := by
  obtain ⟨hi, hl⟩ := h
  by_cases e20 : id = 20
  · exact .inr e20
  by_cases e14 : id = 14
  · exact .inl e14
  exfalso
  have : (SPh cls d).mem.blk id = .dead := by
    show ((m4.put 14 _).put 20 _).blk id = _
    rw [Mem.blk_put_other _ _ _ _ (by decide) hi e20, Mem.blk_put_other _ _ _ _ (by decide) hi e14]
    exact m4_dead id hi
  rw [this] at hl
  cases hl
theorem SPh_14 (cls d : Nat) : (SPh cls d).mem.blk 14 = .u16b (kOf cls) := by
  show ((m4.put 14 _).put 20 _).blk 14 = _
  rw [Mem.blk_put_other _ _ _ _ (by decide) (by decide) (by decide)]
  exact Mem.blk_put_same _ _ _ (by decide)
theorem SPh_20 (cls d : Nat) : (SPh cls d).mem.blk 20 = .live 5 39 false true (cellsOf (SPc d)) := by
  show ((m4.put 14 _).put 20 _).blk 20 = _
  exact Mem.blk_put_same _ _ _ (by decide)

section
variable {W w : World} {pb tb len cap j d cls : Nat}
/-- The beginning, as the evaluator sees it. -/
theorem rP_rel (hp : PAt w pb tb len cap j d) (hne : pb ≠ tb) (htb : tb < w.heap.size) (hlen : len ≤ 2000) (hj : j ≤ 1000) (h0 : 0 < len)
    (hwin : ∀ i t, (winOf cls)[i]? = some t → j + i < len ∧ tokAt w tb (j + i) t) (tz : Nat) : Rel (rP W j tb tz len cap pb) (SPh cls d) w := by
  refine ⟨fun id hi hl => ?_, fun id id' b sh m sh' m' hl hl' _ e e' => ?_, fun id hi => rP_hi W j tb tz len cap pb hi⟩
  · rcases SPh_live ⟨hi, hl⟩ with rfl | rfl
    · refine ⟨tb, 0, tz, rfl, ?_⟩
      rw [SPh_14]
      refine ⟨?_, htb, .inl (by show 0 < kOf cls; unfold kOf; omega)⟩
      show tokSpec (3 * cls + 1 + 1) _ _ _
      refine ⟨len, cap, tz, j, hlen, rfl, rfl, rfl, ?_, fun i t hi => ?_⟩
      · rw [show (3 * cls + 1) % 3 = 1 by omega]; rfl
      · rw [show (3 * cls + 1) / 3 = cls by omega] at hi
        exact hwin i t hi
    · refine ⟨pb, 0, 5, rfl, ?_⟩
      rw [SPh_20]
      refine ⟨⟨_, _, ⟨39, hp.blk, fun _ => rfl⟩, rfl, fun _ x _ => by omega, fun _ => rfl, fun o ho => ?_⟩, by decide, by have := cellsOf_room (SPc d) (show (SPc d).length ≤ 4096 by show 5 ≤ 4096; decide); exact this, fun _ q => by cases q⟩
      rw [cellsOf_get (SPc d) (by show 5 ≤ 4096; decide) o ho]
      match o, ho with
      | 0, _ => exact ⟨_, rfl, .sat (L := 600) (id := 601) (iz := 602) (b := tb) (o := 0) (x := 0) (z := len) (cap := cap) (m := tz) (by decide) (by decide) rfl rfl rfl h0⟩
      | 1, _ => exact ⟨_, rfl, .sym ⟨by rw [sPack_lo (by decide) (by decide) (by decide) (by decide)]; omega, by rw [sPack_hi (by decide) (by decide) (by decide) (by decide)]; omega, .inr ⟨j, 0, 0, by rw [sPack_id (by decide)]; rfl, by rw [sPack_c (by decide) (by decide)]; omega, by rw [sPack_d (by decide) (by decide) (by decide)]; omega⟩⟩⟩
      | 2, _ => exact ⟨_, rfl, .int .i64 _⟩
      | 3, _ => exact ⟨_, rfl, .int .i64 0⟩
      | 4, _ => exact ⟨_, rfl, .int .i64 0⟩
  · have f14 : rP W j tb tz len cap pb 14 = some (tb, 0, tz) := rfl
    have f20 : rP W j tb tz len cap pb 20 = some (pb, 0, 5) := rfl
    rcases SPh_live hl with rfl | rfl <;> rcases SPh_live hl' with rfl | rfl
    · rfl
    · rw [f14] at e; rw [f20] at e'; cases e; cases e'; exact (hne rfl).elim
    · rw [f20] at e; rw [f14] at e'; cases e; cases e'; exact (hne rfl).elim
    · rfl
theorem rP_own {tz b : Nat} (h : Own (rP W j tb tz len cap pb) (SPh cls d) b) : b = pb := by
  obtain ⟨id, sh, m, hi, ho, e⟩ := h
  rcases SPh_live ⟨hi, live_of_own ho⟩ with rfl | rfl
  · rw [SPh_14] at ho; cases ho
  · have f20 : rP W j tb tz len cap pb 20 = some (pb, 0, 5) := rfl
    rw [f20] at e
    cases e
    rfl
/-- A call of the parser's, by the evaluator. -/
theorem evP (hB : Below W.heap.size W w) (hpb : W.heap.size ≤ pb) (hp : PAt w pb tb len cap j d) (hne : pb ≠ tb) (htb : tb < w.heap.size) (hlen : len ≤ 2000) (hj : j ≤ 1000) (h0 : 0 < len)
    (hwin : ∀ i t, (winOf cls)[i]? = some t → j + i < len ∧ tokAt w tb (j + i) t) {g : FuncId} {vs : List V} {v : V} {h' : H} (hy : Nat.beq g yieldG = false) (hc : callP g vs (SPh cls d) = some (v, h')) {xs : Array Value} (hvs : VsRel (rP W j tb 0 len cap pb) vs xs.toList) :
    Calls Tryd.prog g xs w fun e w' => ∃ z r', e = .returned z ∧ VRel r' v z ∧ Rel r' h' w' ∧ (rP W j tb 0 len cap pb).le r' ∧ Pk pb w w' ∧ ∀ b, Own r' h' b → b = pb ∨ w.heap.size ≤ b := by
  have hr := rP_rel (W := W) hp hne htb hlen hj h0 hwin 0
  refine (((callP_ok (W := W)) g vs (SPh cls d) v h' hc).1 hy _ w xs hr (rP_gl W j tb 0 len cap pb) ⟨hB.block, fun b ho => by rw [rP_own ho]; exact hpb, hB.size⟩ hvs).mono ?_
  rintro e w' ⟨z, r', rfl, st, hv⟩
  exact ⟨z, r', rfl, hv, st.rel, st.le, ⟨st.os, st.tape, st.out, st.size, fun k hk hn => st.keep k hk (fun ho => hn (rP_own ho))⟩, fun b hb => (Nat.lt_or_ge b w.heap.size).elim (fun hl => .inl (rP_own (st.own b hl hb))) .inr⟩
end
end Go.Proofs.YtcaomilekhhhlaaDoor
