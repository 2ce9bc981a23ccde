/- ParseLists: what the parser's loops keep. No condition. -/
import Derived.Test.YtcaomilekhhhlaaDoorEvQf
namespace Go.Proofs.YtcaomilekhhhlaaDoor
open Go.Ev Go.RowKit
set_option maxRecDepth 100000

/-- These tokens stand from a place on. -/
def WinAt (T : List Tok) (j cls : Nat) : Prop := ∃ pre rest, T = pre ++ (winOf cls ++ rest) ∧ pre.length = j
theorem rP_ptr (W : World) (j tb len cap pb : Nat) : VRel (rP W j tb 0 len cap pb) (.ptr 20 0) (.pointer (some ⟨pb, 0, none⟩)) := VRel.ptr (id := 20) (o := 0) (b := pb) (sh := 0) (c := 5) rfl
theorem str_one (r : Emb) {n : Nat} (hn : n < 256) : VRel r (.str n 1) (.string ⟨#[UInt8.ofNat n]⟩) := by
  have h := VRel.str (r := r) (n := n) (l := 1) (by omega)
  have e : sval n 1 = ⟨#[UInt8.ofNat n]⟩ := by unfold sval; rw [show sdec n 1 = [UInt8.ofNat (n % 256)] from rfl, Nat.mod_eq_of_lt hn]
  rw [e] at h
  exact h
section
variable {W w : World} {pb tb len cap j d cls : Nat} {T : List Tok}
theorem bool1 {g f : Nat} {b0 : Bool} (hc : boolC g [.ptr 20 0] cls d f b0 = true) (hy : Nat.beq g yieldG = false) (hw0 : winOf cls ≠ []) (h : Ps W w pb tb len cap j d T) (hw : WinAt T j cls) (hj1 : j ≤ 1000) :
    Calls Tryd.prog g #[.pointer (some ⟨pb, 0, none⟩)] w fun e w' => e = .returned (.bool b0) ∧ Ps W w' pb tb len cap (j + f) d T ∧ Pk pb w w' := by
  obtain ⟨pre, rest, h1, h2⟩ := hw
  exact bool_P hc hy h h1 h2 rfl hw0 hj1 (.cons (rP_ptr W j tb len cap pb) .nil)
theorem bool2 {g f n : Nat} {b0 : Bool} (hc : boolC g [.ptr 20 0, .str n 1] cls d f b0 = true) (hy : Nat.beq g yieldG = false) (hw0 : winOf cls ≠ []) (hn : n < 256) (h : Ps W w pb tb len cap j d T) (hw : WinAt T j cls) (hj1 : j ≤ 1000) :
    Calls Tryd.prog g #[.pointer (some ⟨pb, 0, none⟩), .string ⟨#[UInt8.ofNat n]⟩] w fun e w' => e = .returned (.bool b0) ∧ Ps W w' pb tb len cap (j + f) d T ∧ Pk pb w w' := by
  obtain ⟨pre, rest, h1, h2⟩ := hw
  exact bool_P hc hy h h1 h2 rfl hw0 hj1 (.cons (rP_ptr W j tb len cap pb) (.cons (str_one _ hn) .nil))
theorem unit2 {g f n : Nat} (hc : unitC g [.ptr 20 0, .str n 1] cls d f = true) (hy : Nat.beq g yieldG = false) (hw0 : winOf cls ≠ []) (hn : n < 256) (h : Ps W w pb tb len cap j d T) (hw : WinAt T j cls) (hj1 : j ≤ 1000) :
    Calls Tryd.prog g #[.pointer (some ⟨pb, 0, none⟩), .string ⟨#[UInt8.ofNat n]⟩] w fun e w' => e = .returned (.tuple #[]) ∧ Ps W w' pb tb len cap (j + f) d T ∧ Pk pb w w' := by
  obtain ⟨pre, rest, h1, h2⟩ := hw
  exact unit_P hc hy h h1 h2 rfl hw0 hj1 (.cons (rP_ptr W j tb len cap pb) (.cons (str_one _ hn) .nil))
theorem tok1 {g : Nat} (hc : tokC g [.ptr 20 0] cls d = true) (hy : Nat.beq g yieldG = false) (hw0 : winOf cls ≠ []) (h : Ps W w pb tb len cap j d T) (hw : WinAt T j cls) (hj1 : j ≤ 1000) :
    Calls Tryd.prog g #[.pointer (some ⟨pb, 0, none⟩)] w fun e w' => (∃ (y0 : Int) (y1 : ByteArray) (y3 x : Int), e = .returned (.agg #[.int .i64 y0, .string y1, .int .i64 x, .int .i64 y3])) ∧ Ps W w' pb tb len cap j d T ∧ Pk pb w w' := by
  obtain ⟨pre, rest, h1, h2⟩ := hw
  exact tok_P hc hy h h1 h2 rfl hw0 hj1 (.cons (rP_ptr W j tb len cap pb) .nil)
theorem node1 {g f kd : Nat} (hc : nodeC g [.ptr 20 0] cls d f kd = true) (hy : Nat.beq g yieldG = false) (hw0 : winOf cls ≠ []) (h : Ps W w pb tb len cap j d T) (hw : WinAt T j cls) (hj1 : j ≤ 1000) :
    Calls Tryd.prog g #[.pointer (some ⟨pb, 0, none⟩)] w fun e w' => ∃ nb no, e = .returned (.pointer (some ⟨nb, no, none⟩)) ∧ w.heap.size ≤ nb ∧ nb < w'.heap.size ∧ nb ≠ pb ∧ NodeAt w' nb no kd ∧ Ps W w' pb tb len cap (j + f) d T ∧ Pk pb w w' := by
  obtain ⟨pre, rest, h1, h2⟩ := hw
  exact node_P hc hy h h1 h2 rfl hw0 hj1 (.cons (rP_ptr W j tb len cap pb) .nil)
/-- What touches nothing below: the parser is as it was. -/
theorem Ps.other {w' : World} {B : Nat} (h : Ps W w pb tb len cap j d T) (hk : Below B w w') (hpB : pb < B) (htB : tb < B) (hWB : W.heap.size ≤ B) : Ps W w' pb tb len cap j d T :=
  ⟨h.hB.trans (hk.mono hWB), h.hpb, ⟨by rw [hk.block pb hpB]; exact h.hp.blk⟩, h.hne, Nat.lt_of_lt_of_le h.htb hk.size, h.hlen, h.hT, fun i t hi => (h.toks i t hi).keep (hk.block tb htB)⟩
/-- The parser goes on by one token. -/
theorem Ps.bump (h : Ps W w pb tb len cap j d T) : Ps W (w.setCell ⟨pb, 1, none⟩ (.int .i64 ((j + 1 : Nat) : Int))) pb tb len cap (j + 1) d T :=
  h.next ⟨set_blk h.hp.blk 1 _⟩ (Pk.set w 1 _)
end
/-- In an array's loop: the node, its parts, the parser; the blocks ahead of the call are as they were. -/
structure Arr (W w0 w : World) (pb tb len cap j d : Nat) (T : List Tok) (nb : Nat) (kd x : Int) (kv : Value) (l : List Bool) : Prop where
  ps : Ps W w pb tb len cap j d T
  node : ArrAt w nb kd x kv
  kids : KidsOk w w0.heap.size nb kv l
  kn : kv.ownBlock ≠ some nb
  nlt : w0.heap.size ≤ nb ∧ nb < w.heap.size
  pB : pb < w0.heap.size
  tB : tb < w0.heap.size
  wB : W.heap.size ≤ w0.heap.size
  same : Pk pb w0 w
section
variable {W w0 w w' : World} {pb tb len cap j j' d nb : Nat} {T : List Tok} {kd x : Int} {kv : Value} {l : List Bool}
theorem Arr.next (h : Arr W w0 w pb tb len cap j d T nb kd x kv l) (hp : Ps W w' pb tb len cap j' d T) (hk : Pk pb w w') : Arr W w0 w' pb tb len cap j' d T nb kd x kv l :=
  ⟨hp, by unfold ArrAt; rw [hk.block nb h.nlt.2 (by have := h.pB; have := h.nlt.1; omega)]; exact h.node, h.kids.keep hk.size fun k hk1 hk2 => hk.block k hk2 (by have := h.pB; omega), h.kn, ⟨h.nlt.1, Nat.lt_of_lt_of_le h.nlt.2 hk.size⟩, h.pB, h.tB, h.wB, h.same.trans hk⟩
theorem Arr.kcell (h : Arr W w0 w pb tb len cap j d T nb kd x kv l) : w.cell? ⟨nb, 5, none⟩ = some kv := by
  have := h.node
  unfold ArrAt at this
  simp [World.cell?, this]
theorem Arr.kfree (h : Arr W w0 w pb tb len cap j d T nb kd x kv l) : w.frozen? ⟨nb, 5, none⟩ = false := by
  have := h.node
  unfold ArrAt at this
  simp [World.frozen?, this]
theorem Arr.pcell (h : Arr W w0 w pb tb len cap j d T nb kd x kv l) : w.cell? ⟨pb, 1, none⟩ = some (.int .i64 j) ∧ w.frozen? ⟨pb, 1, none⟩ = false := by
  have := h.ps.hp.blk
  simp [World.cell?, World.frozen?, this]
/-- A node more. -/
theorem Arr.grow {wx wn : World} {b : Bool} {xs : List Value} {kb no g1 cap1 : Nat} (h : Arr W w0 w pb tb len cap j d T nb kd x kv l) (ho : w.ownsRow w0.heap.size 24 1 kv l.length xs) (hn : ∀ (i : Nat) (b : Bool), l[i]? = some b → ∃ kb no, xs[i]? = some (Value.pointer (some ⟨kb, no, none⟩)) ∧ w0.heap.size ≤ kb ∧ kb < w.heap.size ∧ kb ≠ nb ∧ NodeAt w kb no (kdOf b))
    (hx : Below w.heap.size w wx) (hkb : w0.heap.size ≤ kb) (hkl : kb < w.heap.size) (hnd : NodeAt w kb no (kdOf b)) (hkbn : kb ≠ nb) (ho2 : wn.ownsRow w0.heap.size 24 1 (.slice (some ⟨g1, 0, none⟩) (l.length + 1) cap1) (l.length + 1) (xs ++ [.pointer (some ⟨kb, no, none⟩)])) (hg : wx.grownBy wn kv.ownBlock)
    (hat : kv.ownBlock = some g1 ∨ wx.heap.size ≤ g1) : Arr W w0 (wn.setCell ⟨nb, 5, none⟩ (.slice (some ⟨g1, 0, none⟩) (l.length + 1) cap1)) pb tb len cap j d T nb kd x (.slice (some ⟨g1, 0, none⟩) (l.length + 1) cap1) (l ++ [b]) := by
  have hkv : ∀ k, kv.ownBlock = some k → w0.heap.size ≤ k := fun k hk => (ho.lt k hk).1
  have hnx : nb < wx.heap.size := Nat.lt_of_lt_of_le h.nlt.2 hx.size
  have hnode : ArrAt wn nb kd x kv := by
    unfold ArrAt
    rw [hg.block nb hnx (fun e => h.kn e.symm), hx.block nb h.nlt.2]
    exact h.node
  have hkids := KidsOk.snoc ho hn (fun k hk => hx.block k hk) hx.size hkb hkl hkbn hnd ho2 hg
  have hBn : Below w0.heap.size w wn := (hx.mono h.same.size).grown hg (Nat.le_trans h.same.size hx.size) (fun k hk => hkv k hk)
  have hBs : Below w0.heap.size w (wn.setCell ⟨nb, 5, none⟩ (.slice (some ⟨g1, 0, none⟩) (l.length + 1) cap1)) := hBn.setCell (p := ⟨nb, 5, none⟩) h.nlt.1 _
  have hgn : g1 ≠ nb := fun q => by
    rcases hat with e | e
    · exact h.kn (by rw [e, q])
    · omega
  have hsz : (wn.setCell ⟨nb, 5, none⟩ (.slice (some ⟨g1, 0, none⟩) (l.length + 1) cap1)).heap.size = wn.heap.size := by simp [World.setCell]
  refine ⟨h.ps.other hBs h.pB h.tB h.wB, set_blk hnode 5 _, ?_, by simp only [Value.ownBlock, ne_eq, Option.some.injEq]; exact hgn, ⟨h.nlt.1, by rw [hsz]; exact Nat.lt_of_lt_of_le hnx hg.size⟩, h.pB, h.tB, h.wB, ⟨hBs.os.trans h.same.os, hBs.tape.trans h.same.tape, hBs.output.trans h.same.output, Nat.le_trans h.same.size hBs.size, fun k hk hne => (hBs.block k hk).trans (h.same.block k hk hne)⟩⟩
  obtain ⟨ys, hy1, hy2⟩ := hkids
  have other : ∀ k, k ≠ nb → (wn.setCell ⟨nb, 5, none⟩ (.slice (some ⟨g1, 0, none⟩) (l.length + 1) cap1)).heap[k]? = wn.heap[k]? := fun k hk => Below.heap_setCell wn ⟨nb, 5, none⟩ _ k hk
  refine ⟨ys, ownsRow_at hy1 fun g hg' => other g ?_, fun i c hi => ?_⟩
  · simp only [Value.ownBlock, Option.some.injEq] at hg'
    rw [← hg']
    exact hgn
  · obtain ⟨kb', no', h1, h2, h3, hne, h4⟩ := hy2 i c hi
    exact ⟨kb', no', h1, h2, by rw [hsz]; exact h3, hne, h4.keep (other kb' hne)⟩
end
end Go.Proofs.YtcaomilekhhhlaaDoor
