/- ParseLists: an array's parts, by the parser. ParseLists: what the parser's loops keep. EarlyLabels: one deeper, and back; tokens that are known. EarlyLabels: trees, as they lie. EarlyLabels: a tree that the evaluator gives, as it lies. No condition. -/
import Derived.Test.YtjkgefnlennbjaaGreatDoorEvMm
import Derived.Test.YtjkgefnlennbjaaGreatDoorEvMl
import Derived.Deep.RegionHeld3
import Derived.WalkSpells
import Derived.Defers
set_option linter.all false
namespace Go.Proofs.YtjkgefnlennbjaaGreatDoor
open Go.Ev Go.RowKit
set_option maxHeartbeats 8000000
set_option maxRecDepth 100000

theorem make_walk (w : World) (kd at_ : Int) (s : ByteArray) (v : Value) (hv : ∃ p n c, v = .slice p n c) : Calls Tryz.prog 6 #[.int .i64 kd, .int .i64 at_, .string s, v] w fun e w' => e = .returned (.pointer (some ⟨w.heap.size, 0, none⟩)) ∧ w' = w.alloc (.cells #[.int .i64 kd, .int .i64 at_, .string s, .int .i64 0, .int .i64 0, v] 34) := by
  obtain ⟨p, n, c, rfl⟩ := hv
  go_enter Tryz.func6, Tryz.ntmps6
  go_wp2
  go_ret
  exact ⟨rfl, rfl⟩
/-- A list of nodes: names and holes. -/
def kdOf (b : Bool) : Nat := if b then 32 else 40
def KidsOk (w : World) (base nb : Nat) (v : Value) (l : List Bool) : Prop :=
  ∃ xs, w.ownsRow base 26 1 v l.length xs ∧ ∀ (i : Nat) (b : Bool), l[i]? = some b → ∃ kb no, xs[i]? = some (Value.pointer (some ⟨kb, no, none⟩)) ∧ base ≤ kb ∧ kb < w.heap.size ∧ kb ≠ nb ∧ NodeAt w kb no (kdOf b)
theorem KidsOk.nil (w : World) (base nb : Nat) : KidsOk w base nb (.slice none 0 0) [] := ⟨[], World.ownsRow_nil _ _ _ _, fun i b h => by simp at h⟩
theorem KidsOk.keep {w w' : World} {base nb : Nat} {v : Value} {l : List Bool} (h : KidsOk w base nb v l) (hs : w.heap.size ≤ w'.heap.size) (hk : ∀ k, base ≤ k → k < w.heap.size → w'.heap[k]? = w.heap[k]?) : KidsOk w' base nb v l := by
  obtain ⟨xs, ho, hn⟩ := h
  refine ⟨xs, ownsRow_at ho fun g hg => hk g (ho.lt g hg).1 (ho.lt g hg).2, fun i b hi => ?_⟩
  obtain ⟨kb, no, h1, h2, h3, hne, h4⟩ := hn i b hi
  exact ⟨kb, no, h1, h2, Nat.lt_of_lt_of_le h3 hs, hne, h4.keep (hk kb h2 h3)⟩
/-- The list grows by a node. -/
theorem KidsOk.snoc {w wx wn : World} {base nb kb no : Nat} {v v2 : Value} {l : List Bool} {b : Bool} {xs : List Value} (ho : w.ownsRow base 26 1 v l.length xs) (hn : ∀ (i : Nat) (b : Bool), l[i]? = some b → ∃ kb no, xs[i]? = some (Value.pointer (some ⟨kb, no, none⟩)) ∧ base ≤ kb ∧ kb < w.heap.size ∧ kb ≠ nb ∧ NodeAt w kb no (kdOf b))
    (hx : ∀ k, k < w.heap.size → wx.heap[k]? = w.heap[k]?) (hxs : w.heap.size ≤ wx.heap.size) (hkb : base ≤ kb) (hkl : kb < w.heap.size) (hkn : kb ≠ nb) (hnd : NodeAt w kb no (kdOf b)) (ho2 : wn.ownsRow base 26 1 v2 (l.length + 1) (xs ++ [.pointer (some ⟨kb, no, none⟩)])) (hg : wx.grownBy wn v.ownBlock) : KidsOk wn base nb v2 (l ++ [b]) := by
  have keep : ∀ kb no kd, kb < w.heap.size → NodeAt w kb no kd → NodeAt wn kb no kd := fun kb no kd hl hnd => by
    refine hnd.keep ?_
    rw [hg.block kb (Nat.lt_of_lt_of_le hl hxs) ?_, hx kb hl]
    intro e2
    obtain ⟨⟨cs, fz, hcs⟩, _⟩ := hnd
    rcases ho.2 with ⟨rfl, _⟩ | ⟨g', cap, cur, rfl, h4, h5, _⟩
    · simp [Value.ownBlock] at e2
    · simp only [Value.ownBlock, Option.some.injEq] at e2
      subst e2
      rw [h5] at hcs
      simp at hcs
  have hlen : xs.length = l.length := by have := ho.1; omega
  refine ⟨_, by rw [List.length_append]; exact ho2, fun i c hi => ?_⟩
  by_cases hlt : i < l.length
  · rw [List.getElem?_append_left hlt] at hi
    obtain ⟨kb', no', h1, h2, h3, hne, h4⟩ := hn i c hi
    exact ⟨kb', no', by rw [List.getElem?_append_left (by omega)]; exact h1, h2, by have := hg.size; omega, hne, keep _ _ _ h3 h4⟩
  · rw [List.getElem?_append_right (by omega)] at hi
    have hi0 : i - l.length = 0 := by
      cases hq : i - l.length with
      | zero => rfl
      | succ n => rw [hq] at hi; simp at hi
    rw [hi0] at hi
    simp only [List.getElem?_cons_zero, Option.some.injEq] at hi
    subst hi
    refine ⟨kb, no, ?_, hkb, by have := hg.size; omega, hkn, keep _ _ _ hkl hnd⟩
    rw [List.getElem?_append_right (by omega), show i - xs.length = 0 by omega]
    rfl
/-- An array's node. -/
def ArrAt (w : World) (nb : Nat) (kd x : Int) (v : Value) : Prop := w.heap[nb]? = some (.cells #[.int .i64 kd, .int .i64 x, .string ⟨#[]⟩, .int .i64 0, .int .i64 0, v] 34 (0, 0))
end Go.Proofs.YtjkgefnlennbjaaGreatDoor

namespace Go.Proofs.YtjkgefnlennbjaaGreatDoor
open Go.Ev Go.RowKit
set_option maxRecDepth 100000

/-- These tokens stand from a place on. -/
def WinAt (T : List Tok) (j cls : Nat) : Prop := ∃ pre rest, T = pre ++ (winOf cls ++ rest) ∧ pre.length = j
theorem rP_ptr (W : World) (j tb len cap pb : Nat) : VRel (rP W j tb 0 len cap pb) (.ptr 20 0) (.pointer (some ⟨pb, 0, none⟩)) := VRel.ptr (id := 20) (o := 0) (b := pb) (sh := 0) (c := 5) rfl
theorem str_one (r : Emb) {n : Nat} (hn : n < 256) : VRel r (.str n 1) (.string ⟨#[UInt8.ofNat n]⟩) := by
  have h := VRel.str (r := r) (n := n) (l := 1) (by omega)
  have e : sval n 1 = ⟨#[UInt8.ofNat n]⟩ := by unfold sval; rw [show sdec n 1 = [UInt8.ofNat (n % 256)] from rfl, Nat.mod_eq_of_lt hn]
  rw [e] at h
  exact h
section
variable {W w : World} {pb tb len cap j d cls : Nat} {T : List Tok}
theorem bool1 {g f : Nat} {b0 : Bool} (hc : boolC g [.ptr 20 0] cls d f b0 = true) (hy : Nat.beq g yieldG = false) (hw0 : winOf cls ≠ []) (h : Ps W w pb tb len cap j d T) (hw : WinAt T j cls) (hj1 : j ≤ 1000) :
    Calls Tryz.prog g #[.pointer (some ⟨pb, 0, none⟩)] w fun e w' => e = .returned (.bool b0) ∧ Ps W w' pb tb len cap (j + f) d T ∧ Pk pb w w' := by
  obtain ⟨pre, rest, h1, h2⟩ := hw
  exact bool_P hc hy h h1 h2 rfl hw0 hj1 (.cons (rP_ptr W j tb len cap pb) .nil)
theorem bool2 {g f n : Nat} {b0 : Bool} (hc : boolC g [.ptr 20 0, .str n 1] cls d f b0 = true) (hy : Nat.beq g yieldG = false) (hw0 : winOf cls ≠ []) (hn : n < 256) (h : Ps W w pb tb len cap j d T) (hw : WinAt T j cls) (hj1 : j ≤ 1000) :
    Calls Tryz.prog g #[.pointer (some ⟨pb, 0, none⟩), .string ⟨#[UInt8.ofNat n]⟩] w fun e w' => e = .returned (.bool b0) ∧ Ps W w' pb tb len cap (j + f) d T ∧ Pk pb w w' := by
  obtain ⟨pre, rest, h1, h2⟩ := hw
  exact bool_P hc hy h h1 h2 rfl hw0 hj1 (.cons (rP_ptr W j tb len cap pb) (.cons (str_one _ hn) .nil))
theorem unit2 {g f n : Nat} (hc : unitC g [.ptr 20 0, .str n 1] cls d f = true) (hy : Nat.beq g yieldG = false) (hw0 : winOf cls ≠ []) (hn : n < 256) (h : Ps W w pb tb len cap j d T) (hw : WinAt T j cls) (hj1 : j ≤ 1000) :
    Calls Tryz.prog g #[.pointer (some ⟨pb, 0, none⟩), .string ⟨#[UInt8.ofNat n]⟩] w fun e w' => e = .returned (.tuple #[]) ∧ Ps W w' pb tb len cap (j + f) d T ∧ Pk pb w w' := by
  obtain ⟨pre, rest, h1, h2⟩ := hw
  exact unit_P hc hy h h1 h2 rfl hw0 hj1 (.cons (rP_ptr W j tb len cap pb) (.cons (str_one _ hn) .nil))
theorem tok1 {g : Nat} (hc : tokC g [.ptr 20 0] cls d = true) (hy : Nat.beq g yieldG = false) (hw0 : winOf cls ≠ []) (h : Ps W w pb tb len cap j d T) (hw : WinAt T j cls) (hj1 : j ≤ 1000) :
    Calls Tryz.prog g #[.pointer (some ⟨pb, 0, none⟩)] w fun e w' => (∃ (y0 : Int) (y1 : ByteArray) (y3 x : Int), e = .returned (.agg #[.int .i64 y0, .string y1, .int .i64 x, .int .i64 y3])) ∧ Ps W w' pb tb len cap j d T ∧ Pk pb w w' := by
  obtain ⟨pre, rest, h1, h2⟩ := hw
  exact tok_P hc hy h h1 h2 rfl hw0 hj1 (.cons (rP_ptr W j tb len cap pb) .nil)
theorem node1 {g f kd : Nat} (hc : nodeC g [.ptr 20 0] cls d f kd = true) (hy : Nat.beq g yieldG = false) (hw0 : winOf cls ≠ []) (h : Ps W w pb tb len cap j d T) (hw : WinAt T j cls) (hj1 : j ≤ 1000) :
    Calls Tryz.prog g #[.pointer (some ⟨pb, 0, none⟩)] w fun e w' => ∃ nb no, e = .returned (.pointer (some ⟨nb, no, none⟩)) ∧ w.heap.size ≤ nb ∧ nb < w'.heap.size ∧ nb ≠ pb ∧ NodeAt w' nb no kd ∧ Ps W w' pb tb len cap (j + f) d T ∧ Pk pb w w' := by
  obtain ⟨pre, rest, h1, h2⟩ := hw
  exact node_P hc hy h h1 h2 rfl hw0 hj1 (.cons (rP_ptr W j tb len cap pb) .nil)
/-- What touches nothing below: the parser is as it was. -/
theorem Ps.other {w' : World} {B : Nat} (h : Ps W w pb tb len cap j d T) (hk : Below B w w') (hpB : pb < B) (htB : tb < B) (hWB : W.heap.size ≤ B) : Ps W w' pb tb len cap j d T :=
  ⟨h.hB.trans (hk.mono hWB), h.hpb, ⟨by rw [hk.block pb hpB]; exact h.hp.blk⟩, h.hne, Nat.lt_of_lt_of_le h.htb hk.size, h.hlen, h.hT, fun i t hi => (h.toks i t hi).keep (hk.block tb htB)⟩
/-- The parser goes on by one token. -/
theorem Ps.bump (h : Ps W w pb tb len cap j d T) : Ps W (w.setCell ⟨pb, 1, none⟩ (.int .i64 ((j + 1 : Nat) : Int))) pb tb len cap (j + 1) d T :=
  h.next ⟨set_blk h.hp.blk 1 _⟩ (Pk.set w 1 _)
end
/-- In an array's loop: the node, its parts, the parser; the blocks ahead of the call are as they were. -/
structure Arr (W w0 w : World) (pb tb len cap j d : Nat) (T : List Tok) (nb : Nat) (kd x : Int) (kv : Value) (l : List Bool) : Prop where
  ps : Ps W w pb tb len cap j d T
  node : ArrAt w nb kd x kv
  kids : KidsOk w w0.heap.size nb kv l
  kn : kv.ownBlock ≠ some nb
  nlt : w0.heap.size ≤ nb ∧ nb < w.heap.size
  pB : pb < w0.heap.size
  tB : tb < w0.heap.size
  wB : W.heap.size ≤ w0.heap.size
  same : Pk pb w0 w
section
variable {W w0 w w' : World} {pb tb len cap j j' d nb : Nat} {T : List Tok} {kd x : Int} {kv : Value} {l : List Bool}
theorem Arr.next (h : Arr W w0 w pb tb len cap j d T nb kd x kv l) (hp : Ps W w' pb tb len cap j' d T) (hk : Pk pb w w') : Arr W w0 w' pb tb len cap j' d T nb kd x kv l :=
  ⟨hp, by unfold ArrAt; rw [hk.block nb h.nlt.2 (by have := h.pB; have := h.nlt.1; omega)]; exact h.node, h.kids.keep hk.size fun k hk1 hk2 => hk.block k hk2 (by have := h.pB; omega), h.kn, ⟨h.nlt.1, Nat.lt_of_lt_of_le h.nlt.2 hk.size⟩, h.pB, h.tB, h.wB, h.same.trans hk⟩
theorem Arr.kcell (h : Arr W w0 w pb tb len cap j d T nb kd x kv l) : w.cell? ⟨nb, 5, none⟩ = some kv := by
  have := h.node
  unfold ArrAt at this
  simp [World.cell?, this]
theorem Arr.kfree (h : Arr W w0 w pb tb len cap j d T nb kd x kv l) : w.frozen? ⟨nb, 5, none⟩ = false := by
  have := h.node
  unfold ArrAt at this
  simp [World.frozen?, this]
theorem Arr.pcell (h : Arr W w0 w pb tb len cap j d T nb kd x kv l) : w.cell? ⟨pb, 1, none⟩ = some (.int .i64 j) ∧ w.frozen? ⟨pb, 1, none⟩ = false := by
  have := h.ps.hp.blk
  simp [World.cell?, World.frozen?, this]
/-- A node more. -/
theorem Arr.grow {wx wn : World} {b : Bool} {xs : List Value} {kb no g1 cap1 : Nat} (h : Arr W w0 w pb tb len cap j d T nb kd x kv l) (ho : w.ownsRow w0.heap.size 26 1 kv l.length xs) (hn : ∀ (i : Nat) (b : Bool), l[i]? = some b → ∃ kb no, xs[i]? = some (Value.pointer (some ⟨kb, no, none⟩)) ∧ w0.heap.size ≤ kb ∧ kb < w.heap.size ∧ kb ≠ nb ∧ NodeAt w kb no (kdOf b))
    (hx : Below w.heap.size w wx) (hkb : w0.heap.size ≤ kb) (hkl : kb < w.heap.size) (hnd : NodeAt w kb no (kdOf b)) (hkbn : kb ≠ nb) (ho2 : wn.ownsRow w0.heap.size 26 1 (.slice (some ⟨g1, 0, none⟩) (l.length + 1) cap1) (l.length + 1) (xs ++ [.pointer (some ⟨kb, no, none⟩)])) (hg : wx.grownBy wn kv.ownBlock)
    (hat : kv.ownBlock = some g1 ∨ wx.heap.size ≤ g1) : Arr W w0 (wn.setCell ⟨nb, 5, none⟩ (.slice (some ⟨g1, 0, none⟩) (l.length + 1) cap1)) pb tb len cap j d T nb kd x (.slice (some ⟨g1, 0, none⟩) (l.length + 1) cap1) (l ++ [b]) := by
  have hkv : ∀ k, kv.ownBlock = some k → w0.heap.size ≤ k := fun k hk => (ho.lt k hk).1
  have hnx : nb < wx.heap.size := Nat.lt_of_lt_of_le h.nlt.2 hx.size
  have hnode : ArrAt wn nb kd x kv := by
    unfold ArrAt
    rw [hg.block nb hnx (fun e => h.kn e.symm), hx.block nb h.nlt.2]
    exact h.node
  have hkids := KidsOk.snoc ho hn (fun k hk => hx.block k hk) hx.size hkb hkl hkbn hnd ho2 hg
  have hBn : Below w0.heap.size w wn := (hx.mono h.same.size).grown hg (Nat.le_trans h.same.size hx.size) (fun k hk => hkv k hk)
  have hBs : Below w0.heap.size w (wn.setCell ⟨nb, 5, none⟩ (.slice (some ⟨g1, 0, none⟩) (l.length + 1) cap1)) := hBn.setCell (p := ⟨nb, 5, none⟩) h.nlt.1 _
  have hgn : g1 ≠ nb := fun q => by
    rcases hat with e | e
    · exact h.kn (by rw [e, q])
    · omega
  have hsz : (wn.setCell ⟨nb, 5, none⟩ (.slice (some ⟨g1, 0, none⟩) (l.length + 1) cap1)).heap.size = wn.heap.size := by simp [World.setCell]
  refine ⟨h.ps.other hBs h.pB h.tB h.wB, set_blk hnode 5 _, ?_, by simp only [Value.ownBlock, ne_eq, Option.some.injEq]; exact hgn, ⟨h.nlt.1, by rw [hsz]; exact Nat.lt_of_lt_of_le hnx hg.size⟩, h.pB, h.tB, h.wB, ⟨hBs.os.trans h.same.os, hBs.tape.trans h.same.tape, hBs.output.trans h.same.output, Nat.le_trans h.same.size hBs.size, fun k hk hne => (hBs.block k hk).trans (h.same.block k hk hne)⟩⟩
  obtain ⟨ys, hy1, hy2⟩ := hkids
  have other : ∀ k, k ≠ nb → (wn.setCell ⟨nb, 5, none⟩ (.slice (some ⟨g1, 0, none⟩) (l.length + 1) cap1)).heap[k]? = wn.heap[k]? := fun k hk => Below.heap_setCell wn ⟨nb, 5, none⟩ _ k hk
  refine ⟨ys, ownsRow_at hy1 fun g hg' => other g ?_, fun i c hi => ?_⟩
  · simp only [Value.ownBlock, Option.some.injEq] at hg'
    rw [← hg']
    exact hgn
  · obtain ⟨kb', no', h1, h2, h3, hne, h4⟩ := hy2 i c hi
    exact ⟨kb', no', h1, h2, by rw [hsz]; exact h3, hne, h4.keep (other kb' hne)⟩
end
end Go.Proofs.YtjkgefnlennbjaaGreatDoor

namespace Go.Proofs.YtjkgefnlennbjaaGreatDoor
open Go.Ev Go.RowKit
set_option maxHeartbeats 8000000
set_option maxRecDepth 100000

theorem ok_walk {w : World} {pb : Nat} (c3 : w.cell? ⟨pb, 3, none⟩ = some (.int .i64 0)) : Calls Tryz.prog 10 #[.pointer (some ⟨pb, 0, none⟩)] w fun e w' => e = .returned (.bool true) ∧ w' = w := by
  go_enter Tryz.func10, Tryz.ntmps10
  go_wp2
  go_ret
  exact ⟨rfl, rfl⟩
theorem Ps.deep {W w : World} {pb tb len cap j d d' : Nat} {T : List Tok} (h : Ps W w pb tb len cap j d T) : Ps W (w.setCell ⟨pb, 2, none⟩ (.int .i64 (d' : Int))) pb tb len cap j d' T := by
  have hk := Pk.set (pb := pb) w 2 (.int .i64 (d' : Int))
  have hp := set_blk h.hp.blk 2 (.int .i64 (d' : Int))
  exact ⟨⟨hk.os.trans h.hB.os, hk.tape.trans h.hB.tape, hk.output.trans h.hB.output, Nat.le_trans h.hB.size hk.size, fun k hl => (hk.block k (Nat.lt_of_lt_of_le hl h.hB.size) (by have := h.hpb; omega)).trans (h.hB.block k hl)⟩, h.hpb, ⟨hp⟩, h.hne, Nat.lt_of_lt_of_le h.htb hk.size, h.hlen, h.hT, fun i t hi => (h.toks i t hi).keep (hk.block tb h.htb (Ne.symm h.hne))⟩
theorem down_walk {W w : World} {pb tb len cap j d : Nat} {T : List Tok} (h : Ps W w pb tb len cap j d T) (hd : d ≤ 50) : Calls Tryz.prog 45 #[.pointer (some ⟨pb, 0, none⟩)] w fun e w' => e = .returned (.bool true) ∧ Ps W w' pb tb len cap j (d + 1) T ∧ Pk pb w w' := by
  have pc := h.hp.blk
  have c2 : w.cell? ⟨pb, 2, none⟩ = some (.int .i64 d) := by simp [World.cell?, pc]
  have f2 : w.frozen? ⟨pb, 2, none⟩ = false := by simp [World.frozen?, pc]
  have hw : IntKind.i64.wrap ((d : Int) + 1) = (d : Int) + 1 := by have := Go.Ev.wrap_small IntKind.i64 (d + 1) (by show _ ≤ 9223372036854775807; omega); simpa using this
  have pE : Ps W (w.setCell ⟨pb, 2, none⟩ (.int .i64 ((d : Int) + 1))) pb tb len cap j (d + 1) T := h.deep (d' := d + 1)
  have pEc := pE.hp.blk
  have c3 : (w.setCell ⟨pb, 2, none⟩ (.int .i64 ((d : Int) + 1))).cell? ⟨pb, 3, none⟩ = some (.int .i64 0) := by simp only [World.cell?, pEc]; rfl
  have kE := Pk.set (pb := pb) w 2 (.int .i64 ((d : Int) + 1))
  clear pc pEc
  go_enter Tryz.func45, Tryz.ntmps45
  go_wp2_with (go_at_call 10; refine (ok_walk c3).mono ?_)
  try (rintro e w' ⟨rfl, rfl⟩)
  go_wp2
  go_ret
  exact ⟨rfl, pE, kE⟩
theorem up_deferred {W w : World} {pb tb len cap j d : Nat} {T : List Tok} (h : Ps W w pb tb len cap j (d + 1) T) (hd : d ≤ 50) (u : _) : CallsD Tryz.prog 44 #[.pointer (some ⟨pb, 0, none⟩)] u w fun e u' w' => u' = u ∧ (e = .returned (.tuple #[]) ∧ Ps W w' pb tb len cap j d T ∧ Pk pb w w') := by
  have pc := h.hp.blk
  have c2 : w.cell? ⟨pb, 2, none⟩ = some (.int .i64 ((d + 1 : Nat) : Int)) := by simp [World.cell?, pc]
  have f2 : w.frozen? ⟨pb, 2, none⟩ = false := by simp [World.frozen?, pc]
  have hw : IntKind.i64.wrap (((d + 1 : Nat) : Int) - 1) = (d : Int) := by
    rw [show (((d + 1 : Nat) : Int) - 1) = Int.ofNat d by simp only [Int.ofNat_eq_natCast]; omega]
    exact Go.Ev.wrap_small IntKind.i64 d (by show _ ≤ 9223372036854775807; omega)
  have pE := h.deep (d' := d)
  have kE := Pk.set (pb := pb) w 2 (.int .i64 (d : Int))
  generalize ((d + 1 : Nat) : Int) = q at c2 hw
  clear pc
  go_enter_d Tryz.func44, Tryz.ntmps44
  go_wp2
  go_end0
  exact ⟨rfl, pE, kE⟩
noncomputable def tokK (g : FuncId) (vs : List V) (cls d : Nat) (a : Int) : Bool := match callP g vs (SPh cls d) with | some (.agg [.int .i64 n, .str _ _, .cl2 m q, .int .i64 _], h) => decide (n = a) && (Nat.beq m 0 && (Nat.beq q (kq .i64) && endP h 0 d)) | _ => false
theorem tok_K {W w : World} {pb tb len cap j d cls : Nat} {T : List Tok} {a : Int} {g : FuncId} {vs : List V} (hc : tokK g vs cls d a = true) (hy : Nat.beq g yieldG = false) (h : Ps W w pb tb len cap j d T) {pre win rest : List Tok} (hT : T = pre ++ (win ++ rest)) (hj : pre.length = j) (hw : winOf cls = win) (hw0 : win ≠ []) (hj1 : j ≤ 1000) {xs : Array Value} (hvs : VsRel (rP W j tb 0 len cap pb) vs xs.toList) :
    Calls Tryz.prog g xs w fun e w' => (∃ (y1 : ByteArray) (y3 x : Int), e = .returned (.agg #[.int .i64 a, .string y1, .int .i64 x, .int .i64 y3])) ∧ Ps W w' pb tb len cap j d T ∧ Pk pb w w' := by
  unfold tokK at hc
  split at hc
  · rename_i u0 un ul m q u3 h' he
    simp only [Bool.and_eq_true] at hc
    obtain ⟨ha, hc⟩ := hc
    have ha' : u0 = a := by simpa using ha
    subst ha'
    have hwin := h.win hT hj hw
    have h0 : 0 < len := by
      cases win with
      | nil => exact (hw0 rfl).elim
      | cons t _ => have := (hwin 0 t (by rw [hw]; rfl)).1; omega
    refine (evP h.hB h.hpb h.hp h.hne h.htb h.hlen hj1 h0 hwin hy he hvs).mono ?_
    rintro e w' ⟨z, r', rfl, hv, hr, hle, hk, -⟩
    refine ⟨?_, h.next (endP_at hc.2.2 hr hle) hk, hk⟩
    cases hv with
    | @agg _ ys hx =>
      cases ys with | mk l =>
      cases hx with
      | cons g0 hx => cases hx with
        | cons g1 hx => cases hx with
          | cons g2 hx => cases hx with
            | cons g3 hx =>
              cases hx
              obtain ⟨n, rfl⟩ := i64_unk hc.1 hc.2.1 g2
              cases g0
              cases g1
              cases g3
              exact ⟨_, _, n, rfl⟩
  · cases hc
theorem Ps.still {W w w' : World} {pb tb len cap j d : Nat} {T : List Tok} (h : Ps W w pb tb len cap j d T) (hk : Below w.heap.size w w') : Ps W w' pb tb len cap j d T :=
  h.other hk (Array.getElem?_eq_some_iff.1 h.hp.blk).1 h.htb h.hB.size
/-- A token of a kind and a text that are known; a number; from the parser's cells. -/
noncomputable def tokS (g : FuncId) (vs : List V) (cls d : Nat) (a n l : Nat) : Bool := match callP g vs (SPh cls d) with | some (.agg [.int .i64 a', .str n' l', .cl2 m q, .int .i64 _], h) => decide (a' = (a : Int)) && (Nat.beq n' n && (Nat.beq l' l && (Nat.beq m 0 && (Nat.beq q (kq .i64) && endP h 0 d)))) | _ => false
section
variable {W w : World} {pb tb len cap j d cls : Nat} {T : List Tok}
theorem boolS {g f n l : Nat} {s : ByteArray} {b0 : Bool} (hc : boolC g [.ptr 20 0, .str n l] cls d f b0 = true) (hy : Nat.beq g yieldG = false) (hw0 : winOf cls ≠ []) (hs : sval n l = s) (hl : n < 256 ^ l) (h : Ps W w pb tb len cap j d T) (hw : WinAt T j cls) (hj1 : j ≤ 1000) :
    Calls Tryz.prog g #[.pointer (some ⟨pb, 0, none⟩), .string s] w fun e w' => e = .returned (.bool b0) ∧ Ps W w' pb tb len cap (j + f) d T ∧ Pk pb w w' := by
  obtain ⟨pre, rest, h1, h2⟩ := hw
  subst hs
  exact bool_P hc hy h h1 h2 rfl hw0 hj1 (.cons (rP_ptr W j tb len cap pb) (.cons (VRel.str hl) .nil))
theorem tok_S {a n l : Nat} {g : FuncId} {vs : List V} (hc : tokS g vs cls d a n l = true) (hy : Nat.beq g yieldG = false) (h : Ps W w pb tb len cap j d T) (hw : WinAt T j cls) (hw0 : winOf cls ≠ []) (hj1 : j ≤ 1000) {xs : Array Value} (hvs : VsRel (rP W j tb 0 len cap pb) vs xs.toList) :
    Calls Tryz.prog g xs w fun e w' => (∃ (x y3 : Int), e = .returned (.agg #[.int .i64 (a : Int), .string (sval n l), .int .i64 x, .int .i64 y3])) ∧ Ps W w' pb tb len cap j d T ∧ Pk pb w w' := by
  unfold tokS at hc
  split at hc
  · rename_i u0 un ul m q u3 h' he
    simp only [Bool.and_eq_true] at hc
    obtain ⟨ha, hn, hl, hm, hq, hE⟩ := hc
    have ha' : u0 = (a : Int) := by simpa using ha
    subst ha'
    obtain rfl := Nat.eq_of_beq_eq_true hn
    obtain rfl := Nat.eq_of_beq_eq_true hl
    obtain ⟨pre, rest, hT, hj⟩ := hw
    have hwin := h.win hT hj rfl
    have h0 : 0 < len := by
      cases hq : winOf cls with
      | nil => exact (hw0 hq).elim
      | cons t _ => have := (hwin 0 t (by rw [hq]; rfl)).1; omega
    refine (evP h.hB h.hpb h.hp h.hne h.htb h.hlen hj1 h0 hwin hy he hvs).mono ?_
    rintro e w' ⟨z, r', rfl, hv, hr, hle, hk, -⟩
    refine ⟨?_, h.next (endP_at hE hr hle) hk, hk⟩
    cases hv with
    | @agg _ ys hx =>
      cases ys with | mk l =>
      cases hx with
      | cons g0 hx => cases hx with
        | cons g1 hx => cases hx with
          | cons g2 hx => cases hx with
            | cons g3 hx =>
              cases hx
              obtain ⟨n, rfl⟩ := i64_unk hm hq g2
              cases g0
              cases g1
              cases g3
              exact ⟨n, _, rfl⟩
  · cases hc
end
end Go.Proofs.YtjkgefnlennbjaaGreatDoor

namespace Go.Proofs.YtjkgefnlennbjaaGreatDoor
open Go.Ev Go.RowKit
set_option maxHeartbeats 8000000
set_option maxRecDepth 100000

/-- A tree: its kind, its text, its parts. -/
inductive Tr where
  | mk (kd : Nat) (s : ByteArray) (ks : List Tr)
mutual
/-- A tree lies here; its blocks stand from a base on, and are not the parser's. -/
def TrAt (base pb : Nat) (w : World) : Tr → Addr → Prop
  | .mk kd s ks, a => ∃ (nb no : Nat) (v : Value), a = ⟨nb, no, none⟩ ∧ base ≤ nb ∧ nb < w.heap.size ∧ nb ≠ pb ∧ w.cell? ⟨nb, no, none⟩ = some (.int .i64 kd) ∧ (∃ x : Int, w.cell? ⟨nb, no + 1, none⟩ = some (.int .i64 x)) ∧ w.cell? ⟨nb, no + 2, none⟩ = some (.string s) ∧ w.cell? ⟨nb, no + 5, none⟩ = some v ∧
    ((ks = [] ∧ v = .slice none 0 0) ∨ ∃ (g go cap : Nat), v = .slice (some ⟨g, go, none⟩) ks.length cap ∧ base ≤ g ∧ g < w.heap.size ∧ g ≠ pb ∧ KsAt base pb w ks g go)
def KsAt (base pb : Nat) (w : World) : List Tr → Nat → Nat → Prop
  | [], _, _ => True
  | t :: ts, g, i => (∃ b, w.cell? ⟨g, i, none⟩ = some (.pointer (some b)) ∧ TrAt base pb w t b) ∧ KsAt base pb w ts g (i + 1)
end
/-- What lies from a base on is as it was, but for the parser's block. -/
def Pkb (base pb : Nat) (w w' : World) : Prop := w.heap.size ≤ w'.heap.size ∧ ∀ k, base ≤ k → k < w.heap.size → k ≠ pb → w'.heap[k]? = w.heap[k]?
theorem Pk.b {pb : Nat} {w w' : World} (h : Pk pb w w') (base : Nat) : Pkb base pb w w' := ⟨h.size, fun k _ h1 h2 => h.block k h1 h2⟩
theorem Pkb.set {base pb : Nat} (w : World) (b o : Nat) (v : Value) (h : b < base) : Pkb base pb w (w.setCell ⟨b, o, none⟩ v) := ⟨by simp [World.setCell], fun k hk _ _ => Below.heap_setCell w ⟨b, o, none⟩ v k (by show k ≠ b; omega)⟩
theorem Pkb.trans {base pb : Nat} {a b c : World} (h : Pkb base pb a b) (k : Pkb base pb b c) : Pkb base pb a c := ⟨Nat.le_trans h.1 k.1, fun i h1 h2 h3 => (k.2 i h1 (Nat.lt_of_lt_of_le h2 h.1) h3).trans (h.2 i h1 h2 h3)⟩
theorem Pkb.cell {base pb : Nat} {w w' : World} (h : Pkb base pb w w') {k o : Nat} (h1 : base ≤ k) (h2 : k < w.heap.size) (h3 : k ≠ pb) : w'.cell? ⟨k, o, none⟩ = w.cell? ⟨k, o, none⟩ := by
  unfold World.cell?
  rw [h.2 k h1 h2 h3]
mutual
theorem TrAt.keep {base base' pb : Nat} {w w' : World} (hk : Pkb base pb w w') (hb : base' ≤ base) : ∀ (t : Tr) (a : Addr), TrAt base pb w t a → TrAt base' pb w' t a
  | .mk kd s ks, a, h => by
    rw [TrAt] at h ⊢
    obtain ⟨nb, no, v, h1, h2, h3, h4, h5, ⟨x, h6⟩, h7, h8, h9⟩ := h
    refine ⟨nb, no, v, h1, by omega, Nat.lt_of_lt_of_le h3 hk.1, h4, by rw [hk.cell h2 h3 h4]; exact h5, ⟨x, by rw [hk.cell h2 h3 h4]; exact h6⟩, by rw [hk.cell h2 h3 h4]; exact h7, by rw [hk.cell h2 h3 h4]; exact h8, ?_⟩
    rcases h9 with h9 | ⟨g, go, cap, g1, g2, g3, g4, g5⟩
    · exact .inl h9
    · exact .inr ⟨g, go, cap, g1, by omega, Nat.lt_of_lt_of_le g3 hk.1, g4, KsAt.keep hk hb g2 g3 g4 ks go g5⟩
theorem KsAt.keep {base base' pb : Nat} {w w' : World} (hk : Pkb base pb w w') (hb : base' ≤ base) {g : Nat} (g2 : base ≤ g) (g3 : g < w.heap.size) (g4 : g ≠ pb) : ∀ (ts : List Tr) (i : Nat), KsAt base pb w ts g i → KsAt base' pb w' ts g i
  | [], _, _ => by rw [KsAt]; trivial
  | t :: ts, i, h => by
    rw [KsAt] at h ⊢
    obtain ⟨⟨b, h1, h2⟩, h3⟩ := h
    exact ⟨⟨b, by rw [hk.cell g2 g3 g4]; exact h1, TrAt.keep hk hb t b h2⟩, KsAt.keep hk hb g2 g3 g4 ts (i + 1) h3⟩
end
/-- A tree given back: where the parser is then. -/
def ResT (S : World → Prop) (t : Tr) (pb : Nat) (w0 : World) (e : Ending) (w' : World) : Prop := ∃ a, e = .returned (.pointer (some a)) ∧ S w' ∧ TrAt w0.heap.size pb w' t a ∧ Pk pb w0 w'
end Go.Proofs.YtjkgefnlennbjaaGreatDoor

namespace Go.Proofs.YtjkgefnlennbjaaGreatDoor
open Go.Ev Go.RowKit
set_option maxHeartbeats 8000000
set_option maxRecDepth 100000

/-- A tree, its texts by their numbers. -/
inductive Trc where
  | mk (kd n l : Nat) (ks : List Trc)
mutual
def Trc.tr : Trc → Tr
  | .mk kd n l ks => .mk kd (sval n l) (Trc.trs ks)
def Trc.trs : List Trc → List Tr
  | [] => []
  | t :: ts => Trc.tr t :: Trc.trs ts
end
theorem trs_length : ∀ l : List Trc, (Trc.trs l).length = l.length
  | [] => rfl
  | t :: ts => by
    rw [Trc.trs, List.length_cons, List.length_cons, trs_length ts]
/-- A block of the evaluator's own, its cells. -/
def ownC (h : H) (id m t : Nat) : Option Cells := bif Nat.blt id 65536 && !(Nat.beq id 20) then (match h.mem.blk id with
  | .live m' t' ro pl c => bif Nat.beq m' m && (Nat.beq t' t && (!ro && pl)) then some c else none
  | _ => none) else none
mutual
def trV (h : H) : Trc → V → Bool
  | .mk kd n l ks, v => match v with
    | .ptr id o => Nat.beq o 0 && (match ownC h id 6 34 with
      | some c => veq (c.get 0) (.int .i64 (.ofNat kd)) && ((match c.get 1 with | .cl2 m q => Nat.beq m 0 && Nat.beq q (kq .i64) | _ => false) && (veq (c.get 2) (.str n l) && (match c.get 5 with
        | .nils => ks.isEmpty
        | .slice id2 o2 len _ _ => !ks.isEmpty && (Nat.beq o2 0 && (Nat.beq len ks.length && (match ownC h id2 len 26 with | some c2 => ksV h ks c2 0 | none => false)))
        | _ => false)))
      | none => false)
    | _ => false
def ksV (h : H) : List Trc → Cells → Nat → Bool
  | [], _, _ => true
  | t :: ts, c, i => trV h t (c.get i) && ksV h ts c (i + 1)
end
section
variable {h : H} {r : Emb} {w : World} {base pb : Nat}
theorem own_cells {id m t : Nat} {c : Cells} (hc : ownC h id m t = some c) (hr : Rel r h w) (h20 : r 20 = some (pb, 0, 5)) (l20 : Live h 20) (ho : ∀ b, Own r h b → b = pb ∨ base ≤ b) {b sh cc : Nat} (e : r id = some (b, sh, cc)) :
    base ≤ b ∧ b < w.heap.size ∧ b ≠ pb ∧ ∀ o, o < m → ∃ x, w.cell? ⟨b, o + sh, none⟩ = some x ∧ VRel r (c.get o) x := by
  unfold ownC at hc
  cases hb : (Nat.blt id 65536 && !(Nat.beq id 20))
  · rw [hb] at hc; cases hc
  rw [hb] at hc
  simp only [cond_true] at hc
  simp only [Bool.and_eq_true, Bool.not_eq_true'] at hb
  have hid : id < 65536 := by rw [← Nat.blt_eq]; exact hb.1
  have hid20 : id ≠ 20 := Nat.ne_of_beq_eq_false hb.2
  split at hc
  · rename_i m' t' ro pl c' hblk
    cases hd : (Nat.beq m' m && (Nat.beq t' t && (!ro && pl)))
    · rw [hd] at hc; cases hc
    rw [hd] at hc
    simp only [cond_true, Option.some.injEq] at hc
    simp only [Bool.and_eq_true, Bool.not_eq_true'] at hd
    obtain ⟨d1, d2, d3, d4⟩ := hd
    obtain rfl := Nat.eq_of_beq_eq_true d1
    obtain rfl := Nat.eq_of_beq_eq_true d2
    subst d3 d4 hc
    obtain ⟨nb, sh', mm, e1, hf⟩ := hr.blk id m' t' false true c' hid hblk
    rw [e] at e1
    cases e1
    have hlive : Live h id := live_of hid hblk
    have hown : Own r h b := own_of hid hblk e
    have hpn : b ≠ pb := fun q => by
      rw [q] at e
      exact hid20 (hr.inj id 20 pb sh cc 0 5 hlive l20 (.inl (by rw [hblk]; rfl)) e h20)
    refine ⟨(ho b hown).resolve_left hpn, hr.lt hlive e, hpn, fun o hlt => ?_⟩
    obtain ⟨⟨cs, fz, ⟨t', g1, gt⟩, _, _, _, g5⟩, _⟩ := hf
    obtain ⟨x, hx, hv⟩ := g5 o hlt
    exact ⟨x, by simp only [World.cell?, g1]; simpa using hx, hv⟩
  · cases hc
mutual
theorem trV_at (hr : Rel r h w) (h20 : r 20 = some (pb, 0, 5)) (l20 : Live h 20) (ho : ∀ b, Own r h b → b = pb ∨ base ≤ b) : ∀ (t : Trc) (v : V) (x : Value), trV h t v = true → VRel r v x → ∃ a, x = .pointer (some a) ∧ TrAt base pb w t.tr a
  | .mk kd n l ks, v, x, ht, hv => by
    cases v with
    | ptr id o =>
      rw [trV] at ht
      simp only [Bool.and_eq_true] at ht
      obtain ⟨q1, q2⟩ := ht
      obtain rfl := Nat.eq_of_beq_eq_true q1
      cases hc : ownC h id 6 34 with
      | none => rw [hc] at q2; cases q2
      | some c =>
        rw [hc] at q2
        simp only [Bool.and_eq_true] at q2
        obtain ⟨v0, v1, v2, v5⟩ := q2
        cases hv with
        | @ptr _ _ b sh cc e =>
          obtain ⟨o1, o2, o3, oc⟩ := own_cells hc hr h20 l20 ho e
          obtain ⟨x0, c0, r0⟩ := oc 0 (by decide)
          obtain ⟨x1, c1, r1⟩ := oc 1 (by decide)
          obtain ⟨x2, c2, r2⟩ := oc 2 (by decide)
          obtain ⟨x5, c5, r5⟩ := oc 5 (by decide)
          rw [veq_eq v0] at r0
          cases r0
          rw [veq_eq v2] at r2
          cases r2
          obtain ⟨y, rfl⟩ : ∃ y : Int, x1 = .int .i64 y := by
            split at v1
            · rename_i m2 q2 hq
              simp only [Bool.and_eq_true] at v1
              rw [hq] at r1
              exact i64_unk v1.1 v1.2 r1
            · cases v1
          refine ⟨_, rfl, ?_⟩
          rw [Trc.tr, TrAt]
          refine ⟨b, 0 + sh, x5, rfl, o1, o2, o3, c0, ⟨y, by rw [show 0 + sh + 1 = 1 + sh by omega]; exact c1⟩, by rw [show 0 + sh + 2 = 2 + sh by omega]; exact c2, by rw [show 0 + sh + 5 = 5 + sh by omega]; exact c5, ?_⟩
          split at v5
          · rename_i h5
            rw [h5] at r5
            cases r5
            have : ks = [] := by simpa using v5
            subst this
            exact .inl ⟨rfl, rfl⟩
          · rename_i id2 o2' len cap esz h5
            rw [h5] at r5
            simp only [Bool.and_eq_true, Bool.not_eq_true'] at v5
            obtain ⟨k1, k2, k3, k4⟩ := v5
            obtain rfl := Nat.eq_of_beq_eq_true k2
            obtain rfl := Nat.eq_of_beq_eq_true k3
            cases hc2 : ownC h id2 ks.length 26 with
            | none => rw [hc2] at k4; cases k4
            | some c2 =>
              rw [hc2] at k4
              have hne : ks.length ≠ 0 := fun q => by
                have := List.eq_nil_of_length_eq_zero q
                subst this
                cases k1
              refine .inr ?_
              obtain ⟨L, hL⟩ : ∃ L, ks.length = L := ⟨_, rfl⟩
              rw [hL] at hc2 hne r5
              cases r5 with
              | @slice _ _ _ _ _ b2 sh2 cc2 cap' e2 hz1 hz2 hz3 =>
                obtain ⟨p1, p2, p3, pc⟩ := own_cells hc2 hr h20 l20 ho e2
                refine ⟨b2, 0 + sh2, cap', by rw [trs_length, hL], p1, p2, p3, ?_⟩
                exact ksV_at hr h20 l20 ho pc ks 0 (by omega) k4
              | slice0 => exact (hne rfl).elim
          · cases v5
    | _ => simp [trV] at ht
theorem ksV_at (hr : Rel r h w) (h20 : r 20 = some (pb, 0, 5)) (l20 : Live h 20) (ho : ∀ b, Own r h b → b = pb ∨ base ≤ b) {b sh m : Nat} {c : Cells} (pc : ∀ o, o < m → ∃ x, w.cell? ⟨b, o + sh, none⟩ = some x ∧ VRel r (c.get o) x) : ∀ (ts : List Trc) (i : Nat), i + ts.length ≤ m → ksV h ts c i = true → KsAt base pb w (Trc.trs ts) b (i + sh)
  | [], i, _, _ => by rw [Trc.trs, KsAt]; trivial
  | t :: ts, i, hi, hk => by
    simp only [List.length_cons] at hi
    rw [ksV] at hk
    simp only [Bool.and_eq_true] at hk
    obtain ⟨x, hx, hv⟩ := pc i (by omega)
    obtain ⟨a, rfl, ht⟩ := trV_at hr h20 l20 ho t (c.get i) x hk.1 hv
    rw [Trc.trs, KsAt]
    refine ⟨⟨a, hx, ht⟩, ?_⟩
    have := ksV_at hr h20 l20 ho pc ts (i + 1) (by omega) hk.2
    rw [show i + sh + 1 = i + 1 + sh by omega]
    exact this
end
end
end Go.Proofs.YtjkgefnlennbjaaGreatDoor
