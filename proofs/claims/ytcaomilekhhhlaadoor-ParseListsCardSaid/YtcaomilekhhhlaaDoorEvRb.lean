/- ParseLists: the list of nodes, as what is known of a node; the fault, kept on the way out. No condition. -/
import Derived.Test.YtcaomilekhhhlaaDoorEvRa
namespace Go.Proofs.YtcaomilekhhhlaaDoor
open Go.Ev Go.RowKit
set_option maxHeartbeats 8000000
set_option maxRecDepth 100000

/-- A node of a kind whose parts are names and holes. -/
def KArr (pb : Nat) (kd : Int) (l : List Bool) : Nat → Addr → World → Prop := fun base a w =>
  ∃ (nb : Nat) (x : Int) (kv : Value) (b1 : Nat), a = ⟨nb, 0, none⟩ ∧ base ≤ b1 ∧ pb < b1 ∧ b1 ≤ nb ∧ nb < w.heap.size ∧ ArrAt w nb kd x kv ∧ KidsOk w b1 nb kv l ∧ kv.ownBlock ≠ some nb
theorem karr_firm (pb : Nat) (kd : Int) (l : List Bool) : Firm (KArr pb kd l) pb :=
  ⟨fun base a w w' ⟨nb, x, kv, b1, h1, h2, h3, h4, h5, h6, h7, h8⟩ hk => ⟨nb, x, kv, b1, h1, h2, h3, h4, Nat.lt_of_lt_of_le h5 hk.1, by unfold ArrAt; rw [hk.2 nb (by omega) h5 (by omega)]; exact h6, h7.keep hk.1 fun k hk1 hk2 => hk.2 k (by omega) hk2 (by omega), h8⟩,
   fun base base' a w ⟨nb, x, kv, b1, h1, h2, h⟩ hb => ⟨nb, x, kv, b1, h1, by omega, h⟩⟩
section
variable {W : World} {pb tb len cap j d : Nat} {T : List Tok}
theorem Arr.k {w0 w : World} {nb : Nat} {kd x : Int} {kv : Value} {l : List Bool} (h : Arr W w0 w pb tb len cap j d T nb kd x kv l) : KArr pb kd l w0.heap.size ⟨nb, 0, none⟩ w := ⟨nb, x, kv, _, rfl, Nat.le_refl _, h.pB, h.nlt.1, h.nlt.2, h.node, h.kids, h.kn⟩
theorem KArr.arr {w : World} {kd : Int} {l : List Bool} {base : Nat} {a : Addr} (h : KArr pb kd l base a w) (hp : Ps W w pb tb len cap j d T) (hN : nof W pb tb ≤ base) :
    ∃ (w0 : World) (nb : Nat) (x : Int) (kv : Value), a = ⟨nb, 0, none⟩ ∧ base ≤ w0.heap.size ∧ Arr W w0 w pb tb len cap j d T nb kd x kv l := by
  obtain ⟨nb, x, kv, b1, rfl, h2, h3, h4, h5, h6, h7, h8⟩ := h
  have hs : (w.heap.extract 0 b1).size = b1 := by simp; omega
  have hN' : tb < b1 ∧ W.heap.size ≤ b1 := by unfold nof at hN; omega
  refine ⟨{ w with heap := w.heap.extract 0 b1 }, nb, x, kv, rfl, ?_, ⟨hp, h6, ?_, h8, ⟨?_, h5⟩, ?_, ?_, ?_, ⟨rfl, rfl, rfl, ?_, fun k hk _ => ?_⟩⟩⟩
  · show base ≤ (w.heap.extract 0 b1).size; omega
  · show KidsOk w (w.heap.extract 0 b1).size nb kv l; rw [hs]; exact h7
  · show (w.heap.extract 0 b1).size ≤ nb; omega
  · show pb < (w.heap.extract 0 b1).size; omega
  · show tb < (w.heap.extract 0 b1).size; omega
  · show W.heap.size ≤ (w.heap.extract 0 b1).size; omega
  · show (w.heap.extract 0 b1).size ≤ w.heap.size; omega
  · have hk' : k < b1 := by rw [← hs]; exact hk
    show w.heap[k]? = (w.heap.extract 0 b1)[k]?
    simp [Array.getElem?_extract, show k < min b1 w.heap.size by omega]
theorem refine_P {l : List Bool} (hl : l.length ≤ 100) (w : World) (base : Nat) (a : Addr) (h : PsAt W pb tb len cap T j d w) (hf : KArr pb 37 l base a w) (hN : nof W pb tb ≤ base) :
    Calls Tryd.prog 64 #[.pointer (some ⟨pb, 0, none⟩), .pointer (some a)] w fun e w' => ∃ a', e = .returned (.pointer (some a')) ∧ PsAt W pb tb len cap T j d w' ∧ KArr pb 60 l base a' w' ∧ Pk pb w w' := by
  obtain ⟨w0, nb, x, kv, rfl, hb, A⟩ := KArr.arr hf h hN
  refine (refine_arr A hl).mono ?_
  rintro e w' ⟨nb2, kv2, rfl, A2, -, hk⟩
  exact ⟨_, rfl, A2.ps, (karr_firm pb 60 l).mono _ _ _ _ A2.k hb, Pk.below hk⟩
theorem array_P {l : List Bool} {dr : Bool} (hd : d = 3 ∨ d = 5) (pre0 suf : List Tok) (hT : T = pre0 ++ (toks l dr ++ ((5, 93, 1) :: suf))) (hj0 : pre0.length = j) (hl : l.length ≤ 100) (hj : j ≤ 10) (w : World) (x : Int) (h : PsAt W pb tb len cap T j d w) :
    Calls Tryd.prog 82 #[.pointer (some ⟨pb, 0, none⟩), .int .i64 x] w (Res (PsAt W pb tb len cap T (j + (toks l dr).length + 1) d) (KArr pb 37 l) pb w) := by
  refine (array_walk hd h l dr pre0 suf hT hj0 hl hj (Array.getElem?_eq_some_iff.1 h.hp.blk).1 x).mono ?_
  rintro e w' ⟨nb, kv, rfl, A⟩
  exact ⟨_, rfl, A.ps, A.k, A.same⟩
theorem up_P (hd : d ≤ 50) : Up pb (PsAt W pb tb len cap T j (d + 1)) (PsAt W pb tb len cap T j d) := fun _ u h => up_deferred h hd u
theorem down_P (hd : d ≤ 50) : Down pb (PsAt W pb tb len cap T j d) (PsAt W pb tb len cap T j (d + 1)) := fun _ h => down_walk h hd
theorem suf_P {S : World → Prop} {N : Nat} {s0 : ByteArray} {Φ : Nat → Addr → World → Prop} (t : Tail pb N S s0 true) (hΦ : Firm Φ pb) (w : World) (base : Nat) (a : Addr) (h : S w) (hf : Φ base a w) (_ : N ≤ base) :
    Calls Tryd.prog 59 #[.pointer (some ⟨pb, 0, none⟩), .pointer (some a), .bool true] w fun e w' => ∃ a', e = .returned (.pointer (some a')) ∧ S w' ∧ Φ base a' w' ∧ Pk pb w w' := by
  refine (suffix_tail t h a).mono ?_
  rintro e w' ⟨rfl, h2, h3⟩
  exact ⟨a, rfl, h2, hΦ.keep _ _ _ _ hf (h3.b _), h3⟩
theorem yes_P {g n c f : Nat} (hc : boolC g [.ptr 20 0, .str n 1] c d f true = true) (hy : Nat.beq g yieldG = false) (hw0 : winOf c ≠ []) (hn : n < 256) (hw : WinAt T j c) (hj1 : j ≤ 1000) : Yes pb (PsAt W pb tb len cap T j d) (PsAt W pb tb len cap T (j + f) d) g ⟨#[UInt8.ofNat n]⟩ := fun _ h => bool2 hc hy hw0 hn h hw hj1
theorem nay_P {g n c : Nat} (hc : boolC g [.ptr 20 0, .str n 1] c d 0 false = true) (hy : Nat.beq g yieldG = false) (hw0 : winOf c ≠ []) (hn : n < 256) (hw : WinAt T j c) (hj1 : j ≤ 1000) : No pb (PsAt W pb tb len cap T j d) g ⟨#[UInt8.ofNat n]⟩ := fun _ h => bool2 hc hy hw0 hn h hw hj1
/-! Behind a fault. -/
theorem Pf.deep {w : World} {d' : Nat} (h : Pf W w pb tb len cap j d T) : Pf W (w.setCell ⟨pb, 2, none⟩ (.int .i64 (d' : Int))) pb tb len cap j d' T := by
  have hk := Pk.set (pb := pb) w 2 (.int .i64 (d' : Int))
  obtain ⟨x, hx⟩ := h.hp.blk
  have hp := set_blk hx 2 (.int .i64 (d' : Int))
  exact ⟨⟨hk.os.trans h.hB.os, hk.tape.trans h.hB.tape, hk.output.trans h.hB.output, Nat.le_trans h.hB.size hk.size, fun k hl => (hk.block k (Nat.lt_of_lt_of_le hl h.hB.size) (by have := h.hpb; omega)).trans (h.hB.block k hl)⟩, h.hpb, ⟨x, hp⟩, h.hne, Nat.lt_of_lt_of_le h.htb hk.size, h.hlen, h.hT, fun i t hi => (h.toks i t hi).keep (hk.block tb h.htb (Ne.symm h.hne))⟩
theorem up_faulty {w : World} (h : Pf W w pb tb len cap j (d + 1) T) (hd : d ≤ 50) (u : _) : CallsD Tryd.prog 38 #[.pointer (some ⟨pb, 0, none⟩)] u w fun e u' w' => u' = u ∧ (e = .returned (.tuple #[]) ∧ Pf W w' pb tb len cap j d T ∧ Pk pb w w') := by
  have pc := h.hp.blk
  have c2 : w.cell? ⟨pb, 2, none⟩ = some (.int .i64 ((d + 1 : Nat) : Int)) := by obtain ⟨x, hx⟩ := pc; simp [World.cell?, hx]
  have f2 : w.frozen? ⟨pb, 2, none⟩ = false := by obtain ⟨x, hx⟩ := pc; simp [World.frozen?, hx]
  have hw : IntKind.i64.wrap (((d + 1 : Nat) : Int) - 1) = (d : Int) := by
    rw [show (((d + 1 : Nat) : Int) - 1) = Int.ofNat d by simp only [Int.ofNat_eq_natCast]; omega]
    exact Go.Ev.wrap_small IntKind.i64 d (by show _ ≤ 9223372036854775807; omega)
  have pE := h.deep (d' := d)
  have kE := Pk.set (pb := pb) w 2 (.int .i64 (d : Int))
  generalize ((d + 1 : Nat) : Int) = q at c2 hw
  clear pc
  go_enter_d Tryd.func38, Tryd.ntmps38
  go_wp2
  go_end0
  exact ⟨rfl, pE, kE⟩
/-- Where the fault was told: at a comma. -/
def FxAt (W : World) (pb tb len cap : Nat) (T : List Tok) (d : Nat) : World → Prop := fun w => ∃ i : { j : Nat // j ≤ 1000 ∧ WinAt T j 6 }, Pf W w pb tb len cap i.1 d T
theorem up_X (hd : d ≤ 50) : Up pb (FxAt W pb tb len cap T (d + 1)) (FxAt W pb tb len cap T d) := fun w u ⟨i, h⟩ => by
  refine (up_faulty h hd u).mono ?_
  rintro e u' w' ⟨h1, h2, h3, h4⟩
  exact ⟨h1, h2, ⟨i, h3⟩, h4⟩
theorem off_X : Off pb (nof W pb tb) (FxAt W pb tb len cap T d) :=
  ⟨by unfold nof; omega, fun w ⟨i, h⟩ => (off_F W pb tb len cap i.1 d T).lt w h, fun w w' B ⟨i, h⟩ hk hN => ⟨i, (off_F W pb tb len cap i.1 d T).off w w' B h hk hN⟩⟩
theorem tail_ex {ι : Type} {N : Nat} {S : ι → World → Prop} {s0 : ByteArray} {b : Bool} (hp : pb < N) (t : ∀ i, Tail pb N (S i) s0 b) : Tail pb N (fun w => ∃ i, S i w) s0 b :=
  ⟨hp, fun w ⟨i, h⟩ => (t i).lt w h, fun w w' B ⟨i, h⟩ hk hN => ⟨i, (t i).off _ _ _ h hk hN⟩,
   fun w ⟨i, h⟩ => ((t i).ok w h).mono fun e w' ⟨p, q, r⟩ => ⟨p, ⟨i, q⟩, r⟩, fun w ⟨i, h⟩ => ((t i).tok w h).mono fun e w' ⟨p, q, r⟩ => ⟨p, ⟨i, q⟩, r⟩, fun w ⟨i, h⟩ => ((t i).tq w h).mono fun e w' ⟨p, q, r⟩ => ⟨p, ⟨i, q⟩, r⟩,
   fun hb w ⟨i, h⟩ => ((t i).td hb w h).mono fun e w' ⟨p, q, r⟩ => ⟨p, ⟨i, q⟩, r⟩, fun hb w ⟨i, h⟩ => ((t i).tb hb w h).mono fun e w' ⟨p, q, r⟩ => ⟨p, ⟨i, q⟩, r⟩, fun hb w ⟨i, h⟩ => ((t i).tp hb w h).mono fun e w' ⟨p, q, r⟩ => ⟨p, ⟨i, q⟩, r⟩,
   fun hb w ⟨i, h⟩ => ((t i).iu hb w h).mono fun e w' ⟨p, q, r⟩ => ⟨p, ⟨i, q⟩, r⟩, fun hb w ⟨i, h⟩ => ((t i).id hb w h).mono fun e w' ⟨p, q, r⟩ => ⟨p, ⟨i, q⟩, r⟩, fun hb w ⟨i, h⟩ => ((t i).lv hb w h).mono fun e w' ⟨p, q, r⟩ => ⟨p, ⟨i, q⟩, r⟩⟩
theorem tail_X (hc : tailF 6 d = true) (s0 : ByteArray) : Tail pb (nof W pb tb) (FxAt W pb tb len cap T d) s0 false :=
  tail_ex (by unfold nof; omega) fun i => tail_F hc (by decide) i.2.2 i.2.1 s0
end
end Go.Proofs.YtcaomilekhhhlaaDoor
