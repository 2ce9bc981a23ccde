/- text.Of at a text of signs below 128: two bytes a sign. No condition. -/
import Derived.Test.YtgpogeemhaiicaaGreatDoorShelf
import Derived.WalkKit
import Derived.BigCall
import Derived.Lib.OthersKept
set_option linter.all false
namespace Go.Proofs.YtgpogeemhaiicaaGreatDoor
open Go.RowKit Go.Shelf

def lays167_ren : Go.Shelf.Ren := ⟨fun | 167 => 71 | 240 => 117 | 276 => 186 | n => n, fun | 37 => 23 | 70 => 136 | 72 => 138 | 75 => 178 | 80 => 142 | 164 => 232 | 20 => 20 | n => n, fun | n => n⟩
theorem lays167 : Go.Proofs.Lays.n167 Tryz.prog lays167_ren := {
  mixed := by kernel_rfl
  f167 := Tryz.func71.trans (congrArg some (by kernel_rfl))
  f240 := Tryz.func117.trans (congrArg some (by kernel_rfl))
  f276 := Tryz.func186.trans (congrArg some (by kernel_rfl))
  t0 := Tryz.underlying0
  a0 := Tryz.isAgg0
  z0 := Tryz.sizeOf0
  v0 := Tryz.zeroValue0
  t4 := Tryz.underlying4
  a4 := Tryz.isAgg4
  z4 := Tryz.sizeOf4
  v4 := Tryz.zeroValue4
  t5 := Tryz.underlying5
  a5 := Tryz.isAgg5
  z5 := Tryz.sizeOf5
  v5 := Tryz.zeroValue5
  t9 := Tryz.underlying9
  a9 := Tryz.isAgg9
  z9 := Tryz.sizeOf9
  v9 := Tryz.zeroValue9
  t20 := Tryz.underlying20
  a20 := Tryz.isAgg20
  z20 := Tryz.sizeOf20
  v20 := Tryz.zeroValue20
  t37 := Tryz.underlying23
  a37 := Tryz.isAgg23
  z37 := Tryz.sizeOf23
  v37 := Tryz.zeroValue23
  t70 := Tryz.underlying136
  a70 := Tryz.isAgg136
  z70 := Tryz.sizeOf136
  v70 := Tryz.zeroValue136
  t72 := Tryz.underlying138
  a72 := Tryz.isAgg138
  z72 := Tryz.sizeOf138
  v72 := Tryz.zeroValue138
  t75 := Tryz.underlying178
  a75 := Tryz.isAgg178
  z75 := Tryz.sizeOf178
  v75 := Tryz.zeroValue178
  t164 := Tryz.underlying232
  a164 := Tryz.isAgg232
  z164 := Tryz.sizeOf232
  v164 := Tryz.zeroValue232 }
theorem extra167 : Builder.Extra Tryz.prog lays167_ren := {
  sizeBuilder := by kernel_rfl
  liesBuilder := by kernel_rfl
  t5 := Tryz.underlying5
  a5 := Tryz.isAgg5
  z5 := Tryz.sizeOf5
  v5 := Tryz.zeroValue5
  infoByte := by kernel_rfl
  cellsByte := by kernel_rfl
  sizeByte := by kernel_rfl
  neB5 := by decide }
theorem writeByte (B b : Nat) (bs : List Value) (c : Int) (w : World) (h : Lib.IsBuilderF 138 5 B b bs w) (hlen : bs.length + 1 ≤ 140737488355328) (hBw : B ≤ w.heap.size) :
    Calls Tryz.prog 71 #[.pointer (some ⟨b, 0, none⟩), .int .u8 c] w fun e w' => e = .returned .nilIface ∧ (Lib.BuilderAtF 138 5 B b (.pointer (some ⟨b, 0, none⟩)) (bs ++ [.int .u8 c]) w' ∧ Below B w w' ∧ Lib.OthersKept 5 (some b) w w') :=
  Any.Builder_WriteByte_k lays167 extra167 B b bs c w h hlen hBw

set_option maxHeartbeats 1000000 in
set_option maxRecDepth 1000000 in
/-- Two bytes of a sign below 128. -/
theorem put_k (B b : Nat) (bs : List Value) (c : Nat) (hc : c < 128) (w : World) (h : Lib.IsBuilderF 138 5 B b bs w) (hlen : bs.length + 2 ≤ 140737488355328) (hBw : B ≤ w.heap.size) :
    Calls Tryz.prog 38 #[.pointer (some ⟨b, 0, none⟩), .int .u16 (c : Int)] w fun e w' => e = .returned (.tuple #[]) ∧ (Lib.IsBuilderF 138 5 B b (bs ++ [.int .u8 ((c : Int) / 256)] ++ [.int .u8 (c : Int)]) w' ∧ Below B w w' ∧ Lib.OthersKept 5 (some b) w w') := by
  go_enter Tryz.func38, Tryz.ntmps38
  go_wp2_with (go_at_call 71; refine (writeByte B b bs ((c : Int) / 256) _ h (by omega) hBw).mono ?_)
  rintro e W1 ⟨rfl, h1, b1, k1⟩
  have second := writeByte B b (bs ++ [.int .u8 ((c : Int) / 256)]) (c : Int) W1 (Or.inr h1) (by simp; omega) (Nat.le_trans hBw b1.size)
  have keep : ∀ W2, (Lib.BuilderAtF 138 5 B b (.pointer (some ⟨b, 0, none⟩)) (bs ++ [.int .u8 ((c : Int) / 256)] ++ [.int .u8 (c : Int)]) W2 ∧ Below B W1 W2 ∧ Lib.OthersKept 5 (some b) W1 W2) → Lib.IsBuilderF 138 5 B b (bs ++ [.int .u8 ((c : Int) / 256)] ++ [.int .u8 (c : Int)]) W2 ∧ Below B w W2 ∧ Lib.OthersKept 5 (some b) w W2 :=
    fun W2 ⟨x, y, z⟩ => ⟨Or.inr x, b1.trans y, k1.trans z⟩
  clear h1 b1 k1 h hBw hlen
  go_wp2_with (go_at_call 71; refine second.mono ?_)
  rintro e W2 ⟨rfl, hh⟩
  have fin := keep W2 hh
  clear keep hh second
  go_wp2
  go_end0
  exact ⟨rfl, fin⟩

/-- Two bytes a sign. -/
def dbl2 (s : ByteArray) (n : Nat) : List UInt8 := (s.data.toList.take n).flatMap fun c => [0, c]
theorem flat_length : ∀ l : List UInt8, (l.flatMap fun c => [0, c]).length = 2 * l.length
  | [] => rfl
  | c :: l => by rw [List.flatMap_cons, List.length_append, flat_length l]; simp; omega
theorem dbl2_le (s : ByteArray) (n : Nat) : (dbl2 s n).length ≤ 2 * n := by
  unfold dbl2
  rw [flat_length, List.length_take]
  omega
theorem dbl2_succ (s : ByteArray) (n : Nat) (h : n < s.size) : dbl2 s (n + 1) = dbl2 s n ++ [0, s[n]'h] := by
  unfold dbl2
  have h2 : n < s.data.toList.length := by simpa using h
  rw [List.take_add_one, List.flatMap_append, List.getElem?_eq_getElem h2]
  simp only [Option.toList_some, List.flatMap_cons, List.flatMap_nil, List.append_nil]
  rfl
theorem stringAny (B b : Nat) (l : List UInt8) (w : World) (h : Lib.IsBuilderF 138 5 B b (Lib.byteCells l) w) (hBw : B ≤ w.heap.size) :
    Calls Tryz.prog 39 #[.pointer (some ⟨b, 0, none⟩)] w fun e w' => e = .returned (.string ⟨l.toArray⟩) ∧ (Lib.IsBuilderF 138 5 B b (Lib.byteCells l) w' ∧ Below B w w' ∧ Lib.OthersKept 5 (some b) w w') :=
  Tryz.Builder_String_any_k B b l w h hBw

set_option maxHeartbeats 4000000 in
set_option maxRecDepth 1000000 in
theorem of_walk (s : ByteArray) (w : World) (hA : ∀ (i : Nat) (h : i < s.size), (s[i]'h).toNat < 128) (hs : s.size ≤ 1000000) :
    Calls Tryz.prog 22 #[.string s] w fun e w' => e = .returned (.string ⟨(dbl2 s s.size).toArray⟩) ∧ Below w.heap.size w w' := by
  go_enter Tryz.func22, Tryz.ntmps22
  go_wp2
  go_loopw [] (fun wr => ∃ (pos : Nat), pos ≤ s.size ∧ Lib.IsBuilderF 138 5 w.heap.size w.heap.size (Lib.byteCells (dbl2 s pos)) wr ∧ wr.heap[w.heap.size + 1]? = some (.stringIter s pos) ∧ Below w.heap.size w wr) (fun wr => s.size - wr.iterPos (w.heap.size + 1))
  case atStart =>
    refine ⟨0, Nat.zero_le _, (Lib.IsBuilderF.of (Lib.fresh_isBuilder 138 5 w)).alloc _, ?_, ((Below.refl _ w).alloc (Nat.le_refl _) _).alloc (by simp) _⟩
    have := World.iter_heap (w.alloc (.cells #[.pointer none, .slice none 0 0] 138)) s 0
    simpa using this
  case round =>
    obtain ⟨pos, hpos, hI, hit, hbw⟩ := hrel
    have hsz : w.heap.size + 1 < wr.heap.size := (Array.getElem?_eq_some_iff.1 hit).1
    by_cases hp : pos < s.size
    · obtain ⟨c, hc, hcd⟩ : ∃ c : Nat, c < 128 ∧ (s[pos]'hp).toNat = c := ⟨_, hA pos hp, rfl⟩
      have hnx : ∀ ty, (Instr.next (.pointer (some ⟨w.heap.size + 1, 0, none⟩)) true ty).run Tryz.prog wr = .ok (.tuple #[.bool true, .int .i64 pos, .int .i32 (c : Int)]) (wr.iterAt (w.heap.size + 1) s (pos + 1)) := fun ty => by
        rw [Lib.run_next_ascii_at wr (w.heap.size + 1) s pos ty hit hp (hA pos hp), hcd]
      have hI2 := hI.iterAt hit (pos + 1)
      have hit2 := Lib.iterAt_heap wr (w.heap.size + 1) s pos (pos + 1) hit
      have hbw2 := Lib.below_iterAt hbw (k := w.heap.size + 1) (by omega) s (pos + 1)
      have hsz2 : w.heap.size ≤ (wr.iterAt (w.heap.size + 1) s (pos + 1)).heap.size := by rw [Lib.iterAt_size]; omega
      have hlt : (c : Int) < 65536 := by omega
      have hl2 : (dbl2 s pos).length ≤ 2 * pos := dbl2_le s pos
      have call := put_k w.heap.size w.heap.size _ c hc _ hI2 (by rw [Lib.byteCells_length]; omega) hsz2
      have hd : dbl2 s (pos + 1) = dbl2 s pos ++ [0, UInt8.ofNat c] := by rw [dbl2_succ s pos hp, ← hcd]; simp
      have hm : s.size - wr.iterPos (w.heap.size + 1) = s.size - pos := by simp only [World.iterPos, hit]
      clear hI2 hI hl2 hsz2 hbw hA
      go_wp2_with (go_at_call 38; refine call.mono ?_)
      rintro e W1 ⟨rfl, h1, b1, k1⟩
      go_wp2
      go_roundw
      case rel =>
        refine ⟨pos + 1, hp, ?_, k1.iter hit2 (by omega), hbw2.trans b1⟩
        rw [hd, Lib.byteCells_append]
        have e0 : ((c : Int) / 256) = 0 := by omega
        have e1 : Lib.byteCells [0, UInt8.ofNat c] = [Value.int .u8 ((c : Int) / 256)] ++ [Value.int .u8 (c : Int)] := by
          rw [e0]
          have : (UInt8.ofNat c).toNat = c := by simp; omega
          simp [Lib.byteCells, this]
        rw [e1, ← List.append_assoc]
        exact h1
      case measure =>
        simp only [World.iterPos, k1.iter hit2 (by omega), hit]
        omega
    · have hnx : ∀ ty, (Instr.next (.pointer (some ⟨w.heap.size + 1, 0, none⟩)) true ty).run Tryz.prog wr = .ok (.tuple #[.bool false]) wr := fun ty => Lib.run_next_end_at wr (w.heap.size + 1) s pos ty hit hp
      have hpe : pos = s.size := by omega
      have call := stringAny w.heap.size w.heap.size (dbl2 s pos) wr hI (by omega)
      clear hI hA
      go_wp2_with (go_at_call 39; refine call.mono ?_)
      rintro e W1 ⟨rfl, _, b1, _⟩
      go_wp2
      go_ret
      subst hpe
      exact ⟨rfl, hbw.trans b1⟩

end Go.Proofs.YtgpogeemhaiicaaGreatDoor
