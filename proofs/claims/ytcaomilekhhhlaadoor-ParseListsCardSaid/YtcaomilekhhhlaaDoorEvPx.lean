/- ParseLists: the token of the next piece, by the program's scanner. Condition: the table of blanks holds what its initialiser lays. -/
import Derived.Test.YtcaomilekhhhlaaDoorEvPw
namespace Go.Proofs.YtcaomilekhhhlaaDoor
open Go.Ev Go.RowKit
set_option maxRecDepth 100000

theorem drop_at {s : ByteArray} {p : Nat} {c : UInt8} {l : List UInt8} (h : s.data.toList.drop p = c :: l) : ∃ hlt : p < s.size, s[p]'hlt = c ∧ s.data.toList.drop (p + 1) = l := by
  have hlt : p < s.data.toList.length := by
    rcases Nat.lt_or_ge p s.data.toList.length with q | q
    · exact q
    · rw [List.drop_eq_nil_of_le q] at h; cases h
  have hlt' : p < s.size := by simpa using hlt
  refine ⟨hlt', ?_, ?_⟩
  · have h2 := List.drop_eq_getElem_cons hlt
    rw [h] at h2
    injection h2 with h2 _
    rw [h2]
    simp
    rfl
  · have h2 := List.drop_eq_getElem_cons hlt
    rw [h] at h2
    injection h2 with _ h2
    exact h2.symm
theorem ext_drop (s : ByteArray) (p : Nat) : (s.extract p s.size).data.toList = s.data.toList.drop p := by
  rw [ByteArray.data_extract, Array.toList_extract, List.extract_eq_take_drop, List.take_of_length_le]
  simp
theorem ext_one {s : ByteArray} {p : Nat} {c : UInt8} {l : List UInt8} (h : s.data.toList.drop p = c :: l) : s.extract p (p + 1) = ⟨#[c]⟩ := by
  have e : (s.extract p (p + 1)).data.toList = [c] := by
    rw [ByteArray.data_extract, Array.toList_extract, List.extract_eq_take_drop, h]
    simp
  cases hx : s.extract p (p + 1) with | mk d =>
  rw [hx] at e
  congr 1
  exact Array.toList_inj.1 e
theorem okTok_byte {t : Tok} {l : List UInt8} (h : okTok t l = true) : ∃ kd c, t = (kd, c, 1) ∧ tB t = [UInt8.ofNat c] ∧ ((kd = 5 ∧ (c = 40 ∨ c = 41 ∨ c = 91 ∨ c = 93 ∨ c = 44 ∨ c = 59 ∨ c = 61)) ∨ (kd = 1 ∧ (c = 97 ∨ c = 98 ∨ c = 102) ∧ behind l = true)) := by
  unfold okTok at h
  split at h
  · rename_i c
    simp only [Bool.or_eq_true, Bool.and_eq_true, beq_iff_eq] at h
    refine ⟨5, c, rfl, ?_, .inl ⟨rfl, by omega⟩⟩
    show [UInt8.ofNat (c % 256)] = _
    rw [Nat.mod_eq_of_lt (by omega)]
  · rename_i c
    simp only [Bool.or_eq_true, Bool.and_eq_true, beq_iff_eq] at h
    refine ⟨1, c, rfl, ?_, .inr ⟨rfl, h.1, h.2⟩⟩
    show [UInt8.ofNat (c % 256)] = _
    rw [Nat.mod_eq_of_lt (by omega)]
  · cases h
theorem toNat_of {c : Nat} (h : c < 256) : (UInt8.ofNat c).toNat = c := by
  rw [UInt8.toNat_ofNat']
  exact Nat.mod_eq_of_lt h
/-- Where the piece's token begins. -/
def tokPos (p : Nat) (b : Bool) : Nat := if b then p + 1 else p
theorem piece_at {s : ByteArray} {p : Nat} {b : Bool} {t : Tok} {ps : List (Bool × Tok)} {kd c : Nat} (hd : s.data.toList.drop p = psB ((b, t) :: ps)) (hb : tB t = [UInt8.ofNat c]) : s.data.toList.drop (tokPos p b) = UInt8.ofNat c :: psB ps ∧ (b = true → ∃ h : p < s.size, s[p]'h = 32) := by
  have e : psB ((b, t) :: ps) = pB (b, t) ++ psB ps := rfl
  rw [e] at hd
  unfold pB at hd
  rw [hb] at hd
  cases b with
  | false =>
    refine ⟨?_, fun q => by cases q⟩
    simpa [tokPos] using hd
  | true =>
    have hd' : s.data.toList.drop p = 32 :: UInt8.ofNat c :: psB ps := by simpa using hd
    obtain ⟨h1, h2, h3⟩ := drop_at hd'
    exact ⟨by simpa [tokPos] using h3, fun _ => ⟨h1, h2⟩⟩
theorem pref_no {s : ByteArray} {p c : Nat} {l : List UInt8} (hd : s.data.toList.drop p = UInt8.ofNat c :: l) (hc : c < 256) (h47 : c ≠ 47) (x : UInt8) : Lib.hasPrefix (s.extract p s.size).data.toList [47, x] = false := by
  rw [ext_drop, hd, hasPrefix_cons]
  have : (47 == UInt8.ofNat c) = false := by
    rw [beq_eq_false_iff_ne]
    intro q
    have := congrArg UInt8.toNat q
    rw [toNat_of hc] at this
    exact h47 this.symm
  rw [this]
  rfl
theorem blank_piece {s : ByteArray} {p : Nat} {b : Bool} {t : Tok} {ps : List (Bool × Tok)} (hs : s.size ≤ 1000) (hd : s.data.toList.drop p = psB ((b, t) :: ps)) (hok : okPs ((b, t) :: ps) = true) (w : World) :
    Calls Tryd.prog 11 #[.string s, .int .i64 p] w fun e w' => e = .returned (.tuple #[.int .i64 (tokPos p b : Nat), .bool true]) ∧ w' = w := by
  rw [okPs] at hok
  simp only [Bool.and_eq_true] at hok
  obtain ⟨kd, c, rfl, hb, hcc⟩ := okTok_byte hok.1
  have hc : c < 256 ∧ c ≠ 32 ∧ c ≠ 9 ∧ c ≠ 10 ∧ c ≠ 13 ∧ c ≠ 47 := by rcases hcc with ⟨_, h⟩ | ⟨_, h, _⟩ <;> omega
  obtain ⟨h1, h2⟩ := piece_at (kd := kd) hd hb
  obtain ⟨g1, g2, _⟩ := drop_at h1
  have gc : (s[tokPos p b]'g1).toNat = c := by rw [g2, toNat_of hc.1]
  cases b with
  | false => exact blank_none s p w g1 hs c gc hc.2.1 hc.2.2.1 hc.2.2.2.1 hc.2.2.2.2.1 (pref_no h1 hc.1 hc.2.2.2.2.2 47) (pref_no h1 hc.1 hc.2.2.2.2.2 42)
  | true =>
    obtain ⟨k1, k2⟩ := h2 rfl
    exact blank_one s p (p + 1) w rfl k1 g1 hs (by rw [k2]; rfl) c gc hc.2.1 hc.2.2.1 hc.2.2.2.1 hc.2.2.2.2.1 (pref_no h1 hc.1 hc.2.2.2.2.2 47) (pref_no h1 hc.1 hc.2.2.2.2.2 42)
theorem one_piece {W : World} (hA : At W) {s : ByteArray} {p : Nat} {b : Bool} {t : Tok} {ps : List (Bool × Tok)} (hs : s.size ≤ 1000) (hd : s.data.toList.drop p = psB ((b, t) :: ps)) (hok : okPs ((b, t) :: ps) = true) {w : World} (hB : Below W.heap.size W w) :
    Calls Tryd.prog 12 #[.string s, .int .i64 (tokPos p b : Nat)] w fun e w' => e = .returned (.tuple #[.agg #[.int .i64 t.1, .string (sval t.2.1 t.2.2), .int .i64 0, .int .i64 0], .int .i64 ((tokPos p b + 1 : Nat) : Int), .bool true]) ∧ Below w.heap.size w w' := by
  rw [okPs] at hok
  simp only [Bool.and_eq_true] at hok
  obtain ⟨kd, c, rfl, hb, hcc⟩ := okTok_byte hok.1
  have hc : c < 256 := by rcases hcc with ⟨_, h⟩ | ⟨_, h, _⟩ <;> omega
  obtain ⟨h1, _⟩ := piece_at (kd := kd) hd hb
  obtain ⟨g1, g2, g3⟩ := drop_at h1
  have gc : (s[tokPos p b]'g1).toNat = c := by rw [g2, toNat_of hc]
  have hsv : sval c 1 = ⟨#[UInt8.ofNat c]⟩ := by unfold sval; rw [show sdec c 1 = [UInt8.ofNat (c % 256)] from rfl, Nat.mod_eq_of_lt hc]
  show Calls Tryd.prog 12 _ w fun e w' => e = .returned (.tuple #[.agg #[.int .i64 kd, .string (sval c 1), .int .i64 0, .int .i64 0], _, _]) ∧ _
  rw [hsv]
  rcases hcc with ⟨rfl, hcl⟩ | ⟨rfl, hcl, hbh⟩
  · obtain ⟨k1, k2, k3, k4⟩ := sgn_find hok.1
    have k5 : sgnT.getD (sgnAt c) [] = [UInt8.ofNat c] := k2
    refine one_sign hA s ⟨#[UInt8.ofNat c]⟩ (tokPos p b) (tokPos p b + 1) c (sgnAt c) w rfl g1 hs gc ?_ (by omega) (by omega) k1 (fun i hi => by rw [ext_drop, h1]; exact k3 i hi) (by rw [ext_drop, h1, k5]; exact k4) (by rw [k5]) rfl hB
    simp only [nonL, List.mem_cons, List.not_mem_nil, or_false]
    omega
  · cases hps : psB ps with
    | nil => rw [hps] at hbh; cases hbh
    | cons d l =>
      rw [hps] at hbh g3
      obtain ⟨m1, m2, _⟩ := drop_at g3
      refine one_name hA s ⟨#[UInt8.ofNat c]⟩ (tokPos p b) (tokPos p b + 1) c d.toNat w rfl g1 m1 hs gc (by rw [m2]) hcl ?_ rfl (ext_one h1) hB
      simp only [behind, Bool.or_eq_true, beq_iff_eq] at hbh
      simp only [nonL, List.mem_cons, List.not_mem_nil, or_false]
      rcases hbh with rfl | rfl | rfl | rfl | rfl | rfl <;> decide
end Go.Proofs.YtcaomilekhhhlaaDoor
