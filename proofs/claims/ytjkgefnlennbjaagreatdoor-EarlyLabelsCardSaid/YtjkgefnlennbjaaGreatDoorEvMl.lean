/- EarlyLabels: the token at a place, by the program's scanner: a name, a key word, the number 1. Condition: it is one of those that the law writes; the table of blanks holds what its initialiser lays. ParseLists: a sign at a place, by the program's scanner. Condition: it is one of those that the law writes; the table of blanks holds what its initialiser lays. EarlyLabels: the token of the next piece, by the program's scanner. Condition: the table of blanks holds what its initialiser lays. EarlyLabels: the program's scanner, over a text of pieces. Condition: the table of blanks holds what its initialiser lays. No condition. -/
import Derived.Test.YtjkgefnlennbjaaGreatDoorEvYb
set_option linter.all false
namespace Go.Proofs.YtjkgefnlennbjaaGreatDoor
open Go.Ev Go.RowKit
set_option maxHeartbeats 8000000
set_option maxRecDepth 100000

theorem pref_is {s p : ByteArray} {b : Bool} (w : World) (h : Lib.hasPrefix s.data.toList p.data.toList = b) : Calls Tryz.prog 26 #[.string s, .string p] w fun e w' => e = .returned (.bool b) ∧ w' = w := by
  refine (Tryz.strings_HasPrefix s p w).mono ?_
  rintro e w' ⟨rfl, rfl⟩
  rw [h]
  exact ⟨rfl, rfl⟩
theorem one_txt {W : World} (hA : At W) (s : ByteArray) (t : Tok) (ht : t ∈ txtL) (at_ b d : Nat) (w : World) (hb : b = at_ + t.2.2) (hlt2 : b < s.size) (hs : s.size ≤ 1000) (hc : ∀ p, at_ ≤ p → p < b → ∀ h : p < s.size, 97 ≤ (s[p]'h).toNat ∧ (s[p]'h).toNat ≤ 122) (hd : (s[b]'hlt2).toNat = d) (hdn : d ∈ nonL)
    (hx : s.extract at_ b = sval t.2.1 t.2.2) (hB : Below W.heap.size W w) :
    Calls Tryz.prog 15 #[.string s, .int .i64 at_] w fun e w' => e = .returned (.tuple #[.agg #[.int .i64 t.1, .string (sval t.2.1 t.2.2), .int .i64 0, .int .i64 0], .int .i64 b, .bool true]) ∧ Below w.heap.size w w' := by
  have nm : ∀ w, Below W.heap.size W w → _ := fun w h => name_walk hA s t ht at_ b d w hb hlt2 hs hc hd hdn hx h
  obtain ⟨-, h1, -⟩ := txt_ok t ht
  have hlt : at_ < s.size := by omega
  obtain ⟨c1, c2⟩ := hc at_ (Nat.le_refl _) (by omega) hlt
  obtain ⟨c, hcc⟩ : ∃ c, (s[at_]'hlt).toNat = c := ⟨_, rfl⟩
  rw [hcc] at c1 c2
  have ly := letter_yes c1 c2
  have hBs := hB.size
  clear hd hdn ht hx hb hlt2 hs h1 c1 c2 hc
  go_enter Tryz.func15, Tryz.ntmps15
  go_wp2_with (go_at_call 29; refine (ly _).mono ?_)
  rintro e w' ⟨rfl, rfl⟩
  clear ly hcc hlt
  go_wp2_with (go_at_call 30; refine (nm _ ?bel).mono ?_)
  case bel => repeat (first | exact hB | refine Below.alloc ?_ (by first | omega | (simp; omega)) _)
  clear nm
  rintro e w2 ⟨rfl, hk⟩
  have h4 : w2.heap[w.heap.size]? = _ := (hk.block w.heap.size (by simp)).trans (heap_alloc_new w _)
  have hlt4 : w.heap.size < w2.heap.size := by have := hk.size; simp at this; omega
  have hk2 : Below w.heap.size w w2 := ((Below.refl _ w).alloc (Nat.le_refl _) _).trans (hk.mono (by simp))
  clear hk hB hBs hA
  generalize hg : w.heap.size = g at h4 hlt4 hk2 ⊢
  obtain ⟨c0, c1, c2, c3, f0, f1, f2, f3⟩ := four_at h4
  go_wp2
  exact tok_ret rfl rfl (four_set h4 _ _ _ _) ⟨rfl, by rw [hg]; exact below_set (below_set (below_set (below_set hk2 0 _) 1 _) 2 _) 3 _⟩
theorem one_num {W : World} (hA : At W) (s : ByteArray) (at_ b d : Nat) (w : World) (hb : b = at_ + 1) (hlt : at_ < s.size) (hlt2 : b < s.size) (hs : s.size ≤ 1000) (hc : (s[at_]'hlt).toNat = 49) (hd : (s[b]'hlt2).toNat = d) (hdn : d ∈ nonL) (hx : s.extract at_ b = ⟨#[49]⟩) (hB : Below W.heap.size W w) :
    Calls Tryz.prog 15 #[.string s, .int .i64 at_] w fun e w' => e = .returned (.tuple #[.agg #[.int .i64 3, .string ⟨#[49]⟩, .int .i64 0, .int .i64 1], .int .i64 b, .bool true]) ∧ Below w.heap.size w w' := by
  have nm : ∀ w, _ := fun w => num_walk s at_ b d w hb hlt hlt2 hs hc hd hdn hx
  have ln := letter_no (c := 49) (by simp [nonL])
  have hBs := hB.size
  clear hd hdn hx hb hlt2 hs
  go_enter Tryz.func15, Tryz.ntmps15
  go_wp2_with (go_at_call 29; refine (ln _).mono ?_)
  rintro e w' ⟨rfl, rfl⟩
  go_wp2_with (go_at_call 31; refine (digit_yes _).mono ?_)
  rintro e w' ⟨rfl, rfl⟩
  clear ln hc hlt
  go_wp2_with (go_at_call 32; refine (nm _).mono ?_)
  clear nm
  rintro e w2 ⟨rfl, hk⟩
  have h4 : w2.heap[w.heap.size]? = _ := (hk.block w.heap.size (by simp)).trans (heap_alloc_new w _)
  have hlt4 : w.heap.size < w2.heap.size := by have := hk.size; simp at this; omega
  have hk2 : Below w.heap.size w w2 := ((Below.refl _ w).alloc (Nat.le_refl _) _).trans (hk.mono (by simp))
  clear hk hB hBs hA
  generalize hg : w.heap.size = g at h4 hlt4 hk2 ⊢
  obtain ⟨c0, c1, c2, c3, f0, f1, f2, f3⟩ := four_at h4
  go_wp2
  exact tok_ret rfl rfl (four_set h4 _ _ _ _) ⟨rfl, by rw [hg]; exact below_set (below_set (below_set (below_set hk2 0 _) 1 _) 2 _) 3 _⟩
end Go.Proofs.YtjkgefnlennbjaaGreatDoor

namespace Go.Proofs.YtjkgefnlennbjaaGreatDoor
open Go.Ev Go.RowKit
set_option maxHeartbeats 4000000
set_option maxRecDepth 100000

theorem one_sign {W : World} (hA : At W) (s t : ByteArray) (at_ b c k : Nat) (w : World) (hb : b = at_ + 1) (hlt : at_ < s.size) (hs : s.size ≤ 1000) (hc : (s[at_]'hlt).toNat = c) (hcn : c ∈ nonL) (h34 : c ≠ 34) (h39 : c ≠ 39) (hk : k < 36)
    (hF : ∀ i, i < k → Lib.hasPrefix (s.extract at_ s.size).data.toList (sgnT.getD i []) = false) (hT : Lib.hasPrefix (s.extract at_ s.size).data.toList (sgnT.getD k []) = true) (ht : t = ⟨(sgnT.getD k []).toArray⟩) (ht1 : t.size = 1) (hB : Below W.heap.size W w) :
    Calls Tryz.prog 15 #[.string s, .int .i64 at_] w fun e w' => e = .returned (.tuple #[.agg #[.int .i64 5, .string t, .int .i64 0, .int .i64 0], .int .i64 b, .bool true]) ∧ Below w.heap.size w w' := by
  have hw : IntKind.i64.wrap ((at_ : Int) + 1) = (b : Int) := by subst hb; have := Go.Ev.wrap_small IntKind.i64 (at_ + 1) (by show _ ≤ 9223372036854775807; omega); simpa using this
  have ln := letter_no (List.mem_cons_of_mem 49 hcn)
  have dn := digit_no hcn
  have q1 : ((c : Int) == 34) = false := int_ne h34
  have q2 : ((c : Int) == 39) = false := int_ne h39
  have hBs := hB.size
  have hat : (at_ : Int) ≤ (s.size : Int) := by omega
  have hat0 : (0 : Int) ≤ (at_ : Int) := by omega
  clear hcn h34 h39 hb hs
  go_enter Tryz.func15, Tryz.ntmps15
  go_wp2_with (go_at_call 29; refine (ln _).mono ?_)
  rintro e w' ⟨rfl, rfl⟩
  go_wp2_with (go_at_call 31; refine (dn _).mono ?_)
  rintro e w' ⟨rfl, rfl⟩
  clear ln dn hc hlt
  go_wp2_with (go_at_call 34; refine (fields_calls hA ?bel).mono ?_)
  case bel => repeat (first | exact hB | refine Below.alloc ?_ (by first | omega | (simp; omega)) _)
  rintro e w2 ⟨fb, fo, fcap, rfl, hfc, hkb⟩
  have h4 : w2.heap[w.heap.size]? = _ := (hkb.block w.heap.size (by simp)).trans (heap_alloc_new w _)
  have hlt4 : w.heap.size < w2.heap.size := by have := hkb.size; simp at this; omega
  have hk2 : Below w.heap.size w w2 := ((Below.refl _ w).alloc (Nat.le_refl _) _).trans (hkb.mono (by simp))
  clear hkb hB hBs hA
  generalize hg : w.heap.size = g at h4 hlt4 hk2 ⊢
  obtain ⟨c0, c1, c2, c3, f0, f1, f2, f3⟩ := four_at h4
  go_wp2
  go_loopw [46] (fun i wr => ∃ j : Nat, j ≤ k ∧ i = .int .i64 j ∧ wr = w2) (fun i _ => k - (Go.RowKit.intOf i).toNat)
  case atStart => exact ⟨0, Nat.zero_le _, rfl, rfl⟩
  case round =>
    obtain ⟨j, hj, rfl, rfl⟩ := hrel
    have hj36 : j < 36 := by omega
    have hcell := hfc j hj36
    by_cases hlt : j < k
    · have hp := hF j hlt
      clear hF hT hfc ht
      go_wp2_with (go_at_call 26; refine (pref_is _ hp).mono ?_)
      rintro e w' ⟨rfl, rfl⟩
      clear hp hcell
      go_wp2
      go_roundw
      case rel => exact ⟨j + 1, by omega, by simp, trivial⟩
      case measure => simp [Go.RowKit.intOf]; omega
    · have hjk : j = k := by omega
      subst hjk
      rw [← ht] at hcell
      have hT' : Lib.hasPrefix (s.extract at_ s.size).data.toList t.data.toList = true := by rw [ht]; exact hT
      have ht2 : (t.size : Int) = 1 := by omega
      clear hF hT hfc ht ht1
      go_wp2_with (go_at_call 26; refine (pref_is _ hT').mono ?_)
      rintro e w' ⟨rfl, rfl⟩
      clear hT' hcell
      go_wp2
      exact tok_ret rfl rfl (four_set h4 _ _ _ _) ⟨rfl, by rw [hg]; exact below_set (below_set (below_set (below_set hk2 0 _) 1 _) 2 _) 3 _⟩
end Go.Proofs.YtjkgefnlennbjaaGreatDoor

namespace Go.Proofs.YtjkgefnlennbjaaGreatDoor
open Go.Ev Go.RowKit
set_option maxRecDepth 100000

theorem drop_at {s : ByteArray} {p : Nat} {c : UInt8} {l : List UInt8} (h : s.data.toList.drop p = c :: l) : ∃ hlt : p < s.size, s[p]'hlt = c ∧ s.data.toList.drop (p + 1) = l := by
  have hlt : p < s.data.toList.length := by
    rcases Nat.lt_or_ge p s.data.toList.length with q | q
    · exact q
    · rw [List.drop_eq_nil_of_le q] at h; cases h
  have hlt' : p < s.size := by simpa using hlt
  refine ⟨hlt', ?_, ?_⟩
  · have h2 := List.drop_eq_getElem_cons hlt
    rw [h] at h2
    injection h2 with h2 _
    rw [h2]
    simp
    rfl
  · have h2 := List.drop_eq_getElem_cons hlt
    rw [h] at h2
    injection h2 with _ h2
    exact h2.symm
theorem ext_drop (s : ByteArray) (p : Nat) : (s.extract p s.size).data.toList = s.data.toList.drop p := by
  rw [ByteArray.data_extract, Array.toList_extract, List.extract_eq_take_drop, List.take_of_length_le]
  simp
theorem ext_many {s : ByteArray} {q m : Nat} {a l : List UInt8} (h : s.data.toList.drop q = a ++ l) (hm : a.length = m) : s.extract q (q + m) = ⟨a.toArray⟩ := by
  have e : (s.extract q (q + m)).data.toList = a := by
    rw [ByteArray.data_extract, Array.toList_extract, List.extract_eq_take_drop, h, Nat.add_sub_cancel_left, ← hm]
    simp
  cases hx : s.extract q (q + m) with | mk d =>
  rw [hx] at e
  congr 1
  exact Array.toList_inj.1 (by simpa using e)
theorem drop_more {s : ByteArray} {q m : Nat} {a l : List UInt8} (h : s.data.toList.drop q = a ++ l) (hm : a.length = m) : s.data.toList.drop (q + m) = l := by
  rw [← List.drop_drop, h, ← hm]
  simp
theorem byte_in {s : ByteArray} {q : Nat} {a l : List UInt8} (h : s.data.toList.drop q = a ++ l) (p : Nat) (h1 : q ≤ p) (h2 : p < q + a.length) (hp : p < s.size) : s[p]'hp ∈ a := by
  have e : (s.data.toList.drop q)[p - q]? = some (s[p]'hp) := by
    rw [List.getElem?_drop, show q + (p - q) = p by omega]
    have : p < s.data.toList.length := by simpa using hp
    rw [List.getElem?_eq_getElem this]
    simp
    rfl
  rw [h, List.getElem?_append_left (by omega)] at e
  exact List.mem_of_getElem? e
/-- The number that a token has. -/
def nOf (t : Tok) : Int := if t.1 = 3 then 1 else 0
theorem okTok_cases {t : Tok} {l : List UInt8} (h : okTok t l = true) : (∃ c, t = (5, c, 1) ∧ (c = 40 ∨ c = 41 ∨ c = 58 ∨ c = 59 ∨ c = 123 ∨ c = 125)) ∨ (t = (3, 49, 1) ∧ behind l = true) ∨ (t ∈ txtL ∧ behind l = true) := by
  unfold okTok at h
  split at h
  · rename_i c
    simp only [Bool.or_eq_true, beq_iff_eq] at h
    exact .inl ⟨c, rfl, by omega⟩
  · exact .inr (.inl ⟨rfl, h⟩)
  · simp only [Bool.and_eq_true, List.contains_eq_mem, decide_eq_true_eq] at h
    exact .inr (.inr h)
theorem okTok_byte {t : Tok} {l : List UInt8} (h : okTok t l = true) : ∃ c bs, tB t = c :: bs ∧ (tB t).length = t.2.2 ∧ c.toNat ≠ 32 ∧ c.toNat ≠ 9 ∧ c.toNat ≠ 10 ∧ c.toNat ≠ 13 ∧ c.toNat ≠ 47 := by
  have hl : (tB t).length = t.2.2 := sdec_length _ _
  rcases okTok_cases h with ⟨c, rfl, hc⟩ | ⟨rfl, _⟩ | ⟨hm, _⟩
  · refine ⟨UInt8.ofNat c, [], ?_, hl, ?_⟩
    · show [UInt8.ofNat (c % 256)] = _
      rw [Nat.mod_eq_of_lt (by omega)]
    · have e : (UInt8.ofNat c).toNat = c := by rw [UInt8.toNat_ofNat']; exact Nat.mod_eq_of_lt (by omega)
      rw [e]
      omega
  · exact ⟨49, [], rfl, rfl, by decide⟩
  · obtain ⟨-, h1, -, h3, -⟩ := txt_ok t hm
    cases hb : tB t with
    | nil => rw [hb] at hl; simp at hl; omega
    | cons c bs =>
      have := h3 c (by rw [hb]; simp)
      exact ⟨c, bs, rfl, by rw [← hb]; exact hl, by omega, by omega, by omega, by omega, by omega⟩
theorem toNat_of {c : Nat} (h : c < 256) : (UInt8.ofNat c).toNat = c := by
  rw [UInt8.toNat_ofNat']
  exact Nat.mod_eq_of_lt h
/-- Where the piece's token begins. -/
def tokPos (p : Nat) (b : Bool) : Nat := if b then p + 1 else p
theorem piece_at {s : ByteArray} {p : Nat} {b : Bool} {t : Tok} {ps : List (Bool × Tok)} (hd : s.data.toList.drop p = psB ((b, t) :: ps)) : s.data.toList.drop (tokPos p b) = tB t ++ psB ps ∧ (b = true → ∃ h : p < s.size, s[p]'h = 32) := by
  have e : psB ((b, t) :: ps) = pB (b, t) ++ psB ps := rfl
  rw [e] at hd
  unfold pB at hd
  cases b with
  | false =>
    refine ⟨?_, fun q => by cases q⟩
    simpa [tokPos] using hd
  | true =>
    have hd' : s.data.toList.drop p = 32 :: (tB t ++ psB ps) := by simpa using hd
    obtain ⟨h1, h2, h3⟩ := drop_at hd'
    exact ⟨by simpa [tokPos] using h3, fun _ => ⟨h1, h2⟩⟩
theorem pref_no {s : ByteArray} {p : Nat} {c : UInt8} {l : List UInt8} (hd : s.data.toList.drop p = c :: l) (h47 : c.toNat ≠ 47) (x : UInt8) : Lib.hasPrefix (s.extract p s.size).data.toList [47, x] = false := by
  rw [ext_drop, hd, hasPrefix_cons]
  have : (47 == c) = false := by
    rw [beq_eq_false_iff_ne]
    intro q
    exact h47 (by rw [← q]; rfl)
  rw [this]
  rfl
theorem blank_piece {s : ByteArray} {p : Nat} {b : Bool} {t : Tok} {ps : List (Bool × Tok)} (hs : s.size ≤ 1000) (hd : s.data.toList.drop p = psB ((b, t) :: ps)) (hok : okPs ((b, t) :: ps) = true) (w : World) :
    Calls Tryz.prog 14 #[.string s, .int .i64 p] w fun e w' => e = .returned (.tuple #[.int .i64 (tokPos p b : Nat), .bool true]) ∧ w' = w := by
  rw [okPs] at hok
  simp only [Bool.and_eq_true] at hok
  obtain ⟨c, bs, hb, -, hc⟩ := okTok_byte hok.1
  obtain ⟨h1, h2⟩ := piece_at hd
  rw [hb] at h1
  obtain ⟨g1, g2, _⟩ := drop_at h1
  have gc : (s[tokPos p b]'g1).toNat = c.toNat := by rw [g2]
  cases b with
  | false => exact blank_none s p w g1 hs c.toNat gc hc.1 hc.2.1 hc.2.2.1 hc.2.2.2.1 (pref_no h1 hc.2.2.2.2 47) (pref_no h1 hc.2.2.2.2 42)
  | true =>
    obtain ⟨k1, k2⟩ := h2 rfl
    exact blank_one s p (p + 1) w rfl k1 g1 hs (by rw [k2]; rfl) c.toNat gc hc.1 hc.2.1 hc.2.2.1 hc.2.2.2.1 (pref_no h1 hc.2.2.2.2 47) (pref_no h1 hc.2.2.2.2 42)
theorem behind_nonL {l : List UInt8} (h : behind l = true) : ∃ d l', l = d :: l' ∧ d.toNat ∈ nonL := by
  cases l with
  | nil => cases h
  | cons d l =>
    simp only [behind, Bool.or_eq_true, beq_iff_eq] at h
    refine ⟨d, l, rfl, ?_⟩
    rcases h with rfl | rfl | rfl | rfl | rfl <;> decide
theorem one_piece {W : World} (hA : At W) {s : ByteArray} {p : Nat} {b : Bool} {t : Tok} {ps : List (Bool × Tok)} (hs : s.size ≤ 1000) (hd : s.data.toList.drop p = psB ((b, t) :: ps)) (hok : okPs ((b, t) :: ps) = true) {w : World} (hB : Below W.heap.size W w) :
    Calls Tryz.prog 15 #[.string s, .int .i64 (tokPos p b : Nat)] w fun e w' => e = .returned (.tuple #[.agg #[.int .i64 t.1, .string (sval t.2.1 t.2.2), .int .i64 0, .int .i64 (nOf t)], .int .i64 ((tokPos p b + t.2.2 : Nat) : Int), .bool true]) ∧ Below w.heap.size w w' := by
  rw [okPs] at hok
  simp only [Bool.and_eq_true] at hok
  obtain ⟨h1, _⟩ := piece_at hd
  have hl : (tB t).length = t.2.2 := sdec_length _ _
  have hm := drop_more h1 hl
  have hx := ext_many h1 hl
  generalize tokPos p b = q at h1 hm hx ⊢
  rcases okTok_cases hok.1 with ⟨c, rfl, hc⟩ | ⟨rfl, hb⟩ | ⟨ht, hb⟩
  · have hB1 : tB (5, c, 1) = [UInt8.ofNat c] := by
      show [UInt8.ofNat (c % 256)] = _
      rw [Nat.mod_eq_of_lt (by omega)]
    rw [hB1] at h1
    obtain ⟨g1, g2, g3⟩ := drop_at h1
    have gc : (s[q]'g1).toNat = c := by rw [g2, toNat_of (by omega)]
    have hsv : sval c 1 = ⟨#[UInt8.ofNat c]⟩ := by unfold sval; rw [show sdec c 1 = [UInt8.ofNat (c % 256)] from rfl, Nat.mod_eq_of_lt (by omega)]
    obtain ⟨k1, k2, k3, k4⟩ := sgn_find hok.1
    have k5 : sgnT.getD (sgnAt c) [] = [UInt8.ofNat c] := k2
    show Calls Tryz.prog 15 _ w fun e w' => e = .returned (.tuple #[.agg #[.int .i64 5, .string (sval c 1), .int .i64 0, .int .i64 0], _, _]) ∧ _
    rw [hsv]
    refine one_sign hA s ⟨#[UInt8.ofNat c]⟩ q (q + 1) c (sgnAt c) w rfl g1 hs gc ?_ (by omega) (by omega) k1 (fun i hi => by rw [ext_drop, h1]; exact k3 i hi) (by rw [ext_drop, h1, k5]; exact k4) (by rw [k5]) rfl hB
    simp only [nonL, List.mem_cons, List.not_mem_nil, or_false]
    omega
  · obtain ⟨d, l', hd', hdn⟩ := behind_nonL hb
    rw [hd'] at hm
    have h1' : s.data.toList.drop q = 49 :: psB ps := h1
    obtain ⟨g1, g2, _⟩ := drop_at h1'
    obtain ⟨m1, m2, _⟩ := drop_at hm
    exact one_num hA s q (q + 1) d.toNat w rfl g1 m1 hs (by rw [g2]; rfl) (by rw [m2]) hdn hx hB
  · obtain ⟨d, l', hd', hdn⟩ := behind_nonL hb
    obtain ⟨hk, -, -, h3, -⟩ := txt_ok t ht
    rw [hd'] at hm
    obtain ⟨m1, m2, _⟩ := drop_at hm
    have hn : nOf t = 0 := by
      unfold nOf
      rw [if_neg (by omega)]
    rw [hn]
    exact one_txt hA s t ht q (q + t.2.2) d.toNat w rfl m1 hs (fun p' q1 q2 hp => h3 _ (byte_in h1 p' q1 (by rw [hl]; exact q2) hp)) (by rw [m2]) hdn hx hB
end Go.Proofs.YtjkgefnlennbjaaGreatDoor

namespace Go.Proofs.YtjkgefnlennbjaaGreatDoor
open Go.Ev Go.RowKit
set_option maxHeartbeats 8000000
set_option maxRecDepth 100000

theorem info_at {P : Program} {t : TypeId} {z : Value} {s b : Nat} (h1 : (P.info? t).map (·.zero) = some (some z)) (h2 : (P.info? t).map (·.size) = some s) (h3 : (P.info? t).map (·.bytes) = some b) : ∃ i, P.info? t = some i ∧ i.zero = some z ∧ i.size = s ∧ i.bytes = b := by
  cases h : P.info? t with
  | none => rw [h] at h1; cases h1
  | some i =>
    rw [h] at h1 h2 h3
    exact ⟨i, rfl, Option.some.inj h1, Option.some.inj h2, Option.some.inj h3⟩
/-- Tokens' cells. -/
def TokCells (xs : List Value) (ts : List Tok) : Prop := xs.length = 4 * ts.length ∧ ∀ (i : Nat) (t : Tok), ts[i]? = some t → xs[i * 4]? = some (.int .i64 t.1) ∧ xs[i * 4 + 1]? = some (.string (sval t.2.1 t.2.2)) ∧ (∃ x : Int, xs[i * 4 + 2]? = some (.int .i64 x)) ∧ xs[i * 4 + 3]? = some (.int .i64 (nOf t))
theorem TokCells.nil : TokCells [] [] := ⟨rfl, fun i t h => by simp at h⟩
theorem TokCells.snoc {xs : List Value} {ts : List Tok} (h : TokCells xs ts) (t : Tok) (x : Int) : TokCells (xs ++ [.int .i64 t.1, .string (sval t.2.1 t.2.2), .int .i64 x, .int .i64 (nOf t)]) (ts ++ [t]) := by
  obtain ⟨hl, hc⟩ := h
  refine ⟨by simp [hl]; omega, fun i u hi => ?_⟩
  by_cases hlt : i < ts.length
  · rw [List.getElem?_append_left hlt] at hi
    obtain ⟨h1, h2, ⟨y, h3⟩, h4⟩ := hc i u hi
    exact ⟨by rw [List.getElem?_append_left (by omega)]; exact h1, by rw [List.getElem?_append_left (by omega)]; exact h2, ⟨y, by rw [List.getElem?_append_left (by omega)]; exact h3⟩, by rw [List.getElem?_append_left (by omega)]; exact h4⟩
  · have hi' := (List.getElem?_eq_some_iff.1 hi).1
    simp at hi'
    have e : i = ts.length := by omega
    subst e
    simp at hi
    subst hi
    have e0 : ts.length * 4 = xs.length := by omega
    rw [e0]
    refine ⟨?_, ?_, ⟨x, ?_⟩, ?_⟩ <;> simp
theorem row_cell {w : World} {base : Nat} {e : TypeId} {size : Nat} {v : Value} {n : Nat} {xs : List Value} (h : w.ownsRow base e size v n xs) {g : Nat} {cap : Nat} (hv : v = .slice (some ⟨g, 0, none⟩) n cap) {j : Nat} {x : Value} (hx : xs[j]? = some x) : w.cell? ⟨g, j, none⟩ = some x := by
  subst hv
  have hlen : xs.length = n * size := h.1
  have hj : j < xs.length := (List.getElem?_eq_some_iff.1 hx).1
  rcases h.2 with ⟨e1, _⟩ | ⟨g, cap', cur, e1, _, hh, h1, _, h2, h3⟩
  · cases e1
  · cases e1
    rw [← h3, List.getElem?_take_of_lt (by omega)] at hx
    simp only [World.cell?, hh]
    simpa using hx
theorem TokCells.at_ {w : World} {base : Nat} {v : Value} {n : Nat} {xs : List Value} {ts : List Tok} (hc : TokCells xs ts) (h : w.ownsRow base 45 4 v n xs) {g cap : Nat} (hv : v = .slice (some ⟨g, 0, none⟩) n cap) (i : Nat) (t : Tok) (hi : ts[i]? = some t) : tokAt w g i t := by
  obtain ⟨h1, h2, ⟨x, h3⟩, h4⟩ := hc.2 i t hi
  exact ⟨x, row_cell h hv h1, row_cell h hv h2, row_cell h hv h3, row_cell h hv h4⟩
theorem ownsRow_at {w w' : World} {base : Nat} {e : TypeId} {size : Nat} {v : Value} {n : Nat} {xs : List Value} (h : w.ownsRow base e size v n xs) (hk : ∀ g, v.ownBlock = some g → w'.heap[g]? = w.heap[g]?) : w'.ownsRow base e size v n xs := by
  refine ⟨h.1, ?_⟩
  rcases h.2 with hn | ⟨g, cap, cur, rfl, hb, hgg, rest⟩
  · exact .inl hn
  · exact .inr ⟨g, cap, cur, rfl, hb, by rw [hk g rfl]; exact hgg, rest⟩
theorem news4 (w : World) (x0 x1 x2 x3 : Value) (t : TypeId) : ∀ j u, [x0, x1, x2, x3][j]? = some u → (w.alloc (.cells #[x0, x1, x2, x3] t)).cell? ((⟨w.heap.size, 0, none⟩ : Addr).add j) = some u := by
  intro j u hj
  match j, hj with
  | 0, hj => simp at hj; subst hj; simp [Addr.add, World.cell?_alloc_at]
  | 1, hj => simp at hj; subst hj; simp [Addr.add, World.cell?_alloc_at]
  | 2, hj => simp at hj; subst hj; simp [Addr.add, World.cell?_alloc_at]
  | 3, hj => simp at hj; subst hj; simp [Addr.add, World.cell?_alloc_at]
theorem below_gen {w wr wx wn : World} {v : Value} {e : TypeId} {size n : Nat} {xs : List Value} (hbw : Below w.heap.size w wr) (hx : Below wr.heap.size wr wx) (hown : wr.ownsRow w.heap.size e size v n xs) (hg : wx.grownBy wn v.ownBlock) : Below w.heap.size w wn := by
  refine (hbw.trans (hx.mono hbw.size)).grown hg (Nat.le_trans hbw.size hx.size) (fun k hk => ?_)
  rcases hown.2 with ⟨rfl, _⟩ | ⟨g, cap, cur, rfl, h4, _⟩
  · simp [Value.ownBlock] at hk
  · simp only [Value.ownBlock, Option.some.injEq] at hk
    omega
theorem psB_nil {ps : List (Bool × Tok)} (hok : okPs ps = true) (h : psB ps = []) : ps = [] := by
  cases ps with
  | nil => rfl
  | cons p ps =>
    rw [okPs] at hok
    simp only [Bool.and_eq_true] at hok
    obtain ⟨c, bs, hb, _⟩ := okTok_byte hok.1
    have e : psB (p :: ps) = pB p ++ psB ps := rfl
    rw [e] at h
    unfold pB at h
    rw [hb] at h
    simp at h
theorem two_at {w : World} {g : Nat} {x0 x1 : Value} {t : TypeId} (h : w.heap[g]? = some (.cells #[x0, x1] t (0, 0))) :
    w.cell? ⟨g, 0, none⟩ = some x0 ∧ w.cell? ⟨g, 1, none⟩ = some x1 ∧ w.frozen? ⟨g, 0, none⟩ = false ∧ w.frozen? ⟨g, 1, none⟩ = false := by
  simp [World.cell?, World.frozen?, h]
/-- Back with a value, and a fault that lies in a cell. -/
theorem scan_ret {fn : Func} {R : Ending → World → Prop} {tmps : Array Value} {w : World} {b : Nat} {x0 x1 : Value} {fz : Nat × Nat} (hr : fn.results = #[.tmp 2, .cell 3 29]) (h4 : tmps.getD 3 undef = .pointer (some ⟨b, 0, none⟩)) (hb : w.heap[b]? = some (.cells #[x0, x1] 29 fz))
    (hR : R (.returned (.tuple #[tmps.getD 2 undef, .agg #[x0, x1]])) w) : bodyPost Tryz.prog fn R .ret { tmps := tmps, defers := [] } w := by
  refine bodyPost_ret (v := .tuple #[tmps.getD 2 undef, .agg #[x0, x1]]) ?_ rfl hR
  have h1 : (loadVar 29 ⟨b, 0, none⟩).run Tryz.prog w = .ok (.agg #[x0, x1]) w := run_loadVar_row _ b 29 29 _ _ _ hb Tryz.underlying29 rfl (by kernel_rfl)
  have h4' : tmps[3]?.getD undef = .pointer (some ⟨b, 0, none⟩) := by rw [← Array.getD_eq_getD_getElem?]; exact h4
  simp [results, hr, h4', asAddr, h1]
set_option maxHeartbeats 16000000 in
theorem scan_walk {W : World} (hA : At W) (s : ByteArray) (ps : List (Bool × Tok)) (hps : s.data.toList = psB ps) (hs : s.size ≤ 1000) (hok : okPs ps = true) (hn : ps.length ≤ 1000) {w : World} (hB : Below W.heap.size W w) :
    Calls Tryz.prog 9 #[.string s] w fun e w' => ∃ g cap, e = .returned (.tuple #[.slice (some ⟨g, 0, none⟩) (ps.length + 1) cap, .agg #[.int .i64 0, .int .i64 0]]) ∧ w.heap.size ≤ g ∧ g < w'.heap.size ∧ (∀ (i : Nat) (t : Tok), (ps.map (·.2) ++ [tEnd])[i]? = some t → tokAt w' g i t) ∧ Below w.heap.size w w' := by
  obtain ⟨i0, hi, hz0, hz1, hz2⟩ := info_at (P := Tryz.prog) (t := 45) (z := .agg #[.int .i64 0, .string ByteArray.empty, .int .i64 0, .int .i64 0]) (s := 4) (b := 40) (by kernel_rfl) (by kernel_rfl) (by kernel_rfl)
  go_enter Tryz.func9, Tryz.ntmps9
  go_wp2
  obtain ⟨w1, hw1⟩ : ∃ w1, w.alloc (Obj.cells #[Value.int IntKind.i64 0, Value.int IntKind.i64 0] 29) = w1 := ⟨_, rfl⟩
  rw [hw1]
  have hb1 : Below w.heap.size w w1 := by rw [← hw1]; exact (Below.refl _ w).alloc (Nat.le_refl _) _
  have hf1 : w1.heap[w.heap.size]? = some (.cells #[.int .i64 0, .int .i64 0] 29 (0, 0)) := by rw [← hw1]; exact heap_alloc_new w _
  have hl1 : w.heap.size < w1.heap.size := by rw [← hw1]; simp
  clear hw1
  go_loopw [4, 5] (fun v i wr => ∃ (done : List Tok) (rest : List (Bool × Tok)) (p : Nat) (xs : List Value), done ++ rest.map (·.2) = ps.map (·.2) ∧ i = .int .i64 p ∧ p ≤ s.size ∧ s.data.toList.drop p = psB rest ∧ okPs rest = true ∧ wr.ownsRow w1.heap.size 45 4 v done.length xs ∧ TokCells xs done ∧ Below w1.heap.size w1 wr) (fun _ i _ => s.size + 1 - (Go.RowKit.intOf i).toNat)
  case atStart => exact ⟨[], ps, 0, [], rfl, rfl, Nat.zero_le _, hps, hok, World.ownsRow_nil _ _ _ _, TokCells.nil, Below.refl _ _⟩
  case round =>
    obtain ⟨done, rest, p, xs, hdr, rfl, hp, hd, hok, hown, htc, hbw⟩ := hrel
    clear hps
    have hlen : done.length + rest.length = ps.length := by have := congrArg List.length hdr; simpa using this
    cases rest with
    | nil =>
      have hpe : p = s.size := by
        have : s.data.toList.length ≤ p := by
          rcases Nat.lt_or_ge p s.data.toList.length with q | q
          · rw [List.drop_eq_getElem_cons q] at hd; cases hd
          · exact q
        simp at this
        omega
      subst hpe
      have hne : ((s.size : Int) == (s.size : Int)) = true := by simp
      have hdn : done = ps.map (·.2) := by simpa using hdr
      have hdl : done.length = ps.length := by rw [hdn, List.length_map]
      have hs3 := hbw.size
      go_wp2_with (first | (go_at_call 14; refine (blank_end s _).mono ?_) | (at_builtin; refine wpList_append_lies _ rfl (.tmp 29) (.tmp 32) 38 rfl w1.heap.size 45 i0 _ 4 40 Tryz.underlying38 hi hz0 hz1 hz2 rfl (by decide) u4 done.length xs rfl (by exact hown.alloc _) ⟨wr.heap.size, 0, none⟩ 1 1 [.int .i64 0, .string ⟨#[]⟩, .int .i64 s.size, .int .i64 0] rfl rfl (by exact news4 wr (.int .i64 0) (.string ⟨#[]⟩) (.int .i64 s.size) (.int .i64 0) 45) (by intro u hu; simp at hu; rcases hu with rfl | rfl | rfl | rfl <;> rfl) (by decide) (by unfold maxLen; omega) (by omega) (by simp; omega) _ rfl ?_))
      intro g1 cap1 wn hown2 hgrow2 hat2 hlt2
      have hb2 : Below w1.heap.size w1 wn := below_gen hbw ((Below.refl _ wr).alloc (Nat.le_refl _) _) hown hgrow2
      have R : wn.ownsRow w1.heap.size 45 4 (.slice (some ⟨g1, 0, none⟩) (ps.length + 1) cap1) (done ++ [tEnd]).length (xs ++ [.int .i64 0, .string ⟨#[]⟩, .int .i64 s.size, .int .i64 0]) := by rw [List.length_append, hdl]; exact hown2
      have T : TokCells (xs ++ [.int .i64 0, .string ⟨#[]⟩, .int .i64 s.size, .int .i64 0]) (done ++ [tEnd]) := htc.snoc tEnd s.size
      have hgl := R.lt g1 rfl
      have hF : wn.heap[w.heap.size]? = some (.cells #[.int .i64 0, .int .i64 0] 29 (0, 0)) := (hb2.block _ hl1).trans hf1
      obtain ⟨c0, c1, f0, f1⟩ := two_at hF
      have hbE : Below w.heap.size w wn := hb1.trans (hb2.mono hb1.size)
      clear hown2 hgrow2 hat2 hlt2 hown hbw hs3 hb2 hb1 hA hB
      go_wp2
      refine scan_ret rfl rfl (set_blk (set_blk hF 0 _) 1 _) ⟨g1, cap1, rfl, by omega, ?_, ?_, ?_⟩
      · simp only [World.setCell, Array.size_modify]
        exact hgl.2
      · intro i t hi
        rw [← hdn] at hi
        have h1 := T.at_ R (cap := cap1) (by rw [List.length_append, hdl]; rfl) i t hi
        refine h1.keep ?_
        rw [Below.heap_setCell _ _ _ _ (show g1 ≠ w.heap.size by omega), Below.heap_setCell _ _ _ _ (show g1 ≠ w.heap.size by omega)]
      · exact below_set (below_set hbE 0 _) 1 _
    | cons bt rest =>
      obtain ⟨b, t⟩ := bt
      have bl := blank_piece hs hd hok wr
      have hl0 : (tB t).length = t.2.2 := sdec_length _ _
      have hpl : tokPos p b < s.size := by
        rw [okPs] at hok
        simp only [Bool.and_eq_true] at hok
        obtain ⟨c, bs, hb, _⟩ := okTok_byte hok.1
        have h1 := (piece_at hd).1
        rw [hb] at h1
        exact (drop_at h1).1
      have hml : tokPos p b + t.2.2 ≤ s.size := by
        have h1 := congrArg List.length (piece_at hd).1
        rw [List.length_drop, List.length_append, hl0] at h1
        have h2 : s.data.toList.length = s.size := by simp
        rw [h2] at h1
        omega
      have hm1 : 1 ≤ t.2.2 := by
        rw [okPs] at hok
        simp only [Bool.and_eq_true] at hok
        obtain ⟨c, bs, hb, hl, _⟩ := okTok_byte hok.1
        rw [← hl, hb]
        simp
      have hpp : p ≤ tokPos p b := by unfold tokPos; split <;> omega
      have hnd : s.data.toList.drop (tokPos p b + t.2.2) = psB rest := drop_more (piece_at hd).1 hl0
      have hokr : okPs rest = true := by
        rw [okPs] at hok
        simp only [Bool.and_eq_true] at hok
        exact hok.2
      have on : ∀ w, Below W.heap.size W w → _ := fun w h => one_piece (w := w) hA hs hd hok h
      have hBr : Below W.heap.size W wr := hB.trans ((hb1.trans (hbw.mono hb1.size)).mono hB.size)
      have hBl := hBr.size
      obtain ⟨y, hy⟩ : ∃ y, sval t.2.1 t.2.2 = y := ⟨_, rfl⟩
      obtain ⟨z, hz⟩ : ∃ z : Int, ((t.1 : Nat) : Int) = z := ⟨_, rfl⟩
      obtain ⟨q, hq⟩ : ∃ q, tokPos p b = q := ⟨_, rfl⟩
      obtain ⟨m, hm⟩ : ∃ m, t.2.2 = m := ⟨_, rfl⟩
      obtain ⟨n4, hn4⟩ : ∃ n4 : Int, nOf t = n4 := ⟨_, rfl⟩
      rw [hq, hm] at hml hnd
      rw [hm] at hm1
      rw [hq] at bl hpl hpp
      rw [hq, hy, hz, hm, hn4] at on
      clear hok hd hq hl0
      obtain ⟨q2, hq2⟩ : ∃ q2, q + m = q2 := ⟨_, rfl⟩
      rw [hq2] at hml hnd on
      have hne : ((q : Int) == (s.size : Int)) = false := by rw [beq_eq_false_iff_ne]; omega
      go_wp2_with (go_at_call 14; refine bl.mono ?_)
      try (rintro e w' ⟨rfl, rfl⟩)
      clear bl
      go_wp2_with (go_at_call 15; refine (on _ ?bel).mono ?_)
      case bel => repeat (first | exact hBr | refine Below.alloc ?_ (by first | omega | (simp; omega)) _)
      clear on
      rintro e w3 ⟨rfl, hk3⟩
      have hown3 : w3.ownsRow w1.heap.size 45 4 u4 done.length xs := ownsRow_at hown fun g hg => hk3.block g (hown.lt g hg).2
      have hbw3 : Below w1.heap.size w1 w3 := hbw.trans (hk3.mono hbw.size)
      have hs3 := hbw3.size
      clear hown hbw hk3 hBr hBl hB hA
      go_wp2_with (at_builtin; refine wpList_append_lies _ rfl (.tmp 48) (.tmp 50) 38 rfl w1.heap.size 45 i0 _ 4 40 Tryz.underlying38 hi hz0 hz1 hz2 rfl (by decide) u4 done.length xs rfl (by exact (hown3.alloc _).alloc _) ⟨w3.heap.size + 1, 0, none⟩ 1 1 [.int .i64 z, .string y, .int .i64 q, .int .i64 n4] rfl rfl (by exact fun j u hj => by have := news4 (w3.alloc (.cells #[.int .i64 z, .string y, .int .i64 q, .int .i64 n4] 45)) (.int .i64 z) (.string y) (.int .i64 q) (.int .i64 n4) 45 j u hj; simpa using this) (by intro u hu; simp at hu; rcases hu with rfl | rfl | rfl | rfl <;> rfl) (by decide) (by unfold maxLen; omega) (by omega) (by simp; omega) _ rfl ?_)
      intro g1 cap1 wn hown2 hgrow2 hat2 hlt2
      have hb2 : Below w1.heap.size w1 wn := below_gen hbw3 (((Below.refl _ w3).alloc (Nat.le_refl _) _).alloc (by simp) _) hown3 hgrow2
      have R : wn.ownsRow w1.heap.size 45 4 (.slice (some ⟨g1, 0, none⟩) (done.length + 1) cap1) (done ++ [t]).length (xs ++ [.int .i64 z, .string y, .int .i64 q, .int .i64 n4]) := by rw [List.length_append]; exact hown2
      have T : TokCells (xs ++ [.int .i64 z, .string y, .int .i64 q, .int .i64 n4]) (done ++ [t]) := by rw [← hy, ← hz, ← hn4]; exact htc.snoc t q
      clear hown2 hgrow2 hat2 hlt2 hown3 hbw3 hs3
      go_wp2
      go_roundw
      case rel => exact ⟨done ++ [t], rest, q2, _, by rw [List.append_assoc]; exact hdr, by simp, by omega, hnd, hokr, R, T, hb2⟩
      case measure => simp [Go.RowKit.intOf]; omega
end Go.Proofs.YtjkgefnlennbjaaGreatDoor
