/- EarlyLabels: the token of the next piece, by the program's scanner. Condition: the table of blanks holds what its initialiser lays. -/
import Derived.Test.YtgpogeemhaiicaaGreatDoorEvPw
set_option linter.all false
namespace Go.Proofs.YtgpogeemhaiicaaGreatDoor
open Go.Ev Go.RowKit
set_option maxRecDepth 100000

theorem drop_at {s : ByteArray} {p : Nat} {c : UInt8} {l : List UInt8} (h : s.data.toList.drop p = c :: l) : ∃ hlt : p < s.size, s[p]'hlt = c ∧ s.data.toList.drop (p + 1) = l := by
  have hlt : p < s.data.toList.length := by
    rcases Nat.lt_or_ge p s.data.toList.length with q | q
    · exact q
    · rw [List.drop_eq_nil_of_le q] at h; cases h
  have hlt' : p < s.size := by simpa using hlt
  refine ⟨hlt', ?_, ?_⟩
  · have h2 := List.drop_eq_getElem_cons hlt
    rw [h] at h2
    injection h2 with h2 _
    rw [h2]
    simp
    rfl
  · have h2 := List.drop_eq_getElem_cons hlt
    rw [h] at h2
    injection h2 with _ h2
    exact h2.symm
theorem ext_drop (s : ByteArray) (p : Nat) : (s.extract p s.size).data.toList = s.data.toList.drop p := by
  rw [ByteArray.data_extract, Array.toList_extract, List.extract_eq_take_drop, List.take_of_length_le]
  simp
theorem ext_many {s : ByteArray} {q m : Nat} {a l : List UInt8} (h : s.data.toList.drop q = a ++ l) (hm : a.length = m) : s.extract q (q + m) = ⟨a.toArray⟩ := by
  have e : (s.extract q (q + m)).data.toList = a := by
    rw [ByteArray.data_extract, Array.toList_extract, List.extract_eq_take_drop, h, Nat.add_sub_cancel_left, ← hm]
    simp
  cases hx : s.extract q (q + m) with | mk d =>
  rw [hx] at e
  congr 1
  exact Array.toList_inj.1 (by simpa using e)
theorem drop_more {s : ByteArray} {q m : Nat} {a l : List UInt8} (h : s.data.toList.drop q = a ++ l) (hm : a.length = m) : s.data.toList.drop (q + m) = l := by
  rw [← List.drop_drop, h, ← hm]
  simp
theorem byte_in {s : ByteArray} {q : Nat} {a l : List UInt8} (h : s.data.toList.drop q = a ++ l) (p : Nat) (h1 : q ≤ p) (h2 : p < q + a.length) (hp : p < s.size) : s[p]'hp ∈ a := by
  have e : (s.data.toList.drop q)[p - q]? = some (s[p]'hp) := by
    rw [List.getElem?_drop, show q + (p - q) = p by omega]
    have : p < s.data.toList.length := by simpa using hp
    rw [List.getElem?_eq_getElem this]
    simp
    rfl
  rw [h, List.getElem?_append_left (by omega)] at e
  exact List.mem_of_getElem? e
theorem okTok_cases {t : Tok} {l : List UInt8} (h : okTok t l = true) : (t.1 = 5 ∧ okSign t l = true) ∨ (t.1 = 3 ∧ okNum t = true ∧ behind l = true) ∨ (t ∈ txtL ∧ behind l = true) := by
  unfold okTok at h
  split at h
  · rename_i e
    exact .inl ⟨e, h⟩
  · rename_i e
    simp only [Bool.and_eq_true] at h
    exact .inr (.inl ⟨e, h⟩)
  · simp only [Bool.and_eq_true, List.contains_eq_mem, decide_eq_true_eq] at h
    exact .inr (.inr h)
theorem okNum_some {t : Tok} (h : okNum t = true) : (∀ c ∈ tB t, 48 ≤ c.toNat ∧ c.toNat ≤ 57) ∧ 1 ≤ t.2.2 ∧ t.2.2 ≤ 5 ∧ (t.2.2 = 1 ∨ ∃ c bs, tB t = c :: bs ∧ c.toNat ≠ 48) := by
  unfold okNum at h
  simp only [Bool.and_eq_true, List.all_eq_true, Bool.or_eq_true, Nat.ble_eq] at h
  obtain ⟨h1, h2, h3, h4⟩ := h
  refine ⟨h1, h2, h3, h4.imp Nat.eq_of_beq_eq_true fun h4 => ?_⟩
  cases hb : tB t with
  | nil => rw [hb] at h4; cases h4
  | cons c bs =>
    rw [hb] at h4
    simp only [Bool.not_eq_true'] at h4
    exact ⟨c, bs, rfl, fun e => by rw [e] at h4; exact absurd h4 (by decide)⟩
theorem okTok_byte {t : Tok} {l : List UInt8} (h : okTok t l = true) : ∃ c bs, tB t = c :: bs ∧ (tB t).length = t.2.2 ∧ c.toNat ≠ 32 ∧ c.toNat ≠ 9 ∧ c.toNat ≠ 10 ∧ c.toNat ≠ 13 ∧ c.toNat ≠ 47 := by
  have hl : (tB t).length = t.2.2 := sdec_length _ _
  rcases okTok_cases h with ⟨_, hs⟩ | ⟨_, hn, _⟩ | ⟨hm, _⟩
  · obtain ⟨_, _, _, _, c, bs, hb, hc, h32⟩ := sgn_find hs
    refine ⟨c, bs, hb, hl, h32, ?_⟩
    simp only [nonL, List.mem_cons, List.not_mem_nil, or_false] at hc
    omega
  · obtain ⟨h1, h2, _⟩ := okNum_some hn
    cases hb : tB t with
    | nil => rw [hb] at hl; simp at hl; omega
    | cons c bs =>
      have := h1 c (by rw [hb]; simp)
      exact ⟨c, bs, rfl, by rw [← hb]; exact hl, by omega, by omega, by omega, by omega, by omega⟩
  · obtain ⟨-, h1, -, h3, -⟩ := txt_ok t hm
    cases hb : tB t with
    | nil => rw [hb] at hl; simp at hl; omega
    | cons c bs =>
      have := h3 c (by rw [hb]; simp)
      exact ⟨c, bs, rfl, by rw [← hb]; exact hl, by omega, by omega, by omega, by omega, by omega⟩
theorem toNat_of {c : Nat} (h : c < 256) : (UInt8.ofNat c).toNat = c := by
  rw [UInt8.toNat_ofNat']
  exact Nat.mod_eq_of_lt h
/-- Where the piece's token begins. -/
def tokPos (p : Nat) (b : Bool) : Nat := if b then p + 1 else p
theorem piece_at {s : ByteArray} {p : Nat} {b : Bool} {t : Tok} {ps : List (Bool × Tok)} (hd : s.data.toList.drop p = psB ((b, t) :: ps)) : s.data.toList.drop (tokPos p b) = tB t ++ psB ps ∧ (b = true → ∃ h : p < s.size, s[p]'h = 32) := by
  have e : psB ((b, t) :: ps) = pB (b, t) ++ psB ps := rfl
  rw [e] at hd
  unfold pB at hd
  cases b with
  | false =>
    refine ⟨?_, fun q => by cases q⟩
    simpa [tokPos] using hd
  | true =>
    have hd' : s.data.toList.drop p = 32 :: (tB t ++ psB ps) := by simpa using hd
    obtain ⟨h1, h2, h3⟩ := drop_at hd'
    exact ⟨by simpa [tokPos] using h3, fun _ => ⟨h1, h2⟩⟩
theorem pref_no {s : ByteArray} {p : Nat} {c : UInt8} {l : List UInt8} (hd : s.data.toList.drop p = c :: l) (h47 : c.toNat ≠ 47) (x : UInt8) : Lib.hasPrefix (s.extract p s.size).data.toList [47, x] = false := by
  rw [ext_drop, hd, hasPrefix_cons]
  have : (47 == c) = false := by
    rw [beq_eq_false_iff_ne]
    intro q
    exact h47 (by rw [← q]; rfl)
  rw [this]
  rfl
theorem blank_piece {s : ByteArray} {p : Nat} {b : Bool} {t : Tok} {ps : List (Bool × Tok)} (hs : s.size ≤ 1000) (hd : s.data.toList.drop p = psB ((b, t) :: ps)) (hok : okPs ((b, t) :: ps) = true) (w : World) :
    Calls Tryz.prog 72 #[.string s, .int .i64 p] w fun e w' => e = .returned (.tuple #[.int .i64 (tokPos p b : Nat), .bool true]) ∧ w' = w := by
  rw [okPs] at hok
  simp only [Bool.and_eq_true] at hok
  obtain ⟨c, bs, hb, -, hc⟩ := okTok_byte hok.1
  obtain ⟨h1, h2⟩ := piece_at hd
  rw [hb] at h1
  obtain ⟨g1, g2, _⟩ := drop_at h1
  have gc : (s[tokPos p b]'g1).toNat = c.toNat := by rw [g2]
  cases b with
  | false => exact blank_none s p w g1 hs c.toNat gc hc.1 hc.2.1 hc.2.2.1 hc.2.2.2.1 (pref_no h1 hc.2.2.2.2 47) (pref_no h1 hc.2.2.2.2 42)
  | true =>
    obtain ⟨k1, k2⟩ := h2 rfl
    exact blank_one s p (p + 1) w rfl k1 g1 hs (by rw [k2]; rfl) c.toNat gc hc.1 hc.2.1 hc.2.2.1 hc.2.2.2.1 (pref_no h1 hc.2.2.2.2 47) (pref_no h1 hc.2.2.2.2 42)
theorem behind_nonL {l : List UInt8} (h : behind l = true) : ∃ d l', l = d :: l' ∧ d.toNat ∈ nonL := by
  cases l with
  | nil => cases h
  | cons d l =>
    simp only [behind, List.contains_eq_mem, decide_eq_true_eq] at h
    exact ⟨d, l, rfl, h⟩
theorem valD_snoc (bs : List UInt8) (c : UInt8) : valD (bs ++ [c]) = valD bs * 10 + (c.toNat - 48) := by
  unfold valD
  rw [List.foldl_append]
  rfl
theorem valD_go : ∀ (bs : List UInt8) (v : Nat), (∀ c ∈ bs, c.toNat ≤ 57) → bs.foldl (fun v c => v * 10 + (c.toNat - 48)) v + 1 ≤ (v + 1) * 10 ^ bs.length
  | [], v, _ => by simp
  | c :: bs, v, h => by
    have h1 := valD_go bs (v * 10 + (c.toNat - 48)) fun x hx => h x (by simp [hx])
    have h2 := h c (by simp)
    rw [List.foldl_cons, List.length_cons, Nat.pow_succ]
    refine Nat.le_trans h1 ?_
    rw [Nat.mul_comm (10 ^ bs.length) 10, ← Nat.mul_assoc]
    exact Nat.mul_le_mul_right _ (by omega)
theorem valD_bound (bs : List UInt8) (h : ∀ c ∈ bs, c.toNat ≤ 57) : valD bs + 1 ≤ 10 ^ bs.length := by
  have := valD_go bs 0 h
  rw [Nat.zero_add, Nat.one_mul] at this
  exact this
theorem one_piece {W : World} (hA : At W) {s : ByteArray} {p : Nat} {b : Bool} {t : Tok} {ps : List (Bool × Tok)} (hs : s.size ≤ 1000) (hd : s.data.toList.drop p = psB ((b, t) :: ps)) (hok : okPs ((b, t) :: ps) = true) {w : World} (hB : Below W.heap.size W w) :
    Calls Tryz.prog 73 #[.string s, .int .i64 (tokPos p b : Nat)] w fun e w' => e = .returned (.tuple #[.agg #[.int .i64 t.1, .string (sval t.2.1 t.2.2), .int .i64 0, .int .i64 (nOf t)], .int .i64 ((tokPos p b + t.2.2 : Nat) : Int), .bool true]) ∧ Below w.heap.size w w' := by
  rw [okPs] at hok
  simp only [Bool.and_eq_true] at hok
  obtain ⟨h1, _⟩ := piece_at hd
  have hl : (tB t).length = t.2.2 := sdec_length _ _
  have hm := drop_more h1 hl
  have hx := ext_many h1 hl
  generalize tokPos p b = q at h1 hm hx ⊢
  rcases okTok_cases hok.1 with ⟨h5, hsn⟩ | ⟨h3, hnm, hb⟩ | ⟨ht, hb⟩
  · obtain ⟨k1, k2, k3, k4, c, bs, hbs, hcn, h32⟩ := sgn_find hsn
    have h1' := h1
    rw [hbs] at h1
    obtain ⟨g1, g2, g3⟩ := drop_at h1
    have hn : nOf t = 0 := by
      unfold nOf
      rw [if_neg (by omega)]
    rw [hn, h5]
    have hsz : (sval t.2.1 t.2.2).size = t.2.2 := by
      show (sdec t.2.1 t.2.2).toArray.size = _
      rw [List.size_toArray, sdec_length]
    have hle3 : t.2.2 ≤ 3 := by
      rw [← hl, ← k2]
      have : ∀ i, i < 36 → (sgnT.getD i []).length ≤ 3 := by decide
      exact this _ k1
    refine one_sign hA s (sval t.2.1 t.2.2) q (q + t.2.2) c.toNat (sgnIdx t) t.2.2 w rfl hle3 g1 hs (by rw [g2]) hcn ?_ ?_ k1 (fun i hi => by rw [ext_drop, h1']; exact k3 i hi) (by rw [ext_drop, h1']; exact k4) (by rw [k2]; rfl) hsz hB
    · intro e
      rw [e] at hcn
      exact absurd hcn (by decide)
    · intro e
      rw [e] at hcn
      exact absurd hcn (by decide)
  · obtain ⟨d, l', hd', hdn⟩ := behind_nonL hb
    rw [hd'] at hm
    obtain ⟨m1, m2, _⟩ := drop_at hm
    obtain ⟨n1, n2, n3, n4⟩ := okNum_some hnm
    have hn : nOf t = ((valD ((tB t).take (q + t.2.2 - q)) : Nat) : Int) := by
      unfold nOf
      rw [if_pos h3, Nat.add_sub_cancel_left, ← hl, List.take_length]
    rw [hn, h3]
    have hsz : (sval t.2.1 t.2.2).size = t.2.2 := by
      show (sdec t.2.1 t.2.2).toArray.size = _
      rw [List.size_toArray, sdec_length]
    refine one_num hA s (sval t.2.1 t.2.2) q (q + t.2.2) d.toNat (fun p => valD ((tB t).take (p - q))) w (by omega) m1 hs (by simp [valD]) (fun p q1 q2 hp => ?_) (fun p hp => ?_) (by rw [m2]) hdn hx (by rw [hsz]; omega) ?_ hB
    · have hin := byte_in h1 p q1 (by rw [hl]; exact q2) hp
      obtain ⟨a1, a2⟩ := n1 _ hin
      refine ⟨a1, a2, ?_⟩
      have hlt : p - q < (tB t).length := by omega
      have e : (s[p]'hp) = (tB t)[p - q]'hlt := by
        have e1 : (s.data.toList.drop q)[p - q]? = some (s[p]'hp) := by
          rw [List.getElem?_drop, show q + (p - q) = p by omega]
          have : p < s.data.toList.length := by simpa using hp
          rw [List.getElem?_eq_getElem this]
          simp
          rfl
        rw [h1, List.getElem?_append_left hlt, List.getElem?_eq_getElem hlt] at e1
        exact (Option.some.inj e1).symm
      rw [e, show p + 1 - q = p - q + 1 by omega, List.take_add_one, List.getElem?_eq_getElem hlt]
      exact valD_snoc _ _
    · have := valD_bound ((tB t).take (p - q)) (fun c hc => (n1 c (List.mem_of_mem_take hc)).2)
      have h10 : 10 ^ ((tB t).take (p - q)).length ≤ 10 ^ 5 := Nat.pow_le_pow_right (by omega) (by rw [List.length_take]; omega)
      show valD _ ≤ 99999
      omega
    · rcases n4 with n4 | ⟨c, bs, hbs, hc48⟩
      · exact .inl (by omega)
      · refine .inr ⟨by rw [hsz]; omega, ?_⟩
        have e : sval t.2.1 t.2.2 = ⟨(c :: bs).toArray⟩ := by
          show (⟨(tB t).toArray⟩ : ByteArray) = _
          rw [hbs]
        have : ∀ (S : ByteArray) (hS : S = ⟨(c :: bs).toArray⟩) (h : 0 < S.size), (S[0]'h).toNat ≠ 48 := by
          intro S hS h
          subst hS
          exact hc48
        exact this _ e _
  · obtain ⟨d, l', hd', hdn⟩ := behind_nonL hb
    obtain ⟨hk, -, -, h3, -⟩ := txt_ok t ht
    rw [hd'] at hm
    obtain ⟨m1, m2, _⟩ := drop_at hm
    have hn : nOf t = 0 := by
      unfold nOf
      rw [if_neg (by omega)]
    rw [hn]
    exact one_txt hA s t ht q (q + t.2.2) d.toNat w rfl m1 hs (fun p' q1 q2 hp => h3 _ (byte_in h1 p' q1 (by rw [hl]; exact q2) hp)) (by rw [m2]) hdn hx hB
end Go.Proofs.YtgpogeemhaiicaaGreatDoor
