/- ParseLists: the texts [..] = b; and f(..); parsed. No condition. -/
import Derived.Test.YtcaomilekhhhlaaDoorEvRc
namespace Go.Proofs.YtcaomilekhhhlaaDoor
open Go.Ev Go.RowKit
set_option maxHeartbeats 8000000
set_option maxRecDepth 100000

section
variable {W : World} {pb tb len cap : Nat}
theorem item2 (l : List Bool) (dr : Bool) (hl : l.length ≤ 100) (w : World) (h : PsAt W pb tb len cap (T2 l dr) 0 0 w) :
    Calls Tryd.prog 10 #[.pointer (some ⟨pb, 0, none⟩)] w (Res (PsAt W pb tb len cap (T2 l dr) (1 + (toks l dr).length + 1 + 1 + 1 + 1) 0) (Wrap pb 18 (Wrap pb 49 (KArr pb 60 l))) pb w) := by
  have htl := toks_len l dr
  have w0 : WinAt (T2 l dr) 0 1 := ⟨[], _, rfl, rfl⟩
  have w9 : WinAt (T2 l dr) (1 + (toks l dr).length + 1) 9 := win_mid (pre := (5, 91, 1) :: (toks l dr ++ [(5, 93, 1)])) (win := [(5, 61, 1), (1, 98, 1), (5, 59, 1), (0, 0, 0)]) (rest := []) (by simp [T2, tEnd]) (by simp; omega) rfl
  have w13 : WinAt (T2 l dr) (1 + (toks l dr).length + 1 + 1) 13 := win_mid (pre := (5, 91, 1) :: (toks l dr ++ [(5, 93, 1), (5, 61, 1)])) (win := [(1, 98, 1), (5, 59, 1), (0, 0, 0)]) (rest := []) (by simp [T2, tEnd]) (by simp; omega) rfl
  have w10 : WinAt (T2 l dr) (1 + (toks l dr).length + 1 + 1 + 1) 10 := win_mid (pre := (5, 91, 1) :: (toks l dr ++ [(5, 93, 1), (5, 61, 1), (1, 98, 1)])) (win := [(5, 59, 1), (0, 0, 0)]) (rest := []) (by simp [T2, tEnd]) (by simp; omega) rfl
  have hT : T2 l dr = [(5, 91, 1)] ++ (toks l dr ++ ((5, 93, 1) :: (5, 61, 1) :: (1, 98, 1) :: (5, 59, 1) :: tEnd :: [])) := rfl
  generalize hJ : 1 + (toks l dr).length + 1 = J at w9 w13 w10 ⊢
  have hJ1 : J ≤ 300 := by omega
  have hΦ := karr_firm pb 37 l
  have hΦ2 := karr_firm pb 60 l
  have t3 : Tail pb (nof W pb tb) (PsAt W pb tb len cap (T2 l dr) J 3) ⟨#[61]⟩ true := tail_P t93 (by decide) w9 (by omega) _ rfl (by decide)
  have t2 : Tail pb (nof W pb tb) (PsAt W pb tb len cap (T2 l dr) J 2) ⟨#[61]⟩ true := tail_P t92 (by decide) w9 (by omega) _ rfl (by decide)
  have H3 : Her pb (nof W pb tb) (PsAt W pb tb len cap (T2 l dr) 0 3) 5 := her_P her13 (by decide) w0 (by omega)
  have H2 : Her pb (nof W pb tb) (PsAt W pb tb len cap (T2 l dr) 0 2) 5 := her_P her12 (by decide) w0 (by omega)
  have H1 : Her pb (nof W pb tb) (PsAt W pb tb len cap (T2 l dr) 0 1) 5 := her_P her11 (by decide) w0 (by omega)
  have H0 : Her pb (nof W pb tb) (PsAt W pb tb len cap (T2 l dr) 0 0) 5 := her_P her10 (by decide) w0 (by omega)
  have c82 : ∀ w x, PsAt W pb tb len cap (T2 l dr) 1 3 w → Calls Tryd.prog 82 #[.pointer (some ⟨pb, 0, none⟩), .int .i64 x] w (Res (PsAt W pb tb len cap (T2 l dr) J 3) (KArr pb 37 l) pb w) := fun w x h => by
    rw [← hJ]
    exact array_P (j := 1) (.inl rfl) _ _ hT rfl hl (by decide) w x h
  have c60 : ∀ w, PsAt W pb tb len cap (T2 l dr) 0 3 w → Calls Tryd.prog 60 #[.pointer (some ⟨pb, 0, none⟩)] w (Res (PsAt W pb tb len cap (T2 l dr) J 3) (KArr pb 37 l) pb w) := fun w h =>
    primary_bracket H3.head hΦ (nay_P cpn13 rfl (by decide) (by decide) w0 (by omega)) (yes_P cbr13 rfl (by decide) (by decide) w0 (by omega)) c82 h
  have c36 := H3.unary t3 hΦ (down_P (j := 0) (by omega)) (nof_lt W pb tb len cap 0 2 _) c60 (suf_P t3 hΦ) (up_P (by omega))
  have c79 : ∀ w, PsAt W pb tb len cap (T2 l dr) 0 2 w → Calls Tryd.prog 79 #[.pointer (some ⟨pb, 0, none⟩)] w (Res (PsAt W pb tb len cap (T2 l dr) J 2) (KArr pb 37 l) pb w) := fun w h => cond_walk t2 hΦ c36 h
  have hat : ∀ w, PsAt W pb tb len cap (T2 l dr) J 2 w → ∃ j j' : Int, w.cell? ⟨pb, 1, none⟩ = some (.int .i64 j) ∧ w.frozen? ⟨pb, 1, none⟩ = false ∧ IntKind.i64.wrap (j + 1) = j' ∧ PsAt W pb tb len cap (T2 l dr) (J + 1) 2 (w.setCell ⟨pb, 1, none⟩ (.int .i64 j')) ∧ Pk pb w (w.setCell ⟨pb, 1, none⟩ (.int .i64 j')) := fun w h => by
    have pc := h.hp.blk
    refine ⟨J, ((J + 1 : Nat) : Int), by simp [World.cell?, pc], by simp [World.frozen?, pc], ?_, h.bump, Pk.set w 1 _⟩
    have := Go.Ev.wrap_small IntKind.i64 (J + 1) (by show _ ≤ 9223372036854775807; omega)
    simpa using this
  have hb : ∀ w, PsAt W pb tb len cap (T2 l dr) (J + 1) 2 w → Calls Tryd.prog 55 #[.pointer (some ⟨pb, 0, none⟩)] w fun e w' => ∃ a, e = .returned (.pointer (some a)) ∧ PsAt W pb tb len cap (T2 l dr) (J + 1 + 1) 2 w' ∧ Pk pb w w' := fun w h => by
    refine (node1 cas132 rfl (by decide) h w13 (by omega)).mono ?_
    rintro e w' ⟨nb, no, rfl, -, -, -, -, p, k⟩
    exact ⟨_, rfl, p, k⟩
  have d55 : ∀ w, PsAt W pb tb len cap (T2 l dr) 0 1 w → Calls Tryd.prog 55 #[.pointer (some ⟨pb, 0, none⟩)] w (Res (PsAt W pb tb len cap (T2 l dr) (J + 1 + 1) 1) (Wrap pb 49 (KArr pb 60 l)) pb w) := fun w h =>
    assign_eq t2 (off_P W pb tb len cap (J + 1 + 1) 2 _) hΦ hΦ2 (down_P (by omega)) (nof_lt W pb tb len cap 0 1 _) H2.yield (fun w h => bool1 car12 rfl (by decide) h w0 (by omega)) c79 (refine_P hl) hat (fun w h => h.still (Below.refl _ w).drew) hb (up_P (by omega)) h
  have c45 := H1.plain (off_P W pb tb len cap (J + 1 + 1) 1 _) (wrap_firm hΦ2) d55 (want_P cws101 (by decide) (by decide) w10 (by omega))
  exact H0.item (wrap_firm (wrap_firm hΦ2)) (fun w h => stmt_walk (off_P W pb tb len cap 0 0 _) (wrap_firm hΦ2) H0.tok (down_P (by omega)) H1.stmt5 c45 (up_P (by omega)) h) h
/-- Nothing is said of a node. -/
def Any0 : Nat → Addr → World → Prop := fun _ _ _ => True
theorem any_firm (pb : Nat) : Firm Any0 pb := ⟨fun _ _ _ _ _ _ => trivial, fun _ _ _ _ _ _ => trivial⟩
theorem item3 (l : List Bool) (dr : Bool) (hl : l.length ≤ 100) {G G' : Nat → World → Prop} {b : Bool} (t3 : Tail pb (nof W pb tb) (G 3) ⟨#[59]⟩ b) (t2 : Tail pb (nof W pb tb) (G 2) ⟨#[59]⟩ b) (hup : ∀ d, d ≤ 50 → Up pb (G (d + 1)) (G d)) (hup' : Up pb (G' 1) (G' 0)) (ho : Off pb (nof W pb tb) (G 1)) (hA : ∀ w, ArgEnd W w pb tb len cap 2 (T3 l dr) l dr → G 3 w)
    (hq : ∀ w, G 1 w → Calls Tryd.prog 16 #[.pointer (some ⟨pb, 0, none⟩), .string ⟨#[59]⟩] w fun e w' => e = .returned (.tuple #[]) ∧ G' 1 w' ∧ Pk pb w w') (w : World) (h : PsAt W pb tb len cap (T3 l dr) 0 0 w) :
    Calls Tryd.prog 10 #[.pointer (some ⟨pb, 0, none⟩)] w (Res (G' 0) (Wrap pb 18 Any0) pb w) := by
  have w0 : WinAt (T3 l dr) 0 2 := ⟨[], _, rfl, rfl⟩
  have hΦ := any_firm pb
  have H3 : Her pb (nof W pb tb) (PsAt W pb tb len cap (T3 l dr) 0 3) 1 := her_P her23 (by decide) w0 (by omega)
  have H2 : Her pb (nof W pb tb) (PsAt W pb tb len cap (T3 l dr) 0 2) 1 := her_P her22 (by decide) w0 (by omega)
  have H1 : Her pb (nof W pb tb) (PsAt W pb tb len cap (T3 l dr) 0 1) 1 := her_P her21 (by decide) w0 (by omega)
  have H0 : Her pb (nof W pb tb) (PsAt W pb tb len cap (T3 l dr) 0 0) 1 := her_P her20 (by decide) w0 (by omega)
  have c60 : ∀ w, PsAt W pb tb len cap (T3 l dr) 0 3 w → Calls Tryd.prog 60 #[.pointer (some ⟨pb, 0, none⟩)] w (Res (PsAt W pb tb len cap (T3 l dr) 1 3) Any0 pb w) := fun w h => by
    refine (node1 cpr23 rfl (by decide) h w0 (by omega)).mono ?_
    rintro e w' ⟨nb, no, rfl, -, -, -, -, p, k⟩
    exact ⟨_, rfl, p, trivial, k⟩
  have hx : ∀ w base a, PsAt W pb tb len cap (T3 l dr) 1 3 w → Any0 base a w → nof W pb tb ≤ base → Calls Tryd.prog 59 #[.pointer (some ⟨pb, 0, none⟩), .pointer (some a), .bool true] w fun e w' => ∃ a', e = .returned (.pointer (some a')) ∧ G 3 w' ∧ Any0 base a' w' ∧ Pk pb w w' := fun w base a h _ _ => by
    refine (suffix_walk (suf := []) h l dr rfl hl a).mono ?_
    rintro e w' ⟨a', rfl, q, k⟩
    exact ⟨a', rfl, hA w' q, trivial, k⟩
  have c36 := H3.unary t3 hΦ (down_P (j := 0) (by omega)) (nof_lt W pb tb len cap 0 2 _) c60 hx (hup 2 (by omega))
  have c79 : ∀ w, PsAt W pb tb len cap (T3 l dr) 0 2 w → Calls Tryd.prog 79 #[.pointer (some ⟨pb, 0, none⟩)] w (Res (G 2) Any0 pb w) := fun w h => cond_walk t2 hΦ c36 h
  have d55 : ∀ w, PsAt W pb tb len cap (T3 l dr) 0 1 w → Calls Tryd.prog 55 #[.pointer (some ⟨pb, 0, none⟩)] w (Res (G 1) Any0 pb w) := fun w h =>
    assign_tail t2 hΦ (down_P (by omega)) H2.yield (fun w h => bool1 car22 rfl (by decide) h w0 (by omega)) c79 (hup 1 (by omega)) (.inr rfl) h
  have hcol : ∀ w, PsAt W pb tb len cap (T3 l dr) 0 1 w → Calls Tryd.prog 29 #[.pointer (some ⟨pb, 0, none⟩), .int .i64 1, .string ⟨#[58]⟩] w fun e w' => e = .returned (.bool false) ∧ PsAt W pb tb len cap (T3 l dr) 0 1 w' ∧ Pk pb w w' := fun w h => by
    obtain ⟨pre, rest, h1, h2⟩ := w0
    exact bool_P cia21 rfl h h1 h2 rfl (by decide) (by omega) (.cons (rP_ptr W 0 tb len cap pb) (.cons (VRel.int _ _) (.cons (str_one _ (by decide)) .nil)))
  have c45 := H1.plain ho hΦ d55 hq
  exact H0.item (wrap_firm hΦ) (fun w h => stmt_walk (off_P W pb tb len cap 0 0 _) hΦ H0.tok (down_P (by omega)) (H1.stmt1 hcol) c45 hup' h) h
/-- All names: the statement is through. -/
theorem item3_all (l : List Bool) (dr : Bool) (hl : l.length ≤ 100) (ha : ∀ b ∈ l, b = true) (w : World) (h : PsAt W pb tb len cap (T3 l dr) 0 0 w) :
    Calls Tryd.prog 10 #[.pointer (some ⟨pb, 0, none⟩)] w (Res (PsAt W pb tb len cap (T3 l dr) (2 + (toks l dr).length + 1 + 1) 0) (Wrap pb 18 Any0) pb w) := by
  have htl := toks_len l dr
  have w10 : WinAt (T3 l dr) (2 + (toks l dr).length + 1) 10 := win_mid (pre := (1, 102, 1) :: (5, 40, 1) :: (toks l dr ++ [(5, 41, 1)])) (win := [(5, 59, 1), (0, 0, 0)]) (rest := []) (by simp [T3, tEnd]) (by simp; omega) rfl
  refine item3 l dr hl (G := fun d => PsAt W pb tb len cap (T3 l dr) (2 + (toks l dr).length + 1) d) (G' := fun d => PsAt W pb tb len cap (T3 l dr) (2 + (toks l dr).length + 1 + 1) d) (tail_P t103 (by decide) w10 (by omega) _ rfl (by decide)) (tail_P t102 (by decide) w10 (by omega) _ rfl (by decide)) (fun d hd => up_P hd) (up_P (by omega)) (off_P W pb tb len cap _ 1 _) ?_ (want_P cws101 (by decide) (by decide) w10 (by omega)) w h
  rintro w (⟨-, q⟩ | ⟨q, -⟩)
  · exact q
  · have := ha false q
    cases this
/-- A hole: the fault is told. -/
theorem item3_hole (l : List Bool) (dr : Bool) (hl : l.length ≤ 100) (ha : false ∈ l) (w : World) (h : PsAt W pb tb len cap (T3 l dr) 0 0 w) :
    Calls Tryd.prog 10 #[.pointer (some ⟨pb, 0, none⟩)] w (Res (FxAt W pb tb len cap (T3 l dr) 0) (Wrap pb 18 Any0) pb w) := by
  refine item3 l dr hl (G := fun d => FxAt W pb tb len cap (T3 l dr) d) (G' := fun d => FxAt W pb tb len cap (T3 l dr) d) (tail_X f63 _) (tail_X f62 _) (fun d hd => up_X hd) (up_X (by omega)) off_X ?_ (fun w ⟨i, q⟩ => ?_) w h
  · rintro w (⟨q, -⟩ | ⟨-, j, h1, h2, h3⟩)
    · have := q false ha
      cases this
    · exact ⟨⟨j, h1, h2⟩, h3⟩
  · refine (unitF2 cff1 rfl (by decide) (by decide) q i.2.2 i.2.1).mono ?_
    rintro e w' ⟨h1, h2, h3⟩
    exact ⟨h1, ⟨i, h2⟩, h3⟩
theorem end_X {T : List Tok} : EndAt pb (nof W pb tb) (FxAt W pb tb len cap T 0) false :=
  ⟨off_X, fun w ⟨i, h⟩ => by
    refine (boolF1 cfo0 rfl (by decide) h i.2.2 i.2.1).mono ?_
    rintro e w' ⟨h1, h2, h3⟩
    exact ⟨h1, ⟨i, h2⟩, h3⟩, fun q => (by cases q), fun _ w ⟨i, h⟩ => by
    obtain ⟨x, hx⟩ := h.hp.blk
    exact ⟨x, by simp [World.cell?, hx], by simp [World.cell?, hx]⟩⟩
end
/-! The three texts. -/
theorem parse1 {W : World} (hA : At W) (s : ByteArray) (l : List Bool) (dr : Bool) (hl : l.length ≤ 100) (hs : s.data.toList = psB (pcs1 l dr)) (hsz : s.size ≤ 1000) {w : World} (hB : Below W.heap.size W w) :
    Calls Tryd.prog 5 #[.string s] w fun e w' => Below w.heap.size w w' ∧ ∃ pb np, e = .returned (.tuple #[.pointer (some ⟨np, 0, none⟩), .agg #[.int .i64 0, .int .i64 0]]) ∧ WrapAt pb (Wrap pb 18 (KArr pb 37 l)) w.heap.size w' np 1 := by
  have htl := toks_len l dr
  have hn : (pcs1 l dr).length ≤ 1000 := by simp [pcs1, pcs]; omega
  refine (parse_walk hA s (pcs1 l dr) hs hsz (okPs1 l dr) hn hB (b := true) (kd := 5) (E := fun pb tb cap => PsAt W pb tb ((pcs1 l dr).length + 1) cap (T1 l dr) (2 + (toks l dr).length + 1 + 1 + 1) 0) (Ψ := fun pb => Wrap pb 18 (KArr pb 37 l)) (by decide) (fun pb => wrap_firm (karr_firm pb 37 l)) (fun pb tb cap => ?_) (fun pb tb cap => ?_) (fun pb tb cap w h => ?_)).mono ?_
  · rw [map1]
    exact (her_P her00 (j := 0) (by decide) ⟨[], _, rfl, rfl⟩ (by omega)).beg
  · exact end_P (win_mid (pre := (5, 40, 1) :: (5, 91, 1) :: (toks l dr ++ [(5, 93, 1), (5, 41, 1), (5, 59, 1)])) (win := [(0, 0, 0)]) (rest := []) (by simp [T1, tEnd]) (by simp; omega) rfl) (by omega)
  · rw [map1] at h
    exact item1 l dr hl w h
  · rintro e w' ⟨h1, h2, -⟩
    exact ⟨h1, h2 rfl⟩
theorem parse2 {W : World} (hA : At W) (s : ByteArray) (l : List Bool) (dr : Bool) (hl : l.length ≤ 100) (hs : s.data.toList = psB (pcs2 l dr)) (hsz : s.size ≤ 1000) {w : World} (hB : Below W.heap.size W w) :
    Calls Tryd.prog 5 #[.string s] w fun e w' => Below w.heap.size w w' ∧ ∃ pb np, e = .returned (.tuple #[.pointer (some ⟨np, 0, none⟩), .agg #[.int .i64 0, .int .i64 0]]) ∧ WrapAt pb (Wrap pb 18 (Wrap pb 49 (KArr pb 60 l))) w.heap.size w' np 1 := by
  have htl := toks_len l dr
  have hn : (pcs2 l dr).length ≤ 1000 := by simp [pcs2, pcs]; omega
  refine (parse_walk hA s (pcs2 l dr) hs hsz (okPs2 l dr) hn hB (b := true) (kd := 5) (E := fun pb tb cap => PsAt W pb tb ((pcs2 l dr).length + 1) cap (T2 l dr) (1 + (toks l dr).length + 1 + 1 + 1 + 1) 0) (Ψ := fun pb => Wrap pb 18 (Wrap pb 49 (KArr pb 60 l))) (by decide) (fun pb => wrap_firm (wrap_firm (karr_firm pb 60 l))) (fun pb tb cap => ?_) (fun pb tb cap => ?_) (fun pb tb cap w h => ?_)).mono ?_
  · rw [map2]
    exact (her_P her10 (j := 0) (by decide) ⟨[], _, rfl, rfl⟩ (by omega)).beg
  · exact end_P (win_mid (pre := (5, 91, 1) :: (toks l dr ++ [(5, 93, 1), (5, 61, 1), (1, 98, 1), (5, 59, 1)])) (win := [(0, 0, 0)]) (rest := []) (by simp [T2, tEnd]) (by simp; omega) rfl) (by omega)
  · rw [map2] at h
    exact item2 l dr hl w h
  · rintro e w' ⟨h1, h2, -⟩
    exact ⟨h1, h2 rfl⟩
theorem parse3 {W : World} (hA : At W) (s : ByteArray) (l : List Bool) (dr : Bool) (hl : l.length ≤ 100) (hs : s.data.toList = psB (pcs3 l dr)) (hsz : s.size ≤ 1000) {w : World} (hB : Below W.heap.size W w) :
    Calls Tryd.prog 5 #[.string s] w fun e w' => Below w.heap.size w w' ∧ ∃ (v : Value) (k x : Int), e = .returned (.tuple #[v, .agg #[.int .i64 k, .int .i64 x]]) ∧ (∃ p, v = .pointer p) ∧ k = (if l.all id then 0 else 4) := by
  have htl := toks_len l dr
  have hn : (pcs3 l dr).length ≤ 1000 := by simp [pcs3, pcs]; omega
  by_cases ha : ∀ b ∈ l, b = true
  · have hal : l.all id = true := by simpa [List.all_eq_true] using ha
    refine (parse_walk hA s (pcs3 l dr) hs hsz (okPs3 l dr) hn hB (b := true) (kd := 1) (E := fun pb tb cap => PsAt W pb tb ((pcs3 l dr).length + 1) cap (T3 l dr) (2 + (toks l dr).length + 1 + 1) 0) (Ψ := fun pb => Wrap pb 18 Any0) (by decide) (fun pb => wrap_firm (any_firm pb)) (fun pb tb cap => ?_) (fun pb tb cap => ?_) (fun pb tb cap w h => ?_)).mono ?_
    · rw [map3]
      exact (her_P her20 (j := 0) (by decide) ⟨[], _, rfl, rfl⟩ (by omega)).beg
    · exact end_P (win_mid (pre := (1, 102, 1) :: (5, 40, 1) :: (toks l dr ++ [(5, 41, 1), (5, 59, 1)])) (win := [(0, 0, 0)]) (rest := []) (by simp [T3, tEnd]) (by simp; omega) rfl) (by omega)
    · rw [map3] at h
      exact item3_all l dr hl ha w h
    · rintro e w' ⟨h1, h2, -⟩
      obtain ⟨pb, np, rfl, -⟩ := h2 rfl
      exact ⟨h1, _, _, _, rfl, ⟨_, rfl⟩, by rw [hal]; rfl⟩
  · have hh : false ∈ l := by
      rcases Classical.not_forall.1 ha with ⟨b, hb⟩
      rcases Classical.not_imp.1 hb with ⟨h1, h2⟩
      cases b
      · exact h1
      · exact absurd rfl h2
    have hal : l.all id = false := by
      rw [List.all_eq_false]
      exact ⟨false, hh, by simp⟩
    refine (parse_walk hA s (pcs3 l dr) hs hsz (okPs3 l dr) hn hB (b := false) (kd := 1) (E := fun pb tb cap => FxAt W pb tb ((pcs3 l dr).length + 1) cap (T3 l dr) 0) (Ψ := fun pb => Wrap pb 18 Any0) (by decide) (fun pb => wrap_firm (any_firm pb)) (fun pb tb cap => ?_) (fun pb tb cap => end_X) (fun pb tb cap w h => ?_)).mono ?_
    · rw [map3]
      exact (her_P her20 (j := 0) (by decide) ⟨[], _, rfl, rfl⟩ (by omega)).beg
    · rw [map3] at h
      exact item3_hole l dr hl hh w h
    · rintro e w' ⟨h1, -, h2⟩
      obtain ⟨x, rfl⟩ := h2 rfl
      exact ⟨h1, _, _, _, rfl, ⟨_, rfl⟩, by rw [hal]; rfl⟩
end Go.Proofs.YtcaomilekhhhlaaDoor
