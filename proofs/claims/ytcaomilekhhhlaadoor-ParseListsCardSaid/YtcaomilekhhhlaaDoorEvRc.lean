/- ParseLists: the text ([..]); parsed. No condition. -/
import Derived.Test.YtcaomilekhhhlaaDoorEvRb
namespace Go.Proofs.YtcaomilekhhhlaaDoor
open Go.Ev Go.RowKit
set_option maxHeartbeats 8000000
set_option maxRecDepth 100000

def T1 (l : List Bool) (dr : Bool) : List Tok := (5, 40, 1) :: (5, 91, 1) :: (toks l dr ++ ((5, 93, 1) :: (5, 41, 1) :: (5, 59, 1) :: tEnd :: []))
def T2 (l : List Bool) (dr : Bool) : List Tok := (5, 91, 1) :: (toks l dr ++ ((5, 93, 1) :: (5, 61, 1) :: (1, 98, 1) :: (5, 59, 1) :: tEnd :: []))
def T3 (l : List Bool) (dr : Bool) : List Tok := (1, 102, 1) :: (5, 40, 1) :: (toks l dr ++ ((5, 41, 1) :: (5, 59, 1) :: tEnd :: []))
theorem pcs_map (t : List Tok) : (pcs t).map (·.2) = t := by simp [pcs, Function.comp_def]
theorem map1 (l : List Bool) (dr : Bool) : (pcs1 l dr).map (·.2) ++ [tEnd] = T1 l dr := by
  unfold pcs1 T1
  rw [List.map_append, List.map_append, pcs_map, pcs_map, pcs_map]
  simp
theorem map2 (l : List Bool) (dr : Bool) : (pcs2 l dr).map (·.2) ++ [tEnd] = T2 l dr := by
  unfold pcs2 T2
  rw [List.map_append, List.map_append, pcs_map, pcs_map]
  simp
theorem map3 (l : List Bool) (dr : Bool) : (pcs3 l dr).map (·.2) ++ [tEnd] = T3 l dr := by
  unfold pcs3 T3
  rw [List.map_append, List.map_append, pcs_map, pcs_map, pcs_map]
  simp
theorem end_P {W : World} {pb tb len cap j : Nat} {T : List Tok} (hw : WinAt T j 14) (hj1 : j ≤ 1000) : EndAt pb (nof W pb tb) (PsAt W pb tb len cap T j 0) true :=
  ⟨off_P W pb tb len cap j 0 T, fun w h => bool1 cen14 rfl (by decide) h hw hj1, fun _ w h => by
    obtain ⟨pre, rest, h1, h2⟩ := hw
    exact tok_K cek14 rfl h h1 h2 rfl (by decide) hj1 (.cons (rP_ptr W j tb len cap pb) .nil), fun q => (by cases q)⟩
theorem want_P {W : World} {pb tb len cap j d c n f : Nat} {T : List Tok} (hc : unitC 16 [.ptr 20 0, .str n 1] c d f = true) (hw0 : winOf c ≠ []) (hn : n < 256) (hw : WinAt T j c) (hj1 : j ≤ 1000) (w : World) (h : PsAt W pb tb len cap T j d w) :
    Calls Tryd.prog 16 #[.pointer (some ⟨pb, 0, none⟩), .string ⟨#[UInt8.ofNat n]⟩] w fun e w' => e = .returned (.tuple #[]) ∧ PsAt W pb tb len cap T (j + f) d w' ∧ Pk pb w w' := unit2 hc rfl hw0 hn h hw hj1
theorem nof_lt (W : World) (pb tb len cap j d : Nat) (T : List Tok) : ∀ w, PsAt W pb tb len cap T j d w → nof W pb tb ≤ w.heap.size := (off_P W pb tb len cap j d T).lt

section
variable {W : World} {pb tb len cap : Nat}
theorem item1 (l : List Bool) (dr : Bool) (hl : l.length ≤ 100) (w : World) (h : PsAt W pb tb len cap (T1 l dr) 0 0 w) :
    Calls Tryd.prog 10 #[.pointer (some ⟨pb, 0, none⟩)] w (Res (PsAt W pb tb len cap (T1 l dr) (2 + (toks l dr).length + 1 + 1 + 1) 0) (Wrap pb 18 (KArr pb 37 l)) pb w) := by
  have htl := toks_len l dr
  have w0 : WinAt (T1 l dr) 0 0 := ⟨[], _, rfl, rfl⟩
  have w1 : WinAt (T1 l dr) 1 1 := ⟨[(5, 40, 1)], _, rfl, rfl⟩
  have w8 : WinAt (T1 l dr) (2 + (toks l dr).length + 1) 8 := win_mid (pre := (5, 40, 1) :: (5, 91, 1) :: (toks l dr ++ [(5, 93, 1)])) (win := [(5, 41, 1), (5, 59, 1), (0, 0, 0)]) (rest := []) (by simp [T1, tEnd]) (by simp; omega) rfl
  have w10 : WinAt (T1 l dr) (2 + (toks l dr).length + 1 + 1) 10 := win_mid (pre := (5, 40, 1) :: (5, 91, 1) :: (toks l dr ++ [(5, 93, 1), (5, 41, 1)])) (win := [(5, 59, 1), (0, 0, 0)]) (rest := []) (by simp [T1, tEnd]) (by simp; omega) rfl
  have hT : T1 l dr = [(5, 40, 1), (5, 91, 1)] ++ (toks l dr ++ ((5, 93, 1) :: (5, 41, 1) :: (5, 59, 1) :: tEnd :: [])) := rfl
  have hTa : T1 l dr = (5, 40, 1) :: (5, 91, 1) :: (toks l dr ++ ((5, 93, 1) :: (5, 41, 1) :: (5, 59, 1) :: tEnd :: [])) := rfl
  generalize hJ : 2 + (toks l dr).length + 1 = J at w8 w10 ⊢
  have hJ1 : J ≤ 300 := by omega
  have hΦ := karr_firm pb 37 l
  have t5 : Tail pb (nof W pb tb) (PsAt W pb tb len cap (T1 l dr) J 5) ⟨#[41]⟩ true := tail_P t85 (by decide) w8 (by omega) _ rfl (by decide)
  have t4 : Tail pb (nof W pb tb) (PsAt W pb tb len cap (T1 l dr) J 4) ⟨#[41]⟩ true := tail_P t84 (by decide) w8 (by omega) _ rfl (by decide)
  have t3 : Tail pb (nof W pb tb) (PsAt W pb tb len cap (T1 l dr) (J + 1) 3) ⟨#[59]⟩ true := tail_P t103 (by decide) w10 (by omega) _ rfl (by decide)
  have t2 : Tail pb (nof W pb tb) (PsAt W pb tb len cap (T1 l dr) (J + 1) 2) ⟨#[59]⟩ true := tail_P t102 (by decide) w10 (by omega) _ rfl (by decide)
  have H15 : Her pb (nof W pb tb) (PsAt W pb tb len cap (T1 l dr) 1 5) 5 := her_P her15 (by decide) w1 (by omega)
  have H14 : Her pb (nof W pb tb) (PsAt W pb tb len cap (T1 l dr) 1 4) 5 := her_P her14 (by decide) w1 (by omega)
  have H03 : Her pb (nof W pb tb) (PsAt W pb tb len cap (T1 l dr) 0 3) 5 := her_P her03 (by decide) w0 (by omega)
  have H02 : Her pb (nof W pb tb) (PsAt W pb tb len cap (T1 l dr) 0 2) 5 := her_P her02 (by decide) w0 (by omega)
  have H01 : Her pb (nof W pb tb) (PsAt W pb tb len cap (T1 l dr) 0 1) 5 := her_P her01 (by decide) w0 (by omega)
  have H00 : Her pb (nof W pb tb) (PsAt W pb tb len cap (T1 l dr) 0 0) 5 := her_P her00 (by decide) w0 (by omega)
  have c82 : ∀ w x, PsAt W pb tb len cap (T1 l dr) 2 5 w → Calls Tryd.prog 82 #[.pointer (some ⟨pb, 0, none⟩), .int .i64 x] w (Res (PsAt W pb tb len cap (T1 l dr) J 5) (KArr pb 37 l) pb w) := fun w x h => by
    rw [← hJ]
    exact array_P (j := 2) (.inr rfl) _ _ hT rfl hl (by decide) w x h
  have c60 : ∀ w, PsAt W pb tb len cap (T1 l dr) 1 5 w → Calls Tryd.prog 60 #[.pointer (some ⟨pb, 0, none⟩)] w (Res (PsAt W pb tb len cap (T1 l dr) J 5) (KArr pb 37 l) pb w) := fun w h =>
    primary_bracket H15.head hΦ (nay_P cpn15 rfl (by decide) (by decide) w1 (by omega)) (yes_P cbr15 rfl (by decide) (by decide) w1 (by omega)) c82 h
  have c36 := H15.unary t5 hΦ (down_P (j := 1) (by omega)) (nof_lt W pb tb len cap 1 4 _) c60 (suf_P t5 hΦ) (up_P (by omega))
  have c79 : ∀ w, PsAt W pb tb len cap (T1 l dr) 1 4 w → Calls Tryd.prog 79 #[.pointer (some ⟨pb, 0, none⟩)] w (Res (PsAt W pb tb len cap (T1 l dr) J 4) (KArr pb 37 l) pb w) := fun w h => cond_walk t4 hΦ c36 h
  have c55 : ∀ w, PsAt W pb tb len cap (T1 l dr) 1 3 w → Calls Tryd.prog 55 #[.pointer (some ⟨pb, 0, none⟩)] w (Res (PsAt W pb tb len cap (T1 l dr) J 3) (KArr pb 37 l) pb w) := fun w h =>
    assign_tail t4 hΦ (down_P (by omega)) H14.yield (fun w h => bool1 car14 rfl (by decide) h w1 (by omega)) c79 (up_P (by omega)) (.inl rfl) h
  have d60 : ∀ w, PsAt W pb tb len cap (T1 l dr) 0 3 w → Calls Tryd.prog 60 #[.pointer (some ⟨pb, 0, none⟩)] w (Res (PsAt W pb tb len cap (T1 l dr) (J + 1) 3) (KArr pb 37 l) pb w) := fun w h =>
    primary_paren H03.head hΦ (yes_P cpa03 rfl (by decide) (by decide) w0 (by omega)) c55 (want_P cwp83 (by decide) (by decide) w8 (by omega)) h
  have d36 := H03.unary t3 hΦ (down_P (j := 0) (by omega)) (nof_lt W pb tb len cap 0 2 _) d60 (suf_P t3 hΦ) (up_P (by omega))
  have d79 : ∀ w, PsAt W pb tb len cap (T1 l dr) 0 2 w → Calls Tryd.prog 79 #[.pointer (some ⟨pb, 0, none⟩)] w (Res (PsAt W pb tb len cap (T1 l dr) (J + 1) 2) (KArr pb 37 l) pb w) := fun w h => cond_walk t2 hΦ d36 h
  have d55 : ∀ w, PsAt W pb tb len cap (T1 l dr) 0 1 w → Calls Tryd.prog 55 #[.pointer (some ⟨pb, 0, none⟩)] w (Res (PsAt W pb tb len cap (T1 l dr) (J + 1) 1) (KArr pb 37 l) pb w) := fun w h =>
    assign_tail t2 hΦ (down_P (by omega)) H02.yield (fun w h => arrows_walk h l dr hTa hl) d79 (up_P (by omega)) (.inr rfl) h
  have c45 := H01.plain (off_P W pb tb len cap (J + 1) 1 _) hΦ d55 (want_P cws101 (by decide) (by decide) w10 (by omega))
  exact H00.item (wrap_firm hΦ) (fun w h => stmt_walk (off_P W pb tb len cap 0 0 _) hΦ H00.tok (down_P (by omega)) H01.stmt5 c45 (up_P (by omega)) h) h
end
end Go.Proofs.YtcaomilekhhhlaaDoor
