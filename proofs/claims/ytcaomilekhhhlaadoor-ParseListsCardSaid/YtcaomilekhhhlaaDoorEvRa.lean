/- ParseLists: where a statement begins: closed checks, and what they give. No condition. -/
import Derived.Test.YtcaomilekhhhlaaDoorEvQz
namespace Go.Proofs.YtcaomilekhhhlaaDoor
open Go.Ev Go.RowKit
set_option maxHeartbeats 8000000
set_option maxRecDepth 1000000

/-- The words that no statement of the law begins with. -/
def L14 : List (Nat × Nat) := [(7628140, 3), (500152823651, 5), (7957695015192261990, 8), (495857003619, 5), (123, 1), (121437875889522, 6), (512970877044, 5), (461195539042, 5), (7310870969309884259, 8), (431315315065, 5), (45, 1), (43, 1), (33, 1), (112628629272948, 6), (111550592214372, 6), (11051, 2), (11565, 2)]
def L31 : List (Nat × Nat) := [(59, 1), (26217, 2), (435610544247, 5), (28516, 2), (7499622, 3), (7959156, 3), (1936287860, 4), (1819047278, 4), (1702195828, 4), (435728179558, 5), (7957695015192261990, 8), (495857003619, 5)]
noncomputable def noC (g : FuncId) (c d : Nat) (l : List (Nat × Nat)) : Bool := l.all fun p => boolC g [.ptr 20 0, .str p.1 p.2] c d 0 false
noncomputable def herC (c d kd : Nat) : Bool := noC 14 c d L14 && (noC 31 c d L31 && (boolC 8 [.ptr 20 0] c d 0 true && (tokC 9 [.ptr 20 0] c d && tokK 9 [.ptr 20 0] c d kd)))
theorem L14_lt : ∀ p ∈ L14, p.1 < 256 ^ p.2 := by decide +kernel
theorem L31_lt : ∀ p ∈ L31, p.1 < 256 ^ p.2 := by decide +kernel
/-- Where the parser is: so far, so deep. -/
abbrev PsAt (W : World) (pb tb len cap : Nat) (T : List Tok) (j d : Nat) : World → Prop := fun w => Ps W w pb tb len cap j d T
abbrev PfAt (W : World) (pb tb len cap : Nat) (T : List Tok) (j d : Nat) : World → Prop := fun w => Pf W w pb tb len cap j d T
structure Her (pb N : Nat) (S : World → Prop) (kd : Int) : Prop where
  no14 : ∀ p ∈ L14, No pb S 14 (sval p.1 p.2)
  no31 : ∀ p ∈ L31, No pb S 31 (sval p.1 p.2)
  ok : ∀ w, S w → Calls Tryd.prog 8 #[.pointer (some ⟨pb, 0, none⟩)] w fun e w' => e = .returned (.bool true) ∧ S w' ∧ Pk pb w w'
  tok : TokAny pb S
  tokk : ∀ w, S w → Calls Tryd.prog 9 #[.pointer (some ⟨pb, 0, none⟩)] w fun e w' => (∃ (y1 : ByteArray) (y3 x : Int), e = .returned (.agg #[.int .i64 kd, .string y1, .int .i64 x, .int .i64 y3])) ∧ S w' ∧ Pk pb w w'
  off : Off pb N S
theorem Her.n14 {pb N : Nat} {S : World → Prop} {kd : Int} (H : Her pb N S kd) (n k : Nat) (s : ByteArray) (hm : (n, k) ∈ L14) (hs : sval n k = s) : No pb S 14 s := by subst hs; exact H.no14 (n, k) hm
theorem Her.n31 {pb N : Nat} {S : World → Prop} {kd : Int} (H : Her pb N S kd) (n k : Nat) (s : ByteArray) (hm : (n, k) ∈ L31) (hs : sval n k = s) : No pb S 31 s := by subst hs; exact H.no31 (n, k) hm
theorem off_P (W : World) (pb tb len cap j d : Nat) (T : List Tok) : Off pb (nof W pb tb) (PsAt W pb tb len cap T j d) :=
  ⟨by unfold nof; omega, fun w h => by have h1 := (Array.getElem?_eq_some_iff.1 h.hp.blk).1; have h2 := h.htb; have h3 := h.hB.size; unfold nof; omega, fun w w' B h hk hN => h.other hk (by unfold nof at hN; omega) (by unfold nof at hN; omega) (by unfold nof at hN; omega)⟩
theorem off_F (W : World) (pb tb len cap j d : Nat) (T : List Tok) : Off pb (nof W pb tb) (PfAt W pb tb len cap T j d) :=
  ⟨by unfold nof; omega, fun w h => by obtain ⟨x, hx⟩ := h.hp.blk; have h1 := (Array.getElem?_eq_some_iff.1 hx).1; have h2 := h.htb; have h3 := h.hB.size; unfold nof; omega, fun w w' B h hk hN => h.row hk (by unfold nof at hN; omega) (by unfold nof at hN; omega) (by unfold nof at hN; omega)⟩
theorem her_P {W : World} {pb tb len cap j d c kd : Nat} {T : List Tok} (hc : herC c d kd = true) (hw0 : winOf c ≠ []) (hw : WinAt T j c) (hj1 : j ≤ 1000) : Her pb (nof W pb tb) (PsAt W pb tb len cap T j d) kd := by
  unfold herC noC at hc
  simp only [Bool.and_eq_true, List.all_eq_true] at hc
  obtain ⟨a1, a2, a3, a4, a5⟩ := hc
  refine ⟨fun p hp w h => boolS (a1 p hp) rfl hw0 rfl (L14_lt p hp) h hw hj1, fun p hp w h => boolS (a2 p hp) rfl hw0 rfl (L31_lt p hp) h hw hj1, fun w h => bool1 a3 rfl hw0 h hw hj1, fun w h => tok1 a4 rfl hw0 h hw hj1, fun w h => ?_, off_P W pb tb len cap j d T⟩
  obtain ⟨pre, rest, h1, h2⟩ := hw
  exact tok_K a5 rfl h h1 h2 rfl hw0 hj1 (.cons (rP_ptr W j tb len cap pb) .nil)
theorem her00 : herC 0 0 5 = true := by decide +kernel
theorem her01 : herC 0 1 5 = true := by decide +kernel
theorem her02 : herC 0 2 5 = true := by decide +kernel
theorem her03 : herC 0 3 5 = true := by decide +kernel
theorem her10 : herC 1 0 5 = true := by decide +kernel
theorem her11 : herC 1 1 5 = true := by decide +kernel
theorem her12 : herC 1 2 5 = true := by decide +kernel
theorem her13 : herC 1 3 5 = true := by decide +kernel
theorem her14 : herC 1 4 5 = true := by decide +kernel
theorem her15 : herC 1 5 5 = true := by decide +kernel
theorem her20 : herC 2 0 1 = true := by decide +kernel
theorem her21 : herC 2 1 1 = true := by decide +kernel
theorem her22 : herC 2 2 1 = true := by decide +kernel
theorem her23 : herC 2 3 1 = true := by decide +kernel
theorem car12 : boolC 77 [.ptr 20 0] 1 2 0 false = true := by decide +kernel
theorem car14 : boolC 77 [.ptr 20 0] 1 4 0 false = true := by decide +kernel
theorem car22 : boolC 77 [.ptr 20 0] 2 2 0 false = true := by decide +kernel
theorem cpa03 : boolC 31 [.ptr 20 0, .str 40 1] 0 3 1 true = true := by decide +kernel
theorem cpn15 : boolC 31 [.ptr 20 0, .str 40 1] 1 5 0 false = true := by decide +kernel
theorem cpn13 : boolC 31 [.ptr 20 0, .str 40 1] 1 3 0 false = true := by decide +kernel
theorem cbr15 : boolC 31 [.ptr 20 0, .str 91 1] 1 5 1 true = true := by decide +kernel
theorem cbr13 : boolC 31 [.ptr 20 0, .str 91 1] 1 3 1 true = true := by decide +kernel
theorem cwp83 : unitC 16 [.ptr 20 0, .str 41 1] 8 3 1 = true := by decide +kernel
theorem cws101 : unitC 16 [.ptr 20 0, .str 59 1] 10 1 1 = true := by decide +kernel
theorem cas132 : nodeC 55 [.ptr 20 0] 13 2 1 32 = true := by decide +kernel
theorem cen14 : boolC 8 [.ptr 20 0] 14 0 0 true = true := by decide +kernel
theorem cek14 : tokK 9 [.ptr 20 0] 14 0 0 = true := by decide +kernel
theorem cpr23 : nodeC 60 [.ptr 20 0] 2 3 1 32 = true := by decide +kernel
theorem cff1 : unitF 16 [.ptr 20 0, .str 59 1] 6 1 0 = true := by decide +kernel
theorem cfo0 : boolF 8 [.ptr 20 0] 6 0 0 false = true := by decide +kernel
theorem cia21 : boolC 29 [.ptr 20 0, .int .i64 1, .str 58 1] 2 1 0 false = true := by decide +kernel
theorem Her.head {pb N : Nat} {S : World → Prop} (H : Her pb N S 5) : Head pb N S :=
  ⟨H.off.pn, H.off.lt, H.off.off, H.ok, H.tokk, (H.n31 1936287860 4 _ (by decide) rfl), (H.n31 1819047278 4 _ (by decide) rfl), (H.n31 1702195828 4 _ (by decide) rfl), (H.n31 435728179558 5 _ (by decide) rfl), (H.n31 7957695015192261990 8 _ (by decide) rfl), (H.n31 495857003619 5 _ (by decide) rfl)⟩
theorem Her.stmt5 {pb N : Nat} {S : World → Prop} (H : Her pb N S 5) : StmtAt pb S 5 :=
  ⟨(H.n14 123 1 _ (by decide) rfl), (H.n31 59 1 _ (by decide) rfl), (H.n31 26217 2 _ (by decide) rfl), (H.n31 435610544247 5 _ (by decide) rfl), (H.n31 28516 2 _ (by decide) rfl), (H.n31 7499622 3 _ (by decide) rfl), (H.n31 7959156 3 _ (by decide) rfl), (H.n14 121437875889522 6 _ (by decide) rfl), (H.n14 512970877044 5 _ (by decide) rfl), (H.n14 461195539042 5 _ (by decide) rfl), (H.n14 7310870969309884259 8 _ (by decide) rfl), H.tokk, .inl rfl⟩
theorem Her.stmt1 {pb N : Nat} {S : World → Prop} (H : Her pb N S 1) (hc : ∀ w, S w → Calls Tryd.prog 29 #[.pointer (some ⟨pb, 0, none⟩), .int .i64 1, .string ⟨#[58]⟩] w fun e w' => e = .returned (.bool false) ∧ S w' ∧ Pk pb w w') : StmtAt pb S 1 :=
  ⟨(H.n14 123 1 _ (by decide) rfl), (H.n31 59 1 _ (by decide) rfl), (H.n31 26217 2 _ (by decide) rfl), (H.n31 435610544247 5 _ (by decide) rfl), (H.n31 28516 2 _ (by decide) rfl), (H.n31 7499622 3 _ (by decide) rfl), (H.n31 7959156 3 _ (by decide) rfl), (H.n14 121437875889522 6 _ (by decide) rfl), (H.n14 512970877044 5 _ (by decide) rfl), (H.n14 461195539042 5 _ (by decide) rfl), (H.n14 7310870969309884259 8 _ (by decide) rfl), H.tokk, .inr ⟨rfl, hc⟩⟩
theorem Her.beg {pb N : Nat} {S : World → Prop} {kd : Int} (H : Her pb N S kd) : BegAt pb S kd := ⟨H.ok, H.tokk⟩
theorem Her.still {pb N : Nat} {S : World → Prop} {kd : Int} (H : Her pb N S kd) : ∀ w w', S w → Below w.heap.size w w' → S w' := fun w _ h hk => H.off.off w _ _ h hk (H.off.lt w h)
theorem Her.item {pb N : Nat} {S S4 : World → Prop} {kd : Int} {Ψ : Nat → Addr → World → Prop} (H : Her pb N S kd) (hΨ : Firm Ψ pb) (hst : ∀ w, S w → Calls Tryd.prog 19 #[.pointer (some ⟨pb, 0, none⟩)] w (Res S4 Ψ pb w)) {w : World} (h : S w) : Calls Tryd.prog 10 #[.pointer (some ⟨pb, 0, none⟩)] w (Res S4 Ψ pb w) :=
  item_walk hΨ H.tok (H.n14 7628140 3 _ (by decide) rfl) (H.n14 500152823651 5 _ (by decide) rfl) (H.n14 7957695015192261990 8 _ (by decide) rfl) (H.n14 495857003619 5 _ (by decide) rfl) hst h
theorem Her.plain {pb N : Nat} {S1 S2 S3 : World → Prop} {Φ : Nat → Addr → World → Prop} {kd0 : Int} (H : Her pb N S1 kd0) (o2 : Off pb N S2) (hΦ : Firm Φ pb)
    (ha : ∀ w, S1 w → Calls Tryd.prog 55 #[.pointer (some ⟨pb, 0, none⟩)] w (Res S2 Φ pb w))
    (hq : ∀ w, S2 w → Calls Tryd.prog 16 #[.pointer (some ⟨pb, 0, none⟩), .string ⟨#[59]⟩] w fun e w' => e = .returned (.tuple #[]) ∧ S3 w' ∧ Pk pb w w') (w : World) (nn base : Nat) (kd x : Int) (h : S1 w) (hN : N ≤ base) (hb : base ≤ nn) (hl : nn < w.heap.size) (hnode : ArrAt w nn kd x (.slice none 0 0)) :
    Calls Tryd.prog 45 #[.pointer (some ⟨pb, 0, none⟩), .pointer (some ⟨nn, 0, none⟩)] w fun e w' => e = .returned (.tuple #[]) ∧ S3 w' ∧ WrapAt pb Φ base w' nn 18 ∧ Pl base pb w w' :=
  plain_walk H.off o2 hΦ (H.n14 7957695015192261990 8 _ (by decide) rfl) (H.n14 495857003619 5 _ (by decide) rfl) (H.n14 7628140 3 _ (by decide) rfl) (H.n14 500152823651 5 _ (by decide) rfl) ha hq h hN hb hl hnode
theorem Her.unary {S0 S1 Sp S S' : World → Prop} {Φ1 Φ : Nat → Addr → World → Prop} {pb N : Nat} {s0 : ByteArray} {b : Bool} {kd : Int} (H : Her pb N S1 kd) (t : Tail pb N S s0 b) (hΦ : Firm Φ pb) (hdn : Down pb S0 S1) (hN : ∀ w, S0 w → N ≤ w.heap.size)
    (hp : ∀ w, S1 w → Calls Tryd.prog 60 #[.pointer (some ⟨pb, 0, none⟩)] w (Res Sp Φ1 pb w))
    (hx : ∀ w base a, Sp w → Φ1 base a w → N ≤ base → Calls Tryd.prog 59 #[.pointer (some ⟨pb, 0, none⟩), .pointer (some a), .bool true] w fun e w' => ∃ a', e = .returned (.pointer (some a')) ∧ S w' ∧ Φ base a' w' ∧ Pk pb w w') (hup : Up pb S S') (w : World) (h : S0 w) :
    Calls Tryd.prog 36 #[.pointer (some ⟨pb, 0, none⟩)] w (Res S' Φ pb w) :=
  unary_walk t hΦ hdn H.tok H.still hN H.off.pn (H.n14 45 1 _ (by decide) rfl) (H.n14 43 1 _ (by decide) rfl) (H.n14 33 1 _ (by decide) rfl) (H.n14 112628629272948 6 _ (by decide) rfl) (H.n14 111550592214372 6 _ (by decide) rfl) (H.n14 11051 2 _ (by decide) rfl) (H.n14 11565 2 _ (by decide) rfl) hp hx hup h
theorem Her.yield {pb N : Nat} {S : World → Prop} {kd : Int} (H : Her pb N S kd) : No pb S 14 ⟨#[121, 105, 101, 108, 100]⟩ := (H.n14 431315315065 5 _ (by decide) rfl)
end Go.Proofs.YtcaomilekhhhlaaDoor
