/- VmLoops: the loops by induction: from the run's beginning to its end. No condition. -/
import Derived.Test.YtgpogeemhaiicaaGreatDoorEvRn
set_option linter.all false
namespace Go.Proofs.YtgpogeemhaiicaaGreatDoor.Hd
open Go.Ev Go.Proofs.YtgpogeemhaiicaaGreatDoor.Sn Go.Proofs.YtgpogeemhaiicaaGreatDoor.Cm
set_option maxRecDepth 100000
variable {W : World} {nb : Nat} {r : Emb} {h : H} {w : World} {X0 X1 X2 : Nat}

theorem fM3_end (C : Ctx W nb r h w X0 X1 X2) (o l : Bool) {K I m : Nat} (hK : K ≤ 10006) (hI : I ≤ 39) (hw : X0 = I) (hk : K = wantOf X0 X1 X2) : FinB W nb r h w (gM3 o l) K I m := by
  cases o <;> cases l
  · exact st29 C hK hI hw hk
  · exact st43 C hK hI hw hk
  · exact st61 C hK hI hw hk
  · exact st75 C hK hI hw hk
theorem fM3_pgo (C : Ctx W nb r h w X0 X1 X2) (o l : Bool) {K I m : Nat} (hK : K ≤ 10006) (hI : I ≤ 39) (hi : I < X0) (F : FinB W nb r h w (gH3 o l) K I (m + 1)) (hm1 : m < 1000) : FinB W nb r h w (gM3 o l) K I m := by
  cases o <;> cases l
  · exact st30 C hK hI hi F hm1
  · exact st44 C hK hI hi F hm1
  · exact st62 C hK hI hi F hm1
  · exact st76 C hK hI hi F hm1
theorem fH3_brk3 (C : Ctx W nb r h w X0 X1 X2) (o l : Bool) {K I m : Nat} (hK : K ≤ 10006) (hI : I ≤ 39) (hs : X1 = I) (hk : K = wantOf X0 X1 X2) : FinB W nb r h w (gH3 o l) K I m := by
  cases o <;> cases l
  · exact st31 C hK hI hs hk
  · exact st45 C hK hI hs hk
  · exact st63 C hK hI hs hk
  · exact st77 C hK hI hs hk
theorem fH3_cont3 (C : Ctx W nb r h w X0 X1 X2) (o l : Bool) {K I m : Nat} (hK : K ≤ 10006) (hI : I ≤ 39) (hs : X1 ≠ I) (hp : X2 = I) (hI1 : I + 1 ≤ 39) (F : FinB W nb r h w (gM3 o true) K (I + 1) (m + 1)) (hm1 : m < 1000) : FinB W nb r h w (gH3 o l) K I m := by
  cases o <;> cases l
  · exact st32 C hK hI hs hp hI1 F hm1
  · exact st46 C hK hI hs hp hI1 F hm1
  · exact st64 C hK hI hs hp hI1 F hm1
  · exact st78 C hK hI hs hp hI1 F hm1
theorem fH3_go3 (C : Ctx W nb r h w X0 X1 X2) (o l : Bool) {K I m : Nat} (hK : K ≤ 10006) (hI : I ≤ 39) (hs : X1 ≠ I) (hp : X2 ≠ I) (h1 : 1 ≤ K) (h4 : 1 ≤ (3 * K + I) % 10007) (hI1 : I + 1 ≤ 39) (F : FinB W nb r h w (gM3 o l) ((3 * K + I) % 10007) (I + 1) (m + 1)) (hm1 : m < 1000) : FinB W nb r h w (gH3 o l) K I m := by
  cases o <;> cases l
  · exact st33 C hK hI hs hp h1 h4 hI1 F hm1
  · exact st47 C hK hI hs hp h1 h4 hI1 F hm1
  · exact st65 C hK hI hs hp h1 h4 hI1 F hm1
  · exact st79 C hK hI hs hp h1 h4 hI1 F hm1
theorem fG3_brk3 (C : Ctx W nb r h w X0 X1 X2) (o l : Bool) {K I m : Nat} (hK : K ≤ 10006) (hI : I ≤ 39) (hs : X1 = I) (hk : K = wantOf X0 X1 X2) : FinB W nb r h w (gG3 o l) K I m := by
  cases o <;> cases l
  · exact st26 C hK hI hs hk
  · exact st40 C hK hI hs hk
  · exact st58 C hK hI hs hk
  · exact st72 C hK hI hs hk
theorem fG3_cont3 (C : Ctx W nb r h w X0 X1 X2) (o l : Bool) {K I m : Nat} (hK : K ≤ 10006) (hI : I ≤ 39) (hs : X1 ≠ I) (hp : X2 = I) (hI1 : I + 1 ≤ 39) (F : FinB W nb r h w (gM3 o true) K (I + 1) (m + 1)) (hm1 : m < 1000) : FinB W nb r h w (gG3 o l) K I m := by
  cases o <;> cases l
  · exact st27 C hK hI hs hp hI1 F hm1
  · exact st41 C hK hI hs hp hI1 F hm1
  · exact st59 C hK hI hs hp hI1 F hm1
  · exact st73 C hK hI hs hp hI1 F hm1
theorem fG3_go3 (C : Ctx W nb r h w X0 X1 X2) (o l : Bool) {K I m : Nat} (hK : K ≤ 10006) (hI : I ≤ 39) (hs : X1 ≠ I) (hp : X2 ≠ I) (h1 : 1 ≤ K) (h4 : 1 ≤ (3 * K + I) % 10007) (hI1 : I + 1 ≤ 39) (F : FinB W nb r h w (gM3 o l) ((3 * K + I) % 10007) (I + 1) (m + 1)) (hm1 : m < 1000) : FinB W nb r h w (gG3 o l) K I m := by
  cases o <;> cases l
  · exact st28 C hK hI hs hp h1 h4 hI1 F hm1
  · exact st42 C hK hI hs hp h1 h4 hI1 F hm1
  · exact st60 C hK hI hs hp h1 h4 hI1 F hm1
  · exact st74 C hK hI hs hp h1 h4 hI1 F hm1
theorem fP3_end (C : Ctx W nb r h w X0 X1 X2) (o l : Bool) {K I m : Nat} (hK : K ≤ 10006) (hI : I ≤ 39) (hw : X0 = I) (hk : K = wantOf X0 X1 X2) : FinB W nb r h w (gP3 o l) K I m := by
  cases o <;> cases l
  · exact st24 C hK hI hw hk
  · exact st38 C hK hI hw hk
  · exact st56 C hK hI hw hk
  · exact st70 C hK hI hw hk
theorem fP3_pgo (C : Ctx W nb r h w X0 X1 X2) (o l : Bool) {K I m : Nat} (hK : K ≤ 10006) (hI : I ≤ 39) (hi : I < X0) (F : FinB W nb r h w (gG3 o l) K I (m + 1)) (hm1 : m < 1000) : FinB W nb r h w (gP3 o l) K I m := by
  cases o <;> cases l
  · exact st25 C hK hI hi F hm1
  · exact st39 C hK hI hi F hm1
  · exact st57 C hK hI hi F hm1
  · exact st71 C hK hI hi F hm1
theorem fH2_end (C : Ctx W nb r h w X0 X1 X2) (o l : Bool) {K I m : Nat} (hK : K ≤ 10006) (hI : I ≤ 39) (hw : X0 = I) (hk : K = wantOf X0 X1 X2) (F : FinB W nb r h w (gP3 o l) 1 0 (m + 1)) (hm1 : m < 1000) : FinB W nb r h w (gH2 o l) K I m := by
  cases o <;> cases l
  · exact st20 C hK hI hw hk F hm1
  · exact st34 C hK hI hw hk F hm1
  · exact st52 C hK hI hw hk F hm1
  · exact st66 C hK hI hw hk F hm1
theorem fH2_brk (C : Ctx W nb r h w X0 X1 X2) (o l : Bool) {K I m : Nat} (hK : K ≤ 10006) (hI : I ≤ 39) (hi : I < X0) (hs : X1 = I) (hk : K = wantOf X0 X1 X2) (F : FinB W nb r h w (gP3 o true) 1 0 (m + 1)) (hm1 : m < 1000) : FinB W nb r h w (gH2 o l) K I m := by
  cases o <;> cases l
  · exact st21 C hK hI hi hs hk F hm1
  · exact st35 C hK hI hi hs hk F hm1
  · exact st53 C hK hI hi hs hk F hm1
  · exact st67 C hK hI hi hs hk F hm1
theorem fH2_cont (C : Ctx W nb r h w X0 X1 X2) (o l : Bool) {K I m : Nat} (hK : K ≤ 10006) (hI : I ≤ 39) (hi : I < X0) (hs : X1 ≠ I) (hp : X2 = I) (F : FinB W nb r h w (gH2 o true) K (I + 1) (m + 1)) (hm1 : m < 1000) : FinB W nb r h w (gH2 o l) K I m := by
  cases o <;> cases l
  · exact st22 C hK hI hi hs hp F hm1
  · exact st36 C hK hI hi hs hp F hm1
  · exact st54 C hK hI hi hs hp F hm1
  · exact st68 C hK hI hi hs hp F hm1
theorem fH2_go (C : Ctx W nb r h w X0 X1 X2) (o l : Bool) {K I m : Nat} (hK : K ≤ 10006) (hI : I ≤ 39) (hi : I < X0) (hs : X1 ≠ I) (hp : X2 ≠ I) (h1 : 1 ≤ K) (h4 : 1 ≤ (3 * K + I) % 10007) (F : FinB W nb r h w (gH2 o l) ((3 * K + I) % 10007) (I + 1) (m + 1)) (hm1 : m < 1000) : FinB W nb r h w (gH2 o l) K I m := by
  cases o <;> cases l
  · exact st23 C hK hI hi hs hp h1 h4 F hm1
  · exact st37 C hK hI hi hs hp h1 h4 F hm1
  · exact st55 C hK hI hi hs hp h1 h4 F hm1
  · exact st69 C hK hI hi hs hp h1 h4 F hm1
theorem fH1_end (C : Ctx W nb r h w X0 X1 X2) (o l : Bool) {K I m : Nat} (hK : K ≤ 10006) (hI : I ≤ 39) (hw : X0 = I) (hk : K = wantOf X0 X1 X2) (F : FinB W nb r h w (gH2 o l) 1 0 (m + 1)) (hm1 : m < 1000) : FinB W nb r h w (gH1 o l) K I m := by
  cases o <;> cases l
  · exact st12 C hK hI hw hk F hm1
  · exact st16 C hK hI hw hk F hm1
  · exact st4 C hK hI hw hk F hm1
  · exact st8 C hK hI hw hk F hm1
theorem fH1_brk (C : Ctx W nb r h w X0 X1 X2) (o l : Bool) {K I m : Nat} (hK : K ≤ 10006) (hI : I ≤ 39) (hi : I < X0) (hs : X1 = I) (hk : K = wantOf X0 X1 X2) (F : FinB W nb r h w (gH2 o true) 1 0 (m + 1)) (hm1 : m < 1000) : FinB W nb r h w (gH1 o l) K I m := by
  cases o <;> cases l
  · exact st13 C hK hI hi hs hk F hm1
  · exact st17 C hK hI hi hs hk F hm1
  · exact st5 C hK hI hi hs hk F hm1
  · exact st9 C hK hI hi hs hk F hm1
theorem fH1_cont (C : Ctx W nb r h w X0 X1 X2) (o : Bool) {K I m : Nat} (hK : K ≤ 10006) (hI : I ≤ 39) (hi : I < X0) (hs : X1 ≠ I) (hp : X2 = I) (F : FinB W nb r h w (gH1 (!o) true) K (I + 1) (m + 1)) (hm1 : m < 1000) : FinB W nb r h w (gH1 o false) K I m := by
  cases o
  · exact st14 C hK hI hi hs hp F hm1
  · exact st6 C hK hI hi hs hp F hm1
theorem fH1_go (C : Ctx W nb r h w X0 X1 X2) (o l : Bool) {K I m : Nat} (hK : K ≤ 10006) (hI : I ≤ 39) (hi : I < X0) (hs : X1 ≠ I) (hp : X2 ≠ I) (h1 : 1 ≤ K) (h4 : 1 ≤ (3 * K + I) % 10007) (F : FinB W nb r h w (gH1 (!o) l) ((3 * K + I) % 10007) (I + 1) (m + 1)) (hm1 : m < 1000) : FinB W nb r h w (gH1 o l) K I m := by
  cases o <;> cases l
  · exact st15 C hK hI hi hs hp h1 h4 F hm1
  · exact st18 C hK hI hi hs hp h1 h4 F hm1
  · exact st7 C hK hI hi hs hp h1 h4 F hm1
  · exact st10 C hK hI hi hs hp h1 h4 F hm1
theorem fH2_lit21 (C : Ctx W nb r h w X0 X1 X2) (o : Bool) {m : Nat} (e2 : X2 = 4) (q0 : 22 ≤ X0) (q1 : 22 ≤ X1) (F : FinB W nb r h w (gH2 o true) 0 22 (m + 1)) (hm1 : m < 1000) : FinB W nb r h w (gH2 o true) 10000 21 m := by
  cases o
  · exact st48 C e2 q0 q1 F hm1
  · exact st80 C e2 q0 q1 F hm1
theorem fH2_lit22 (C : Ctx W nb r h w X0 X1 X2) (o : Bool) {m : Nat} (e2 : X2 = 4) (q0 : 23 ≤ X0) (q1 : 23 ≤ X1) (F : FinB W nb r h w (gH2 o true) 22 23 (m + 1)) (hm1 : m < 1000) : FinB W nb r h w (gH2 o true) 0 22 m := by
  cases o
  · exact st49 C e2 q0 q1 F hm1
  · exact st81 C e2 q0 q1 F hm1
theorem fH3_lit321 (C : Ctx W nb r h w X0 X1 X2) (o : Bool) {m : Nat} (e2 : X2 = 4) (q1 : 22 ≤ X1) (F : FinB W nb r h w (gM3 o true) 0 22 (m + 1)) (hm1 : m < 1000) : FinB W nb r h w (gH3 o true) 10000 21 m := by
  cases o
  · exact st50 C e2 q1 F hm1
  · exact st82 C e2 q1 F hm1
theorem fH3_lit322 (C : Ctx W nb r h w X0 X1 X2) (o : Bool) {m : Nat} (e2 : X2 = 4) (q1 : 23 ≤ X1) (F : FinB W nb r h w (gM3 o true) 22 23 (m + 1)) (hm1 : m < 1000) : FinB W nb r h w (gH3 o true) 0 22 m := by
  cases o
  · exact st51 C e2 q1 F hm1
  · exact st83 C e2 q1 F hm1

/-- What is so at a count of rounds. -/
theorem want_min (h : X0 ≤ X1) : kAt X2 X0 = wantOf X0 X1 X2 := by rw [want_kAt, Nat.min_eq_left h]
theorem want_stop (h : X1 ≤ X0) : kAt X2 X1 = wantOf X0 X1 X2 := by rw [want_kAt, Nat.min_eq_right h]

/-! The third loop. -/
theorem M3_fin (C : Ctx W nb r h w X0 X1 X2) : ∀ (d : Nat) (o l : Bool) (I m : Nat), I + d = X0 → I ≤ X1 → (X2 < I → l = true) → m + 2 * d ≤ 900 → FinB W nb r h w (gM3 o l) (kAt X2 I) I m
  | 0, o, l, I, m, hd, h1, hl, hm => by
    have b0 := C.nm.b0
    have b2 := C.nm.b2
    have e : X0 = I := by omega
    exact fM3_end C o l (kAt_ok b2 (by omega)).1 (by omega) e (by rw [← e]; exact want_min (by omega))
  | d + 1, o, l, I, m, hd, h1, hl, hm => by
    have b0 := C.nm.b0
    have b2 := C.nm.b2
    obtain ⟨kb, kf⟩ := kAt_ok (X2 := X2) (i := I) b2 (by omega)
    refine fM3_pgo C o l kb (by omega) (by omega) ?_ (by omega)
    by_cases hs : X1 = I
    · exact fH3_brk3 C o l kb (by omega) hs (by rw [← hs]; exact want_stop (by omega))
    by_cases hp : X2 = I
    · refine fH3_cont3 C o l kb (by omega) hs hp (by omega) ?_ (by omega)
      rw [← kAt_stay hp.symm]
      exact M3_fin C d o true (I + 1) (m + 1 + 1) (by omega) (by omega) (fun _ => rfl) (by omega)
    by_cases h21 : X2 = 4 ∧ I = 21
    · obtain ⟨e2, rfl⟩ := h21
      obtain rfl := hl (by omega)
      rw [e2, kAt_21]
      refine fH3_lit321 C o e2 (by omega) ?_ (by omega)
      have := M3_fin C d o true 22 (m + 1 + 1) (by omega) (by omega) (fun _ => rfl) (by omega)
      rw [e2, kAt_22] at this
      exact this
    by_cases h22 : X2 = 4 ∧ I = 22
    · obtain ⟨e2, rfl⟩ := h22
      obtain rfl := hl (by omega)
      rw [e2, kAt_22]
      refine fH3_lit322 C o e2 (by omega) ?_ (by omega)
      have := M3_fin C d o true 23 (m + 1 + 1) (by omega) (by omega) (fun _ => rfl) (by omega)
      rw [e2, kAt_23] at this
      exact this
    · obtain ⟨k1, k4⟩ := kf (by omega) (by omega)
      refine fH3_go3 C o l kb (by omega) hs hp k1 k4 (by omega) ?_ (by omega)
      rw [← kAt_go (fun e => hp e.symm)]
      exact M3_fin C d o l (I + 1) (m + 1 + 1) (by omega) (by omega) (fun q => hl (by omega)) (by omega)
theorem P3_fin (C : Ctx W nb r h w X0 X1 X2) (o l : Bool) (m : Nat) (hm : m ≤ 700) : FinB W nb r h w (gP3 o l) 1 0 m := by
  have b0 := C.nm.b0
  by_cases h0 : X0 = 0
  · exact fP3_end C o l (by decide) (by decide) h0 (by have := want_min (X0 := X0) (X1 := X1) (X2 := X2) (by omega); rw [h0] at this ⊢; exact this)
  · refine fP3_pgo C o l (by decide) (by decide) (by omega) ?_ (by omega)
    by_cases hs : X1 = 0
    · exact fG3_brk3 C o l (by decide) (by decide) hs (by have := want_stop (X0 := X0) (X1 := X1) (X2 := X2) (by omega); rw [hs] at this ⊢; exact this)
    by_cases hp : X2 = 0
    · refine fG3_cont3 C o l (by decide) (by decide) hs hp (by omega) ?_ (by omega)
      have := M3_fin C (X0 - 1) o true 1 (m + 1 + 1) (by omega) (by omega) (fun _ => rfl) (by omega)
      rw [kAt_stay hp.symm] at this
      exact this
    · refine fG3_go3 C o l (by decide) (by decide) hs hp (by decide) (by decide) (by omega) ?_ (by omega)
      have := M3_fin C (X0 - 1) o l 1 (m + 1 + 1) (by omega) (by omega) (fun q => by omega) (by omega)
      rw [kAt_go (fun e => hp e.symm)] at this
      exact this
/-! The second loop. -/
theorem H2_fin (C : Ctx W nb r h w X0 X1 X2) : ∀ (d : Nat) (o l : Bool) (I m : Nat), I + d = X0 → I ≤ X1 → (X2 < I → l = true) → m + d ≤ 600 → FinB W nb r h w (gH2 o l) (kAt X2 I) I m
  | 0, o, l, I, m, hd, h1, hl, hm => by
    have b0 := C.nm.b0
    have b2 := C.nm.b2
    have e : X0 = I := by omega
    exact fH2_end C o l (kAt_ok b2 (by omega)).1 (by omega) e (by rw [← e]; exact want_min (by omega)) (P3_fin C o l (m + 1) (by omega)) (by omega)
  | d + 1, o, l, I, m, hd, h1, hl, hm => by
    have b0 := C.nm.b0
    have b2 := C.nm.b2
    obtain ⟨kb, kf⟩ := kAt_ok (X2 := X2) (i := I) b2 (by omega)
    by_cases hs : X1 = I
    · exact fH2_brk C o l kb (by omega) (by omega) hs (by rw [← hs]; exact want_stop (by omega)) (P3_fin C o true (m + 1) (by omega)) (by omega)
    by_cases hp : X2 = I
    · refine fH2_cont C o l kb (by omega) (by omega) hs hp ?_ (by omega)
      rw [← kAt_stay hp.symm]
      exact H2_fin C d o true (I + 1) (m + 1) (by omega) (by omega) (fun _ => rfl) (by omega)
    by_cases h21 : X2 = 4 ∧ I = 21
    · obtain ⟨e2, rfl⟩ := h21
      obtain rfl := hl (by omega)
      rw [e2, kAt_21]
      refine fH2_lit21 C o e2 (by omega) (by omega) ?_ (by omega)
      have := H2_fin C d o true 22 (m + 1) (by omega) (by omega) (fun _ => rfl) (by omega)
      rw [e2, kAt_22] at this
      exact this
    by_cases h22 : X2 = 4 ∧ I = 22
    · obtain ⟨e2, rfl⟩ := h22
      obtain rfl := hl (by omega)
      rw [e2, kAt_22]
      refine fH2_lit22 C o e2 (by omega) (by omega) ?_ (by omega)
      have := H2_fin C d o true 23 (m + 1) (by omega) (by omega) (fun _ => rfl) (by omega)
      rw [e2, kAt_23] at this
      exact this
    · obtain ⟨k1, k4⟩ := kf (by omega) (by omega)
      refine fH2_go C o l kb (by omega) (by omega) hs hp k1 k4 ?_ (by omega)
      rw [← kAt_go (fun e => hp e.symm)]
      exact H2_fin C d o l (I + 1) (m + 1) (by omega) (by omega) (fun q => hl (by omega)) (by omega)
theorem H2_first (C : Ctx W nb r h w X0 X1 X2) (o l : Bool) (m : Nat) (hm : m ≤ 500) : FinB W nb r h w (gH2 o l) 1 0 m := by
  have b0 := C.nm.b0
  exact H2_fin C X0 o l 0 m (by omega) (by omega) (fun q => by omega) (by omega)
/-! The first loop. -/
def odd (I : Nat) : Bool := Nat.beq (I % 2) 1
theorem odd_succ (I : Nat) : odd (I + 1) = !(odd I) := by
  unfold odd
  have h : I % 2 = 0 ∨ I % 2 = 1 := by omega
  rcases h with q | q
  · rw [q, show (I + 1) % 2 = 1 by omega]; rfl
  · rw [q, show (I + 1) % 2 = 0 by omega]; rfl
theorem H1_fin (C : Ctx W nb r h w X0 X1 X2) : ∀ (d : Nat) (l : Bool) (I m : Nat), 1 ≤ I → I + d = X0 → I ≤ X1 → (X2 < I ↔ l = true) → m + d ≤ 400 → FinB W nb r h w (gH1 (odd I) l) (kAt X2 I) I m
  | 0, l, I, m, h0, hd, h1, hl, hm => by
    have b0 := C.nm.b0
    have b2 := C.nm.b2
    have e : X0 = I := by omega
    exact fH1_end C (odd I) l (kAt_ok b2 (by omega)).1 (by omega) e (by rw [← e]; exact want_min (by omega)) (H2_first C (odd I) l (m + 1) (by omega)) (by omega)
  | d + 1, l, I, m, h0, hd, h1, hl, hm => by
    have b0 := C.nm.b0
    have b2 := C.nm.b2
    obtain ⟨kb, kf⟩ := kAt_ok (X2 := X2) (i := I) b2 (by omega)
    by_cases hs : X1 = I
    · exact fH1_brk C (odd I) l kb (by omega) (by omega) hs (by rw [← hs]; exact want_stop (by omega)) (H2_first C (odd I) true (m + 1) (by omega)) (by omega)
    by_cases hp : X2 = I
    · have hl0 : l = false := by
        cases l
        · rfl
        · have := hl.2 rfl; omega
      subst hl0
      refine fH1_cont C (odd I) kb (by omega) (by omega) hs hp ?_ (by omega)
      rw [← kAt_stay hp.symm, ← odd_succ]
      exact H1_fin C d true (I + 1) (m + 1) (by omega) (by omega) (by omega) ⟨fun _ => rfl, fun _ => by omega⟩ (by omega)
    by_cases h21 : X2 = 4 ∧ I = 21
    · obtain ⟨e2, rfl⟩ := h21
      obtain rfl := hl.1 (by omega)
      rw [e2, kAt_21]
      refine st11 C e2 (by omega) (by omega) ?_ (by omega)
      have := H1_fin C d true 22 (m + 1) (by omega) (by omega) (by omega) ⟨fun _ => rfl, fun _ => by omega⟩ (by omega)
      rw [e2, kAt_22] at this
      exact this
    by_cases h22 : X2 = 4 ∧ I = 22
    · obtain ⟨e2, rfl⟩ := h22
      obtain rfl := hl.1 (by omega)
      rw [e2, kAt_22]
      refine st19 C e2 (by omega) (by omega) ?_ (by omega)
      have := H1_fin C d true 23 (m + 1) (by omega) (by omega) (by omega) ⟨fun _ => rfl, fun _ => by omega⟩ (by omega)
      rw [e2, kAt_23] at this
      exact this
    · obtain ⟨k1, k4⟩ := kf (by omega) (by omega)
      refine fH1_go C (odd I) l kb (by omega) (by omega) hs hp k1 k4 ?_ (by omega)
      rw [← kAt_go (fun e => hp e.symm), ← odd_succ]
      exact H1_fin C d l (I + 1) (m + 1) (by omega) (by omega) (by omega) ⟨fun q => hl.1 (by omega), fun q => by have := hl.2 q; omega⟩ (by omega)
theorem F_fin (C : Ctx W nb r h w X0 X1 X2) : FinB W nb r h w gF 1 0 0 := by
  have b0 := C.nm.b0
  by_cases h0 : X0 = 0
  · exact st0 C (by decide) (by decide) h0 (by have := want_min (X0 := X0) (X1 := X1) (X2 := X2) (by omega); rw [h0] at this ⊢; exact this) (H2_first C false false 1 (by omega)) (by omega)
  by_cases hs : X1 = 0
  · exact st1 C (by decide) (by decide) (by omega) hs (by have := want_stop (X0 := X0) (X1 := X1) (X2 := X2) (by omega); rw [hs] at this ⊢; exact this) (H2_first C false true 1 (by omega)) (by omega)
  by_cases hp : X2 = 0
  · refine st2 C (by decide) (by decide) (by omega) hs hp ?_ (by omega)
    have := H1_fin C (X0 - 1) true 1 1 (by omega) (by omega) (by omega) ⟨fun _ => rfl, fun _ => by omega⟩ (by omega)
    rw [kAt_stay hp.symm] at this
    exact this
  · refine st3 C (by decide) (by decide) (by omega) hs hp (by decide) (by decide) ?_ (by omega)
    have := H1_fin C (X0 - 1) false 1 1 (by omega) (by omega) (by omega) ⟨fun q => by omega, fun q => by cases q⟩ (by omega)
    rw [kAt_go (fun e => hp e.symm)] at this
    exact this
end Go.Proofs.YtgpogeemhaiicaaGreatDoor.Hd
