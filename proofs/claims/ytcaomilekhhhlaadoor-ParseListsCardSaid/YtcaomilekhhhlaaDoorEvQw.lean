/- ParseLists: an expression as a statement. No condition. -/
import Derived.Test.YtcaomilekhhhlaaDoorEvQv
namespace Go.Proofs.YtcaomilekhhhlaaDoor
open Go.Ev Go.RowKit
set_option maxHeartbeats 16000000
set_option maxRecDepth 1000000

/-- What lies below a base is as it was, but for the parser's block. -/
structure Pl (base pb : Nat) (w w' : World) : Prop where
  os : w'.os = w.os
  tape : w'.tape = w.tape
  output : w'.output = w.output
  size : w.heap.size ≤ w'.heap.size
  block : ∀ k, k < base → k ≠ pb → w'.heap[k]? = w.heap[k]?
theorem Pl.trans {base pb : Nat} {a b c : World} (h : Pl base pb a b) (k : Pl base pb b c) : Pl base pb a c := ⟨k.os.trans h.os, k.tape.trans h.tape, k.output.trans h.output, Nat.le_trans h.size k.size, fun i hi hn => (k.block i hi hn).trans (h.block i hi hn)⟩
theorem Pk.l {base pb : Nat} {w w' : World} (h : Pk pb w w') (hb : base ≤ w.heap.size) : Pl base pb w w' := ⟨h.os, h.tape, h.output, h.size, fun k hk hn => h.block k (Nat.lt_of_lt_of_le hk hb) hn⟩
theorem Below.l {base pb : Nat} {w w' : World} (h : Below base w w') : Pl base pb w w' := ⟨h.os, h.tape, h.output, h.size, fun k hk _ => h.block k hk⟩
theorem Pl.pk {pb : Nat} {w0 w w' : World} (h : Pk pb w0 w) (k : Pl w0.heap.size pb w w') : Pk pb w0 w' := ⟨k.os.trans h.os, k.tape.trans h.tape, k.output.trans h.output, Nat.le_trans h.size k.size, fun i hi hn => (k.block i hi hn).trans (h.block i hi hn)⟩
/-- A node whose first part is known. -/
def WrapAt (pb : Nat) (Φ : Nat → Addr → World → Prop) (base : Nat) (w : World) (nn : Nat) (kd : Int) : Prop :=
  ∃ (x : Int) (g n cap : Nat) (a : Addr), base ≤ nn ∧ nn < w.heap.size ∧ nn ≠ pb ∧ ArrAt w nn kd x (.slice (some ⟨g, 0, none⟩) n cap) ∧ base ≤ g ∧ g < w.heap.size ∧ g ≠ pb ∧ 1 ≤ n ∧ w.cell? ⟨g, 0, none⟩ = some (.pointer (some a)) ∧ Φ base a w
theorem WrapAt.keep {pb : Nat} {Φ : Nat → Addr → World → Prop} (hΦ : Firm Φ pb) {base nn : Nat} {w w' : World} {kd : Int} (h : WrapAt pb Φ base w nn kd) (hk : Pkb base pb w w') : WrapAt pb Φ base w' nn kd := by
  obtain ⟨x, g, n, cap, a, h1, h2, h3, h4, h5, h6, h7, h8, h9, h10⟩ := h
  refine ⟨x, g, n, cap, a, h1, Nat.lt_of_lt_of_le h2 hk.1, h3, ?_, h5, Nat.lt_of_lt_of_le h6 hk.1, h7, h8, ?_, hΦ.keep _ _ _ _ h10 hk⟩
  · unfold ArrAt
    rw [hk.2 nn h1 h2 h3]
    exact h4
  · unfold World.cell?
    rw [hk.2 g h5 h6 h7]
    exact h9
theorem WrapAt.mono {pb : Nat} {Φ : Nat → Addr → World → Prop} (hΦ : Firm Φ pb) {base base' nn : Nat} {w : World} {kd : Int} (h : WrapAt pb Φ base w nn kd) (hb : base' ≤ base) : WrapAt pb Φ base' w nn kd := by
  obtain ⟨x, g, n, cap, a, h1, h2, h3, h4, h5, h6, h7, h8, h9, h10⟩ := h
  exact ⟨x, g, n, cap, a, by omega, h2, h3, h4, by omega, h6, h7, h8, h9, hΦ.mono _ _ _ _ h10 hb⟩
def Wrap (pb : Nat) (kd : Int) (Φ : Nat → Addr → World → Prop) : Nat → Addr → World → Prop := fun base b w => ∃ nn, b = ⟨nn, 0, none⟩ ∧ WrapAt pb Φ base w nn kd
theorem wrap_firm {pb : Nat} {kd : Int} {Φ : Nat → Addr → World → Prop} (hΦ : Firm Φ pb) : Firm (Wrap pb kd Φ) pb :=
  ⟨fun _ _ _ _ ⟨nn, h1, h2⟩ hk => ⟨nn, h1, h2.keep hΦ hk⟩, fun _ _ _ _ ⟨nn, h1, h2⟩ hb => ⟨nn, h1, h2.mono hΦ hb⟩⟩
/-- Where the parser is: what lies above does not matter. -/
structure Off (pb N : Nat) (S : World → Prop) : Prop where
  pn : pb < N
  lt : ∀ w, S w → N ≤ w.heap.size
  off : ∀ w w' B, S w → Below B w w' → N ≤ B → S w'
theorem plain_walk {S1 S2 S3 : World → Prop} {Φ : Nat → Addr → World → Prop} {pb N : Nat} (o1 : Off pb N S1) (o2 : Off pb N S2) (hΦ : Firm Φ pb) (n1 : No pb S1 14 ⟨#[102, 117, 110, 99, 116, 105, 111, 110]⟩) (n2 : No pb S1 14 ⟨#[99, 108, 97, 115, 115]⟩) (n3 : No pb S1 14 ⟨#[108, 101, 116]⟩) (n4 : No pb S1 14 ⟨#[99, 111, 110, 115, 116]⟩)
    (ha : ∀ w, S1 w → Calls Tryd.prog 55 #[.pointer (some ⟨pb, 0, none⟩)] w (Res S2 Φ pb w))
    (hq : ∀ w, S2 w → Calls Tryd.prog 16 #[.pointer (some ⟨pb, 0, none⟩), .string ⟨#[59]⟩] w fun e w' => e = .returned (.tuple #[]) ∧ S3 w' ∧ Pk pb w w') {w : World} {nn base : Nat} {kd x : Int} (h : S1 w) (hN : N ≤ base) (hb : base ≤ nn) (hl : nn < w.heap.size) (hnode : ArrAt w nn kd x (.slice none 0 0)) :
    Calls Tryd.prog 45 #[.pointer (some ⟨pb, 0, none⟩), .pointer (some ⟨nn, 0, none⟩)] w fun e w' => e = .returned (.tuple #[]) ∧ S3 w' ∧ WrapAt pb Φ base w' nn 18 ∧ Pl base pb w w' := by
  obtain ⟨i0, hi, hz0, hz1, hz2⟩ := info_at (P := Tryd.prog) (t := 24) (z := .pointer none) (s := 1) (b := 8) (by kernel_rfl) (by kernel_rfl) (by kernel_rfl)
  have hpn := o1.pn
  go_enter Tryd.func45, Tryd.ntmps45
  go_wp2_with (go_at_call 14; refine (n1 _ h).mono ?_)
  rintro e w1 ⟨rfl, p1, k1⟩
  go_wp2_with (go_at_call 14; refine (n2 _ p1).mono ?_)
  rintro e w2 ⟨rfl, p2, k2⟩
  go_wp2_with (go_at_call 14; refine (n3 _ p2).mono ?_)
  rintro e w3 ⟨rfl, p3, k3⟩
  go_wp2_with (go_at_call 14; refine (n4 _ p3).mono ?_)
  rintro e w4 ⟨rfl, p4, k4⟩
  have k04 := ((k1.trans k2).trans k3).trans k4
  have hnode4 : ArrAt w4 nn kd x (.slice none 0 0) := by unfold ArrAt; rw [k04.block nn hl (by omega)]; exact hnode
  have hl4 : nn < w4.heap.size := Nat.lt_of_lt_of_le hl k04.size
  have hbs := Nat.le_trans hb (Nat.le_of_lt hl)
  have l04 := k04.l (base := base) hbs
  clear k1 k2 k3 k4 p1 p2 p3 k04 hnode hl h n1 n2 n3 n4 hbs
  have b5 : Below base w4 (w4.setCell ⟨nn, 0, none⟩ (.int .i64 18)) := (Below.refl _ w4).setCell (p := ⟨nn, 0, none⟩) hb _
  have p5 := o1.off _ _ _ p4 b5 hN
  have hnode5 : ArrAt (w4.setCell ⟨nn, 0, none⟩ (.int .i64 18)) nn 18 x (.slice none 0 0) := set_blk hnode4 0 _
  have hl5 : nn < (w4.setCell ⟨nn, 0, none⟩ (.int .i64 18)).heap.size := by simp [World.setCell]; exact hl4
  have l05 := l04.trans (Below.l (pb := pb) b5)
  have c0 : w4.cell? ⟨nn, 0, none⟩ = some (.int .i64 kd) := by unfold ArrAt at hnode4; simp [World.cell?, hnode4]
  have q0 : w4.frozen? ⟨nn, 0, none⟩ = false := by unfold ArrAt at hnode4; simp [World.frozen?, hnode4]
  clear b5 l04 hnode4 hl4 p4
  go_wp2
  generalize w4.setCell ⟨nn, 0, none⟩ (.int .i64 18) = w5 at p5 hnode5 hl5 l05 ⊢
  clear c0 q0
  have p6 : S1 w5.drew := o1.off _ _ N p5 (Below.refl _ w5).drew (Nat.le_refl _)
  obtain ⟨s5, f5⟩ := arrS (w' := w5.drew) hnode5 rfl
  have hnode6 : ArrAt w5.drew nn 18 x (.slice none 0 0) := hnode5
  go_region_law (first
      | (refine step_append_lies _ rfl (.tmp 27) (.tmp 30) 30 rfl base 24 i0 (.pointer none) 1 8 Tryd.underlying30 hi hz0 hz1 hz2 rfl (by decide) (.slice none 0 0) 0 [] rfl (World.ownsRow_nil _ _ _ _) ⟨w7.heap.size, 0, none⟩ 1 1 [.pointer (some a)] rfl rfl (by exact news1 w7 _ 24) (by intro u hu; simp at hu; subst hu; rfl) (by decide) (by decide) (by decide) (by have := k7.size; simp; omega) _ rfl ?_; intro g1 cap1 wn hown2 hgrow2 hat2 hlt2; obtain ⟨s9, f9⟩ := arrS hnode7 ((hgrow2.block nn (by simp; omega) (fun q => by cases q)).trans (heap_alloc_old w7 _ hl7)))
      | (go_simp; go_at_call 55; refine (ha _ p6).mono ?_; rintro e w7 ⟨a, rfl, p7, f7, k7⟩; have hnode7 : ArrAt w7 nn 18 x (.slice none 0 0) := (by unfold ArrAt; rw [k7.block nn hl5 (by omega)]; exact hnode6); have hl7 : nn < w7.heap.size := Nat.lt_of_lt_of_le hl5 k7.size; obtain ⟨s7, q7⟩ := arrS hnode7 rfl; obtain ⟨s8, q8⟩ := arrS hnode7 (heap_alloc_old w7 (.cells #[.pointer (some a)] 24) hl7)))
  all_goals
    have hg1 : g1 = (w7.alloc (.cells #[.pointer (some a)] 24)).heap.size := hat2.resolve_left (fun q => by cases q)
    have bn : Below w7.heap.size w7 wn := ((Below.refl _ w7).alloc (Nat.le_refl _) _).grown hgrow2 (by simp) (fun k hk => by cases hk)
    have hgs : w7.heap.size ≤ g1 := by rw [hg1]; simp
    have cg : wn.cell? ⟨g1, 0, none⟩ = some (.pointer (some a)) := row_cell hown2 rfl (j := 0) rfl
    have hlt3 : g1 < wn.heap.size := hlt2
    have hnode9 : ArrAt wn nn 18 x (.slice none 0 0) := by unfold ArrAt; rw [bn.block nn hl7]; exact hnode7
    have f9' := hΦ.keep _ _ _ _ f7 (Pk.below (pb := pb) bn |>.b w5.drew.heap.size)
    have p9 := o2.off _ _ _ p7 (bn.mono (by omega)) hN
    have ln : Pl base pb w7 wn := (Pk.below (pb := pb) bn).l (by omega)
    have hd5 : w5.drew.heap.size = w5.heap.size := rfl
    have l7 : Pl base pb w5.drew w7 := k7.l (by omega)
    have hl9 : nn < wn.heap.size := Nat.lt_of_lt_of_le hl7 bn.size
    have hb5 : base ≤ w5.drew.heap.size := by omega
    clear hown2 hgrow2 hat2 hlt2 s7 q7 s8 q8 s9 f9 hg1 bn p7 k7 f7 hnode7 hnode6 s5 f5 hnode5
    have bf : Below base wn (wn.setCell ⟨nn, 5, none⟩ (.slice (some ⟨g1, 0, none⟩) 1 cap1)) := (Below.refl _ wn).setCell (p := ⟨nn, 5, none⟩) hb _
    have pf := o2.off _ _ _ p9 bf hN
    have nf : ArrAt (wn.setCell ⟨nn, 5, none⟩ (.slice (some ⟨g1, 0, none⟩) 1 cap1)) nn 18 x (.slice (some ⟨g1, 0, none⟩) 1 cap1) := set_blk hnode9 5 _
    have ff := hΦ.mono _ _ _ _ (hΦ.keep _ _ _ _ f9' (Pkb.set (base := w5.drew.heap.size) wn nn 5 (.slice (some ⟨g1, 0, none⟩) 1 cap1) hl5)) hb5
    have cf : (wn.setCell ⟨nn, 5, none⟩ (.slice (some ⟨g1, 0, none⟩) 1 cap1)).cell? ⟨g1, 0, none⟩ = some (.pointer (some a)) := by
      unfold World.cell?
      rw [Below.heap_setCell wn ⟨nn, 5, none⟩ _ g1 (by show g1 ≠ nn; omega)]
      exact cg
    have wr : WrapAt pb Φ base (wn.setCell ⟨nn, 5, none⟩ (.slice (some ⟨g1, 0, none⟩) 1 cap1)) nn 18 := ⟨x, g1, 1, cap1, a, hb, by simp [World.setCell]; exact hl9, by omega, nf, by omega, by simp [World.setCell]; exact hlt3, by omega, Nat.le_refl _, cf, ff⟩
    have lf := ((l05.trans (Below.l (pb := pb) (Below.refl base w5).drew)).trans l7).trans (ln.trans (Below.l (pb := pb) bf))
    clear cf ff nf bf p9 f9' hnode9 cg l05 l7 ln
    generalize wn.setCell ⟨nn, 5, none⟩ (.slice (some ⟨g1, 0, none⟩) 1 cap1) = w9 at pf wr lf ⊢
    go_wp2_with (go_at_call 16; refine (hq _ pf).mono ?_)
    rintro e w10 ⟨rfl, p10, k10⟩
    go_wp2
    have hbl := k10.l (base := base) (by obtain ⟨x, g, n, cap, a, h1, h2, h3⟩ := wr; omega)
    go_end0
    exact ⟨rfl, p10, wr.keep hΦ (k10.b _), lf.trans hbl⟩
end Go.Proofs.YtcaomilekhhhlaaDoor
