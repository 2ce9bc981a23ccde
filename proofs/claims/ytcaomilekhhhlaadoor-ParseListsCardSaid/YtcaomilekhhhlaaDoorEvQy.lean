/- ParseLists: a pattern and its value. No condition. -/
import Derived.Test.YtcaomilekhhhlaaDoorEvQx
namespace Go.Proofs.YtcaomilekhhhlaaDoor
open Go.Ev Go.RowKit
set_option maxHeartbeats 16000000
set_option maxRecDepth 1000000

theorem tokc {w w' : World} {tk : Nat} {y0 : Int} {y1 : ByteArray} {x y3 : Int} (h : w.heap[tk]? = some (.cells #[.int .i64 y0, .string y1, .int .i64 x, .int .i64 y3] 42 (0, 0))) (hk : w'.heap[tk]? = w.heap[tk]?) : w'.cell? ⟨tk, 1, none⟩ = some (.string y1) ∧ w'.cell? ⟨tk, 2, none⟩ = some (.int .i64 x) := by
  rw [← hk] at h
  simp [World.cell?, h]
theorem assign_eq {S0 S1 S S2 S3 S4 : World → Prop} {Φ Φ2 : Nat → Addr → World → Prop} {pb N : Nat} (t : Tail pb N S ⟨#[61]⟩ true) (o3 : Off pb N S3) (hΦ : Firm Φ pb) (hΦ2 : Firm Φ2 pb) (hdn : Down pb S0 S1) (hN : ∀ w, S0 w → N ≤ w.heap.size) (hy : No pb S1 14 ⟨#[121, 105, 101, 108, 100]⟩) (ha : ∀ w, S1 w → Calls Tryd.prog 77 #[.pointer (some ⟨pb, 0, none⟩)] w fun e w' => e = .returned (.bool false) ∧ S1 w' ∧ Pk pb w w') (hc : ∀ w, S1 w → Calls Tryd.prog 79 #[.pointer (some ⟨pb, 0, none⟩)] w (Res S Φ pb w))
    (hre : ∀ w base a, S w → Φ base a w → N ≤ base → Calls Tryd.prog 64 #[.pointer (some ⟨pb, 0, none⟩), .pointer (some a)] w fun e w' => ∃ a', e = .returned (.pointer (some a')) ∧ S w' ∧ Φ2 base a' w' ∧ Pk pb w w')
    (hat : ∀ w, S w → ∃ j j' : Int, w.cell? ⟨pb, 1, none⟩ = some (.int .i64 j) ∧ w.frozen? ⟨pb, 1, none⟩ = false ∧ IntKind.i64.wrap (j + 1) = j' ∧ S2 (w.setCell ⟨pb, 1, none⟩ (.int .i64 j')) ∧ Pk pb w (w.setCell ⟨pb, 1, none⟩ (.int .i64 j'))) (hs2 : ∀ w, S2 w → S2 w.drew)
    (hb : ∀ w, S2 w → Calls Tryd.prog 55 #[.pointer (some ⟨pb, 0, none⟩)] w fun e w' => ∃ a, e = .returned (.pointer (some a)) ∧ S3 w' ∧ Pk pb w w') (hup : Up pb S3 S4) {w : World} (h : S0 w) :
    Calls Tryd.prog 55 #[.pointer (some ⟨pb, 0, none⟩)] w (Res S4 (Wrap pb 49 Φ2) pb w) := by
  have hN0 := hN _ h
  go_enter_defers Tryd.func55, Tryd.ntmps55
  go_wp2_with (go_at_call 39; refine (hdn _ h).mono ?_)
  rintro e w1 ⟨rfl, p1, k1⟩
  go_wp2_with (go_at_call 14; refine (hy _ p1).mono ?_)
  rintro e w2 ⟨rfl, p2, k2⟩
  go_wp2_with (go_at_call 77; refine (ha _ p2).mono ?_)
  rintro e w3 ⟨rfl, p3, k3⟩
  go_wp2_with (go_at_call 79; refine (hc _ p3).mono ?_)
  rintro e w4 ⟨a, rfl, p4, f4, k4⟩
  go_wp2_with (go_at_call 9; refine (t.tok _ p4).mono ?_)
  rintro e w5 ⟨⟨y0, y1, x, y3, rfl, hyy⟩, p5, k5⟩
  obtain ⟨rfl, rfl⟩ := hyy rfl
  have k15 := (((k1.trans k2).trans k3).trans k4).trans k5
  have f5 := hΦ.up f4 ((k1.trans k2).trans k3).size k5
  clear k1 k2 k3 k4 k5 f4 p1 p2 p3 p4
  have al : Below w5.heap.size w5 (w5.alloc (.cells #[.int .i64 5, .string ⟨#[61]⟩, .int .i64 x, .int .i64 y3] 42)) := (Below.refl _ w5).alloc (Nat.le_refl _) _
  have p6 := t.still _ _ p5 al
  have f6 := hΦ.up f5 (Nat.le_refl _) (Pk.below al)
  have k06 := k15.trans (Pk.below (pb := pb) al)
  have hblk := heap_alloc_new w5 (.cells #[.int .i64 5, .string ⟨#[61]⟩, .int .i64 x, .int .i64 y3] 42)
  have hsz : w5.heap.size < (w5.alloc (.cells #[.int .i64 5, .string ⟨#[61]⟩, .int .i64 x, .int .i64 y3] 42)).heap.size := by simp
  have hpt : pb < w5.heap.size := Nat.lt_of_lt_of_le t.pn (t.lt _ p5)
  clear al p5 f5 k15
  go_wp2_with (go_at_call 8; refine (t.ok _ p6).mono ?_)
  generalize w5.alloc (Obj.cells #[.int .i64 5, .string ⟨#[61]⟩, .int .i64 x, .int .i64 y3] 42) = w6 at p6 f6 k06 hblk hsz ⊢
  generalize w5.heap.size = tk at hblk hsz hpt ⊢
  rintro e w7 ⟨rfl, p7, k7⟩
  have f7 := hΦ.up f6 (Nat.le_refl _) k7
  have k07 := k06.trans k7
  have hblk7 := (k7.block tk hsz (by omega)).trans hblk
  have hsz7 : tk < w7.heap.size := Nat.lt_of_lt_of_le hsz k7.size
  have c0 : w7.cell? ⟨tk, 0, none⟩ = some (.int .i64 5) := by simp [World.cell?, hblk7]
  have c1 : w7.cell? ⟨tk, 1, none⟩ = some (.string ⟨#[61]⟩) := by simp [World.cell?, hblk7]
  clear hblk hsz f6 k06 p6 k7
  go_wp2_with (go_at_call 64; refine (hre _ _ _ p7 f7 hN0).mono ?_)
  clear c0 c1
  rintro e w8 ⟨b, rfl, p8, f8, k8⟩
  obtain ⟨j, j', cj, fj, hj, p9, k9⟩ := hat _ p8
  have hblk9 := (k9.block tk (Nat.lt_of_lt_of_le hsz7 k8.size) (by omega)).trans ((k8.block tk hsz7 (by omega)).trans hblk7)
  have hsz9 : tk < (w8.setCell ⟨pb, 1, none⟩ (.int .i64 j')).heap.size := Nat.lt_of_lt_of_le (Nat.lt_of_lt_of_le hsz7 k8.size) k9.size
  have f9 := hΦ2.up f8 (Nat.le_refl _) k9
  have k09 := (k07.trans k8).trans k9
  clear hblk7 hsz7 f7 k07 p7 k8 k9 f8
  go_wp2
  clear cj fj hj p8
  generalize w8.setCell ⟨pb, 1, none⟩ (.int .i64 j') = w9 at p9 hblk9 hsz9 f9 k09 ⊢
  have p10 := hs2 _ p9
  obtain ⟨d1, d2⟩ := tokc (w' := w9.drew) hblk9 rfl
  have hwz : IntKind.i64.wrap 0 = 0 := by decide
  have hex : (⟨#[61]⟩ : ByteArray).extract 0 0 = ⟨#[]⟩ := by decide
  go_region_held3 (fun w' => w'.cell? ⟨tk, 1, none⟩ = some (.string ⟨#[61]⟩) ∧ w'.cell? ⟨tk, 2, none⟩ = some (.int .i64 x)) (first | exact ⟨d1, d2⟩ | exact ⟨e1, e2⟩ | exact ⟨g1, g2⟩ | exact ⟨i1, i2⟩)
    (first
      | (go_at_call 55; refine (hb _ p10).mono ?_; rintro e w11 ⟨a2, rfl, p11, k11⟩; have hblk11 := (k11.block tk hsz9 (by omega)).trans hblk9; have hsz11 : tk < w11.heap.size := Nat.lt_of_lt_of_le hsz9 k11.size; obtain ⟨e1, e2⟩ := tokc (w' := w11) hblk11 rfl; obtain ⟨g1, g2⟩ := tokc hblk11 (heap_alloc_old w11 (.cells #[.pointer (some b), .pointer (some a2)] 24) hsz11))
      | (go_at_call 7; refine (make_walk _ _ _ _ _ ⟨_, _, _, rfl⟩).mono ?_; rintro e w12 ⟨rfl, rfl⟩; obtain ⟨i1, i2⟩ := tokc hblk11 ((heap_alloc_old (w11.alloc (.cells #[.pointer (some b), .pointer (some a2)] 24)) (.cells #[.int .i64 49, .int .i64 x, .string ⟨#[]⟩, .int .i64 0, .int .i64 0, .slice (some ⟨w11.heap.size, 0, none⟩) 2 2] 32) (by simp; omega)).trans (heap_alloc_old w11 (.cells #[.pointer (some b), .pointer (some a2)] 24) hsz11))))
  clear d1 d2 e1 e2 g1 g2 i1 i2
  have b11 : Below w11.heap.size w11 ((w11.alloc (.cells #[.pointer (some b), .pointer (some a2)] 24)).alloc (.cells #[.int .i64 49, .int .i64 x, .string ByteArray.empty, .int .i64 0, .int .i64 0, .slice (some ⟨w11.heap.size, 0, none⟩) 2 2] 32)) := ((Below.refl _ w11).alloc (Nat.le_refl _) _).alloc (by simp) _
  have hnode : ArrAt ((w11.alloc (.cells #[.pointer (some b), .pointer (some a2)] 24)).alloc (.cells #[.int .i64 49, .int .i64 x, .string ByteArray.empty, .int .i64 0, .int .i64 0, .slice (some ⟨w11.heap.size, 0, none⟩) 2 2] 32)) (w11.heap.size + 1) 49 x (.slice (some ⟨w11.heap.size, 0, none⟩) 2 2) := by
    have := heap_alloc_new (w11.alloc (.cells #[.pointer (some b), .pointer (some a2)] 24)) (.cells #[.int .i64 49, .int .i64 x, .string ByteArray.empty, .int .i64 0, .int .i64 0, .slice (some ⟨w11.heap.size, 0, none⟩) 2 2] 32)
    rw [show (w11.alloc (.cells #[.pointer (some b), .pointer (some a2)] 24)).heap.size = w11.heap.size + 1 by simp] at this
    exact this
  have cg : ((w11.alloc (.cells #[.pointer (some b), .pointer (some a2)] 24)).alloc (.cells #[.int .i64 49, .int .i64 x, .string ByteArray.empty, .int .i64 0, .int .i64 0, .slice (some ⟨w11.heap.size, 0, none⟩) 2 2] 32)).cell? ⟨w11.heap.size, 0, none⟩ = some (.pointer (some b)) := by
    unfold World.cell?
    rw [heap_alloc_old (w11.alloc (.cells #[.pointer (some b), .pointer (some a2)] 24)) _ (by simp), heap_alloc_new w11 _]
    rfl
  have hsF : ((w11.alloc (.cells #[.pointer (some b), .pointer (some a2)] 24)).alloc (.cells #[.int .i64 49, .int .i64 x, .string ByteArray.empty, .int .i64 0, .int .i64 0, .slice (some ⟨w11.heap.size, 0, none⟩) 2 2] 32)).heap.size = w11.heap.size + 2 := by simp
  generalize ((w11.alloc (.cells #[.pointer (some b), .pointer (some a2)] 24)).alloc (.cells #[.int .i64 49, .int .i64 x, .string ByteArray.empty, .int .i64 0, .int .i64 0, .slice (some ⟨w11.heap.size, 0, none⟩) 2 2] 32)) = wF at b11 hnode cg hsF ⊢
  have kd : Pk pb w9 w9.drew := Pk.below (Below.refl _ w9).drew
  have f11 := hΦ2.up f9 (Nat.le_refl _) ((kd.trans k11).trans (Pk.below b11))
  have pF := o3.off _ _ _ p11 b11 (o3.lt _ p11)
  have kF := ((k09.trans kd).trans k11).trans (Pk.below b11)
  have h11 : pb < w11.heap.size := by have := o3.lt _ p11; have := t.pn; omega
  have h0 : w.heap.size ≤ w11.heap.size := by have := ((k09.trans kd).trans k11).size; omega
  have wr : WrapAt pb Φ2 w.heap.size wF (w11.heap.size + 1) 49 := ⟨x, w11.heap.size, 2, 2, b, by omega, by omega, by omega, hnode, by omega, by omega, by omega, by omega, cg, f11⟩
  clear hnode cg hsF b11 f11 p11 k11 hblk11 hblk9 kd k09 f9 p10 p9
  go_wp2
  refine leaves_cons (f := 38) (args := #[.pointer (some ⟨pb, 0, none⟩)]) (by simp) (by simp [go_sem]) ?_
  refine (hup _ .returning pF).mono ?_
  rintro e u' w18 ⟨rfl, rfl, p18, k18⟩
  exact ⟨_, results_tmp rfl _ _ _, _, rfl, p18, ⟨_, rfl, wr.keep hΦ2 (k18.b _)⟩, kF.trans k18⟩
end Go.Proofs.YtcaomilekhhhlaaDoor
