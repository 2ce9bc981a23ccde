/- ParseLists: no sign ahead. No condition. -/
import Derived.Test.YtcaomilekhhhlaaDoorEvQt
namespace Go.Proofs.YtcaomilekhhhlaaDoor
open Go.Ev Go.RowKit
set_option maxHeartbeats 16000000
set_option maxRecDepth 1000000

theorem unary_walk {S0 S1 Sp S S' : World → Prop} {Φ1 Φ : Nat → Addr → World → Prop} {pb N : Nat} {s0 : ByteArray} {b : Bool} (t : Tail pb N S s0 b) (hΦ : Firm Φ pb) (hdn : Down pb S0 S1) (htk : ∀ w, S1 w → Calls Tryd.prog 9 #[.pointer (some ⟨pb, 0, none⟩)] w fun e w' => (∃ (y0 : Int) (y1 : ByteArray) (y3 x : Int), e = .returned (.agg #[.int .i64 y0, .string y1, .int .i64 x, .int .i64 y3])) ∧ S1 w' ∧ Pk pb w w')
    (hs1 : ∀ w w', S1 w → Below w.heap.size w w' → S1 w') (hN : ∀ w, S0 w → N ≤ w.heap.size) (hNp : pb < N)
    (n1 : No pb S1 14 ⟨#[45]⟩) (n2 : No pb S1 14 ⟨#[43]⟩) (n3 : No pb S1 14 ⟨#[33]⟩) (n4 : No pb S1 14 ⟨#[116, 121, 112, 101, 111, 102]⟩) (n5 : No pb S1 14 ⟨#[100, 101, 108, 101, 116, 101]⟩) (n6 : No pb S1 14 ⟨#[43, 43]⟩) (n7 : No pb S1 14 ⟨#[45, 45]⟩)
    (hp : ∀ w, S1 w → Calls Tryd.prog 60 #[.pointer (some ⟨pb, 0, none⟩)] w (Res Sp Φ1 pb w))
    (hx : ∀ w base a, Sp w → Φ1 base a w → N ≤ base → Calls Tryd.prog 59 #[.pointer (some ⟨pb, 0, none⟩), .pointer (some a), .bool true] w fun e w' => ∃ a', e = .returned (.pointer (some a')) ∧ S w' ∧ Φ base a' w' ∧ Pk pb w w') (hup : Up pb S S') {w : World} (h : S0 w) :
    Calls Tryd.prog 36 #[.pointer (some ⟨pb, 0, none⟩)] w (Res S' Φ pb w) := by
  have hNw := hN _ h
  go_enter_defers Tryd.func36, Tryd.ntmps36
  go_wp2_with (go_at_call 39; refine (hdn _ h).mono ?_)
  rintro e w1 ⟨rfl, p1, k1⟩
  go_wp2_with (go_at_call 9; refine (htk _ p1).mono ?_)
  rintro e w2 ⟨⟨y0, y1, y3, x, rfl⟩, p2, k2⟩
  have k12 := k1.trans k2
  have al : Below w2.heap.size w2 (w2.alloc (.cells #[.int .i64 y0, .string y1, .int .i64 x, .int .i64 y3] 42)) := (Below.refl _ w2).alloc (Nat.le_refl _) _
  have p3 := hs1 _ _ p2 al
  have k23 := Pk.below (pb := pb) al
  have hblk := heap_alloc_new w2 (.cells #[.int .i64 y0, .string y1, .int .i64 x, .int .i64 y3] 42)
  have hsz : w2.heap.size < (w2.alloc (.cells #[.int .i64 y0, .string y1, .int .i64 x, .int .i64 y3] 42)).heap.size := by simp
  have ht0 : w.heap.size ≤ w2.heap.size := k12.size
  clear k1 k2 p1 p2 al
  go_wp2_with (go_at_call 14; refine (n1 _ p3).mono ?_)
  generalize w2.alloc (Obj.cells #[.int .i64 y0, .string y1, .int .i64 x, .int .i64 y3] 42) = w3 at p3 k23 hblk hsz ⊢
  have k13 := k12.trans k23
  clear k12 k23
  generalize w2.heap.size = tk at hblk hsz ht0 ⊢
  rintro e w4 ⟨rfl, p4, k4⟩
  go_wp2_with (go_at_call 14; refine (n2 _ p4).mono ?_)
  rintro e w5 ⟨rfl, p5, k5⟩
  go_wp2_with (go_at_call 14; refine (n3 _ p5).mono ?_)
  rintro e w6 ⟨rfl, p6, k6⟩
  go_wp2_with (go_at_call 14; refine (n4 _ p6).mono ?_)
  rintro e w7 ⟨rfl, p7, k7⟩
  go_wp2_with (go_at_call 14; refine (n5 _ p7).mono ?_)
  rintro e w8 ⟨rfl, p8, k8⟩
  go_wp2_with (go_at_call 14; refine (n6 _ p8).mono ?_)
  rintro e w9 ⟨rfl, p9, k9⟩
  go_wp2_with (go_at_call 14; refine (n7 _ p9).mono ?_)
  rintro e w10 ⟨rfl, p10, k10⟩
  have k310 := (((((k4.trans k5).trans k6).trans k7).trans k8).trans k9).trans k10
  clear p4 p5 p6 p7 p8 p9 k4 k5 k6 k7 k8 k9 k10 n1 n2 n3 n4 n5 n6 n7
  go_wp2_with (go_at_call 60; refine (hp _ p10).mono ?_)
  rintro e w11 ⟨a, rfl, p11, f11, k11⟩
  have k311 := k310.trans k11
  have hb10 : tk < w10.heap.size := Nat.lt_of_lt_of_le hsz k310.size
  have hN10 : N ≤ w10.heap.size := by omega
  clear k310 k11
  go_wp2_with (go_at_call 59; refine (hx _ _ _ p11 f11 hN10).mono ?_)
  rintro e w12 ⟨a', rfl, p12, f12, k12⟩
  have k312 := k311.trans k12
  clear p11 f11 k311 k12 p10
  go_wp2_with (go_at_call 9; refine (t.tok _ p12).mono ?_)
  rintro e w13 ⟨⟨z0, z1, xz, z3, rfl, hz⟩, p13, k13'⟩
  have f13 := hΦ.up f12 (Nat.le_refl _) k13'
  have k313 := k312.trans k13'
  have hblk := (k313.block tk hsz (by omega)).trans hblk
  clear p12 f12 k312 k13' hz
  have s0 : w13.cell? ⟨tk, 0, none⟩ = some (.int .i64 y0) := by simp [World.cell?, hblk]
  have s1 : w13.cell? ⟨tk, 1, none⟩ = some (.string y1) := by simp [World.cell?, hblk]
  have s2 : w13.cell? ⟨tk, 2, none⟩ = some (.int .i64 x) := by simp [World.cell?, hblk]
  have s3 : w13.cell? ⟨tk, 3, none⟩ = some (.int .i64 y3) := by simp [World.cell?, hblk]
  have q0 : w13.frozen? ⟨tk, 0, none⟩ = false := by simp [World.frozen?, hblk]
  have q1 : w13.frozen? ⟨tk, 1, none⟩ = false := by simp [World.frozen?, hblk]
  have q2 : w13.frozen? ⟨tk, 2, none⟩ = false := by simp [World.frozen?, hblk]
  have q3 : w13.frozen? ⟨tk, 3, none⟩ = false := by simp [World.frozen?, hblk]
  have htkN : N ≤ tk := by omega
  obtain ⟨w14, hw14⟩ : ∃ w14, (((w13.setCell ⟨tk, 0, none⟩ (.int .i64 z0)).setCell ⟨tk, 1, none⟩ (.string z1)).setCell ⟨tk, 2, none⟩ (.int .i64 xz)).setCell ⟨tk, 3, none⟩ (.int .i64 z3) = w14 := ⟨_, rfl⟩
  have b14 : Below N w13 w14 := by
    rw [← hw14]
    exact ((((Below.refl _ w13).setCell (p := ⟨tk, 0, none⟩) htkN _).setCell (p := ⟨tk, 1, none⟩) htkN _).setCell (p := ⟨tk, 2, none⟩) htkN _).setCell (p := ⟨tk, 3, none⟩) htkN _
  have kb14 : Pkb w10.heap.size pb w13 w14 := by
    rw [← hw14]
    exact (((Pkb.set w13 tk 0 _ hb10).trans (Pkb.set _ tk 1 _ hb10)).trans (Pkb.set _ tk 2 _ hb10)).trans (Pkb.set _ tk 3 _ hb10)
  have bw14 : Below w.heap.size w13 w14 := by
    rw [← hw14]
    exact ((((Below.refl _ w13).setCell (p := ⟨tk, 0, none⟩) ht0 _).setCell (p := ⟨tk, 1, none⟩) ht0 _).setCell (p := ⟨tk, 2, none⟩) ht0 _).setCell (p := ⟨tk, 3, none⟩) ht0 _
  have p14 := t.off _ _ _ p13 b14 (Nat.le_refl _)
  have f14 := hΦ.keep _ _ _ _ f13 kb14
  have k014 : Pk pb w w14 := by
    have k := k13.trans k313
    exact ⟨bw14.os.trans k.os, bw14.tape.trans k.tape, bw14.output.trans k.output, Nat.le_trans k.size bw14.size, fun i hi hn => (bw14.block i hi).trans (k.block i hi hn)⟩
  have hb0 : w.heap.size ≤ w10.heap.size := by omega
  clear b14 kb14 bw14 p13 f13 k313 k13 hblk
  go_wp2_with (go_at_call 8; refine (t.ok _ p14).mono ?_)
  clear hw14 s0 s1 s2 s3 q0 q1 q2 q3
  rintro e w15 ⟨rfl, p15, k15⟩
  cases b with
  | false =>
    go_wp2
    refine leaves_cons (f := 38) (args := #[.pointer (some ⟨pb, 0, none⟩)]) (by simp) (by simp [go_sem]) ?_
    refine (hup _ .returning p15).mono ?_
    rintro e u' w16 ⟨rfl, rfl, p16, k16⟩
    exact ⟨_, results_tmp rfl _ _ _, a', rfl, p16, hΦ.up f14 hb0 (k15.trans k16), k014.trans (k15.trans k16)⟩
  | true =>
    go_wp2_with (go_at_call 14; refine (t.iu rfl _ p15).mono ?_)
    rintro e w16 ⟨rfl, p16, k16⟩
    go_wp2_with (go_at_call 14; refine (t.id rfl _ p16).mono ?_)
    rintro e w17 ⟨rfl, p17, k17⟩
    go_wp2
    refine leaves_cons (f := 38) (args := #[.pointer (some ⟨pb, 0, none⟩)]) (by simp) (by simp [go_sem]) ?_
    refine (hup _ .returning p17).mono ?_
    rintro e u' w18 ⟨rfl, rfl, p18, k18⟩
    have k1518 := ((k15.trans k16).trans k17).trans k18
    exact ⟨_, results_tmp rfl _ _ _, a', rfl, p18, hΦ.up f14 hb0 k1518, k014.trans k1518⟩
end Go.Proofs.YtcaomilekhhhlaaDoor
