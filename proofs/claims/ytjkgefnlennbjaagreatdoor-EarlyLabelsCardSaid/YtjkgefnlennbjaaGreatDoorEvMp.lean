/- EarlyLabels: 'for', up to its declaration. EarlyLabels: 'for' as a statement. EarlyLabels: the parser one token behind a pin. No condition. -/
import Derived.Test.YtjkgefnlennbjaaGreatDoorEvYn
import Derived.Test.YtjkgefnlennbjaaGreatDoorEvMs
set_option linter.all false
namespace Go.Proofs.YtjkgefnlennbjaaGreatDoor
open Go.Ev Go.RowKit
set_option maxHeartbeats 16000000
set_option maxRecDepth 1000000

theorem none_walk (w : World) : Calls Tryz.prog 41 #[] w fun e w' => e = .returned (.pointer (some ⟨w.heap.size, 0, none⟩)) ∧ w' = w.alloc (.cells #[.int .i64 21, .int .i64 0, .string ⟨#[]⟩, .int .i64 0, .int .i64 0, .slice none 0 0] 34) := by
  go_enter Tryz.func41, Tryz.ntmps41
  go_wp2
  go_ret
  exact ⟨rfl, rfl⟩
theorem none_far (w : World) : Calls Tryz.prog 41 #[] w fun e w' => (∃ b, e = .returned (.pointer (some ⟨b, 0, none⟩))) ∧ Below w.heap.size w w' :=
  (none_walk w).mono fun e w' h => ⟨⟨_, h.1⟩, by rw [h.2]; exact (Below.refl _ w).alloc (Nat.le_refl _) _⟩
theorem Pk.cell {pb : Nat} {w w' : World} (k : Pk pb w w') {b o : Nat} (h : b < w.heap.size) (hn : b ≠ pb) : w'.cell? ⟨b, o, none⟩ = w.cell? ⟨b, o, none⟩ := by
  unfold World.cell?
  rw [k.block b h hn]
theorem loop_walk {Sa S0 S1 S4 : World → Prop} {pb N : Nat} {tX T : Tr} (o0 : Off pb N S0) (o1 : Off pb N S1) (hw : Want pb Sa S0 ⟨#[40]⟩) (ha : ∀ w w' B, Sa w → Below B w w' → N ≤ B → Sa w') (htk : TokAny pb S0) (hok : OkAt pb S0) (n1 : No pb S0 17 ⟨#[59]⟩) (n2 : No pb S0 17 ⟨#[108, 101, 116]⟩) (hye : Yes pb S0 S0 17 ⟨#[99, 111, 110, 115, 116]⟩)
    (hlet : ∀ w, S0 w → Calls Tryz.prog 18 #[.pointer (some ⟨pb, 0, none⟩)] w (ResT S1 (.mk 2 ⟨#[99, 111, 110, 115, 116]⟩ [.mk 3 ⟨#[]⟩ [tX]]) pb w)) (ok1 : OkAt pb S1) (hof : Yes pb S1 S1 77 ⟨#[111, 102]⟩) {nn base : Nat} {x : Int}
    (hofw : ∀ (w : World) (baseT : Nat) (b0 : Addr), S1 w → nn < w.heap.size → ArrW w nn 11 x ⟨#[]⟩ (.slice none 0 0) → TrAt baseT pb w tX b0 → nn < baseT → baseT ≤ w.heap.size → Calls Tryz.prog 79 #[.pointer (some ⟨pb, 0, none⟩), .pointer (some ⟨nn, 0, none⟩), .string ⟨#[99, 111, 110, 115, 116]⟩, .pointer (some b0)] w fun e w' => e = .returned (.tuple #[]) ∧ S4 w' ∧ TrAt base pb w' T ⟨nn, 0, none⟩ ∧ Pl base pb w w')
    {w : World} (h : Sa w) (hN : N ≤ base) (hb : base ≤ nn) (hl : nn < w.heap.size) (hnode : ArrW w nn 20 x ⟨#[]⟩ (.slice none 0 0)) :
    Calls Tryz.prog 48 #[.pointer (some ⟨pb, 0, none⟩), .pointer (some ⟨nn, 0, none⟩)] w fun e w' => e = .returned (.tuple #[]) ∧ S4 w' ∧ TrAt base pb w' T ⟨nn, 0, none⟩ ∧ Pl base pb w w' := by
  have hpn := o0.pn
  have hnp : nn ≠ pb := by omega
  obtain ⟨c0, q0, -, -⟩ := hnode.c0
  have b1 : Below base w (w.setCell ⟨nn, 0, none⟩ (.int .i64 11)) := (Below.refl _ w).setCell (p := ⟨nn, 0, none⟩) hb _
  have p1 := ha _ _ _ h b1 hN
  have a1 : ArrW (w.setCell ⟨nn, 0, none⟩ (.int .i64 11)) nn 11 x ⟨#[]⟩ (.slice none 0 0) := set_blk hnode 0 _
  have l1 : nn < (w.setCell ⟨nn, 0, none⟩ (.int .i64 11)).heap.size := by simp [World.setCell]; exact hl
  have k01 : Pl base pb w (w.setCell ⟨nn, 0, none⟩ (.int .i64 11)) := Below.l b1
  go_enter Tryz.func48, Tryz.ntmps48
  go_wp2_with (go_at_call 19; refine (hw _ p1).mono ?_)
  clear c0 q0 hnode hl h b1
  generalize w.setCell ⟨nn, 0, none⟩ (.int .i64 11) = w1 at p1 a1 l1 k01 ⊢
  rintro e w2 ⟨rfl, p2, k2⟩
  obtain ⟨a2, l2⟩ := a1.far k2 l1 hnp
  have k02 := k01.trans (k2.l (base := base) (by omega))
  clear a1 l1 p1 k2 k01
  go_wp2_with (go_at_call 41; refine (none_far _).mono ?_)
  rintro e w3 ⟨⟨d1, rfl⟩, b3⟩
  go_wp2_with (go_at_call 41; refine (none_far _).mono ?_)
  rintro e w4 ⟨⟨d2, rfl⟩, b4⟩
  go_wp2_with (go_at_call 41; refine (none_far _).mono ?_)
  rintro e w5 ⟨⟨d3, rfl⟩, b5⟩
  have bb : Below w2.heap.size w2 w5 := (b3.trans (b4.mono b3.size)).trans (b5.mono (Nat.le_trans b3.size b4.size))
  have p5 := o0.off _ _ _ p2 bb (o0.lt _ p2)
  have k5 := Pk.below (pb := pb) bb
  obtain ⟨a5, l5⟩ := a2.far k5 l2 hnp
  have k05 := k02.trans (k5.l (base := base) (by omega))
  clear b3 b4 b5 bb k5 a2 l2 k02 p2
  go_wp2_with (go_at_call 11; refine (htk _ p5).mono ?_)
  rintro e w6 ⟨⟨y0, y1, y3, xx, rfl⟩, p6, k6⟩
  have hfd := field_at w6 y0 y1 xx y3
  go_wp2_with (go_at_call 10; refine (hok _ p6).mono ?_)
  clear hfd
  rintro e w7 ⟨rfl, p7, k7⟩
  go_wp2_with (go_at_call 17; refine (n1 _ p7).mono ?_)
  rintro e w8 ⟨rfl, p8, k8⟩
  go_wp2_with (go_at_call 17; refine (n2 _ p8).mono ?_)
  rintro e w9 ⟨rfl, p9, k9⟩
  go_wp2_with (go_at_call 17; refine (hye _ p9).mono ?_)
  rintro e w10 ⟨rfl, p10, k10⟩
  have k510 := (((k6.trans k7).trans k8).trans k9).trans k10
  obtain ⟨a10, l10⟩ := a5.far k510 l5 hnp
  have k010 := k05.trans (k510.l (base := base) (by omega))
  clear k6 k7 k8 k9 k10 k510 p5 p6 p7 p8 p9 a5 l5 k05 htk hok n1 n2 hye
  go_wp2_with (go_at_call 18; refine (hlet _ p10).mono ?_)
  rintro e w11 ⟨a, rfl, p11, t11, k11⟩
  obtain ⟨nb, no, g, go, cap, d, rfl, -, sc, c5, cb, td, m1, m2, m3, m4, -⟩ := t11.first
  obtain ⟨nb', no', g', go', cap', b0, rfl, -, -, c5', cb', tb0, m5, m6, m7, m8, -⟩ := td.first
  have c5a : w11.cell? ⟨nb, no + 5, none⟩ = some (.slice (some ⟨g, go, none⟩) 1 cap) := c5
  have c5b : w11.cell? ⟨nb', no' + 5, none⟩ = some (.slice (some ⟨g', go', none⟩) 1 cap') := c5'
  obtain ⟨a11, l11⟩ := a10.far k11 l10 hnp
  have k011 := k010.trans (k11.l (base := base) (by omega))
  clear c5 c5' t11 td hlet p10 a10 k010
  go_wp2_with (go_at_call 10; refine (ok1 _ p11).mono ?_)
  rintro e w12 ⟨rfl, p12, k12⟩
  have c5a2 := (k12.cell m1 m2).trans c5a
  have c5b2 := (k12.cell m5 m6).trans c5b
  go_wp2_with (go_at_call 77; refine (hof _ p12).mono ?_)
  rintro e w13 ⟨rfl, p13, k13⟩
  have k1113 := k12.trans k13
  have d1 := (k1113.cell m1 m2).trans c5a
  have d2 := (k1113.cell m5 m6).trans c5b
  have d3 := (k1113.cell m1 m2).trans sc
  have d4 := (k1113.cell m3 m4).trans cb
  have d5 := (k1113.cell m7 m8).trans cb'
  obtain ⟨a13, l13⟩ := a11.far k1113 l11 hnp
  have k013 := k011.trans (k1113.l (base := base) (by omega))
  have T13 := TrAt.keep (k1113.b w10.heap.size) (Nat.le_refl _) _ _ tb0
  have p13d : S1 w13.drew := o1.off _ _ _ p13 (Below.refl _ w13).drew (o1.lt _ p13)
  have T13d : TrAt w10.heap.size pb w13.drew tX b0 := TrAt.keep ((Pk.below (pb := pb) (Below.refl _ w13).drew).b _) (Nat.le_refl _) _ _ T13
  have s1 := k11.size
  have s2 := k1113.size
  have HW := hofw w13.drew w10.heap.size b0 p13d l13 a13 T13d l10 (by show w10.heap.size ≤ w13.heap.size; omega)
  clear c5a c5b sc cb cb' tb0 m1 m2 m3 m4 m5 m6 m7 m8 a11 l11 k011 k1113 k12 k13 p11 p12 p13 k11 c5a2 c5b2 ok1 hof T13 T13d p13d a13 hofw
  go_wp2
  go_region_law (go_simp; go_at_call 79; refine HW.mono ?_; rintro e w14 ⟨rfl, p14, t14, k14⟩)
  all_goals
    go_wp2
    refine bodyPost_ret (results_none rfl _ _ _) rfl ?_
    exact ⟨rfl, p14, t14, k013.trans ⟨k14.os, k14.tape, k14.output, k14.size, k14.block⟩⟩
end Go.Proofs.YtjkgefnlennbjaaGreatDoor

namespace Go.Proofs.YtjkgefnlennbjaaGreatDoor
open Go.Ev Go.RowKit
set_option maxHeartbeats 16000000
set_option maxRecDepth 1000000

/-- 'for' is at hand. -/
structure ForAt (pb : Nat) (S S' : World → Prop) : Prop where
  b1 : No pb S 17 ⟨#[123]⟩
  b2 : No pb S 37 ⟨#[59]⟩
  b3 : No pb S 37 ⟨#[105, 102]⟩
  b4 : No pb S 37 ⟨#[119, 104, 105, 108, 101]⟩
  b5 : No pb S 37 ⟨#[100, 111]⟩
  b6 : Yes pb S S' 37 ⟨#[102, 111, 114]⟩
theorem stmt_for {S0 S1 S2 S4 S5 : World → Prop} {pb N : Nat} {T : Tr} (o0 : Off pb N S0) (htk : TokAny pb S0) (hdn : Down pb S0 S1) (hs : ForAt pb S1 S2)
    (hpl : ∀ (w : World) (nn base : Nat) (x : Int), S2 w → N ≤ base → base ≤ nn → nn < w.heap.size → ArrW w nn 20 x ⟨#[]⟩ (.slice none 0 0) → Calls Tryz.prog 48 #[.pointer (some ⟨pb, 0, none⟩), .pointer (some ⟨nn, 0, none⟩)] w fun e w' => e = .returned (.tuple #[]) ∧ S4 w' ∧ TrAt base pb w' T ⟨nn, 0, none⟩ ∧ Pl base pb w w') (hup : Up pb S4 S5) {w : World} (h : S0 w) :
    Calls Tryz.prog 22 #[.pointer (some ⟨pb, 0, none⟩)] w (ResT S5 T pb w) := by
  have hN := o0.lt _ h
  have hpn := o0.pn
  go_enter_defers Tryz.func22, Tryz.ntmps22
  go_wp2_with (go_at_call 11; refine (htk _ h).mono ?_)
  rintro e w1 ⟨⟨y0, y1, y3, x, rfl⟩, p1, k1⟩
  have hfd := field_at w1 y0 y1 x y3
  go_wp2_with (go_at_call 6; refine (make_walk _ _ _ _ _ ⟨_, _, _, rfl⟩).mono ?_)
  rintro e w' ⟨rfl, rfl⟩
  clear hfd
  have al : Below w1.heap.size w1 (w1.alloc (Obj.cells #[Value.int IntKind.i64 20, Value.int IntKind.i64 x, Value.string { data := #[] }, Value.int IntKind.i64 0, Value.int IntKind.i64 0, Value.slice none 0 0] 34)) := (Below.refl _ w1).alloc (Nat.le_refl _) _
  have p2 := o0.off _ _ _ p1 al (o0.lt _ p1)
  have k2 := k1.trans (Pk.below (pb := pb) al)
  have hnode : ArrW (w1.alloc (Obj.cells #[Value.int IntKind.i64 20, Value.int IntKind.i64 x, Value.string { data := #[] }, Value.int IntKind.i64 0, Value.int IntKind.i64 0, Value.slice none 0 0] 34)) w1.heap.size 20 x ⟨#[]⟩ (.slice none 0 0) := heap_alloc_new w1 _
  have hnl : w1.heap.size < (w1.alloc (Obj.cells #[Value.int IntKind.i64 20, Value.int IntKind.i64 x, Value.string { data := #[] }, Value.int IntKind.i64 0, Value.int IntKind.i64 0, Value.slice none 0 0] 34)).heap.size := by simp
  have hb := k1.size
  clear al p1 k1
  generalize w1.alloc (Obj.cells #[Value.int IntKind.i64 20, Value.int IntKind.i64 x, Value.string { data := #[] }, Value.int IntKind.i64 0, Value.int IntKind.i64 0, Value.slice none 0 0] 34) = w2 at p2 k2 hnode hnl ⊢
  generalize w1.heap.size = nn at hnode hnl hb ⊢
  go_wp2_with (go_at_call 45; refine (hdn _ p2).mono ?_)
  rintro e w3 ⟨rfl, p3, k3⟩
  go_wp2_with (go_at_call 17; refine (hs.b1 _ p3).mono ?_)
  rintro e w4 ⟨rfl, p4, k4⟩
  go_wp2_with (go_at_call 37; refine (hs.b2 _ p4).mono ?_)
  rintro e w5 ⟨rfl, p5, k5⟩
  have k25 := (k3.trans k4).trans k5
  clear k3 k4 k5 p3 p4
  go_wp2_with (go_at_call 37; refine (hs.b3 _ p5).mono ?_)
  rintro e w6 ⟨rfl, p6, k6⟩
  go_wp2_with (go_at_call 37; refine (hs.b4 _ p6).mono ?_)
  rintro e w7 ⟨rfl, p7, k7⟩
  go_wp2_with (go_at_call 37; refine (hs.b5 _ p7).mono ?_)
  rintro e w8 ⟨rfl, p8, k8⟩
  go_wp2_with (go_at_call 37; refine (hs.b6 _ p8).mono ?_)
  rintro e w9 ⟨rfl, p9, k9⟩
  have k29 := (((k25.trans k6).trans k7).trans k8).trans k9
  clear k25 k6 k7 k8 k9 p5 p6 p7 p8
  have fin := hpl w9 nn w.heap.size x p9 hN hb (Nat.lt_of_lt_of_le hnl k29.size) (by unfold ArrW; rw [k29.block nn hnl (by omega)]; exact hnode)
  go_wp2_with (go_at_call 48; refine fin.mono ?_)
  rintro e w17 ⟨rfl, p17, f17, k17⟩
  have k02 := k2.trans k29
  have kF : Pk pb w w17 := ⟨k17.os.trans k02.os, k17.tape.trans k02.tape, k17.output.trans k02.output, Nat.le_trans k02.size k17.size, fun k hk hn => (k17.block k hk hn).trans (k02.block k hk hn)⟩
  go_wp2
  refine leaves_cons (f := 44) (args := #[.pointer (some ⟨pb, 0, none⟩)]) (by simp) (by simp [go_sem]) ?_
  refine (hup _ .returning p17).mono ?_
  rintro e u' w18 ⟨rfl, rfl, p18, k18⟩
  exact ⟨_, results_tmp rfl _ _ _, _, rfl, p18, TrAt.keep (k18.b _) (Nat.le_refl _) _ _ f17, kF.trans k18⟩
end Go.Proofs.YtjkgefnlennbjaaGreatDoor

namespace Go.Proofs.YtjkgefnlennbjaaGreatDoor
open Go.Ev Go.RowKit
set_option maxRecDepth 1000000
set_option maxHeartbeats 8000000

def SPc' (d : Nat) : List V := [satT, plV 11 1 0 1000, .int .i64 (.ofNat d), .int .i64 0, .int .i64 0]
def SPh' (cls d : Nat) : H := ⟨604, (m4.put 14 (.u16b (kOf cls))).put 20 (.live 5 43 false true (cellsOf (SPc' d)))⟩
theorem SPh_live' {cls d id : Nat} (h : Live (SPh' cls d) id) : id = 14 ∨ id = 20 := by
  obtain ⟨hi, hl⟩ := h
  by_cases e20 : id = 20
  · exact .inr e20
  by_cases e14 : id = 14
  · exact .inl e14
  exfalso
  have : (SPh' cls d).mem.blk id = .dead := by
    show ((m4.put 14 _).put 20 _).blk id = _
    rw [Mem.blk_put_other _ _ _ _ (by decide) hi e20, Mem.blk_put_other _ _ _ _ (by decide) hi e14]
    exact m4_dead id hi
  rw [this] at hl
  cases hl
theorem SPh_14' (cls d : Nat) : (SPh' cls d).mem.blk 14 = .u16b (kOf cls) := by
  show ((m4.put 14 _).put 20 _).blk 14 = _
  rw [Mem.blk_put_other _ _ _ _ (by decide) (by decide) (by decide)]
  exact Mem.blk_put_same _ _ _ (by decide)
theorem SPh_20' (cls d : Nat) : (SPh' cls d).mem.blk 20 = .live 5 43 false true (cellsOf (SPc' d)) := by
  show ((m4.put 14 _).put 20 _).blk 20 = _
  exact Mem.blk_put_same _ _ _ (by decide)

section
variable {W w : World} {pb tb len cap j d cls : Nat}
/-- The beginning, as the evaluator sees it. -/
theorem rP_rel' (hp : PAt w pb tb len cap (j + 1) d) (hne : pb ≠ tb) (htb : tb < w.heap.size) (hlen : len ≤ 2000) (hj : j + 1 ≤ 1000) (h0 : 0 < len)
    (hwin : ∀ i t, (winOf cls)[i]? = some t → j + i < len ∧ tokAt w tb (j + i) t) (tz : Nat) : Rel (rP W j tb tz len cap pb) (SPh' cls d) w := by
  refine ⟨fun id hi hl => ?_, fun id id' b sh m sh' m' hl hl' _ e e' => ?_, fun id hi => rP_hi W j tb tz len cap pb hi⟩
  · rcases SPh_live' ⟨hi, hl⟩ with rfl | rfl
    · refine ⟨tb, 0, tz, rfl, ?_⟩
      rw [SPh_14']
      refine ⟨?_, htb, .inl (by show 0 < kOf cls; unfold kOf; omega)⟩
      show tokSpec (3 * cls + 1 + 1) _ _ _
      refine ⟨len, cap, tz, j, hlen, rfl, rfl, rfl, ?_, fun i t hi => ?_⟩
      · rw [show (3 * cls + 1) % 3 = 1 by omega]; rfl
      · rw [show (3 * cls + 1) / 3 = cls by omega] at hi
        exact hwin i t hi
    · refine ⟨pb, 0, 5, rfl, ?_⟩
      rw [SPh_20']
      refine ⟨⟨_, _, ⟨43, hp.blk, fun _ => rfl⟩, rfl, fun _ x _ => by omega, fun _ => rfl, fun o ho => ?_⟩, by decide, by have := cellsOf_room (SPc' d) (show (SPc' d).length ≤ 4096 by show 5 ≤ 4096; decide); exact this, fun _ q => by cases q⟩
      rw [cellsOf_get (SPc' d) (by show 5 ≤ 4096; decide) o ho]
      match o, ho with
      | 0, _ => exact ⟨_, rfl, .sat (L := 600) (id := 601) (iz := 602) (b := tb) (o := 0) (x := 0) (z := len) (cap := cap) (m := tz) (by decide) (by decide) rfl rfl rfl h0⟩
      | 1, _ => exact ⟨_, rfl, .sym ⟨by rw [sPack_lo (by decide) (by decide) (by decide) (by decide)]; omega, by rw [sPack_hi (by decide) (by decide) (by decide) (by decide)]; omega, .inr ⟨j, 0, 0, by rw [sPack_id (by decide)]; rfl, by rw [sPack_c (by decide) (by decide)]; omega, by rw [sPack_d (by decide) (by decide) (by decide)]; omega⟩⟩⟩
      | 2, _ => exact ⟨_, rfl, .int .i64 _⟩
      | 3, _ => exact ⟨_, rfl, .int .i64 0⟩
      | 4, _ => exact ⟨_, rfl, .int .i64 0⟩
  · have f14 : rP W j tb tz len cap pb 14 = some (tb, 0, tz) := rfl
    have f20 : rP W j tb tz len cap pb 20 = some (pb, 0, 5) := rfl
    rcases SPh_live' hl with rfl | rfl <;> rcases SPh_live' hl' with rfl | rfl
    · rfl
    · rw [f14] at e; rw [f20] at e'; cases e; cases e'; exact (hne rfl).elim
    · rw [f20] at e; rw [f14] at e'; cases e; cases e'; exact (hne rfl).elim
    · rfl
theorem rP_own' {tz b : Nat} (h : Own (rP W j tb tz len cap pb) (SPh' cls d) b) : b = pb := by
  obtain ⟨id, sh, m, hi, ho, e⟩ := h
  rcases SPh_live' ⟨hi, live_of_own ho⟩ with rfl | rfl
  · rw [SPh_14'] at ho; cases ho
  · have f20 : rP W j tb tz len cap pb 20 = some (pb, 0, 5) := rfl
    rw [f20] at e
    cases e
    rfl
/-- A call of the parser's, by the evaluator. -/
theorem evP' (hB : Below W.heap.size W w) (hpb : W.heap.size ≤ pb) (hp : PAt w pb tb len cap (j + 1) d) (hne : pb ≠ tb) (htb : tb < w.heap.size) (hlen : len ≤ 2000) (hj : j + 1 ≤ 1000) (h0 : 0 < len)
    (hwin : ∀ i t, (winOf cls)[i]? = some t → j + i < len ∧ tokAt w tb (j + i) t) {g : FuncId} {vs : List V} {v : V} {h' : H} (hy : Nat.beq g yieldG = false) (hc : callP g vs (SPh' cls d) = some (v, h')) {xs : Array Value} (hvs : VsRel (rP W j tb 0 len cap pb) vs xs.toList) :
    Calls Tryz.prog g xs w fun e w' => ∃ z r', e = .returned z ∧ VRel r' v z ∧ Rel r' h' w' ∧ (rP W j tb 0 len cap pb).le r' ∧ Pk pb w w' ∧ ∀ b, Own r' h' b → b = pb ∨ w.heap.size ≤ b := by
  have hr := rP_rel' (W := W) hp hne htb hlen hj h0 hwin 0
  refine (((callP_ok (W := W)) g vs (SPh' cls d) v h' hc).1 hy _ w xs hr (rP_gl W j tb 0 len cap pb) ⟨hB.block, fun b ho => by rw [rP_own' ho]; exact hpb, hB.size⟩ hvs).mono ?_
  rintro e w' ⟨z, r', rfl, st, hv⟩
  exact ⟨z, r', rfl, hv, st.rel, st.le, ⟨st.os, st.tape, st.out, st.size, fun k hk hn => st.keep k hk (fun ho => hn (rP_own' ho))⟩, fun b hb => (Nat.lt_or_ge b w.heap.size).elim (fun hl => .inl (rP_own' (st.own b hl hb))) .inr⟩
noncomputable def unitC' (g : FuncId) (vs : List V) (cls d f : Nat) : Bool := match callP g vs (SPh' cls d) with | some (.tup [], h) => endP h f d | _ => false
theorem want' {n f : Nat} {T : List Tok} (hc : unitC' 19 [.ptr 20 0, .str n 1] cls d f = true) (hn : n < 256) (h : Ps W w pb tb len cap (j + 1) d T) (hw : WinAt T j cls) (hw0 : winOf cls ≠ []) (hj1 : j + 1 ≤ 1000) :
    Calls Tryz.prog 19 #[.pointer (some ⟨pb, 0, none⟩), .string ⟨#[UInt8.ofNat n]⟩] w fun e w' => e = .returned (.tuple #[]) ∧ Ps W w' pb tb len cap (j + f) d T ∧ Pk pb w w' := by
  unfold unitC' at hc
  split at hc
  · rename_i h' he
    obtain ⟨pre, rest, hT, hj⟩ := hw
    have hwin : ∀ i t, (winOf cls)[i]? = some t → j + i < len ∧ tokAt w tb (j + i) t := by
      intro i t hi
      have hlt := (List.getElem?_eq_some_iff.1 hi).1
      have e : T[j + i]? = some t := by
        rw [hT, ← hj, List.getElem?_append_right (by omega), show pre.length + i - pre.length = i by omega, List.getElem?_append_left hlt]
        exact hi
      exact ⟨by rw [← h.hT]; exact (List.getElem?_eq_some_iff.1 e).1, h.toks _ _ e⟩
    have h0 : 0 < len := by
      cases hq : winOf cls with
      | nil => exact (hw0 hq).elim
      | cons t _ => have := (hwin 0 t (by rw [hq]; rfl)).1; omega
    refine (evP' h.hB h.hpb h.hp h.hne h.htb h.hlen hj1 h0 hwin rfl he (.cons (rP_ptr W j tb len cap pb) (.cons (str_one _ hn) .nil))).mono ?_
    rintro e w' ⟨z, r', rfl, hv, hr, hle, hk, -⟩
    cases hv with
    | @tup _ ys hx =>
      cases ys with | mk l =>
      cases hx
      exact ⟨rfl, h.next (endP_at hc hr hle) hk, hk⟩
  · cases hc
end
theorem kForParen : ((List.range 31).all fun d => unitC' 19 [.ptr 20 0, .str 40 1] 31 d 2) = true := by decide +kernel
end Go.Proofs.YtjkgefnlennbjaaGreatDoor
