/- EarlyLabels: a statement with 'do'. No condition. -/
import Derived.Test.YtjkgefnlennbjaaGreatDoorEvMo
set_option linter.all false
namespace Go.Proofs.YtjkgefnlennbjaaGreatDoor
open Go.Ev Go.RowKit
set_option maxHeartbeats 16000000
set_option maxRecDepth 1000000

/-- 'do' is at hand. -/
structure DoAt (pb : Nat) (S S' : World → Prop) : Prop where
  b1 : No pb S 17 ⟨#[123]⟩
  b2 : No pb S 37 ⟨#[59]⟩
  b3 : No pb S 37 ⟨#[105, 102]⟩
  b4 : No pb S 37 ⟨#[119, 104, 105, 108, 101]⟩
  b5 : Yes pb S S' 37 ⟨#[100, 111]⟩
theorem do_walk {S0 S1 S2 S3 S4 S5 S6 S7 : World → Prop} {pb N : Nat} {t1 t2 : Tr} (o0 : Off pb N S0) (o2 : Off pb N S2) (o4 : Off pb N S4) (o5 : Off pb N S5) (htk : TokAny pb S0) (hdn : Down pb S0 S1) (hs : DoAt pb S1 S2)
    (hst : ∀ w, S2 w → Calls Tryz.prog 22 #[.pointer (some ⟨pb, 0, none⟩)] w (ResT S3 t1 pb w)) (hw1 : Want pb S3 S4 ⟨#[119, 104, 105, 108, 101]⟩) (hp : ∀ w, S4 w → Calls Tryz.prog 47 #[.pointer (some ⟨pb, 0, none⟩)] w (ResT S5 t2 pb w)) (hw2 : Want pb S5 S6 ⟨#[59]⟩) (hup : Up pb S6 S7) {w : World} (h : S0 w) :
    Calls Tryz.prog 22 #[.pointer (some ⟨pb, 0, none⟩)] w (ResT S7 (.mk 10 ⟨#[]⟩ [t1, t2]) pb w) := by
  obtain ⟨i0, hi, hz0, hz1, hz2⟩ := info_at (P := Tryz.prog) (t := 26) (z := .pointer none) (s := 1) (b := 8) (by kernel_rfl) (by kernel_rfl) (by kernel_rfl)
  have hN := o0.lt _ h
  have hpn := o0.pn
  go_enter_defers Tryz.func22, Tryz.ntmps22
  go_wp2_with (go_at_call 11; refine (htk _ h).mono ?_)
  rintro e w1 ⟨⟨y0, y1, y3, x, rfl⟩, p1, k1⟩
  have hfd := field_at w1 y0 y1 x y3
  go_wp2_with (go_at_call 6; refine (make_walk _ _ _ _ _ ⟨_, _, _, rfl⟩).mono ?_)
  rintro e w' ⟨rfl, rfl⟩
  clear hfd
  have al : Below w1.heap.size w1 (w1.alloc (Obj.cells #[Value.int IntKind.i64 20, Value.int IntKind.i64 x, Value.string { data := #[] }, Value.int IntKind.i64 0, Value.int IntKind.i64 0, Value.slice none 0 0] 34)) := (Below.refl _ w1).alloc (Nat.le_refl _) _
  have p2 := o0.off _ _ _ p1 al (o0.lt _ p1)
  have k2 := k1.trans (Pk.below (pb := pb) al)
  have hnode : ArrW (w1.alloc (Obj.cells #[Value.int IntKind.i64 20, Value.int IntKind.i64 x, Value.string { data := #[] }, Value.int IntKind.i64 0, Value.int IntKind.i64 0, Value.slice none 0 0] 34)) w1.heap.size 20 x ⟨#[]⟩ (.slice none 0 0) := heap_alloc_new w1 _
  have hnl : w1.heap.size < (w1.alloc (Obj.cells #[Value.int IntKind.i64 20, Value.int IntKind.i64 x, Value.string { data := #[] }, Value.int IntKind.i64 0, Value.int IntKind.i64 0, Value.slice none 0 0] 34)).heap.size := by simp
  have hb := k1.size
  clear al p1 k1
  generalize w1.alloc (Obj.cells #[Value.int IntKind.i64 20, Value.int IntKind.i64 x, Value.string { data := #[] }, Value.int IntKind.i64 0, Value.int IntKind.i64 0, Value.slice none 0 0] 34) = w2 at p2 k2 hnode hnl ⊢
  generalize w1.heap.size = nn at hnode hnl hb ⊢
  go_wp2_with (go_at_call 45; refine (hdn _ p2).mono ?_)
  rintro e w3 ⟨rfl, p3, k3⟩
  go_wp2_with (go_at_call 17; refine (hs.b1 _ p3).mono ?_)
  rintro e w4 ⟨rfl, p4, k4⟩
  go_wp2_with (go_at_call 37; refine (hs.b2 _ p4).mono ?_)
  rintro e w5 ⟨rfl, p5, k5⟩
  go_wp2_with (go_at_call 37; refine (hs.b3 _ p5).mono ?_)
  rintro e w6 ⟨rfl, p6, k6⟩
  go_wp2_with (go_at_call 37; refine (hs.b4 _ p6).mono ?_)
  rintro e w60 ⟨rfl, p60, k60⟩
  go_wp2_with (go_at_call 37; refine (hs.b5 _ p60).mono ?_)
  rintro e w7 ⟨rfl, p7, k7⟩
  have k27 := ((((k3.trans k4).trans k5).trans k6).trans k60).trans k7
  have k07 := k2.trans k27
  obtain ⟨a7, l7⟩ := hnode.far k27 hnl (by omega)
  obtain ⟨c0, q0, -, -⟩ := a7.c0
  have hnp : nn ≠ pb := by omega
  have b8 : Below nn w7 (w7.setCell ⟨nn, 0, none⟩ (.int .i64 10)) := (Below.refl _ w7).setCell (p := ⟨nn, 0, none⟩) (Nat.le_refl _) _
  have p8 := o2.off _ _ _ p7 b8 (by omega)
  have a8 : ArrW (w7.setCell ⟨nn, 0, none⟩ (.int .i64 10)) nn 10 x ⟨#[]⟩ (.slice none 0 0) := set_blk a7 0 _
  have l8 : nn < (w7.setCell ⟨nn, 0, none⟩ (.int .i64 10)).heap.size := by simp [World.setCell]; exact l7
  have e8 : Pk pb w (w7.setCell ⟨nn, 0, none⟩ (.int .i64 10)) := ⟨k07.os, k07.tape, k07.output, by have := k07.size; simp [World.setCell]; omega, fun k hk hne => (b8.block k (by omega)).trans (k07.block k hk hne)⟩
  clear k2 k3 k4 k5 k6 k60 k7 k27 p2 p3 p4 p5 p6 p60 hnode hnl hs b8 a7 l7 p7 k07
  go_wp2_with (go_at_call 22; refine (hst _ p8).mono ?_)
  clear c0 q0
  generalize w7.setCell ⟨nn, 0, none⟩ (.int .i64 10) = w8 at p8 a8 l8 e8 ⊢
  rintro e w9 ⟨a, rfl, p9, t9, k9⟩
  obtain ⟨a9, l9⟩ := a8.far k9 l8 hnp
  go_wp2_with (go_at_call 19; refine (hw1 _ p9).mono ?_)
  rintro e w10 ⟨rfl, p10, k10⟩
  obtain ⟨a10, l10⟩ := a9.far k10 l9 hnp
  go_wp2
  have p10d : S4 w10.drew := o4.off _ _ _ p10 (Below.refl _ w10).drew (o4.lt _ p10)
  obtain ⟨s8, f8⟩ := arrS (w' := w10.drew) a10 rfl
  have a10d : ArrW w10.drew nn 10 x ⟨#[]⟩ (.slice none 0 0) := a10
  have l10d : nn < w10.drew.heap.size := l10
  have s08 := e8.size
  have s89 := k9.size
  have s910 := k10.size
  have sd : w10.drew.heap.size = w10.heap.size := rfl
  refine wp_region_noPanic ?_
  go_region_law (first
      | (refine step_append_lies _ rfl (.tmp 90) (.tmp 94) 32 rfl w.heap.size 26 i0 (.pointer none) 1 8 Tryz.underlying32 hi hz0 hz1 hz2 rfl (by decide) (.slice none 0 0) 0 [] rfl (World.ownsRow_nil _ _ _ _) ⟨w11.heap.size, 0, none⟩ 2 2 [.pointer (some a), .pointer (some b)] rfl rfl (by exact news2 w11 _ _ 26) (by intro u hu; simp at hu; rcases hu with rfl | rfl <;> rfl) (by decide) (by decide) (by decide) (by have := k11.size; simp; omega) _ rfl ?_; intro g1 cap1 wn hown2 hgrow2 hat2 hlt2; obtain ⟨s12, f12⟩ := arrS hnode11 ((hgrow2.block nn (by simp; omega) (fun q => by cases q)).trans (heap_alloc_old w11 _ hl11)))
      | (go_simp; go_at_call 47; refine (hp _ p10d).mono ?_; rintro e w11 ⟨b, rfl, p11, t11, k11⟩; have hnode11 : ArrW w11 nn 10 x ⟨#[]⟩ (.slice none 0 0) := (by unfold ArrW; rw [k11.block nn l10d hnp]; exact a10d); have hl11 : nn < w11.heap.size := Nat.lt_of_lt_of_le l10d k11.size; obtain ⟨s10, q10⟩ := arrS hnode11 rfl; obtain ⟨s11, q11⟩ := arrS hnode11 (heap_alloc_old w11 (.cells #[.pointer (some a), .pointer (some b)] 26) hl11)))
  all_goals
    refine NoPanic.normal ?_
    have hg1 : g1 = (w11.alloc (.cells #[.pointer (some a), .pointer (some b)] 26)).heap.size := hat2.resolve_left (fun q => by cases q)
    have bn : Below w11.heap.size w11 wn := ((Below.refl _ w11).alloc (Nat.le_refl _) _).grown hgrow2 (by simp) (fun k hk => by cases hk)
    have hgs : g1 = w11.heap.size + 1 := by rw [hg1]; simp
    have ca : wn.cell? ⟨g1, 0, none⟩ = some (.pointer (some a)) := row_cell hown2 rfl (j := 0) rfl
    have cb : wn.cell? ⟨g1, 1, none⟩ = some (.pointer (some b)) := row_cell hown2 rfl (j := 1) rfl
    have hlt3 : g1 < wn.heap.size := hlt2
    have hnode12 : ArrW wn nn 10 x ⟨#[]⟩ (.slice none 0 0) := by unfold ArrW; rw [bn.block nn hl11]; exact hnode11
    have s1011 := k11.size
    have hl12 : nn < wn.heap.size := Nat.lt_of_lt_of_le hl11 bn.size
    have kk : Pk pb w9 wn := ((k10.trans (Pk.below (pb := pb) (Below.refl _ w10).drew)).trans k11).trans (Pk.below bn)
    have T1 := TrAt.keep ((kk.b w8.heap.size).trans (Pkb.set (base := w8.heap.size) wn nn 5 (.slice (some ⟨g1, 0, none⟩) 2 cap1) l8)) (show w.heap.size ≤ w8.heap.size by omega) t1 a t9
    have T2 := TrAt.keep (((Pk.below (pb := pb) bn).b w10.drew.heap.size).trans (Pkb.set (base := w10.drew.heap.size) wn nn 5 (.slice (some ⟨g1, 0, none⟩) 2 cap1) l10d)) (show w.heap.size ≤ w10.drew.heap.size by omega) t2 b t11
    have bf : Below nn wn (wn.setCell ⟨nn, 5, none⟩ (.slice (some ⟨g1, 0, none⟩) 2 cap1)) := (Below.refl _ wn).setCell (p := ⟨nn, 5, none⟩) (Nat.le_refl _) _
    have hNN : N ≤ nn := by omega
    have pf := o5.off _ _ _ (o5.off _ _ _ p11 bn (by have := o5.lt _ p11; omega)) bf hNN
    have nf : ArrW (wn.setCell ⟨nn, 5, none⟩ (.slice (some ⟨g1, 0, none⟩) 2 cap1)) nn 10 x ⟨#[]⟩ (.slice (some ⟨g1, 0, none⟩) 2 cap1) := set_blk hnode12 5 _
    have hgc : ∀ o, (wn.setCell ⟨nn, 5, none⟩ (.slice (some ⟨g1, 0, none⟩) 2 cap1)).cell? ⟨g1, o, none⟩ = wn.cell? ⟨g1, o, none⟩ := fun o => by
      unfold World.cell?
      rw [Below.heap_setCell wn ⟨nn, 5, none⟩ _ g1 (by show g1 ≠ nn; omega)]
    have hsF : (wn.setCell ⟨nn, 5, none⟩ (.slice (some ⟨g1, 0, none⟩) 2 cap1)).heap.size = wn.heap.size := by simp [World.setCell]
    have TT : TrAt w.heap.size pb (wn.setCell ⟨nn, 5, none⟩ (.slice (some ⟨g1, 0, none⟩) 2 cap1)) (.mk 10 ⟨#[]⟩ [t1, t2]) ⟨nn, 0, none⟩ := by
      unfold ArrW at nf
      rw [TrAt]
      refine ⟨nn, 0, _, rfl, hb, by omega, by omega, by simp [World.cell?, nf], ⟨x, by simp [World.cell?, nf]⟩, by simp [World.cell?, nf], by simp [World.cell?, nf], .inr ⟨g1, 0, cap1, rfl, by omega, by omega, by omega, ?_⟩⟩
      rw [KsAt, KsAt, KsAt]
      exact ⟨⟨a, (hgc 0).trans ca, T1⟩, ⟨b, (hgc 1).trans cb, T2⟩, trivial⟩
    have e9 := e8.trans (k9.trans kk)
    have kF : Pk pb w (wn.setCell ⟨nn, 5, none⟩ (.slice (some ⟨g1, 0, none⟩) 2 cap1)) := ⟨bf.os.trans e9.os, bf.tape.trans e9.tape, bf.output.trans e9.output, by omega, fun k hk hne => (bf.block k (by omega)).trans (e9.block k hk hne)⟩
    clear hown2 hgrow2 hat2 hlt2 s8 f8 s10 q10 s11 q11 s12 f12 hg1 bn ca cb hnode12 hnode11 a8 a9 a10 a10d T1 T2 bf nf hgc p9 p10 p11 t9 t11 k9 k10 k11 kk e9
    generalize wn.setCell ⟨nn, 5, none⟩ (.slice (some ⟨g1, 0, none⟩) 2 cap1) = wF at pf TT kF ⊢
    go_wp2_with (go_at_call 19; refine (hw2 _ pf).mono ?_)
    rintro e w14 ⟨rfl, p14, k14⟩
    go_wp2
    refine leaves_cons (f := 44) (args := #[.pointer (some ⟨pb, 0, none⟩)]) (by simp) (by simp [go_sem]) ?_
    refine (hup _ .returning p14).mono ?_
    rintro e u' w18 ⟨rfl, rfl, p18, k18⟩
    exact ⟨_, results_tmp rfl _ _ _, _, rfl, p18, TrAt.keep ((k14.trans k18).b _) (Nat.le_refl _) _ _ TT, (kF.trans k14).trans k18⟩
end Go.Proofs.YtjkgefnlennbjaaGreatDoor
