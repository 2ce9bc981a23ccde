/- EarlyLabels: a label, and its statement. No condition. -/
import Derived.Test.YtjkgefnlennbjaaGreatDoorEvYh
set_option linter.all false
namespace Go.Proofs.YtjkgefnlennbjaaGreatDoor
open Go.Ev Go.RowKit
set_option maxHeartbeats 16000000
set_option maxRecDepth 1000000

/-- A label is at hand. -/
structure LabelAt (pb : Nat) (S S' : World → Prop) (s : ByteArray) : Prop where
  b1 : No pb S 17 ⟨#[123]⟩
  b2 : No pb S 37 ⟨#[59]⟩
  b3 : No pb S 37 ⟨#[105, 102]⟩
  b4 : No pb S 37 ⟨#[119, 104, 105, 108, 101]⟩
  b5 : No pb S 37 ⟨#[100, 111]⟩
  b6 : No pb S 37 ⟨#[102, 111, 114]⟩
  b7 : No pb S 37 ⟨#[116, 114, 121]⟩
  c1 : No pb S 17 ⟨#[114, 101, 116, 117, 114, 110]⟩
  c2 : No pb S 17 ⟨#[116, 104, 114, 111, 119]⟩
  c3 : No pb S 17 ⟨#[98, 114, 101, 97, 107]⟩
  c4 : No pb S 17 ⟨#[99, 111, 110, 116, 105, 110, 117, 101]⟩
  tok : ∀ w, S w → Calls Tryz.prog 11 #[.pointer (some ⟨pb, 0, none⟩)] w fun e w' => (∃ (y1 : ByteArray) (y3 x : Int), e = .returned (.agg #[.int .i64 1, .string y1, .int .i64 x, .int .i64 y3])) ∧ S w' ∧ Pk pb w w'
  col : ∀ w, S w → Calls Tryz.prog 35 #[.pointer (some ⟨pb, 0, none⟩), .int .i64 1, .string ⟨#[58]⟩] w fun e w' => e = .returned (.bool true) ∧ S w' ∧ Pk pb w w'
  name : ∀ w, S w → Calls Tryz.prog 39 #[.pointer (some ⟨pb, 0, none⟩)] w fun e w' => e = .returned (.string s) ∧ S' w' ∧ Pk pb w w'
theorem field_0 (w : World) (y0 : Int) (y1 : ByteArray) (x y3 : Int) : Sem.run Tryz.prog (Instr.field 45 (.agg #[.int .i64 y0, .string y1, .int .i64 x, .int .i64 y3]) 0) w = .ok (.int .i64 y0) w := by
  simp [Instr.field, run_underlying Tryz.underlying45, asAgg, part]
/-- One token on. -/
def Next (pb : Nat) (S S' : World → Prop) : Prop := ∀ w, S w → ∃ j j' : Int, w.cell? ⟨pb, 1, none⟩ = some (.int .i64 j) ∧ w.frozen? ⟨pb, 1, none⟩ = false ∧ IntKind.i64.wrap (j + 1) = j' ∧ S' (w.setCell ⟨pb, 1, none⟩ (.int .i64 j')) ∧ Pk pb w (w.setCell ⟨pb, 1, none⟩ (.int .i64 j'))
theorem label_walk {S0 S1 S2 S3 S4 S5 : World → Prop} {pb N : Nat} {s : ByteArray} {t : Tr} (o0 : Off pb N S0) (o2 : Off pb N S2) (o3 : Off pb N S3) (o4 : Off pb N S4) (htk : TokAny pb S0) (hdn : Down pb S0 S1) (hs : LabelAt pb S1 S2 s) (hat : Next pb S2 S3)
    (hst : ∀ w, S3 w → Calls Tryz.prog 22 #[.pointer (some ⟨pb, 0, none⟩)] w (ResT S4 t pb w)) (hup : Up pb S4 S5) {w : World} (h : S0 w) :
    Calls Tryz.prog 22 #[.pointer (some ⟨pb, 0, none⟩)] w (ResT S5 (.mk 19 s [t]) pb w) := by
  obtain ⟨i0, hi, hz0, hz1, hz2⟩ := info_at (P := Tryz.prog) (t := 26) (z := .pointer none) (s := 1) (b := 8) (by kernel_rfl) (by kernel_rfl) (by kernel_rfl)
  have hN := o0.lt _ h
  have hpn := o0.pn
  go_enter_defers Tryz.func22, Tryz.ntmps22
  go_wp2_with (go_at_call 11; refine (htk _ h).mono ?_)
  rintro e w1 ⟨⟨y0, y1, y3, x, rfl⟩, p1, k1⟩
  have hfd := field_at w1 y0 y1 x y3
  go_wp2_with (go_at_call 6; refine (make_walk _ _ _ _ _ ⟨_, _, _, rfl⟩).mono ?_)
  rintro e w' ⟨rfl, rfl⟩
  clear hfd
  have al : Below w1.heap.size w1 (w1.alloc (Obj.cells #[Value.int IntKind.i64 20, Value.int IntKind.i64 x, Value.string { data := #[] }, Value.int IntKind.i64 0, Value.int IntKind.i64 0, Value.slice none 0 0] 34)) := (Below.refl _ w1).alloc (Nat.le_refl _) _
  have p2 := o0.off _ _ _ p1 al (o0.lt _ p1)
  have k2 := k1.trans (Pk.below (pb := pb) al)
  have hnode : ArrW (w1.alloc (Obj.cells #[Value.int IntKind.i64 20, Value.int IntKind.i64 x, Value.string { data := #[] }, Value.int IntKind.i64 0, Value.int IntKind.i64 0, Value.slice none 0 0] 34)) w1.heap.size 20 x ⟨#[]⟩ (.slice none 0 0) := heap_alloc_new w1 _
  have hnl : w1.heap.size < (w1.alloc (Obj.cells #[Value.int IntKind.i64 20, Value.int IntKind.i64 x, Value.string { data := #[] }, Value.int IntKind.i64 0, Value.int IntKind.i64 0, Value.slice none 0 0] 34)).heap.size := by simp
  have hb := k1.size
  clear al p1 k1
  generalize w1.alloc (Obj.cells #[Value.int IntKind.i64 20, Value.int IntKind.i64 x, Value.string { data := #[] }, Value.int IntKind.i64 0, Value.int IntKind.i64 0, Value.slice none 0 0] 34) = w2 at p2 k2 hnode hnl ⊢
  generalize w1.heap.size = nn at hnode hnl hb ⊢
  go_wp2_with (go_at_call 45; refine (hdn _ p2).mono ?_)
  rintro e w3 ⟨rfl, p3, k3⟩
  go_wp2_with (go_at_call 17; refine (hs.b1 _ p3).mono ?_)
  rintro e w4 ⟨rfl, p4, k4⟩
  go_wp2_with (go_at_call 37; refine (hs.b2 _ p4).mono ?_)
  rintro e w5 ⟨rfl, p5, k5⟩
  have k25 := (k3.trans k4).trans k5
  clear k3 k4 k5 p3 p4
  go_wp2_with (go_at_call 37; refine (hs.b3 _ p5).mono ?_)
  rintro e w6 ⟨rfl, p6, k6⟩
  go_wp2_with (go_at_call 37; refine (hs.b4 _ p6).mono ?_)
  rintro e w7 ⟨rfl, p7, k7⟩
  go_wp2_with (go_at_call 37; refine (hs.b5 _ p7).mono ?_)
  rintro e w8 ⟨rfl, p8, k8⟩
  have k28 := ((k25.trans k6).trans k7).trans k8
  clear k25 k6 k7 k8 p5 p6 p7
  go_wp2_with (go_at_call 37; refine (hs.b6 _ p8).mono ?_)
  rintro e w9 ⟨rfl, p9, k9⟩
  go_wp2_with (go_at_call 37; refine (hs.b7 _ p9).mono ?_)
  rintro e w10 ⟨rfl, p10, k10⟩
  go_wp2_with (go_at_call 17; refine (hs.c1 _ p10).mono ?_)
  rintro e w11 ⟨rfl, p11, k11⟩
  have k211 := ((k28.trans k9).trans k10).trans k11
  clear k28 k9 k10 k11 p8 p9 p10
  go_wp2_with (go_at_call 17; refine (hs.c2 _ p11).mono ?_)
  rintro e w12 ⟨rfl, p12, k12⟩
  go_wp2_with (go_at_call 17; refine (hs.c3 _ p12).mono ?_)
  rintro e w13 ⟨rfl, p13, k13⟩
  go_wp2_with (go_at_call 17; refine (hs.c4 _ p13).mono ?_)
  rintro e w14 ⟨rfl, p14, k14⟩
  have k214 := ((k211.trans k12).trans k13).trans k14
  clear k211 k12 k13 k14 p11 p12 p13
  go_wp2_with (go_at_call 11; refine (hs.tok _ p14).mono ?_)
  rintro e w15 ⟨⟨z1, z3, xz, rfl⟩, p15, k15⟩
  have hfd := field_0 w15 1 z1 xz z3
  go_wp2_with (go_at_call 35; refine (hs.col _ p15).mono ?_)
  rintro e w16 ⟨rfl, p16, k16⟩
  clear hfd
  go_wp2_with (go_at_call 39; refine (hs.name _ p16).mono ?_)
  rintro e w17 ⟨rfl, p17, k17⟩
  have k217 := ((k214.trans k15).trans k16).trans k17
  have hnode7 : ArrW w17 nn 20 x ⟨#[]⟩ (.slice none 0 0) := by unfold ArrW; rw [k217.block nn hnl (by omega)]; exact hnode
  have hl7 : nn < w17.heap.size := Nat.lt_of_lt_of_le hnl k217.size
  have k07 := k2.trans k217
  clear k2 k214 k15 k16 k17 k217 p2 p14 p15 p16 hnode hnl hs
  have c0 : w17.cell? ⟨nn, 0, none⟩ = some (.int .i64 20) := by unfold ArrW at hnode7; simp [World.cell?, hnode7]
  have q0 : w17.frozen? ⟨nn, 0, none⟩ = false := by unfold ArrW at hnode7; simp [World.frozen?, hnode7]
  have c2 : w17.cell? ⟨nn, 2, none⟩ = some (.string ⟨#[]⟩) := by unfold ArrW at hnode7; simp [World.cell?, hnode7]
  have q2 : w17.frozen? ⟨nn, 2, none⟩ = false := by unfold ArrW at hnode7; simp [World.frozen?, hnode7]
  have b8 : Below nn w17 ((w17.setCell ⟨nn, 0, none⟩ (.int .i64 19)).setCell ⟨nn, 2, none⟩ (.string s)) := ((Below.refl _ w17).setCell (p := ⟨nn, 0, none⟩) (Nat.le_refl _) _).setCell (p := ⟨nn, 2, none⟩) (Nat.le_refl _) _
  have p8 := o2.off _ _ _ p17 b8 (by omega)
  have hnode8 : ArrW ((w17.setCell ⟨nn, 0, none⟩ (.int .i64 19)).setCell ⟨nn, 2, none⟩ (.string s)) nn 19 x s (.slice none 0 0) := set_blk (set_blk hnode7 0 _) 2 _
  have hsz8 : ((w17.setCell ⟨nn, 0, none⟩ (.int .i64 19)).setCell ⟨nn, 2, none⟩ (.string s)).heap.size = w17.heap.size := by simp [World.setCell]
  obtain ⟨j, j', cj, fj, hj, p9, k9⟩ := hat _ p8
  have hnode9 : ArrW (((w17.setCell ⟨nn, 0, none⟩ (.int .i64 19)).setCell ⟨nn, 2, none⟩ (.string s)).setCell ⟨pb, 1, none⟩ (.int .i64 j')) nn 19 x s (.slice none 0 0) := by unfold ArrW; rw [k9.block nn (by omega) (by omega)]; exact hnode8
  go_wp2
  have e8 : Pk pb w (((w17.setCell ⟨nn, 0, none⟩ (.int .i64 19)).setCell ⟨nn, 2, none⟩ (.string s)).setCell ⟨pb, 1, none⟩ (.int .i64 j')) := ⟨k9.os.trans (b8.os.trans k07.os), k9.tape.trans (b8.tape.trans k07.tape), k9.output.trans (b8.output.trans k07.output), by have := k9.size; have := k07.size; omega, fun k hk hne => (k9.block k (by have := k07.size; omega) hne).trans ((b8.block k (by omega)).trans (k07.block k hk hne))⟩
  have hl9 : nn < (((w17.setCell ⟨nn, 0, none⟩ (.int .i64 19)).setCell ⟨nn, 2, none⟩ (.string s)).setCell ⟨pb, 1, none⟩ (.int .i64 j')).heap.size := by have := k9.size; omega
  clear b8 hnode7 p17 p8 c0 q0 c2 q2 cj fj hj k9 k07 hnode8 hsz8 hl7
  generalize ((w17.setCell ⟨nn, 0, none⟩ (.int .i64 19)).setCell ⟨nn, 2, none⟩ (.string s)).setCell ⟨pb, 1, none⟩ (.int .i64 j') = w8 at p9 hnode9 e8 hl9 ⊢
  have p8d : S3 w8.drew := o3.off _ _ _ p9 (Below.refl _ w8).drew (o3.lt _ p9)
  obtain ⟨s8, f8⟩ := arrS (w' := w8.drew) hnode9 rfl
  have hnode8d : ArrW w8.drew nn 19 x s (.slice none 0 0) := hnode9
  have hl8d : nn < w8.drew.heap.size := hl9
  have s08 := e8.size
  have sd8 : w8.drew.heap.size = w8.heap.size := rfl
  refine wp_region_noPanic ?_
  go_region_law (first
      | (refine step_append_lies _ rfl (.tmp 158) (.tmp 161) 32 rfl w.heap.size 26 i0 (.pointer none) 1 8 Tryz.underlying32 hi hz0 hz1 hz2 rfl (by decide) (.slice none 0 0) 0 [] rfl (World.ownsRow_nil _ _ _ _) ⟨w10.heap.size, 0, none⟩ 1 1 [.pointer (some a)] rfl rfl (by exact news1 w10 _ 26) (by intro u hu; simp at hu; subst hu; rfl) (by decide) (by decide) (by decide) (by have := k10.size; simp; omega) _ rfl ?_; intro g1 cap1 wn hown2 hgrow2 hat2 hlt2; obtain ⟨s12, f12⟩ := arrS hnode10 ((hgrow2.block nn (by simp; omega) (fun q => by cases q)).trans (heap_alloc_old w10 _ hl10)))
      | (go_simp; go_at_call 22; refine (hst _ p8d).mono ?_; rintro e w10 ⟨a, rfl, p10, t10, k10⟩; have hnode10 : ArrW w10 nn 19 x s (.slice none 0 0) := (by unfold ArrW; rw [k10.block nn hl8d (by omega)]; exact hnode8d); have hl10 : nn < w10.heap.size := Nat.lt_of_lt_of_le hl8d k10.size; obtain ⟨s10, q10⟩ := arrS hnode10 rfl; obtain ⟨s11, q11⟩ := arrS hnode10 (heap_alloc_old w10 (.cells #[.pointer (some a)] 26) hl10)))
  all_goals
    refine NoPanic.normal ?_
    have hg1 : g1 = (w10.alloc (.cells #[.pointer (some a)] 26)).heap.size := hat2.resolve_left (fun q => by cases q)
    have bn : Below w10.heap.size w10 wn := ((Below.refl _ w10).alloc (Nat.le_refl _) _).grown hgrow2 (by simp) (fun k hk => by cases hk)
    have hgs : g1 = w10.heap.size + 1 := by rw [hg1]; simp
    have ca : wn.cell? ⟨g1, 0, none⟩ = some (.pointer (some a)) := row_cell hown2 rfl (j := 0) rfl
    have hlt3 : g1 < wn.heap.size := hlt2
    have hnode12 : ArrW wn nn 19 x s (.slice none 0 0) := by unfold ArrW; rw [bn.block nn hl10]; exact hnode10
    have s810 := k10.size
    have hl12 : nn < wn.heap.size := Nat.lt_of_lt_of_le hl10 bn.size
    have T1 := TrAt.keep (((Pk.below (pb := pb) bn).b w8.drew.heap.size).trans (Pkb.set (base := w8.drew.heap.size) wn nn 5 (.slice (some ⟨g1, 0, none⟩) 1 cap1) hl8d)) (show w.heap.size ≤ w8.drew.heap.size by omega) t a t10
    have bf : Below nn wn (wn.setCell ⟨nn, 5, none⟩ (.slice (some ⟨g1, 0, none⟩) 1 cap1)) := (Below.refl _ wn).setCell (p := ⟨nn, 5, none⟩) (Nat.le_refl _) _
    have hNN : N ≤ nn := by omega
    have pf := o4.off _ _ _ (o4.off _ _ _ p10 bn (by have := o4.lt _ p10; omega)) bf hNN
    have nf : ArrW (wn.setCell ⟨nn, 5, none⟩ (.slice (some ⟨g1, 0, none⟩) 1 cap1)) nn 19 x s (.slice (some ⟨g1, 0, none⟩) 1 cap1) := set_blk hnode12 5 _
    have hgc : ∀ o, (wn.setCell ⟨nn, 5, none⟩ (.slice (some ⟨g1, 0, none⟩) 1 cap1)).cell? ⟨g1, o, none⟩ = wn.cell? ⟨g1, o, none⟩ := fun o => by
      unfold World.cell?
      rw [Below.heap_setCell wn ⟨nn, 5, none⟩ _ g1 (by show g1 ≠ nn; omega)]
    have hsF : (wn.setCell ⟨nn, 5, none⟩ (.slice (some ⟨g1, 0, none⟩) 1 cap1)).heap.size = wn.heap.size := by simp [World.setCell]
    have TT : TrAt w.heap.size pb (wn.setCell ⟨nn, 5, none⟩ (.slice (some ⟨g1, 0, none⟩) 1 cap1)) (.mk 19 s [t]) ⟨nn, 0, none⟩ := by
      unfold ArrW at nf
      rw [TrAt]
      refine ⟨nn, 0, _, rfl, hb, by omega, by omega, by simp [World.cell?, nf], ⟨x, by simp [World.cell?, nf]⟩, by simp [World.cell?, nf], by simp [World.cell?, nf], .inr ⟨g1, 0, cap1, rfl, by omega, by omega, by omega, ?_⟩⟩
      rw [KsAt, KsAt]
      exact ⟨⟨a, (hgc 0).trans ca, T1⟩, trivial⟩
    have kF : Pk pb w (wn.setCell ⟨nn, 5, none⟩ (.slice (some ⟨g1, 0, none⟩) 1 cap1)) := ⟨(bf.os.trans (bn.os.trans k10.os)).trans e8.os, (bf.tape.trans (bn.tape.trans k10.tape)).trans e8.tape, (bf.output.trans (bn.output.trans k10.output)).trans e8.output, by omega, fun k hk hne => (bf.block k (by omega)).trans ((bn.block k (by omega)).trans ((k10.block k (by omega) hne).trans (e8.block k hk hne)))⟩
    clear hown2 hgrow2 hat2 hlt2 s8 f8 s10 q10 s11 q11 s12 f12 hg1 bn ca hnode12 hnode10 hnode9 hnode8d T1 bf nf hgc p10 t10 k10
    generalize wn.setCell ⟨nn, 5, none⟩ (.slice (some ⟨g1, 0, none⟩) 1 cap1) = wF at pf TT kF ⊢
    go_wp2
    refine leaves_cons (f := 44) (args := #[.pointer (some ⟨pb, 0, none⟩)]) (by simp) (by simp [go_sem]) ?_
    refine (hup _ .returning pf).mono ?_
    rintro e u' w18 ⟨rfl, rfl, p18, k18⟩
    exact ⟨_, results_tmp rfl _ _ _, _, rfl, p18, TrAt.keep (k18.b _) (Nat.le_refl _) _ _ TT, kF.trans k18⟩
end Go.Proofs.YtjkgefnlennbjaaGreatDoor
