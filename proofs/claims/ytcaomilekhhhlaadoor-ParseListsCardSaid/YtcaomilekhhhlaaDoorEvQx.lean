/- ParseLists: a statement. No condition. -/
import Derived.Test.YtcaomilekhhhlaaDoorEvQw
namespace Go.Proofs.YtcaomilekhhhlaaDoor
open Go.Ev Go.RowKit
set_option maxHeartbeats 16000000
set_option maxRecDepth 1000000

/-- A token at hand. -/
def TokAny (pb : Nat) (S : World → Prop) : Prop := ∀ w, S w → Calls Tryd.prog 9 #[.pointer (some ⟨pb, 0, none⟩)] w fun e w' => (∃ (y0 : Int) (y1 : ByteArray) (y3 x : Int), e = .returned (.agg #[.int .i64 y0, .string y1, .int .i64 x, .int .i64 y3])) ∧ S w' ∧ Pk pb w w'
/-- No statement's word is at hand. -/
structure StmtAt (pb : Nat) (S : World → Prop) (kd : Int) : Prop where
  b1 : No pb S 14 ⟨#[123]⟩
  b2 : No pb S 31 ⟨#[59]⟩
  b3 : No pb S 31 ⟨#[105, 102]⟩
  b4 : No pb S 31 ⟨#[119, 104, 105, 108, 101]⟩
  b5 : No pb S 31 ⟨#[100, 111]⟩
  b6 : No pb S 31 ⟨#[102, 111, 114]⟩
  b7 : No pb S 31 ⟨#[116, 114, 121]⟩
  c1 : No pb S 14 ⟨#[114, 101, 116, 117, 114, 110]⟩
  c2 : No pb S 14 ⟨#[116, 104, 114, 111, 119]⟩
  c3 : No pb S 14 ⟨#[98, 114, 101, 97, 107]⟩
  c4 : No pb S 14 ⟨#[99, 111, 110, 116, 105, 110, 117, 101]⟩
  tok : ∀ w, S w → Calls Tryd.prog 9 #[.pointer (some ⟨pb, 0, none⟩)] w fun e w' => (∃ (y1 : ByteArray) (y3 x : Int), e = .returned (.agg #[.int .i64 kd, .string y1, .int .i64 x, .int .i64 y3])) ∧ S w' ∧ Pk pb w w'
  col : kd = 5 ∨ (kd = 1 ∧ ∀ w, S w → Calls Tryd.prog 29 #[.pointer (some ⟨pb, 0, none⟩), .int .i64 1, .string ⟨#[58]⟩] w fun e w' => e = .returned (.bool false) ∧ S w' ∧ Pk pb w w')
theorem stmt_walk {S0 S1 S3 S4 : World → Prop} {Φ : Nat → Addr → World → Prop} {pb N : Nat} {kd : Int} (o0 : Off pb N S0) (hΦ : Firm Φ pb) (htk : TokAny pb S0) (hdn : Down pb S0 S1) (hs : StmtAt pb S1 kd)
    (hpl : ∀ (w : World) (nn base : Nat) (kd x : Int), S1 w → N ≤ base → base ≤ nn → nn < w.heap.size → ArrAt w nn kd x (.slice none 0 0) → Calls Tryd.prog 45 #[.pointer (some ⟨pb, 0, none⟩), .pointer (some ⟨nn, 0, none⟩)] w fun e w' => e = .returned (.tuple #[]) ∧ S3 w' ∧ WrapAt pb Φ base w' nn 18 ∧ Pl base pb w w')
    (hup : Up pb S3 S4) {w : World} (h : S0 w) : Calls Tryd.prog 19 #[.pointer (some ⟨pb, 0, none⟩)] w (Res S4 (Wrap pb 18 Φ) pb w) := by
  have hN := o0.lt _ h
  have hpn := o0.pn
  go_enter_defers Tryd.func19, Tryd.ntmps19
  go_wp2_with (go_at_call 9; refine (htk _ h).mono ?_)
  rintro e w1 ⟨⟨y0, y1, y3, x, rfl⟩, p1, k1⟩
  have hfd := field_at w1 y0 y1 x y3
  go_wp2_with (go_at_call 7; refine (make_walk _ _ _ _ _ ⟨_, _, _, rfl⟩).mono ?_)
  rintro e w' ⟨rfl, rfl⟩
  clear hfd
  have al : Below w1.heap.size w1 (w1.alloc (Obj.cells #[Value.int IntKind.i64 20, Value.int IntKind.i64 x, Value.string { data := #[] }, Value.int IntKind.i64 0, Value.int IntKind.i64 0, Value.slice none 0 0] 32)) := (Below.refl _ w1).alloc (Nat.le_refl _) _
  have p2 := o0.off _ _ _ p1 al (o0.lt _ p1)
  have k2 := k1.trans (Pk.below (pb := pb) al)
  have hnode : ArrAt (w1.alloc (Obj.cells #[Value.int IntKind.i64 20, Value.int IntKind.i64 x, Value.string { data := #[] }, Value.int IntKind.i64 0, Value.int IntKind.i64 0, Value.slice none 0 0] 32)) w1.heap.size 20 x (.slice none 0 0) := heap_alloc_new w1 _
  have hnl : w1.heap.size < (w1.alloc (Obj.cells #[Value.int IntKind.i64 20, Value.int IntKind.i64 x, Value.string { data := #[] }, Value.int IntKind.i64 0, Value.int IntKind.i64 0, Value.slice none 0 0] 32)).heap.size := by simp
  have hb := k1.size
  clear al p1 k1
  generalize w1.alloc (Obj.cells #[Value.int IntKind.i64 20, Value.int IntKind.i64 x, Value.string { data := #[] }, Value.int IntKind.i64 0, Value.int IntKind.i64 0, Value.slice none 0 0] 32) = w2 at p2 k2 hnode hnl ⊢
  generalize w1.heap.size = nn at hnode hnl hb ⊢
  go_wp2_with (go_at_call 39; refine (hdn _ p2).mono ?_)
  rintro e w3 ⟨rfl, p3, k3⟩
  go_wp2_with (go_at_call 14; refine (hs.b1 _ p3).mono ?_)
  rintro e w4 ⟨rfl, p4, k4⟩
  go_wp2_with (go_at_call 31; refine (hs.b2 _ p4).mono ?_)
  rintro e w5 ⟨rfl, p5, k5⟩
  have k25 := (k3.trans k4).trans k5
  clear k3 k4 k5 p3 p4
  go_wp2_with (go_at_call 31; refine (hs.b3 _ p5).mono ?_)
  rintro e w6 ⟨rfl, p6, k6⟩
  go_wp2_with (go_at_call 31; refine (hs.b4 _ p6).mono ?_)
  rintro e w7 ⟨rfl, p7, k7⟩
  go_wp2_with (go_at_call 31; refine (hs.b5 _ p7).mono ?_)
  rintro e w8 ⟨rfl, p8, k8⟩
  have k28 := ((k25.trans k6).trans k7).trans k8
  clear k25 k6 k7 k8 p5 p6 p7
  go_wp2_with (go_at_call 31; refine (hs.b6 _ p8).mono ?_)
  rintro e w9 ⟨rfl, p9, k9⟩
  go_wp2_with (go_at_call 31; refine (hs.b7 _ p9).mono ?_)
  rintro e w10 ⟨rfl, p10, k10⟩
  go_wp2_with (go_at_call 14; refine (hs.c1 _ p10).mono ?_)
  rintro e w11 ⟨rfl, p11, k11⟩
  have k211 := ((k28.trans k9).trans k10).trans k11
  clear k28 k9 k10 k11 p8 p9 p10
  go_wp2_with (go_at_call 14; refine (hs.c2 _ p11).mono ?_)
  rintro e w12 ⟨rfl, p12, k12⟩
  go_wp2_with (go_at_call 14; refine (hs.c3 _ p12).mono ?_)
  rintro e w13 ⟨rfl, p13, k13⟩
  go_wp2_with (go_at_call 14; refine (hs.c4 _ p13).mono ?_)
  rintro e w14 ⟨rfl, p14, k14⟩
  have k214 := ((k211.trans k12).trans k13).trans k14
  clear k211 k12 k13 k14 p11 p12 p13
  go_wp2_with (go_at_call 9; refine (hs.tok _ p14).mono ?_)
  rintro e w15 ⟨⟨z1, z3, xz, rfl⟩, p15, k15⟩
  have hfd := field_0 w15 kd z1 xz z3
  have k215 := k214.trans k15
  clear k214 k15 p14
  have hcol := hs.col
  clear hs
  have fin : ∀ w16, S1 w16 → Pk pb w2 w16 → Calls Tryd.prog 45 #[.pointer (some ⟨pb, 0, none⟩), .pointer (some ⟨nn, 0, none⟩)] w16 fun e w' => e = .returned (.tuple #[]) ∧ S3 w' ∧ WrapAt pb Φ w.heap.size w' nn 18 ∧ Pk pb w w' := fun w16 p16 k16 => by
    refine (hpl w16 nn w.heap.size 20 x p16 hN hb (Nat.lt_of_lt_of_le hnl k16.size) (by unfold ArrAt; rw [k16.block nn hnl (by omega)]; exact hnode)).mono ?_
    rintro e w' ⟨h1, h2, h3, h4⟩
    exact ⟨h1, h2, h3, h4.pk (k2.trans k16)⟩
  rcases hcol with rfl | ⟨rfl, hcol⟩
  · go_wp2_with (go_at_call 45; refine (fin _ p15 k215).mono ?_)
    rintro e w17 ⟨rfl, p17, f17, k17⟩
    clear hfd
    go_wp2
    refine leaves_cons (f := 38) (args := #[.pointer (some ⟨pb, 0, none⟩)]) (by simp) (by simp [go_sem]) ?_
    refine (hup _ .returning p17).mono ?_
    rintro e u' w18 ⟨rfl, rfl, p18, k18⟩
    exact ⟨_, results_tmp rfl _ _ _, _, rfl, p18, ⟨nn, rfl, f17.keep hΦ (k18.b _)⟩, k17.trans k18⟩
  · go_wp2_with (go_at_call 29; refine (hcol _ p15).mono ?_)
    rintro e w16 ⟨rfl, p16, k16⟩
    clear hfd
    go_wp2_with (go_at_call 45; refine (fin _ p16 (k215.trans k16)).mono ?_)
    rintro e w17 ⟨rfl, p17, f17, k17⟩
    go_wp2
    refine leaves_cons (f := 38) (args := #[.pointer (some ⟨pb, 0, none⟩)]) (by simp) (by simp [go_sem]) ?_
    refine (hup _ .returning p17).mono ?_
    rintro e u' w18 ⟨rfl, rfl, p18, k18⟩
    exact ⟨_, results_tmp rfl _ _ _, _, rfl, p18, ⟨nn, rfl, f17.keep hΦ (k18.b _)⟩, k17.trans k18⟩
theorem item_walk {S0 S4 : World → Prop} {Ψ : Nat → Addr → World → Prop} {pb : Nat} (hΨ : Firm Ψ pb) (htk : TokAny pb S0) (n1 : No pb S0 14 ⟨#[108, 101, 116]⟩) (n2 : No pb S0 14 ⟨#[99, 111, 110, 115, 116]⟩) (n3 : No pb S0 14 ⟨#[102, 117, 110, 99, 116, 105, 111, 110]⟩) (n4 : No pb S0 14 ⟨#[99, 108, 97, 115, 115]⟩)
    (hst : ∀ w, S0 w → Calls Tryd.prog 19 #[.pointer (some ⟨pb, 0, none⟩)] w (Res S4 Ψ pb w)) {w : World} (h : S0 w) : Calls Tryd.prog 10 #[.pointer (some ⟨pb, 0, none⟩)] w (Res S4 Ψ pb w) := by
  go_enter Tryd.func10, Tryd.ntmps10
  go_wp2_with (go_at_call 9; refine (htk _ h).mono ?_)
  rintro e w1 ⟨⟨y0, y1, y3, x, rfl⟩, p1, k1⟩
  have hfd := field_at w1 y0 y1 x y3
  go_wp2_with (go_at_call 14; refine (n1 _ p1).mono ?_)
  clear hfd
  rintro e w2 ⟨rfl, p2, k2⟩
  go_wp2_with (go_at_call 14; refine (n2 _ p2).mono ?_)
  rintro e w3 ⟨rfl, p3, k3⟩
  go_wp2_with (go_at_call 14; refine (n3 _ p3).mono ?_)
  rintro e w4 ⟨rfl, p4, k4⟩
  go_wp2_with (go_at_call 14; refine (n4 _ p4).mono ?_)
  rintro e w5 ⟨rfl, p5, k5⟩
  have k05 := (((k1.trans k2).trans k3).trans k4).trans k5
  go_wp2_with (go_at_call 19; refine (hst _ p5).mono ?_)
  rintro e w6 ⟨a, rfl, p6, f6, k6⟩
  go_wp2
  go_ret
  exact ⟨a, rfl, p6, hΨ.mono _ _ _ _ f6 k05.size, k05.trans k6⟩
end Go.Proofs.YtcaomilekhhhlaaDoor
