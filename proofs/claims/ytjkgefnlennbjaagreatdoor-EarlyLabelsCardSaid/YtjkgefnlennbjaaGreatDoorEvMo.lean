/- EarlyLabels: a block as a statement. EarlyLabels: break and continue. EarlyLabels: break and continue as statements. No condition. -/
import Derived.Test.YtjkgefnlennbjaaGreatDoorEvYi
set_option linter.all false
namespace Go.Proofs.YtjkgefnlennbjaaGreatDoor
open Go.Ev Go.RowKit
set_option maxHeartbeats 16000000
set_option maxRecDepth 1000000

theorem stmt_block {S0 S1 S4 S5 : World → Prop} {pb N : Nat} {t : Tr} (o0 : Off pb N S0) (htk : TokAny pb S0) (hdn : Down pb S0 S1) (hye : Yes pb S1 S1 17 ⟨#[123]⟩)
    (hst : ∀ w, S1 w → Calls Tryz.prog 46 #[.pointer (some ⟨pb, 0, none⟩)] w (ResT S4 t pb w)) (hup : Up pb S4 S5) {w : World} (h : S0 w) :
    Calls Tryz.prog 22 #[.pointer (some ⟨pb, 0, none⟩)] w (ResT S5 t pb w) := by
  have hN := o0.lt _ h
  have hpn := o0.pn
  go_enter_defers Tryz.func22, Tryz.ntmps22
  go_wp2_with (go_at_call 11; refine (htk _ h).mono ?_)
  rintro e w1 ⟨⟨y0, y1, y3, x, rfl⟩, p1, k1⟩
  have hfd := field_at w1 y0 y1 x y3
  go_wp2_with (go_at_call 6; refine (make_walk _ _ _ _ _ ⟨_, _, _, rfl⟩).mono ?_)
  rintro e w' ⟨rfl, rfl⟩
  clear hfd
  have al : Below w1.heap.size w1 (w1.alloc (Obj.cells #[Value.int IntKind.i64 20, Value.int IntKind.i64 x, Value.string { data := #[] }, Value.int IntKind.i64 0, Value.int IntKind.i64 0, Value.slice none 0 0] 34)) := (Below.refl _ w1).alloc (Nat.le_refl _) _
  have p2 := o0.off _ _ _ p1 al (o0.lt _ p1)
  have k2 := k1.trans (Pk.below (pb := pb) al)
  have hnode : ArrW (w1.alloc (Obj.cells #[Value.int IntKind.i64 20, Value.int IntKind.i64 x, Value.string { data := #[] }, Value.int IntKind.i64 0, Value.int IntKind.i64 0, Value.slice none 0 0] 34)) w1.heap.size 20 x ⟨#[]⟩ (.slice none 0 0) := heap_alloc_new w1 _
  have hnl : w1.heap.size < (w1.alloc (Obj.cells #[Value.int IntKind.i64 20, Value.int IntKind.i64 x, Value.string { data := #[] }, Value.int IntKind.i64 0, Value.int IntKind.i64 0, Value.slice none 0 0] 34)).heap.size := by simp
  have hb := k1.size
  clear al p1 k1
  generalize w1.alloc (Obj.cells #[Value.int IntKind.i64 20, Value.int IntKind.i64 x, Value.string { data := #[] }, Value.int IntKind.i64 0, Value.int IntKind.i64 0, Value.slice none 0 0] 34) = w2 at p2 k2 hnode hnl ⊢
  generalize w1.heap.size = nn at hnode hnl hb ⊢
  go_wp2_with (go_at_call 45; refine (hdn _ p2).mono ?_)
  rintro e w3 ⟨rfl, p3, k3⟩
  go_wp2_with (go_at_call 17; refine (hye _ p3).mono ?_)
  rintro e w4 ⟨rfl, p4, k4⟩
  have k04 := (k2.trans k3).trans k4
  go_wp2_with (go_at_call 46; refine (hst _ p4).mono ?_)
  rintro e w5 ⟨a, rfl, p5, t5, k5⟩
  go_wp2
  refine leaves_cons (f := 44) (args := #[.pointer (some ⟨pb, 0, none⟩)]) (by simp) (by simp [go_sem]) ?_
  refine (hup _ .returning p5).mono ?_
  rintro e u' w18 ⟨rfl, rfl, p18, k18⟩
  exact ⟨_, results_tmp rfl _ _ _, _, rfl, p18, TrAt.keep (k18.b _) k04.size _ _ t5, (k04.trans k5).trans k18⟩
end Go.Proofs.YtjkgefnlennbjaaGreatDoor

namespace Go.Proofs.YtjkgefnlennbjaaGreatDoor
open Go.Ev Go.RowKit
set_option maxHeartbeats 16000000
set_option maxRecDepth 1000000

/-- What lies below a base is as it was, but for the parser's block. -/
structure Pl (base pb : Nat) (w w' : World) : Prop where
  os : w'.os = w.os
  tape : w'.tape = w.tape
  output : w'.output = w.output
  size : w.heap.size ≤ w'.heap.size
  block : ∀ k, k < base → k ≠ pb → w'.heap[k]? = w.heap[k]?
theorem Pl.trans {base pb : Nat} {a b c : World} (h : Pl base pb a b) (k : Pl base pb b c) : Pl base pb a c := ⟨k.os.trans h.os, k.tape.trans h.tape, k.output.trans h.output, Nat.le_trans h.size k.size, fun i hi hn => (k.block i hi hn).trans (h.block i hi hn)⟩
theorem Pk.l {base pb : Nat} {w w' : World} (h : Pk pb w w') (hb : base ≤ w.heap.size) : Pl base pb w w' := ⟨h.os, h.tape, h.output, h.size, fun k hk hn => h.block k (Nat.lt_of_lt_of_le hk hb) hn⟩
theorem Below.l {base pb : Nat} {w w' : World} (h : Below base w w') : Pl base pb w w' := ⟨h.os, h.tape, h.output, h.size, fun k hk _ => h.block k hk⟩
theorem ArrW.far {pb nb : Nat} {w w' : World} {kd x : Int} {s : ByteArray} {v : Value} (h : ArrW w nb kd x s v) (hk : Pk pb w w') (hl : nb < w.heap.size) (hn : nb ≠ pb) : ArrW w' nb kd x s v ∧ nb < w'.heap.size := ⟨by unfold ArrW; rw [hk.block nb hl hn]; exact h, Nat.lt_of_lt_of_le hl hk.size⟩
theorem ArrW.c0 {nb : Nat} {w : World} {kd x : Int} {s : ByteArray} {v : Value} (h : ArrW w nb kd x s v) : w.cell? ⟨nb, 0, none⟩ = some (.int .i64 kd) ∧ w.frozen? ⟨nb, 0, none⟩ = false ∧ w.cell? ⟨nb, 2, none⟩ = some (.string s) ∧ w.frozen? ⟨nb, 2, none⟩ = false := by
  unfold ArrW at h
  simp [World.cell?, World.frozen?, h]
/-- A name, or a sign. -/
def tokKd (lab : Bool) : Int := if lab then 1 else 5
theorem leave_walk {S0 S1 S2 S3 : World → Prop} {pb N : Nat} {s : ByteArray} {again lab : Bool} (o0 : Off pb N S0) (o2 : Off pb N S2) (n1 : No pb S0 37 ⟨#[114, 101, 116, 117, 114, 110]⟩) (n2 : No pb S0 37 ⟨#[116, 104, 114, 111, 119]⟩)
    (hc : ∀ w, S0 w → Calls Tryz.prog 17 #[.pointer (some ⟨pb, 0, none⟩), .string ⟨#[99, 111, 110, 116, 105, 110, 117, 101]⟩] w fun e w' => e = .returned (.bool again) ∧ S0 w' ∧ Pk pb w w') (hat : Next pb S0 S1)
    (htok : ∀ w, S1 w → Calls Tryz.prog 11 #[.pointer (some ⟨pb, 0, none⟩)] w fun e w' => (∃ (y1 : ByteArray) (y3 x : Int), e = .returned (.agg #[.int .i64 (tokKd lab), .string y1, .int .i64 x, .int .i64 y3])) ∧ S1 w' ∧ Pk pb w w')
    (hname : lab = true → ∀ w, S1 w → Calls Tryz.prog 39 #[.pointer (some ⟨pb, 0, none⟩)] w fun e w' => e = .returned (.string s) ∧ S2 w' ∧ Pk pb w w') (hno : lab = false → s = ⟨#[]⟩ ∧ ∀ w, S1 w → S2 w)
    (hq : Want pb S2 S3 ⟨#[59]⟩) {w : World} {nn base : Nat} {kd x : Int} (h : S0 w) (hN : N ≤ base) (hb : base ≤ nn) (hl : nn < w.heap.size) (hnode : ArrW w nn kd x ⟨#[]⟩ (.slice none 0 0)) :
    Calls Tryz.prog 50 #[.pointer (some ⟨pb, 0, none⟩), .pointer (some ⟨nn, 0, none⟩)] w fun e w' => e = .returned (.tuple #[]) ∧ S3 w' ∧ ArrW w' nn (if again then 15 else 14) x s (.slice none 0 0) ∧ nn < w'.heap.size ∧ Pl base pb w w' := by
  have hpn := o0.pn
  have hnp : nn ≠ pb := by omega
  go_enter Tryz.func50, Tryz.ntmps50
  go_wp2_with (go_at_call 37; refine (n1 _ h).mono ?_)
  rintro e w1 ⟨rfl, p1, k1⟩
  go_wp2_with (go_at_call 37; refine (n2 _ p1).mono ?_)
  rintro e w2 ⟨rfl, p2, k2⟩
  obtain ⟨a2, l2⟩ := hnode.far (k1.trans k2) hl hnp
  obtain ⟨c0, q0, -, -⟩ := a2.c0
  have b3 : Below base w2 (w2.setCell ⟨nn, 0, none⟩ (.int .i64 14)) := (Below.refl _ w2).setCell (p := ⟨nn, 0, none⟩) hb _
  have p3 := o0.off _ _ _ p2 b3 hN
  have a3 : ArrW (w2.setCell ⟨nn, 0, none⟩ (.int .i64 14)) nn 14 x ⟨#[]⟩ (.slice none 0 0) := set_blk a2 0 _
  have l3 : nn < (w2.setCell ⟨nn, 0, none⟩ (.int .i64 14)).heap.size := by simp [World.setCell]; exact l2
  have k03 := ((k1.trans k2).l (base := base) (by omega)).trans (Below.l (pb := pb) b3)
  clear k1 k2 p1 p2 hnode hl b3 a2 l2 h n1 n2
  go_wp2_with (go_at_call 17; refine (hc _ p3).mono ?_)
  clear c0 q0
  generalize w2.setCell ⟨nn, 0, none⟩ (.int .i64 14) = w3 at p3 a3 l3 k03 ⊢
  rintro e w4 ⟨rfl, p4, k4⟩
  obtain ⟨a4, l4⟩ := a3.far k4 l3 hnp
  have k04 := k03.trans (k4.l (base := base) (by omega))
  clear a3 l3 k03 k4 p3
  have mid : ∀ (w5 : World) (K : Int), S0 w5 → ArrW w5 nn K x ⟨#[]⟩ (.slice none 0 0) → nn < w5.heap.size → Pl base pb w w5 → True := fun _ _ _ _ _ _ => trivial
  clear mid
  cases again with
  | false =>
    obtain ⟨j, j', cj, fj, hj, p6, k6⟩ := hat _ p4
    obtain ⟨a6, l6⟩ := a4.far k6 l4 hnp
    have k06 := k04.trans (k6.l (base := base) (by omega))
    go_wp2_with (go_at_call 11; refine (htok _ p6).mono ?_)
    clear cj fj hj
    generalize w4.setCell ⟨pb, 1, none⟩ (.int .i64 j') = w6 at p6 a6 l6 k06 k6 ⊢
    rintro e w7 ⟨⟨y1, y3, xx, rfl⟩, p7, k7⟩
    obtain ⟨a7, l7⟩ := a6.far k7 l6 hnp
    have k07 := k06.trans (k7.l (base := base) (by omega))
    have hfd := field_0 w7 (tokKd lab) y1 xx y3
    clear a4 l4 k04 p4 a6 l6 k06 k6 p6 k7 htok hc hat
    cases lab with
    | false =>
      obtain ⟨rfl, h12⟩ := hno rfl
      rw [show tokKd false = 5 from rfl] at hfd ⊢
      go_wp2_with (go_at_call 19; refine (hq _ (h12 _ p7)).mono ?_)
      rintro e w8 ⟨rfl, p8, k8⟩
      obtain ⟨a8, l8⟩ := a7.far k8 l7 hnp
      go_wp2
      go_end0
      exact ⟨rfl, p8, a8, l8, k07.trans (k8.l (base := base) (by omega))⟩
    | true =>
      rw [show tokKd true = 1 from rfl] at hfd ⊢
      have hnm := hname rfl w7 p7
      clear hname hno
      go_wp2_with (go_at_call 39; refine hnm.mono ?_)
      clear hfd hnm
      rintro e w8 ⟨rfl, p8, k8⟩
      obtain ⟨a8, l8⟩ := a7.far k8 l7 hnp
      have k08 := k07.trans (k8.l (base := base) (by omega))
      obtain ⟨-, -, c2, q2⟩ := a8.c0
      have b9 : Below base w8 (w8.setCell ⟨nn, 2, none⟩ (.string s)) := (Below.refl _ w8).setCell (p := ⟨nn, 2, none⟩) hb _
      have p9 := o2.off _ _ _ p8 b9 hN
      have a9 : ArrW (w8.setCell ⟨nn, 2, none⟩ (.string s)) nn 14 x s (.slice none 0 0) := set_blk a8 2 _
      have l9 : nn < (w8.setCell ⟨nn, 2, none⟩ (.string s)).heap.size := by simp [World.setCell]; exact l8
      have k09 := k08.trans (Below.l (pb := pb) b9)
      go_wp2_with (go_at_call 19; refine (hq _ p9).mono ?_)
      rintro e w10 ⟨rfl, p10, k10⟩
      obtain ⟨a10, l10⟩ := a9.far k10 l9 hnp
      go_wp2
      go_end0
      exact ⟨rfl, p10, a10, l10, k09.trans (k10.l (base := base) (by omega))⟩
  | true =>
    obtain ⟨c0, q0, -, -⟩ := a4.c0
    have b5 : Below base w4 (w4.setCell ⟨nn, 0, none⟩ (.int .i64 15)) := (Below.refl _ w4).setCell (p := ⟨nn, 0, none⟩) hb _
    have p5 := o0.off _ _ _ p4 b5 hN
    have a5 : ArrW (w4.setCell ⟨nn, 0, none⟩ (.int .i64 15)) nn 15 x ⟨#[]⟩ (.slice none 0 0) := set_blk a4 0 _
    have l5 : nn < (w4.setCell ⟨nn, 0, none⟩ (.int .i64 15)).heap.size := by simp [World.setCell]; exact l4
    have k05 := k04.trans (Below.l (pb := pb) b5)
    obtain ⟨j, j', cj, fj, hj, p6, k6⟩ := hat _ p5
    obtain ⟨a6, l6⟩ := a5.far k6 l5 hnp
    have k06 := k05.trans (k6.l (base := base) (by omega))
    clear a4 l4 k04 p4 b5 a5 l5 k05 p5
    go_wp2_with (go_at_call 11; refine (htok _ p6).mono ?_)
    clear cj fj hj c0 q0
    generalize (w4.setCell ⟨nn, 0, none⟩ (.int .i64 15)).setCell ⟨pb, 1, none⟩ (.int .i64 j') = w6 at p6 a6 l6 k06 k6 ⊢
    rintro e w7 ⟨⟨y1, y3, xx, rfl⟩, p7, k7⟩
    obtain ⟨a7, l7⟩ := a6.far k7 l6 hnp
    have k07 := k06.trans (k7.l (base := base) (by omega))
    have hfd := field_0 w7 (tokKd lab) y1 xx y3
    clear a6 l6 k06 k6 p6 k7 htok hc hat
    cases lab with
    | false =>
      obtain ⟨rfl, h12⟩ := hno rfl
      rw [show tokKd false = 5 from rfl] at hfd ⊢
      go_wp2_with (go_at_call 19; refine (hq _ (h12 _ p7)).mono ?_)
      rintro e w8 ⟨rfl, p8, k8⟩
      obtain ⟨a8, l8⟩ := a7.far k8 l7 hnp
      go_wp2
      go_end0
      exact ⟨rfl, p8, a8, l8, k07.trans (k8.l (base := base) (by omega))⟩
    | true =>
      rw [show tokKd true = 1 from rfl] at hfd ⊢
      have hnm := hname rfl w7 p7
      clear hname hno
      go_wp2_with (go_at_call 39; refine hnm.mono ?_)
      clear hfd hnm
      rintro e w8 ⟨rfl, p8, k8⟩
      obtain ⟨a8, l8⟩ := a7.far k8 l7 hnp
      have k08 := k07.trans (k8.l (base := base) (by omega))
      obtain ⟨-, -, c2, q2⟩ := a8.c0
      have b9 : Below base w8 (w8.setCell ⟨nn, 2, none⟩ (.string s)) := (Below.refl _ w8).setCell (p := ⟨nn, 2, none⟩) hb _
      have p9 := o2.off _ _ _ p8 b9 hN
      have a9 : ArrW (w8.setCell ⟨nn, 2, none⟩ (.string s)) nn 15 x s (.slice none 0 0) := set_blk a8 2 _
      have l9 : nn < (w8.setCell ⟨nn, 2, none⟩ (.string s)).heap.size := by simp [World.setCell]; exact l8
      have k09 := k08.trans (Below.l (pb := pb) b9)
      go_wp2_with (go_at_call 19; refine (hq _ p9).mono ?_)
      rintro e w10 ⟨rfl, p10, k10⟩
      obtain ⟨a10, l10⟩ := a9.far k10 l9 hnp
      go_wp2
      go_end0
      exact ⟨rfl, p10, a10, l10, k09.trans (k10.l (base := base) (by omega))⟩
end Go.Proofs.YtjkgefnlennbjaaGreatDoor

namespace Go.Proofs.YtjkgefnlennbjaaGreatDoor
open Go.Ev Go.RowKit
set_option maxHeartbeats 16000000
set_option maxRecDepth 1000000

/-- break, or continue, is at hand. -/
structure LeaveAt (pb : Nat) (S : World → Prop) (again : Bool) : Prop where
  b1 : No pb S 17 ⟨#[123]⟩
  b2 : No pb S 37 ⟨#[59]⟩
  b3 : No pb S 37 ⟨#[105, 102]⟩
  b4 : No pb S 37 ⟨#[119, 104, 105, 108, 101]⟩
  b5 : No pb S 37 ⟨#[100, 111]⟩
  b6 : No pb S 37 ⟨#[102, 111, 114]⟩
  b7 : No pb S 37 ⟨#[116, 114, 121]⟩
  c1 : No pb S 17 ⟨#[114, 101, 116, 117, 114, 110]⟩
  c2 : No pb S 17 ⟨#[116, 104, 114, 111, 119]⟩
  c3 : ∀ w, S w → Calls Tryz.prog 17 #[.pointer (some ⟨pb, 0, none⟩), .string ⟨#[98, 114, 101, 97, 107]⟩] w fun e w' => e = .returned (.bool (!again)) ∧ S w' ∧ Pk pb w w'
  c4 : ∀ w, S w → Calls Tryz.prog 17 #[.pointer (some ⟨pb, 0, none⟩), .string ⟨#[99, 111, 110, 116, 105, 110, 117, 101]⟩] w fun e w' => e = .returned (.bool again) ∧ S w' ∧ Pk pb w w'
theorem stmt_leave {S0 S1 S4 S5 : World → Prop} {pb N : Nat} {s : ByteArray} {again : Bool} {kd : Nat} (o0 : Off pb N S0) (htk : TokAny pb S0) (hdn : Down pb S0 S1) (hs : LeaveAt pb S1 again)
    (hpl : ∀ (w : World) (nn base : Nat) (x : Int), S1 w → N ≤ base → base ≤ nn → nn < w.heap.size → ArrW w nn 20 x ⟨#[]⟩ (.slice none 0 0) → Calls Tryz.prog 50 #[.pointer (some ⟨pb, 0, none⟩), .pointer (some ⟨nn, 0, none⟩)] w fun e w' => e = .returned (.tuple #[]) ∧ S4 w' ∧ ArrW w' nn (kd : Int) x s (.slice none 0 0) ∧ nn < w'.heap.size ∧ Pl base pb w w') (hup : Up pb S4 S5) {w : World} (h : S0 w) :
    Calls Tryz.prog 22 #[.pointer (some ⟨pb, 0, none⟩)] w (ResT S5 (.mk kd s []) pb w) := by
  have hN := o0.lt _ h
  have hpn := o0.pn
  go_enter_defers Tryz.func22, Tryz.ntmps22
  go_wp2_with (go_at_call 11; refine (htk _ h).mono ?_)
  rintro e w1 ⟨⟨y0, y1, y3, x, rfl⟩, p1, k1⟩
  have hfd := field_at w1 y0 y1 x y3
  go_wp2_with (go_at_call 6; refine (make_walk _ _ _ _ _ ⟨_, _, _, rfl⟩).mono ?_)
  rintro e w' ⟨rfl, rfl⟩
  clear hfd
  have al : Below w1.heap.size w1 (w1.alloc (Obj.cells #[Value.int IntKind.i64 20, Value.int IntKind.i64 x, Value.string { data := #[] }, Value.int IntKind.i64 0, Value.int IntKind.i64 0, Value.slice none 0 0] 34)) := (Below.refl _ w1).alloc (Nat.le_refl _) _
  have p2 := o0.off _ _ _ p1 al (o0.lt _ p1)
  have k2 := k1.trans (Pk.below (pb := pb) al)
  have hnode : ArrW (w1.alloc (Obj.cells #[Value.int IntKind.i64 20, Value.int IntKind.i64 x, Value.string { data := #[] }, Value.int IntKind.i64 0, Value.int IntKind.i64 0, Value.slice none 0 0] 34)) w1.heap.size 20 x ⟨#[]⟩ (.slice none 0 0) := heap_alloc_new w1 _
  have hnl : w1.heap.size < (w1.alloc (Obj.cells #[Value.int IntKind.i64 20, Value.int IntKind.i64 x, Value.string { data := #[] }, Value.int IntKind.i64 0, Value.int IntKind.i64 0, Value.slice none 0 0] 34)).heap.size := by simp
  have hb := k1.size
  clear al p1 k1
  generalize w1.alloc (Obj.cells #[Value.int IntKind.i64 20, Value.int IntKind.i64 x, Value.string { data := #[] }, Value.int IntKind.i64 0, Value.int IntKind.i64 0, Value.slice none 0 0] 34) = w2 at p2 k2 hnode hnl ⊢
  generalize w1.heap.size = nn at hnode hnl hb ⊢
  go_wp2_with (go_at_call 45; refine (hdn _ p2).mono ?_)
  rintro e w3 ⟨rfl, p3, k3⟩
  go_wp2_with (go_at_call 17; refine (hs.b1 _ p3).mono ?_)
  rintro e w4 ⟨rfl, p4, k4⟩
  go_wp2_with (go_at_call 37; refine (hs.b2 _ p4).mono ?_)
  rintro e w5 ⟨rfl, p5, k5⟩
  have k25 := (k3.trans k4).trans k5
  clear k3 k4 k5 p3 p4
  go_wp2_with (go_at_call 37; refine (hs.b3 _ p5).mono ?_)
  rintro e w6 ⟨rfl, p6, k6⟩
  go_wp2_with (go_at_call 37; refine (hs.b4 _ p6).mono ?_)
  rintro e w7 ⟨rfl, p7, k7⟩
  go_wp2_with (go_at_call 37; refine (hs.b5 _ p7).mono ?_)
  rintro e w8 ⟨rfl, p8, k8⟩
  have k28 := ((k25.trans k6).trans k7).trans k8
  clear k25 k6 k7 k8 p5 p6 p7
  go_wp2_with (go_at_call 37; refine (hs.b6 _ p8).mono ?_)
  rintro e w9 ⟨rfl, p9, k9⟩
  go_wp2_with (go_at_call 37; refine (hs.b7 _ p9).mono ?_)
  rintro e w10 ⟨rfl, p10, k10⟩
  go_wp2_with (go_at_call 17; refine (hs.c1 _ p10).mono ?_)
  rintro e w11 ⟨rfl, p11, k11⟩
  have k211 := ((k28.trans k9).trans k10).trans k11
  clear k28 k9 k10 k11 p8 p9 p10
  go_wp2_with (go_at_call 17; refine (hs.c2 _ p11).mono ?_)
  rintro e w12 ⟨rfl, p12, k12⟩
  have h3 := hs.c3
  have h4 := hs.c4
  clear hs
  have fin : ∀ w16, S1 w16 → Pk pb w2 w16 → Calls Tryz.prog 50 #[.pointer (some ⟨pb, 0, none⟩), .pointer (some ⟨nn, 0, none⟩)] w16 fun e w' => e = .returned (.tuple #[]) ∧ S4 w' ∧ TrAt w.heap.size pb w' (.mk kd s []) ⟨nn, 0, none⟩ ∧ Pk pb w w' := fun w16 p16 k16 => by
    refine (hpl w16 nn w.heap.size x p16 hN hb (Nat.lt_of_lt_of_le hnl k16.size) (by unfold ArrW; rw [k16.block nn hnl (by omega)]; exact hnode)).mono ?_
    rintro e w' ⟨h1, h2, h3, hl, h5⟩
    have k02 := k2.trans k16
    refine ⟨h1, h2, ?_, ⟨h5.os.trans k02.os, h5.tape.trans k02.tape, h5.output.trans k02.output, Nat.le_trans k02.size h5.size, fun k hk hn => (h5.block k hk hn).trans (k02.block k hk hn)⟩⟩
    unfold ArrW at h3
    rw [TrAt]
    exact ⟨nn, 0, _, rfl, hb, hl, by omega, by simp [World.cell?, h3], ⟨x, by simp [World.cell?, h3]⟩, by simp [World.cell?, h3], by simp [World.cell?, h3], .inl ⟨rfl, rfl⟩⟩
  clear hpl hnode
  cases again with
  | false =>
    go_wp2_with (go_at_call 17; refine (h3 _ p12).mono ?_)
    rintro e w13 ⟨rfl, p13, k13⟩
    have k213 := (k211.trans k12).trans k13
    clear h3 h4
    go_wp2_with (go_at_call 50; refine (fin _ p13 k213).mono ?_)
    rintro e w17 ⟨rfl, p17, f17, k17⟩
    go_wp2
    refine leaves_cons (f := 44) (args := #[.pointer (some ⟨pb, 0, none⟩)]) (by simp) (by simp [go_sem]) ?_
    refine (hup _ .returning p17).mono ?_
    rintro e u' w18 ⟨rfl, rfl, p18, k18⟩
    exact ⟨_, results_tmp rfl _ _ _, _, rfl, p18, TrAt.keep (k18.b _) (Nat.le_refl _) _ _ f17, k17.trans k18⟩
  | true =>
    go_wp2_with (go_at_call 17; refine (h3 _ p12).mono ?_)
    rintro e w13 ⟨rfl, p13, k13⟩
    go_wp2_with (go_at_call 17; refine (h4 _ p13).mono ?_)
    rintro e w14 ⟨rfl, p14, k14⟩
    have k214 := ((k211.trans k12).trans k13).trans k14
    clear h3 h4
    go_wp2_with (go_at_call 50; refine (fin _ p14 k214).mono ?_)
    rintro e w17 ⟨rfl, p17, f17, k17⟩
    go_wp2
    refine leaves_cons (f := 44) (args := #[.pointer (some ⟨pb, 0, none⟩)]) (by simp) (by simp [go_sem]) ?_
    refine (hup _ .returning p17).mono ?_
    rintro e u' w18 ⟨rfl, rfl, p18, k18⟩
    exact ⟨_, results_tmp rfl _ _ _, _, rfl, p18, TrAt.keep (k18.b _) (Nat.le_refl _) _ _ f17, k17.trans k18⟩
end Go.Proofs.YtjkgefnlennbjaaGreatDoor
