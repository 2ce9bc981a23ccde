/- EarlyLabels: the checker at loops (for). No condition. -/
import Derived.Test.YtjkgefnlennbjaaGreatDoorEvUh
set_option linter.all false
namespace Go.Proofs.YtjkgefnlennbjaaGreatDoor
open Go.Ev Go.RowKit
set_option maxHeartbeats 16000000
set_option maxRecDepth 100000

theorem loop_forof {s2 sX : ByteArray} (hne : sX ≠ ⟨#[]⟩) {ks2 : List Tr} {t2 t3 : Tr} {L A : List ByteArray} {k : Nat} {f : Bool} (N1 : NodeOk (.mk 32 s2 ks2) L A k false) (N2 : NodeOk t2 L A k false) (N3 : NodeOk t3 L A (k + 1) f) (hk : k ≤ 50) {w : World} {cb base : Nat} {a : Addr} {lv av : Value} {bad : Bool} (hc : CkAt cb bad w) (ht : TrAt base cb w (.mk 12 sX [.mk 32 s2 ks2, t2, t3]) a) (hl : RowS cb w lv L) (ha : RowS cb w av A) :
    Calls Tryz.prog 57 #[.pointer (some ⟨cb, 0, none⟩), .pointer (some a), plc lv av k] w fun e w' => e = .returned (.tuple #[]) ∧ CkAt cb (bad || f) w' ∧ Pk cb w w' := by
  have hw : IntKind.i64.wrap ((k : Int) + 1) = (k : Int) + 1 := by have := Go.Ev.wrap_small IntKind.i64 (k + 1) (by show _ ≤ 9223372036854775807; omega); simpa using this
  have al0 := W2_below w lv av k
  have al : Below w.heap.size w (W2 w lv av k) := ⟨al0.os, al0.tape, al0.output, al0.size, al0.block⟩
  have kal := Pk.below (pb := cb) al
  obtain ⟨pA0, pB0, hsz0⟩ := W2_at w lv av k
  have pA : PlcAt (W2 w lv av k) w.heap.size lv av k := pA0
  have pB : PlcAt (W2 w lv av k) (w.heap.size + 1) lv av (k + 1) := pB0
  have hsz : (W2 w lv av k).heap.size = w.heap.size + 2 := hsz0
  have hcl := hc.lt
  have hc1 := hc.keep (al.block cb hcl)
  have hT := TrAt.keep (kal.b base) (Nat.le_refl _) _ _ ht
  have hl1 := hl.keep kal
  have ha1 := ha.keep kal
  obtain ⟨nb, no, g, go, cap, b1, rfl, c0, cs, c5, cg1, tb1, h1, h2, h3, h4, ks⟩ := hT.first
  obtain ⟨b2, cg2, tb2⟩ := KsAt.get ks (j := 1) (t := t2) rfl
  obtain ⟨b3, cg3, tb3⟩ := KsAt.get ks (j := 2) (t := t3) rfl
  obtain ⟨nb1, no1, rfl, m1, m2, -, -, cs1⟩ := tb1.kind
  have NM := names_name tb1
  obtain ⟨lp, ln, lc, rfl⟩ := hl.shape
  obtain ⟨ap, an, ac, rfl⟩ := ha.shape
  have c0' : (W2 w (.slice lp ln lc) (.slice ap an ac) k).cell? ⟨nb, no, none⟩ = some (.int .i64 12) := c0
  have c5' : (W2 w (.slice lp ln lc) (.slice ap an ac) k).cell? ⟨nb, no + 5, none⟩ = some (.slice (some ⟨g, go, none⟩) 3 cap) := c5
  have hnb := ne_toList hne
  have hn1 : sX.toList.isEmpty = false := by rw [ByteArray.toList_eq]; simpa using fun q => hne (ByteArray.ext (by simpa using q))
  have hn2 : ¬ sX.toList = [] := by rw [ByteArray.toList_eq]; simpa using fun q => hne (ByteArray.ext (by simpa using q))
  unfold plc
  clear ht hT hl ha hc c0 c5 ks al al0 pA0 pB0 hsz0
  have hW : ((w.alloc (.cells #[.bool false, .bool false, .bool false, .bool false, .slice lp ln lc, .slice ap an ac, .int .i64 (k : Int)] 54)).alloc (.cells #[.bool false, .bool false, .bool false, .bool false, .slice lp ln lc, .slice ap an ac, .int .i64 ((k : Int) + 1)] 54)) = W2 w (.slice lp ln lc) (.slice ap an ac) k := rfl
  go_enter Tryz.func57, Tryz.ntmps57
  go_wp2_with (go_at_call 53; refine NM.mono ?_)
  clear hW
  generalize W2 w (.slice lp ln lc) (.slice ap an ac) k = w2 at *
  rintro e w3 ⟨gn, capn, rfl, bn, gn1, gn2, cn⟩
  have k3 := Pk.below (pb := cb) bn
  have hc3 := hc1.keep (bn.block cb hc1.lt)
  have UN := unlike_one (cap := capn) (bad := bad) hc3 cn ((k3.cellU (o := no1 + 2) m1 m2).trans cs1)
  go_wp2_with (go_at_call 23; refine UN.mono ?_)
  rintro e w4 ⟨rfl, hc4, k34⟩
  have k4 := k3.trans k34
  have k4d := k4.trans (Pk.below (pb := cb) (Below.refl _ w4).drew)
  have k04 := kal.trans k4
  have q5 : w4.drew.cell? ⟨nb, no + 5, none⟩ = some (.slice (some ⟨g, go, none⟩) 3 cap) := (k4d.cellU (o := no + 5) h1 h2).trans c5'
  have q1 : w4.drew.cell? ⟨g, go, none⟩ = some (.pointer (some ⟨nb1, no1, none⟩)) := (k4d.cellU (o := go) h3 h4).trans cg1
  have r5 := (k4.cellU (o := no + 5) h1 h2).trans c5'
  have r1 := (k4.cellU (o := go) h3 h4).trans cg1
  have r2 := (k4.cellU (o := go + 1) h3 h4).trans cg2
  have r3 := (k4.cellU (o := go + 2) h3 h4).trans cg3
  obtain ⟨pA4, lA4⟩ := pA.far k4 (by omega) (by omega)
  obtain ⟨pB4, lB4⟩ := pB.far k4 (by omega) (by omega)
  have h14 := Nat.lt_of_lt_of_le h1 k4.size
  have h34 := Nat.lt_of_lt_of_le h3 k4.size
  have t14 := TrAt.keep (k4d.b base) (Nat.le_refl _) _ _ tb1
  have t24 := TrAt.keep (k4.b base) (Nat.le_refl _) _ _ tb2
  have t34 := TrAt.keep (k4.b base) (Nat.le_refl _) _ _ tb3
  have l4 := hl1.keep k4
  have a4 := ha1.keep k4
  have C1 := N1 w4.drew cb base ⟨nb1, no1, none⟩ (.slice lp ln lc) (.slice ap an ac) bad hc4 t14 (hl1.keep k4d) (ha1.keep k4d)
  rw [Bool.or_false] at C1
  unfold plc at C1
  have pA4d : PlcAt w4.drew w.heap.size (.slice lp ln lc) (.slice ap an ac) k := pA4
  obtain ⟨x0, x1, x2, x3, x4, x5, x6⟩ := pA4d.cells
  clear hnb hn1 hn2 hne tb1 tb2 tb3 t14 hl1 ha1 pA4d pA pB kal k3 k34 k4 k4d UN NM N1 hc3 hc1 cn bn hc4 cs cs1 cg1 cg2 cg3 c0' c5' r1 m1 m2
  go_wp2
  go_region_law (go_simp; go_at_call 25; refine C1.mono ?_; rintro e w5 ⟨rfl, hc5, k5⟩)
  all_goals
    replace k5 : Pk cb w4 w5 := ⟨k5.os, k5.tape, k5.output, k5.size, k5.block⟩
    have k5d := k5.trans (Pk.below (pb := cb) (Below.refl _ w5).drew)
    have q5 : w5.drew.cell? ⟨nb, no + 5, none⟩ = some (.slice (some ⟨g, go, none⟩) 3 cap) := (k5d.cellU (o := no + 5) h14 h2).trans r5
    have q2 : w5.drew.cell? ⟨g, go + 1, none⟩ = some (.pointer (some b2)) := (k5d.cellU (o := go + 1) h34 h4).trans r2
    have C2 := N2 w5.drew cb base b2 (.slice lp ln lc) (.slice ap an ac) bad hc5 (TrAt.keep (k5d.b base) (Nat.le_refl _) _ _ t24) (l4.keep k5d) (a4.keep k5d)
    rw [Bool.or_false] at C2
    unfold plc at C2
    obtain ⟨pA5, -⟩ := pA4.far k5d lA4 (by omega)
    obtain ⟨x0, x1, x2, x3, x4, x5, x6⟩ := pA5.cells
    clear pA5 C1 hc5
    go_wp2
    go_region_law (go_simp; go_at_call 25; refine C2.mono ?_; rintro e w6 ⟨rfl, hc6, k6⟩)
    all_goals
      replace k6 : Pk cb w5 w6 := ⟨k6.os, k6.tape, k6.output, k6.size, k6.block⟩
      have k46 := k5.trans k6
      have k6d := k46.trans (Pk.below (pb := cb) (Below.refl _ w6).drew)
      have q5 : w6.drew.cell? ⟨nb, no + 5, none⟩ = some (.slice (some ⟨g, go, none⟩) 3 cap) := (k6d.cellU (o := no + 5) h14 h2).trans r5
      have q3 : w6.drew.cell? ⟨g, go + 2, none⟩ = some (.pointer (some b3)) := (k6d.cellU (o := go + 2) h34 h4).trans r3
      have C3 : Calls Tryz.prog 25 #[.pointer (some ⟨cb, 0, none⟩), .pointer (some b3), .agg #[.bool false, .bool false, .bool false, .bool false, .slice lp ln lc, .slice ap an ac, .int .i64 ((k : Int) + 1)]] w6.drew fun e w' => e = .returned (.tuple #[]) ∧ CkAt cb (bad || f) w' ∧ Pk cb w6.drew w' := N3 w6.drew cb base b3 (.slice lp ln lc) (.slice ap an ac) bad hc6 (TrAt.keep (k6d.b base) (Nat.le_refl _) _ _ t34) (l4.keep k6d) (a4.keep k6d)
      obtain ⟨pB5, -⟩ := pB4.far k6d lB4 (by omega)
      obtain ⟨x0, x1, x2, x3, x4, x5, x6⟩ := pB5.cells1
      clear pB5 C2 hc6
      go_wp2
      go_region_law (go_simp; go_at_call 25; refine C3.mono ?_; rintro e w7 ⟨rfl, hc7, k7⟩)
      all_goals
        go_wp2
        go_end0
        exact ⟨rfl, hc7, (k04.trans k46).trans ⟨k7.os, k7.tape, k7.output, k7.size, k7.block⟩⟩
end Go.Proofs.YtjkgefnlennbjaaGreatDoor
