/- EarlyLabels: the checker at loops (do, for). No condition. -/
import Derived.Test.YtjkgefnlennbjaaGreatDoorEvUh
set_option linter.all false
namespace Go.Proofs.YtjkgefnlennbjaaGreatDoor
open Go.Ev Go.RowKit
set_option maxHeartbeats 16000000
set_option maxRecDepth 100000

theorem loop_do {s : ByteArray} {t1 t2 : Tr} {L A : List ByteArray} {k : Nat} {f : Bool} (N1 : NodeOk t1 L A (k + 1) f) (N2 : NodeOk t2 L A k false) (hk : k ≤ 50) {w : World} {cb base : Nat} {a : Addr} {lv av : Value} {bad : Bool} (hc : CkAt cb bad w) (ht : TrAt base cb w (.mk 10 s [t1, t2]) a) (hl : RowS cb w lv L) (ha : RowS cb w av A) :
    Calls Tryz.prog 57 #[.pointer (some ⟨cb, 0, none⟩), .pointer (some a), plc lv av k] w fun e w' => e = .returned (.tuple #[]) ∧ CkAt cb (bad || f) w' ∧ Pk cb w w' := by
  have hw : IntKind.i64.wrap ((k : Int) + 1) = (k : Int) + 1 := by have := Go.Ev.wrap_small IntKind.i64 (k + 1) (by show _ ≤ 9223372036854775807; omega); simpa using this
  have al := W2_below w lv av k
  have kal := Pk.below (pb := cb) al
  obtain ⟨pA, pB, hsz⟩ := W2_at w lv av k
  have hcl := hc.lt
  have hc1 := hc.keep (al.block cb hcl)
  have hT := TrAt.keep (kal.b base) (Nat.le_refl _) _ _ ht
  have hl1 := hl.keep kal
  have ha1 := ha.keep kal
  obtain ⟨nb, no, g, go, cap, b1, rfl, c0, -, c5, cg1, tb1, h1, h2, h3, h4, ks⟩ := hT.first
  obtain ⟨b2, cg2, tb2⟩ := KsAt.get ks (j := 1) (t := t2) rfl
  have C1 := N1 _ cb base b1 lv av bad hc1 tb1 hl1 ha1
  obtain ⟨lp, ln, lc, rfl⟩ := hl.shape
  obtain ⟨ap, an, ac, rfl⟩ := ha.shape
  have c0' : (W2 w (.slice lp ln lc) (.slice ap an ac) k).cell? ⟨nb, no, none⟩ = some (.int .i64 10) := c0
  have c5' : (W2 w (.slice lp ln lc) (.slice ap an ac) k).drew.cell? ⟨nb, no + 5, none⟩ = some (.slice (some ⟨g, go, none⟩) 2 cap) := c5
  obtain ⟨x0, x1, x2, x3, x4, x5, x6⟩ := pB.cells1
  replace C1 : Calls Tryz.prog 25 #[.pointer (some ⟨cb, 0, none⟩), .pointer (some b1), .agg #[.bool false, .bool false, .bool false, .bool false, .slice lp ln lc, .slice ap an ac, .int .i64 ((k : Int) + 1)]] (W2 w (.slice lp ln lc) (.slice ap an ac) k).drew fun e w' => e = .returned (.tuple #[]) ∧ CkAt cb (bad || f) w' ∧ Pk cb (W2 w (.slice lp ln lc) (.slice ap an ac) k).drew w' := C1
  unfold plc
  clear ht hT hl ha hc c0 c5 ks tb1 hc1 al N1
  have hW : ((w.alloc (.cells #[.bool false, .bool false, .bool false, .bool false, .slice lp ln lc, .slice ap an ac, .int .i64 (k : Int)] 54)).alloc (.cells #[.bool false, .bool false, .bool false, .bool false, .slice lp ln lc, .slice ap an ac, .int .i64 ((k : Int) + 1)] 54)) = W2 w (.slice lp ln lc) (.slice ap an ac) k := rfl
  go_enter Tryz.func57, Tryz.ntmps57
  go_wp2
  clear hW
  generalize W2 w (.slice lp ln lc) (.slice ap an ac) k = w2 at *
  go_region_law (go_simp; go_at_call 25; refine C1.mono ?_; rintro e w3 ⟨rfl, hc3, k3⟩)
  all_goals
    have k03 := kal.trans k3
    obtain ⟨pB3, -⟩ := pA.far k3 (by omega) (by omega)
    have d5 := (k3.cellU (o := no + 5) h1 h2).trans c5'
    have dg := (k3.cellU (o := go + 1) h3 h4).trans cg2
    have C2 := N2 w3.drew cb base b2 (.slice lp ln lc) (.slice ap an ac) (bad || f) hc3 (TrAt.keep ((k3.trans (Pk.below (pb := cb) (Below.refl _ w3).drew)).b base) (Nat.le_refl _) _ _ tb2) (hl1.keep (k3.trans (Pk.below (pb := cb) (Below.refl _ w3).drew))) (ha1.keep (k3.trans (Pk.below (pb := cb) (Below.refl _ w3).drew)))
    rw [Bool.or_false] at C2
    have pB3d : PlcAt w3.drew w.heap.size (.slice lp ln lc) (.slice ap an ac) k := pB3
    obtain ⟨y0, y1, y2, y3, y4, y5, y6⟩ := pB3d.cells
    have d5d : w3.drew.cell? ⟨nb, no + 5, none⟩ = some (.slice (some ⟨g, go, none⟩) 2 cap) := d5
    have dgd : w3.drew.cell? ⟨g, go + 1, none⟩ = some (.pointer (some b2)) := dg
    have C2' : Calls Tryz.prog 25 #[.pointer (some ⟨cb, 0, none⟩), .pointer (some b2), .agg #[.bool false, .bool false, .bool false, .bool false, .slice lp ln lc, .slice ap an ac, .int .i64 (k : Int)]] w3.drew fun e w' => e = .returned (.tuple #[]) ∧ CkAt cb (bad || f) w' ∧ Pk cb w3.drew w' := C2
    clear C2 C1 x0 x1 x2 x3 x4 x5 x6 cg1 cg2 c5' c0' tb2 pA pB pB3 pB3d hl1 ha1 hc3 d5 dg kal k3 N2
    go_wp2
    go_region_law (go_simp; go_at_call 25; refine C2'.mono ?_; rintro e w4 ⟨rfl, hc4, k4⟩)
    all_goals
      go_wp2
      go_end0
      exact ⟨rfl, hc4, k03.trans ⟨k4.os, k4.tape, k4.output, k4.size, k4.block⟩⟩
end Go.Proofs.YtjkgefnlennbjaaGreatDoor
