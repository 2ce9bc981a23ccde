/- EarlyLabels: the checker at loops. No condition. -/
import Derived.Test.YtjkgefnlennbjaaGreatDoorEvMs
set_option linter.all false
namespace Go.Proofs.YtjkgefnlennbjaaGreatDoor
open Go.Ev Go.RowKit
set_option maxHeartbeats 8000000
set_option maxRecDepth 100000

theorem RowS.shape {cb : Nat} {w : World} {v : Value} {xs : List ByteArray} (h : RowS cb w v xs) : ∃ p n c, v = .slice p n c := by
  rcases h with ⟨-, rfl⟩ | ⟨g, cap, rfl, -⟩
  · exact ⟨_, _, _, rfl⟩
  · exact ⟨_, _, _, rfl⟩
/-- Two places: as it was, and in one loop more. -/
def W2 (w : World) (lv av : Value) (k : Nat) : World := ((w.alloc (.cells #[.bool false, .bool false, .bool false, .bool false, lv, av, .int .i64 (k : Int)] 54)).alloc (.cells #[.bool false, .bool false, .bool false, .bool false, lv, av, .int .i64 ((k : Int) + 1)] 54))
theorem W2_below (w : World) (lv av : Value) (k : Nat) : Below w.heap.size w (W2 w lv av k).drew := (((Below.refl _ w).alloc (Nat.le_refl _) _).alloc (by simp) _).drew
theorem W2_at (w : World) (lv av : Value) (k : Nat) : PlcAt (W2 w lv av k).drew w.heap.size lv av k ∧ PlcAt (W2 w lv av k).drew (w.heap.size + 1) lv av (k + 1) ∧ (W2 w lv av k).drew.heap.size = w.heap.size + 2 := by
  have h1 : (w.alloc (.cells #[.bool false, .bool false, .bool false, .bool false, lv, av, .int .i64 (k : Int)] 54)).heap.size = w.heap.size + 1 := by simp
  refine ⟨?_, ?_, by show (W2 w lv av k).heap.size = _; simp [W2]⟩
  · show (W2 w lv av k).heap[w.heap.size]? = _
    unfold W2
    rw [heap_alloc_old _ _ (by omega)]
    exact heap_alloc_new w _
  · show (W2 w lv av k).heap[w.heap.size + 1]? = _
    unfold W2
    rw [← h1]
    exact heap_alloc_new _ _
theorem PlcAt.far {w w' : World} {cb b : Nat} {lv av : Value} {k : Nat} (h : PlcAt w b lv av k) (hk : Pk cb w w') (hl : b < w.heap.size) (hn : b ≠ cb) : PlcAt w' b lv av k ∧ b < w'.heap.size := ⟨by unfold PlcAt; rw [hk.block b hl hn]; exact h, Nat.lt_of_lt_of_le hl hk.size⟩
theorem PlcAt.cells1 {w : World} {b : Nat} {lv av : Value} {k : Nat} (h : PlcAt w b lv av (k + 1)) : w.cell? ⟨b, 0, none⟩ = some (.bool false) ∧ w.cell? ⟨b, 1, none⟩ = some (.bool false) ∧ w.cell? ⟨b, 2, none⟩ = some (.bool false) ∧ w.cell? ⟨b, 3, none⟩ = some (.bool false) ∧ w.cell? ⟨b, 4, none⟩ = some lv ∧ w.cell? ⟨b, 5, none⟩ = some av ∧ w.cell? ⟨b, 6, none⟩ = some (.int .i64 ((k : Int) + 1)) := h.cells
theorem loop_while {s : ByteArray} {t1 t2 : Tr} {L A : List ByteArray} {k : Nat} {f : Bool} (N1 : NodeOk t1 L A k false) (N2 : NodeOk t2 L A (k + 1) f) (hk : k ≤ 50) {w : World} {cb base : Nat} {a : Addr} {lv av : Value} {bad : Bool} (hc : CkAt cb bad w) (ht : TrAt base cb w (.mk 9 s [t1, t2]) a) (hl : RowS cb w lv L) (ha : RowS cb w av A) :
    Calls Tryz.prog 57 #[.pointer (some ⟨cb, 0, none⟩), .pointer (some a), plc lv av k] w fun e w' => e = .returned (.tuple #[]) ∧ CkAt cb (bad || f) w' ∧ Pk cb w w' := by
  have hw : IntKind.i64.wrap ((k : Int) + 1) = (k : Int) + 1 := by have := Go.Ev.wrap_small IntKind.i64 (k + 1) (by show _ ≤ 9223372036854775807; omega); simpa using this
  have al := W2_below w lv av k
  have kal := Pk.below (pb := cb) al
  obtain ⟨pA, pB, hsz⟩ := W2_at w lv av k
  have hcl := hc.lt
  have hc1 := hc.keep (al.block cb hcl)
  have hT := TrAt.keep (kal.b base) (Nat.le_refl _) _ _ ht
  have hl1 := hl.keep kal
  have ha1 := ha.keep kal
  obtain ⟨nb, no, g, go, cap, b1, rfl, c0, -, c5, cg1, tb1, h1, h2, h3, h4, ks⟩ := hT.first
  obtain ⟨b2, cg2, tb2⟩ := KsAt.get ks (j := 1) (t := t2) rfl
  have C1 := N1 _ cb base b1 lv av bad hc1 tb1 hl1 ha1
  obtain ⟨lp, ln, lc, rfl⟩ := hl.shape
  obtain ⟨ap, an, ac, rfl⟩ := ha.shape
  have c0' : (W2 w (.slice lp ln lc) (.slice ap an ac) k).cell? ⟨nb, no, none⟩ = some (.int .i64 9) := c0
  have c5' : (W2 w (.slice lp ln lc) (.slice ap an ac) k).drew.cell? ⟨nb, no + 5, none⟩ = some (.slice (some ⟨g, go, none⟩) 2 cap) := c5
  obtain ⟨x0, x1, x2, x3, x4, x5, x6⟩ := pA.cells
  unfold plc at C1 ⊢
  clear ht hT hl ha hc c0 c5 ks tb1 hc1 al N1
  have hW : ((w.alloc (.cells #[.bool false, .bool false, .bool false, .bool false, .slice lp ln lc, .slice ap an ac, .int .i64 (k : Int)] 54)).alloc (.cells #[.bool false, .bool false, .bool false, .bool false, .slice lp ln lc, .slice ap an ac, .int .i64 ((k : Int) + 1)] 54)) = W2 w (.slice lp ln lc) (.slice ap an ac) k := rfl
  go_enter Tryz.func57, Tryz.ntmps57
  go_wp2
  clear hW
  generalize W2 w (.slice lp ln lc) (.slice ap an ac) k = w2 at *
  go_region_law (go_simp; go_at_call 25; refine C1.mono ?_; rintro e w3 ⟨rfl, hc3, k3⟩)
  all_goals
    have k03 := kal.trans k3
    obtain ⟨pB3, -⟩ := pB.far k3 (by omega) (by omega)
    have d5 := (k3.cellU (o := no + 5) h1 h2).trans c5'
    have dg := (k3.cellU (o := go + 1) h3 h4).trans cg2
    have C2 := N2 w3.drew cb base b2 (.slice lp ln lc) (.slice ap an ac) (bad || false) hc3 (TrAt.keep ((k3.trans (Pk.below (pb := cb) (Below.refl _ w3).drew)).b base) (Nat.le_refl _) _ _ tb2) (hl1.keep (k3.trans (Pk.below (pb := cb) (Below.refl _ w3).drew))) (ha1.keep (k3.trans (Pk.below (pb := cb) (Below.refl _ w3).drew)))
    rw [Bool.or_false] at C2
    have pB3d : PlcAt w3.drew (w.heap.size + 1) (.slice lp ln lc) (.slice ap an ac) (k + 1) := pB3
    obtain ⟨y0, y1, y2, y3, y4, y5, y6⟩ := pB3d.cells1
    have d5d : w3.drew.cell? ⟨nb, no + 5, none⟩ = some (.slice (some ⟨g, go, none⟩) 2 cap) := d5
    have dgd : w3.drew.cell? ⟨g, go + 1, none⟩ = some (.pointer (some b2)) := dg
    have C2' : Calls Tryz.prog 25 #[.pointer (some ⟨cb, 0, none⟩), .pointer (some b2), .agg #[.bool false, .bool false, .bool false, .bool false, .slice lp ln lc, .slice ap an ac, .int .i64 ((k : Int) + 1)]] w3.drew fun e w' => e = .returned (.tuple #[]) ∧ CkAt cb (bad || f) w' ∧ Pk cb w3.drew w' := C2
    clear C2 C1 x0 x1 x2 x3 x4 x5 x6 cg1 cg2 c5' c0' tb2 pA pB pB3 pB3d hl1 ha1 hc3 d5 dg kal k3 N2
    go_wp2
    go_region_law (go_simp; go_at_call 25; refine C2'.mono ?_; rintro e w4 ⟨rfl, hc4, k4⟩)
    all_goals
      go_wp2
      go_end0
      exact ⟨rfl, hc4, k03.trans ⟨k4.os, k4.tape, k4.output, k4.size, k4.block⟩⟩
end Go.Proofs.YtjkgefnlennbjaaGreatDoor
