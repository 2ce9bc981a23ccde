/- EarlyLabels: the checker at the whole text. No condition. -/
import Derived.Test.YtjkgefnlennbjaaGreatDoorEvMs
set_option linter.all false
namespace Go.Proofs.YtjkgefnlennbjaaGreatDoor
open Go.Ev Go.RowKit
set_option maxHeartbeats 8000000
set_option maxRecDepth 100000

/-- A declaration of one name, no constant. -/
theorem node_let {sL s1 s2 : ByteArray} {ks2 : List Tr} {L A : List ByteArray} {k : Nat} (hne : sL ≠ ⟨#[99, 111, 110, 115, 116]⟩) (N : NodeOk (.mk 3 s1 [.mk 32 s2 ks2]) L A k false) : NodeOk (.mk 2 sL [.mk 3 s1 [.mk 32 s2 ks2]]) L A k false := by
  intro w cb base a lv av bad hc ht hl ha
  rw [Bool.or_false]
  have al := below_alloc w (.cells #[.bool false, .bool false, .bool false, .bool false, lv, av, .int .i64 (k : Int)] 54)
  have kal := Pk.below (pb := cb) al
  have hp := plc_new w lv av k
  have hT := TrAt.keep (kal.b base) (Nat.le_refl _) _ _ ht
  have K := kids_walk (kd := 2) (s := sL) (ks := [.mk 3 s1 [.mk 32 s2 ks2]]) (fun t h => by simp at h; subst h; exact N) (by simp) (hc.keep (al.block cb hc.lt)) hT (hl.keep kal) (ha.keep kal)
  obtain ⟨nb, no, g, go, cap, b1, rfl, c0, cs, c5, cg1, tb1, h1, h2, h3, h4, -⟩ := hT.first
  obtain ⟨nb1, no1, g1, go1, cap1, b2, rfl, -, -, c51, cg2, tb2, -, -, -, -, -⟩ := tb1.first
  obtain ⟨nb2, no2, rfl, -, -, c02, -, -⟩ := tb2.kind
  obtain ⟨e0, e1, e2, e3, e4, e5, e6⟩ := hp.cells
  have c0' : (w.alloc (.cells #[.bool false, .bool false, .bool false, .bool false, lv, av, .int .i64 (k : Int)] 54)).cell? ⟨nb, no, none⟩ = some (.int .i64 2) := c0
  have c02' : (w.alloc (.cells #[.bool false, .bool false, .bool false, .bool false, lv, av, .int .i64 (k : Int)] 54)).cell? ⟨nb2, no2, none⟩ = some (.int .i64 32) := c02
  have c5' : (w.alloc (.cells #[.bool false, .bool false, .bool false, .bool false, lv, av, .int .i64 (k : Int)] 54)).cell? ⟨nb, no + 5, none⟩ = some (.slice (some ⟨g, go, none⟩) 1 cap) := c5
  have c51' : (w.alloc (.cells #[.bool false, .bool false, .bool false, .bool false, lv, av, .int .i64 (k : Int)] 54)).cell? ⟨nb1, no1 + 5, none⟩ = some (.slice (some ⟨g1, go1, none⟩) 1 cap1) := c51
  have hb : (sL.toList == [99, 111, 110, 115, 116]) = false := by
    rw [ByteArray.toList_eq]
    simpa using fun q => hne (ByteArray.ext (Array.ext' (by simpa using q)))
  clear ht hT hp hl ha hc c0 c02 c5 c51 N hne tb1 tb2 h1 h2 h3 h4
  unfold plc at K ⊢
  go_enter Tryz.func25, Tryz.ntmps25
  go_wp2
  refine wp_loop_rounds 2 ?_
  rw [rounds_succ]
  go_wp2
  rw [rounds_succ]
  go_wp2_with (go_at_call 54; refine K.mono ?_)
  rintro e w2 ⟨rfl, hc2, hk2⟩
  go_wp2
  go_end0
  exact ⟨rfl, hc2, kal.trans hk2⟩
/-- The scope of the whole text: a declaration, a label behind it. -/
theorem list_two {sL s1 s2 s3 : ByteArray} {ks2 ks3 : List Tr} {kd3 : Nat} {L A : List ByteArray} {k : Nat} {f : Bool} (N1 : NodeOk (.mk 2 sL [.mk 3 s1 [.mk 32 s2 ks2]]) L A k false) (N2 : NodeOk (.mk kd3 s3 ks3) L A k f) (hkd : kd3 = 19) {w : World} {cb base g go cap : Nat} {lv av : Value} {bad : Bool} (hc : CkAt cb bad w) (hgl : g < w.heap.size) (hgc : g ≠ cb) (hks : KsAt base cb w [.mk 2 sL [.mk 3 s1 [.mk 32 s2 ks2]], .mk kd3 s3 ks3] g go) (hl : RowS cb w lv L) (ha : RowS cb w av A) :
    Calls Tryz.prog 13 #[.pointer (some ⟨cb, 0, none⟩), .slice (some ⟨g, go, none⟩) 2 cap, plc lv av k] w fun e w' => e = .returned (.tuple #[]) ∧ CkAt cb (bad || f) w' ∧ Pk cb w w' := by
  subst hkd
  have al := below_alloc w (.cells #[.bool false, .bool false, .bool false, .bool false, lv, av, .int .i64 (k : Int)] 54)
  have kal := Pk.below (pb := cb) al
  have hp := plc_new w lv av k
  obtain ⟨a1, cg1, t1⟩ := KsAt.get hks (j := 0) rfl
  obtain ⟨a2, cg2, t2⟩ := KsAt.get hks (j := 1) rfl
  have t11 := TrAt.keep (kal.b base) (Nat.le_refl _) _ _ t1
  have t21 := TrAt.keep (kal.b base) (Nat.le_refl _) _ _ t2
  have hg1 := (kal.cellU (o := go) hgl hgc).trans cg1
  have hg2 := (kal.cellU (o := go + 1) hgl hgc).trans cg2
  obtain ⟨n, tn, D⟩ := declared_let (cap := cap) hg1 hg2 t11 t21 (Nat.lt_of_lt_of_le hgl al.size)
  obtain ⟨nn, no, rfl, n1, n2, -, -, cs⟩ := tn.kind
  have hc1 := hc.keep (al.block cb hc.lt)
  have hsz : w.heap.size < (w.alloc (.cells #[.bool false, .bool false, .bool false, .bool false, lv, av, .int .i64 (k : Int)] 54)).heap.size := by simp
  have hcl := hc.lt
  have hl1 := hl.keep kal
  have ha1 := ha.keep kal
  have hgl1 := Nat.lt_of_lt_of_le hgl al.size
  unfold plc
  clear hks t1 t2 hl ha hc cg1 cg2
  go_enter Tryz.func13, Tryz.ntmps13
  go_wp2_with (go_at_call 24; refine D.mono ?_)
  generalize w.alloc (.cells #[.bool false, .bool false, .bool false, .bool false, lv, av, .int .i64 (k : Int)] 54) = w1 at *
  rintro e w2 ⟨gn, capn, rfl, bn, gn1, gn2, cn⟩
  have k2 := Pk.below (pb := cb) bn
  have U := unlike_one (cap := capn) (bad := bad) (hc1.keep (bn.block cb hc1.lt)) cn ((k2.cellU (o := no + 2) n1 n2).trans cs)
  go_wp2_with (go_at_call 23; refine U.mono ?_)
  rintro e w3 ⟨rfl, hc3, k23⟩
  have k3 := k2.trans k23
  have k03 := kal.trans k3
  have hp3 : PlcAt w3 w.heap.size lv av k := by unfold PlcAt; rw [k3.block _ hsz (by omega)]; exact hp
  obtain ⟨e0, e1, e2, e3, e4, e5, e6⟩ := hp3.cells
  have hg3 := (k3.cellU (o := go) hgl1 hgc).trans hg1
  have N3 := N1 w3 cb base a1 lv av bad hc3 (TrAt.keep (k3.b base) (Nat.le_refl _) _ _ t11) (hl1.keep k3) (ha1.keep k3)
  rw [Bool.or_false] at N3
  unfold plc at N3
  clear D U cn cs hc3 bn k2 k23
  go_wp2
  refine wp_loop_rounds 3 ?_
  rw [rounds_succ]
  go_wp2_with (go_at_call 25; refine N3.mono ?_)
  rintro e w4 ⟨rfl, hc4, k4⟩
  have k14 := k3.trans k4
  have hp4 : PlcAt w4 w.heap.size lv av k := by unfold PlcAt; rw [k14.block _ hsz (by omega)]; exact hp
  have hg4 := (k14.cellU (o := go + 1) hgl1 hgc).trans hg2
  have N4 := N2 w4 cb base a2 lv av bad hc4 (TrAt.keep (k14.b base) (Nat.le_refl _) _ _ t21) (hl1.keep k14) (ha1.keep k14)
  unfold plc at N4
  clear N3 e0 e1 e2 e3 e4 e5 e6 hg3 hp3
  obtain ⟨e0, e1, e2, e3, e4, e5, e6⟩ := hp4.cells
  go_wp2
  rw [rounds_succ]
  go_wp2_with (go_at_call 25; refine N4.mono ?_)
  rintro e w5 ⟨rfl, hc5, k5⟩
  clear N4 e0 e1 e2 e3 e4 e5 e6 hg4 hp4
  go_wp2
  rw [rounds_succ]
  go_wp2
  go_end0
  exact ⟨rfl, hc5, (kal.trans k14).trans k5⟩
end Go.Proofs.YtjkgefnlennbjaaGreatDoor
