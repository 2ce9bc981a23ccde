/- EarlyLabels: the checker's node, by its kinds. No condition. -/
import Derived.Test.YtjkgefnlennbjaaGreatDoorEvUi
import Derived.Test.YtjkgefnlennbjaaGreatDoorEvUm
import Derived.Test.YtjkgefnlennbjaaGreatDoorEvUn
import Derived.Test.YtjkgefnlennbjaaGreatDoorEvUo
set_option linter.all false
namespace Go.Proofs.YtjkgefnlennbjaaGreatDoor
open Go.Ev Go.RowKit
set_option maxHeartbeats 8000000
set_option maxRecDepth 100000

theorem node_while {s : ByteArray} {t1 t2 : Tr} {L A : List ByteArray} {k : Nat} {f : Bool} (N1 : NodeOk t1 L A k false) (N2 : NodeOk t2 L A (k + 1) f) (hk : k ≤ 50) : NodeOk (.mk 9 s [t1, t2]) L A k f := by
  intro w cb base a lv av bad hc ht hl ha
  have al := below_alloc w (.cells #[.bool false, .bool false, .bool false, .bool false, lv, av, .int .i64 (k : Int)] 54)
  have kal := Pk.below (pb := cb) al
  have hp := plc_new w lv av k
  have hT := TrAt.keep (kal.b base) (Nat.le_refl _) _ _ ht
  have K := loop_while N1 N2 hk (hc.keep (al.block cb hc.lt)) hT (hl.keep kal) (ha.keep kal)
  obtain ⟨nb, no, rfl, g1, g2, c0, -, -⟩ := hT.kind
  obtain ⟨e0, e1, e2, e3, e4, e5, e6⟩ := hp.cells
  have c0' : (w.alloc (.cells #[.bool false, .bool false, .bool false, .bool false, lv, av, .int .i64 (k : Int)] 54)).cell? ⟨nb, no, none⟩ = some (.int .i64 9) := c0
  clear ht hT hp hl ha hc g1 c0 N1 N2
  unfold plc at K ⊢
  go_enter Tryz.func25, Tryz.ntmps25
  go_wp2_with (go_at_call 57; refine K.mono ?_)
  rintro e w2 ⟨rfl, hc2, hk2⟩
  go_wp2
  go_end0
  exact ⟨rfl, hc2, kal.trans hk2⟩
theorem node_do {s : ByteArray} {t1 t2 : Tr} {L A : List ByteArray} {k : Nat} {f : Bool} (N1 : NodeOk t1 L A (k + 1) f) (N2 : NodeOk t2 L A k false) (hk : k ≤ 50) : NodeOk (.mk 10 s [t1, t2]) L A k f := by
  intro w cb base a lv av bad hc ht hl ha
  have al := below_alloc w (.cells #[.bool false, .bool false, .bool false, .bool false, lv, av, .int .i64 (k : Int)] 54)
  have kal := Pk.below (pb := cb) al
  have hp := plc_new w lv av k
  have hT := TrAt.keep (kal.b base) (Nat.le_refl _) _ _ ht
  have K := loop_do N1 N2 hk (hc.keep (al.block cb hc.lt)) hT (hl.keep kal) (ha.keep kal)
  obtain ⟨nb, no, rfl, g1, g2, c0, -, -⟩ := hT.kind
  obtain ⟨e0, e1, e2, e3, e4, e5, e6⟩ := hp.cells
  have c0' : (w.alloc (.cells #[.bool false, .bool false, .bool false, .bool false, lv, av, .int .i64 (k : Int)] 54)).cell? ⟨nb, no, none⟩ = some (.int .i64 10) := c0
  clear ht hT hp hl ha hc g1 c0 N1 N2
  unfold plc at K ⊢
  go_enter Tryz.func25, Tryz.ntmps25
  go_wp2_with (go_at_call 57; refine K.mono ?_)
  rintro e w2 ⟨rfl, hc2, hk2⟩
  go_wp2
  go_end0
  exact ⟨rfl, hc2, kal.trans hk2⟩
theorem node_forof {s2 sX : ByteArray} (hne : sX ≠ ⟨#[]⟩) {ks2 : List Tr} {t2 t3 : Tr} {L A : List ByteArray} {k : Nat} {f : Bool} (N1 : NodeOk (.mk 32 s2 ks2) L A k false) (N2 : NodeOk t2 L A k false) (N3 : NodeOk t3 L A (k + 1) f) (hk : k ≤ 50) : NodeOk (.mk 12 sX [.mk 32 s2 ks2, t2, t3]) L A k f := by
  intro w cb base a lv av bad hc ht hl ha
  have al := below_alloc w (.cells #[.bool false, .bool false, .bool false, .bool false, lv, av, .int .i64 (k : Int)] 54)
  have kal := Pk.below (pb := cb) al
  have hp := plc_new w lv av k
  have hT := TrAt.keep (kal.b base) (Nat.le_refl _) _ _ ht
  have K := loop_forof hne N1 N2 N3 hk (hc.keep (al.block cb hc.lt)) hT (hl.keep kal) (ha.keep kal)
  obtain ⟨nb, no, rfl, g1, g2, c0, -, -⟩ := hT.kind
  obtain ⟨e0, e1, e2, e3, e4, e5, e6⟩ := hp.cells
  have c0' : (w.alloc (.cells #[.bool false, .bool false, .bool false, .bool false, lv, av, .int .i64 (k : Int)] 54)).cell? ⟨nb, no, none⟩ = some (.int .i64 12) := c0
  clear ht hT hp hl ha hc g1 c0 N1 N2 N3 hne
  unfold plc at K ⊢
  go_enter Tryz.func25, Tryz.ntmps25
  go_wp2_with (go_at_call 57; refine K.mono ?_)
  rintro e w2 ⟨rfl, hc2, hk2⟩
  go_wp2
  go_end0
  exact ⟨rfl, hc2, kal.trans hk2⟩
theorem node_label_7 {kd : Nat} {s s1 : ByteArray} {ks1 : List Tr} {L A : List ByteArray} {k : Nat} {f : Bool} (N : NodeOk (.mk kd s1 ks1) (L ++ [s]) A k f) (hkd : kd = 7) (hnew : s ∉ L) (hL : L.length ≤ 30) (hA : A.length ≤ 30) : NodeOk (.mk 19 s [.mk kd s1 ks1]) L A k f := by
  intro w cb base a lv av bad hc ht hl ha
  have al := below_alloc w (.cells #[.bool false, .bool false, .bool false, .bool false, lv, av, .int .i64 (k : Int)] 54)
  have kal := Pk.below (pb := cb) al
  have hp := plc_new w lv av k
  have hT := TrAt.keep (kal.b base) (Nat.le_refl _) _ _ ht
  have K := label_7 N hkd hnew hL hA (hc.keep (al.block cb hc.lt)) hT (hl.keep kal) (ha.keep kal)
  obtain ⟨nb, no, rfl, g1, g2, c0, -, -⟩ := hT.kind
  obtain ⟨e0, e1, e2, e3, e4, e5, e6⟩ := hp.cells
  have c0' : (w.alloc (.cells #[.bool false, .bool false, .bool false, .bool false, lv, av, .int .i64 (k : Int)] 54)).cell? ⟨nb, no, none⟩ = some (.int .i64 19) := c0
  clear ht hT hp hl ha hc g1 c0 N hkd hnew
  unfold plc at K ⊢
  go_enter Tryz.func25, Tryz.ntmps25
  go_wp2_with (go_at_call 59; refine K.mono ?_)
  rintro e w2 ⟨rfl, hc2, hk2⟩
  go_wp2
  go_end0
  exact ⟨rfl, hc2, kal.trans hk2⟩
theorem node_label_9 {kd : Nat} {s s1 : ByteArray} {ks1 : List Tr} {L A : List ByteArray} {k : Nat} {f : Bool} (N : NodeOk (.mk kd s1 ks1) (L ++ [s]) (A ++ [s]) k f) (hkd : kd = 9) (hnew : s ∉ L) (hL : L.length ≤ 30) (hA : A.length ≤ 30) : NodeOk (.mk 19 s [.mk kd s1 ks1]) L A k f := by
  intro w cb base a lv av bad hc ht hl ha
  have al := below_alloc w (.cells #[.bool false, .bool false, .bool false, .bool false, lv, av, .int .i64 (k : Int)] 54)
  have kal := Pk.below (pb := cb) al
  have hp := plc_new w lv av k
  have hT := TrAt.keep (kal.b base) (Nat.le_refl _) _ _ ht
  have K := label_9 N hkd hnew hL hA (hc.keep (al.block cb hc.lt)) hT (hl.keep kal) (ha.keep kal)
  obtain ⟨nb, no, rfl, g1, g2, c0, -, -⟩ := hT.kind
  obtain ⟨e0, e1, e2, e3, e4, e5, e6⟩ := hp.cells
  have c0' : (w.alloc (.cells #[.bool false, .bool false, .bool false, .bool false, lv, av, .int .i64 (k : Int)] 54)).cell? ⟨nb, no, none⟩ = some (.int .i64 19) := c0
  clear ht hT hp hl ha hc g1 c0 N hkd hnew
  unfold plc at K ⊢
  go_enter Tryz.func25, Tryz.ntmps25
  go_wp2_with (go_at_call 59; refine K.mono ?_)
  rintro e w2 ⟨rfl, hc2, hk2⟩
  go_wp2
  go_end0
  exact ⟨rfl, hc2, kal.trans hk2⟩
theorem node_label_10 {kd : Nat} {s s1 : ByteArray} {ks1 : List Tr} {L A : List ByteArray} {k : Nat} {f : Bool} (N : NodeOk (.mk kd s1 ks1) (L ++ [s]) (A ++ [s]) k f) (hkd : kd = 10) (hnew : s ∉ L) (hL : L.length ≤ 30) (hA : A.length ≤ 30) : NodeOk (.mk 19 s [.mk kd s1 ks1]) L A k f := by
  intro w cb base a lv av bad hc ht hl ha
  have al := below_alloc w (.cells #[.bool false, .bool false, .bool false, .bool false, lv, av, .int .i64 (k : Int)] 54)
  have kal := Pk.below (pb := cb) al
  have hp := plc_new w lv av k
  have hT := TrAt.keep (kal.b base) (Nat.le_refl _) _ _ ht
  have K := label_10 N hkd hnew hL hA (hc.keep (al.block cb hc.lt)) hT (hl.keep kal) (ha.keep kal)
  obtain ⟨nb, no, rfl, g1, g2, c0, -, -⟩ := hT.kind
  obtain ⟨e0, e1, e2, e3, e4, e5, e6⟩ := hp.cells
  have c0' : (w.alloc (.cells #[.bool false, .bool false, .bool false, .bool false, lv, av, .int .i64 (k : Int)] 54)).cell? ⟨nb, no, none⟩ = some (.int .i64 19) := c0
  clear ht hT hp hl ha hc g1 c0 N hkd hnew
  unfold plc at K ⊢
  go_enter Tryz.func25, Tryz.ntmps25
  go_wp2_with (go_at_call 59; refine K.mono ?_)
  rintro e w2 ⟨rfl, hc2, hk2⟩
  go_wp2
  go_end0
  exact ⟨rfl, hc2, kal.trans hk2⟩
theorem node_label_12 {kd : Nat} {s s1 : ByteArray} {ks1 : List Tr} {L A : List ByteArray} {k : Nat} {f : Bool} (N : NodeOk (.mk kd s1 ks1) (L ++ [s]) (A ++ [s]) k f) (hkd : kd = 12) (hnew : s ∉ L) (hL : L.length ≤ 30) (hA : A.length ≤ 30) : NodeOk (.mk 19 s [.mk kd s1 ks1]) L A k f := by
  intro w cb base a lv av bad hc ht hl ha
  have al := below_alloc w (.cells #[.bool false, .bool false, .bool false, .bool false, lv, av, .int .i64 (k : Int)] 54)
  have kal := Pk.below (pb := cb) al
  have hp := plc_new w lv av k
  have hT := TrAt.keep (kal.b base) (Nat.le_refl _) _ _ ht
  have K := label_12 N hkd hnew hL hA (hc.keep (al.block cb hc.lt)) hT (hl.keep kal) (ha.keep kal)
  obtain ⟨nb, no, rfl, g1, g2, c0, -, -⟩ := hT.kind
  obtain ⟨e0, e1, e2, e3, e4, e5, e6⟩ := hp.cells
  have c0' : (w.alloc (.cells #[.bool false, .bool false, .bool false, .bool false, lv, av, .int .i64 (k : Int)] 54)).cell? ⟨nb, no, none⟩ = some (.int .i64 19) := c0
  clear ht hT hp hl ha hc g1 c0 N hkd hnew
  unfold plc at K ⊢
  go_enter Tryz.func25, Tryz.ntmps25
  go_wp2_with (go_at_call 59; refine K.mono ?_)
  rintro e w2 ⟨rfl, hc2, hk2⟩
  go_wp2
  go_end0
  exact ⟨rfl, hc2, kal.trans hk2⟩
end Go.Proofs.YtjkgefnlennbjaaGreatDoor
