/- EarlyLabels: the checker's small functions. EarlyLabels: the checker, at nodes of which nothing is asked. EarlyLabels: the checker at names and numbers, break and continue. EarlyLabels: the checker at break and continue. No condition. -/
import Derived.Test.YtjkgefnlennbjaaGreatDoorEvMn
import Derived.Deep.RegionLaw
import Derived.BigRegion
import Derived.BigQuiet
set_option linter.all false
namespace Go.Proofs.YtjkgefnlennbjaaGreatDoor
open Go.Ev Go.RowKit
set_option maxHeartbeats 8000000
set_option maxRecDepth 100000

/-- The checker's cells: a fault was found, or not. -/
def ckK (bad : Bool) : Int := if bad then 6 else 0
def CkAt (cb : Nat) (bad : Bool) (w : World) : Prop := ∃ x : Int, w.heap[cb]? = some (.cells #[.int .i64 (ckK bad), .int .i64 x] 50 (0, 0))
theorem CkAt.lt {cb : Nat} {bad : Bool} {w : World} (h : CkAt cb bad w) : cb < w.heap.size := by
  obtain ⟨x, hx⟩ := h
  exact (Array.getElem?_eq_some_iff.1 hx).1
theorem CkAt.keep {cb : Nat} {bad : Bool} {w w' : World} (h : CkAt cb bad w) (hw : w'.heap[cb]? = w.heap[cb]?) : CkAt cb bad w' := by
  obtain ⟨x, hx⟩ := h
  exact ⟨x, by rw [hw]; exact hx⟩
theorem fail_walk {w : World} {cb nb no : Nat} {bad : Bool} {x : Int} (h : CkAt cb bad w) (hn : w.cell? ⟨nb, no + 1, none⟩ = some (.int .i64 x)) :
    Calls Tryz.prog 52 #[.pointer (some ⟨cb, 0, none⟩), .pointer (some ⟨nb, no, none⟩)] w fun e w' => e = .returned (.tuple #[]) ∧ CkAt cb true w' ∧ Pk cb w w' := by
  obtain ⟨y, hb⟩ := h
  have c0 : w.cell? ⟨cb, 0, none⟩ = some (.int .i64 (ckK bad)) := by simp [World.cell?, hb]
  have c1 : w.cell? ⟨cb, 1, none⟩ = some (.int .i64 y) := by simp [World.cell?, hb]
  have f0 : w.frozen? ⟨cb, 0, none⟩ = false := by simp [World.frozen?, hb]
  have f1 : w.frozen? ⟨cb, 1, none⟩ = false := by simp [World.frozen?, hb]
  go_enter Tryz.func52, Tryz.ntmps52
  cases bad with
  | true =>
    rw [show ckK true = 6 from rfl] at c0
    go_wp2
    go_end0
    exact ⟨rfl, ⟨y, hb⟩, Pk.refl cb w⟩
  | false =>
    rw [show ckK false = 0 from rfl] at c0
    go_wp2
    go_end0
    exact ⟨rfl, ⟨x, set_blk (set_blk hb 0 _) 1 _⟩, (Pk.set w 0 _).trans (Pk.set _ 1 _)⟩
/-- A row of texts. -/
def RowS (cb : Nat) (w : World) (v : Value) (xs : List ByteArray) : Prop := (xs = [] ∧ v = .slice none 0 0) ∨ ∃ g cap, v = .slice (some ⟨g, 0, none⟩) xs.length cap ∧ 0 < xs.length ∧ xs.length ≤ cap ∧ g < w.heap.size ∧ g ≠ cb ∧ ∀ j x, xs[j]? = some x → w.cell? ⟨g, j, none⟩ = some (.string x)
theorem RowS.keep {cb : Nat} {w w' : World} {v : Value} {xs : List ByteArray} (h : RowS cb w v xs) (hk : Pk cb w w') : RowS cb w' v xs := by
  rcases h with h | ⟨g, cap, h1, h2, h3, h4, h5, h6⟩
  · exact .inl h
  · refine .inr ⟨g, cap, h1, h2, h3, Nat.lt_of_lt_of_le h4 hk.size, h5, fun j x hj => ?_⟩
    rw [show w'.cell? ⟨g, j, none⟩ = w.cell? ⟨g, j, none⟩ by unfold World.cell?; rw [hk.block g h4 h5]]
    exact h6 j x hj
theorem has_walk {w : World} {cb : Nat} {v : Value} {xs : List ByteArray} (h : RowS cb w v xs) (hlen : xs.length ≤ 50) (s : ByteArray) (r : Bool) (hr : r = true ↔ s ∈ xs) :
    Calls Tryz.prog 60 #[v, .string s] w fun e w' => e = .returned (.bool r) ∧ w' = w := by
  rcases h with ⟨rfl, rfl⟩ | ⟨g, cap, rfl, h2, h3, h4, h5, h6⟩
  · have : r = false := by cases r <;> simp_all
    subst this
    clear hr
    go_enter Tryz.func60, Tryz.ntmps60
    go_wp2
    go_loopw [9] (fun i wr => i = .int .i64 0 ∧ wr = w) (fun i _ => 0)
    case atStart => exact ⟨rfl, rfl⟩
    case round =>
      obtain ⟨rfl, rfl⟩ := hrel
      go_wp2
      go_ret
      exact ⟨rfl, rfl⟩
  · go_enter Tryz.func60, Tryz.ntmps60
    go_wp2
    go_loopw [9] (fun i wr => ∃ k : Nat, k ≤ xs.length ∧ i = .int .i64 k ∧ wr = w ∧ (r = true ↔ s ∈ xs.drop k)) (fun i _ => xs.length - (Go.RowKit.intOf i).toNat)
    case atStart => exact ⟨0, Nat.zero_le _, rfl, rfl, hr⟩
    case round =>
      obtain ⟨k, hk, rfl, rfl, hd⟩ := hrel
      by_cases hlt : k < xs.length
      · obtain ⟨x, hx⟩ : ∃ x, xs[k]? = some x := ⟨xs[k], by simp [hlt]⟩
        have hc := h6 k x hx
        have hdk : xs.drop k = x :: xs.drop (k + 1) := by
          rw [List.drop_eq_getElem_cons hlt]
          have := List.getElem?_eq_getElem hlt
          rw [this] at hx
          rw [Option.some.inj hx]
        rw [hdk] at hd
        have hw : IntKind.i64.wrap ((k : Int) + 1) = ((k + 1 : Nat) : Int) := by have := Go.Ev.wrap_small IntKind.i64 (k + 1) (by show _ ≤ 9223372036854775807; omega); simpa using this
        clear h6 hdk
        by_cases he : x = s
        · subst he
          have : r = true := hd.2 (by simp)
          subst this
          clear hd hr hx
          go_wp2
          go_ret
          exact ⟨rfl, rfl⟩
        · have hd2 : r = true ↔ s ∈ xs.drop (k + 1) := by
            rw [hd]
            have hne : s ≠ x := fun q => he q.symm
            simp [List.mem_cons, hne]
          have hbe : (x.toList == s.toList) = false := by
            rw [ByteArray.toList_eq, ByteArray.toList_eq]
            simpa using fun q => he (ByteArray.ext (Array.ext' q))
          clear hd hr hx
          go_wp2
          exact ⟨⟨k + 1, by omega, by simp, trivial, hd2⟩, by simp [Go.RowKit.intOf]; omega⟩
      · have : k = xs.length := by omega
        subst this
        rw [List.drop_length] at hd
        have : r = false := by cases r <;> simp_all
        subst this
        clear h6 hd hr
        go_wp2
        go_ret
        exact ⟨rfl, rfl⟩
end Go.Proofs.YtjkgefnlennbjaaGreatDoor

namespace Go.Proofs.YtjkgefnlennbjaaGreatDoor
open Go.Ev Go.RowKit
set_option maxHeartbeats 8000000
set_option maxRecDepth 100000

/-- A place, as a value. -/
def plc (lv av : Value) (k : Nat) : Value := .agg #[.bool false, .bool false, .bool false, .bool false, lv, av, .int .i64 (k : Int)]
theorem KsAt.get {base pb : Nat} {w : World} : ∀ {ts : List Tr} {g i j : Nat} {t : Tr}, KsAt base pb w ts g i → ts[j]? = some t → ∃ b, w.cell? ⟨g, i + j, none⟩ = some (.pointer (some b)) ∧ TrAt base pb w t b
  | [], _, _, _, _, _, h => by simp at h
  | t :: ts, g, i, 0, u, h, hj => by
    rw [KsAt] at h
    simp only [List.getElem?_cons_zero, Option.some.injEq] at hj
    subst hj
    exact h.1
  | t :: ts, g, i, j + 1, u, h, hj => by
    rw [KsAt] at h
    rw [List.getElem?_cons_succ] at hj
    obtain ⟨b, h1, h2⟩ := KsAt.get h.2 hj
    exact ⟨b, by rw [show i + (j + 1) = i + 1 + j by omega]; exact h1, h2⟩
/-- What 'node' does with a tree at a place: the labels, those of loops, how many loops; is a fault found? -/
def NodeOk (t : Tr) (L A : List ByteArray) (k : Nat) (f : Bool) : Prop := ∀ (w : World) (cb base : Nat) (a : Addr) (lv av : Value) (bad : Bool), CkAt cb bad w → TrAt base cb w t a → RowS cb w lv L → RowS cb w av A →
  Calls Tryz.prog 25 #[.pointer (some ⟨cb, 0, none⟩), .pointer (some a), plc lv av k] w fun e w' => e = .returned (.tuple #[]) ∧ CkAt cb (bad || f) w' ∧ Pk cb w w'
theorem below_alloc (w : World) (o : Obj) : Below w.heap.size w (w.alloc o) := (Below.refl _ w).alloc (Nat.le_refl _) _
/-- A place in a block of its own. -/
def PlcAt (w : World) (b : Nat) (lv av : Value) (k : Nat) : Prop := w.heap[b]? = some (.cells #[.bool false, .bool false, .bool false, .bool false, lv, av, .int .i64 (k : Int)] 54 (0, 0))
theorem PlcAt.cells {w : World} {b : Nat} {lv av : Value} {k : Nat} (h : PlcAt w b lv av k) : w.cell? ⟨b, 0, none⟩ = some (.bool false) ∧ w.cell? ⟨b, 1, none⟩ = some (.bool false) ∧ w.cell? ⟨b, 2, none⟩ = some (.bool false) ∧ w.cell? ⟨b, 3, none⟩ = some (.bool false) ∧ w.cell? ⟨b, 4, none⟩ = some lv ∧ w.cell? ⟨b, 5, none⟩ = some av ∧ w.cell? ⟨b, 6, none⟩ = some (.int .i64 (k : Int)) := by
  unfold PlcAt at h
  simp [World.cell?, h]
/-- All of a node's parts. -/
theorem kids_walk {kd : Nat} {s : ByteArray} {ks : List Tr} {L A : List ByteArray} {k : Nat} (hk : ∀ t ∈ ks, NodeOk t L A k false) (hlen : ks.length ≤ 50) {w : World} {cb base : Nat} {a : Addr} {lv av : Value} {bad : Bool} (hc : CkAt cb bad w) (ht : TrAt base cb w (.mk kd s ks) a) (hl : RowS cb w lv L) (ha : RowS cb w av A) :
    Calls Tryz.prog 54 #[.pointer (some ⟨cb, 0, none⟩), .pointer (some a), plc lv av k] w fun e w' => e = .returned (.tuple #[]) ∧ CkAt cb bad w' ∧ Pk cb w w' := by
  rw [TrAt] at ht
  obtain ⟨nb, no, v, rfl, -, hb2, hb3, -, -, -, h5, hks⟩ := ht
  have al := below_alloc w (.cells #[.bool false, .bool false, .bool false, .bool false, lv, av, .int .i64 (k : Int)] 54)
  have kal := Pk.below (pb := cb) al
  have hcb := hc.lt
  have k0 := kal
  unfold plc
  rcases hks with ⟨rfl, rfl⟩ | ⟨g, go, cap, rfl, -, hg, hgc, hks⟩
  · go_enter Tryz.func54, Tryz.ntmps54
    go_wp2
    generalize w.alloc (.cells #[.bool false, .bool false, .bool false, .bool false, lv, av, .int .i64 (k : Int)] 54) = w1 at al kal k0 ⊢
    go_loopw [13] (fun i wr => i = .int .i64 0 ∧ wr = w1) (fun i _ => 0)
    case atStart => exact ⟨rfl, rfl⟩
    case round =>
      obtain ⟨rfl, rfl⟩ := hrel
      go_wp2
      go_end0
      exact ⟨rfl, hc.keep (al.block cb hcb), kal⟩
  · have hbx : (w.alloc (.cells #[.bool false, .bool false, .bool false, .bool false, lv, av, .int .i64 (k : Int)] 54)).heap[w.heap.size]? = some (.cells #[.bool false, .bool false, .bool false, .bool false, lv, av, .int .i64 (k : Int)] 54 (0, 0)) := heap_alloc_new w _
    have hsx : w.heap.size < (w.alloc (.cells #[.bool false, .bool false, .bool false, .bool false, lv, av, .int .i64 (k : Int)] 54)).heap.size := by simp
    have hc1 := hc.keep (al.block cb hcb)
    go_enter Tryz.func54, Tryz.ntmps54
    go_wp2
    generalize w.alloc (.cells #[.bool false, .bool false, .bool false, .bool false, lv, av, .int .i64 (k : Int)] 54) = w1 at al kal k0 hbx hsx hc1 ⊢
    go_loopw [13] (fun i wr => ∃ j : Nat, j ≤ ks.length ∧ i = .int .i64 j ∧ CkAt cb bad wr ∧ Pk cb w1 wr) (fun i _ => ks.length - (Go.RowKit.intOf i).toNat)
    case atStart => exact ⟨0, Nat.zero_le _, rfl, hc1, Pk.refl cb w1⟩
    case round =>
      obtain ⟨j, hj, rfl, hcr, hkr⟩ := hrel
      by_cases hlt : j < ks.length
      · obtain ⟨t, hjt⟩ : ∃ t, ks[j]? = some t := ⟨ks[j], by simp [hlt]⟩
        obtain ⟨b, hcell, htb⟩ := KsAt.get hks hjt
        have kwr := kal.trans hkr
        have hcell2 : wr.cell? ⟨g, go + j, none⟩ = some (.pointer (some b)) := by
          rw [← hcell]; unfold World.cell?; rw [kwr.block g hg hgc]
        have hbx2 : wr.heap[w.heap.size]? = _ := (hkr.block w.heap.size hsx (by omega)).trans hbx
        have hno := hk t (List.mem_of_getElem? hjt) wr cb base b lv av bad hcr (TrAt.keep (kwr.b base) (Nat.le_refl _) t b htb) (hl.keep kwr) (ha.keep kwr)
        have hw : IntKind.i64.wrap ((j : Int) + 1) = ((j + 1 : Nat) : Int) := by have := Go.Ev.wrap_small IntKind.i64 (j + 1) (by show _ ≤ 9223372036854775807; omega); simpa using this
        rw [Bool.or_false] at hno
        unfold plc at hno
        obtain ⟨e0, e1, e2, e3, e4, e5, e6⟩ := PlcAt.cells hbx2
        clear hks hcell htb hk hjt hbx hl ha hbx2
        go_wp2_with (go_at_call 25; refine hno.mono ?_)
        rintro e w2 ⟨rfl, hc2, hk2⟩
        go_wp2
        exact ⟨⟨j + 1, by omega, by simp, hc2, hkr.trans hk2⟩, by simp [Go.RowKit.intOf]; omega⟩
      · have : j = ks.length := by omega
        subst this
        clear hks hk hbx
        go_wp2
        go_end0
        exact ⟨rfl, hcr, kal.trans hkr⟩
end Go.Proofs.YtjkgefnlennbjaaGreatDoor

namespace Go.Proofs.YtjkgefnlennbjaaGreatDoor
open Go.Ev Go.RowKit
set_option maxHeartbeats 8000000
set_option maxRecDepth 100000

theorem TrAt.kind {base pb : Nat} {w : World} {kd : Nat} {s : ByteArray} {ks : List Tr} {a : Addr} (h : TrAt base pb w (.mk kd s ks) a) : ∃ nb no, a = ⟨nb, no, none⟩ ∧ nb < w.heap.size ∧ nb ≠ pb ∧ w.cell? ⟨nb, no, none⟩ = some (.int .i64 kd) ∧ (∃ x : Int, w.cell? ⟨nb, no + 1, none⟩ = some (.int .i64 x)) ∧ w.cell? ⟨nb, no + 2, none⟩ = some (.string s) := by
  rw [TrAt] at h
  obtain ⟨nb, no, v, rfl, h1, h2, h3, h4, h5, h6, -⟩ := h
  exact ⟨nb, no, rfl, h2, h3, h4, h5, h6⟩
theorem plc_new (w : World) (lv av : Value) (k : Nat) : PlcAt (w.alloc (.cells #[.bool false, .bool false, .bool false, .bool false, lv, av, .int .i64 (k : Int)] 54)) w.heap.size lv av k := heap_alloc_new w _
theorem expr_walk {kd : Nat} {s : ByteArray} {ks : List Tr} {L A : List ByteArray} {k : Nat} (hkd : kd = 3 ∨ kd = 30 ∨ kd = 32) (hk : ∀ t ∈ ks, NodeOk t L A k false) (hlen : ks.length ≤ 50) {w : World} {cb base : Nat} {a : Addr} {lv av : Value} {bad : Bool} (hc : CkAt cb bad w) (ht : TrAt base cb w (.mk kd s ks) a) (hl : RowS cb w lv L) (ha : RowS cb w av A) :
    Calls Tryz.prog 61 #[.pointer (some ⟨cb, 0, none⟩), .pointer (some a), plc lv av k] w fun e w' => e = .returned (.tuple #[]) ∧ CkAt cb bad w' ∧ Pk cb w w' := by
  have al := below_alloc w (.cells #[.bool false, .bool false, .bool false, .bool false, lv, av, .int .i64 (k : Int)] 54)
  have kal := Pk.below (pb := cb) al
  have hp := plc_new w lv av k
  have K := kids_walk hk hlen (hc.keep (al.block cb hc.lt)) (TrAt.keep (kal.b base) (Nat.le_refl _) _ _ ht) (hl.keep kal) (ha.keep kal)
  have hT := TrAt.keep (kal.b base) (Nat.le_refl _) _ _ ht
  obtain ⟨nb, no, rfl, g1, g2, c0, -, -⟩ := hT.kind
  obtain ⟨e0, e1, e2, e3, e4, e5, e6⟩ := hp.cells
  clear ht hT hp hl ha hc g1
  unfold plc at K ⊢
  go_enter Tryz.func61, Tryz.ntmps61
  rcases hkd with rfl | rfl | rfl
  all_goals
    go_wp2_with (go_at_call 54; refine K.mono ?_)
    rintro e w2 ⟨rfl, hc2, hk2⟩
    go_wp2
    go_end0
    exact ⟨rfl, hc2, kal.trans hk2⟩
theorem node_flat {kd : Nat} {s : ByteArray} {ks : List Tr} {L A : List ByteArray} {k : Nat} (hkd : kd = 3 ∨ kd = 30 ∨ kd = 32) (hk : ∀ t ∈ ks, NodeOk t L A k false) (hlen : ks.length ≤ 50) : NodeOk (.mk kd s ks) L A k false := by
  intro w cb base a lv av bad hc ht hl ha
  rw [Bool.or_false]
  have al := below_alloc w (.cells #[.bool false, .bool false, .bool false, .bool false, lv, av, .int .i64 (k : Int)] 54)
  have kal := Pk.below (pb := cb) al
  have hp := plc_new w lv av k
  have hT := TrAt.keep (kal.b base) (Nat.le_refl _) _ _ ht
  have K := expr_walk hkd hk hlen (hc.keep (al.block cb hc.lt)) hT (hl.keep kal) (ha.keep kal)
  obtain ⟨nb, no, rfl, g1, g2, c0, -, -⟩ := hT.kind
  obtain ⟨e0, e1, e2, e3, e4, e5, e6⟩ := hp.cells
  clear ht hT hp hl ha hc g1
  unfold plc at K ⊢
  go_enter Tryz.func25, Tryz.ntmps25
  rcases hkd with rfl | rfl | rfl
  all_goals
    go_wp2_with (go_at_call 61; refine K.mono ?_)
    rintro e w2 ⟨rfl, hc2, hk2⟩
    go_wp2
    go_end0
    exact ⟨rfl, hc2, kal.trans hk2⟩
end Go.Proofs.YtjkgefnlennbjaaGreatDoor

namespace Go.Proofs.YtjkgefnlennbjaaGreatDoor
open Go.Ev Go.RowKit
set_option maxHeartbeats 8000000
set_option maxRecDepth 100000

theorem ne_toList {s : ByteArray} (h : s ≠ ⟨#[]⟩) : (s.toList == ByteArray.toList ⟨#[]⟩) = false := by
  rw [ByteArray.toList_eq, ByteArray.toList_eq]
  simpa using fun q => h (ByteArray.ext (Array.ext' q))
/-- Break: without a label, or with one. -/
theorem node_break {s : ByteArray} {L A : List ByteArray} {k : Nat} {r f : Bool} (hlen : L.length ≤ 50) (hr : r = true ↔ s ∈ L) (hf : (s = ⟨#[]⟩ ∧ ((k = 0 ∧ f = true) ∨ (0 < k ∧ k ≤ 50 ∧ f = false))) ∨ (s ≠ ⟨#[]⟩ ∧ f = !r)) : NodeOk (.mk 14 s []) L A k f := by
  intro w cb base a lv av bad hc ht hl ha
  have al := below_alloc w (.cells #[.bool false, .bool false, .bool false, .bool false, lv, av, .int .i64 (k : Int)] 54)
  have kal := Pk.below (pb := cb) al
  have hp := plc_new w lv av k
  have hT := TrAt.keep (kal.b base) (Nat.le_refl _) _ _ ht
  have hc1 := hc.keep (al.block cb hc.lt)
  have H1 : ∀ n, RowS cb ((w.alloc (.cells #[.bool false, .bool false, .bool false, .bool false, lv, av, .int .i64 (k : Int)] 54)).drewN n) lv L := fun n => hl.keep ⟨kal.os, kal.tape, kal.output, kal.size, kal.block⟩
  obtain ⟨nb, no, rfl, g1, g2, c0, ⟨x, c1⟩, c2⟩ := hT.kind
  obtain ⟨e0, e1, e2, e3, e4, e5, e6⟩ := hp.cells
  clear ht hT hp hl ha hc
  unfold plc
  rcases hf with ⟨rfl, ⟨rfl, rfl⟩ | ⟨hk, hk2, rfl⟩⟩ | ⟨hs, rfl⟩
  · rw [Bool.or_true]
    have F : ∀ n, Calls Tryz.prog 52 #[.pointer (some ⟨cb, 0, none⟩), .pointer (some ⟨nb, no, none⟩)] ((w.alloc (.cells #[.bool false, .bool false, .bool false, .bool false, lv, av, .int .i64 ((0 : Nat) : Int)] 54)).drewN n) fun e w' => e = .returned (.tuple #[]) ∧ CkAt cb true w' ∧ Pk cb w w' := fun n => (fail_walk (w := (w.alloc (.cells #[.bool false, .bool false, .bool false, .bool false, lv, av, .int .i64 ((0 : Nat) : Int)] 54)).drewN n) hc1 c1).mono fun e w' h => ⟨h.1, h.2.1, kal.trans ⟨h.2.2.os, h.2.2.tape, h.2.2.output, h.2.2.size, h.2.2.block⟩⟩
    simp only [show ((0 : Nat) : Int) = 0 from rfl] at *
    go_enter Tryz.func25, Tryz.ntmps25
    go_wp2
    go_quiet (skip)
    go_wp2_with (go_at_call 52; refine (F _).mono ?_)
    rintro e w2 ⟨rfl, hc2, hk2⟩
    go_wp2
    go_end0
    exact ⟨rfl, hc2, hk2⟩
  · rw [Bool.or_false]
    have hK : ((k : Int) == 0) = false := by simp; omega
    generalize (k : Int) = K at *
    clear hk hk2
    go_enter Tryz.func25, Tryz.ntmps25
    go_wp2
    go_quiet (skip)
    go_wp2
    go_end0
    exact ⟨rfl, hc1, ⟨kal.os, kal.tape, kal.output, kal.size, kal.block⟩⟩
  · have hb := ne_toList hs
    have hb1 : s.toList.isEmpty = false := by rw [ByteArray.toList_eq]; simpa using fun q => hs (ByteArray.ext (by simpa using q))
    have hb2 : ¬ s.toList = [] := by rw [ByteArray.toList_eq]; simpa using fun q => hs (ByteArray.ext (by simpa using q))
    have Hn : ∀ n, Calls Tryz.prog 60 #[lv, .string s] ((w.alloc (.cells #[.bool false, .bool false, .bool false, .bool false, lv, av, .int .i64 (k : Int)] 54)).drewN n) fun e w' => e = .returned (.bool r) ∧ w' = (w.alloc (.cells #[.bool false, .bool false, .bool false, .bool false, lv, av, .int .i64 (k : Int)] 54)).drewN n := fun n => has_walk (w := (w.alloc (.cells #[.bool false, .bool false, .bool false, .bool false, lv, av, .int .i64 (k : Int)] 54)).drewN n) (H1 n) hlen s r hr
    have F : ∀ n, Calls Tryz.prog 52 #[.pointer (some ⟨cb, 0, none⟩), .pointer (some ⟨nb, no, none⟩)] ((w.alloc (.cells #[.bool false, .bool false, .bool false, .bool false, lv, av, .int .i64 (k : Int)] 54)).drewN n) fun e w' => e = .returned (.tuple #[]) ∧ CkAt cb true w' ∧ Pk cb w w' := fun n => (fail_walk (w := (w.alloc (.cells #[.bool false, .bool false, .bool false, .bool false, lv, av, .int .i64 (k : Int)] 54)).drewN n) hc1 c1).mono fun e w' h => ⟨h.1, h.2.1, kal.trans ⟨h.2.2.os, h.2.2.tape, h.2.2.output, h.2.2.size, h.2.2.block⟩⟩
    generalize (k : Int) = K at *
    clear H1 hr hlen hs
    go_enter Tryz.func25, Tryz.ntmps25
    go_wp2
    go_quiet ((go_at_call 60; exact Calls.quiet_of_same (Hn _)))
    cases r with
    | true =>
      go_wp2
      go_end0
      exact ⟨rfl, by rw [show (bad || !true) = bad by simp]; exact hc1, ⟨kal.os, kal.tape, kal.output, kal.size, kal.block⟩⟩
    | false =>
      go_wp2_with (go_at_call 52; refine (F _).mono ?_)
      rintro e w2 ⟨rfl, hc2, hk2⟩
      go_wp2
      go_end0
      exact ⟨rfl, by rw [show (bad || !false) = true by simp]; exact hc2, hk2⟩
/-- Continue: without a label, or with one. -/
theorem node_again {s : ByteArray} {L A : List ByteArray} {k : Nat} {r f : Bool} (hlen : A.length ≤ 50) (hr : r = true ↔ s ∈ A) (hf : (k = 0 ∧ f = true) ∨ (0 < k ∧ ((s = ⟨#[]⟩ ∧ f = false) ∨ (s ≠ ⟨#[]⟩ ∧ f = !r)))) : NodeOk (.mk 15 s []) L A k f := by
  intro w cb base a lv av bad hc ht hl ha
  have al := below_alloc w (.cells #[.bool false, .bool false, .bool false, .bool false, lv, av, .int .i64 (k : Int)] 54)
  have kal := Pk.below (pb := cb) al
  have hp := plc_new w lv av k
  have hT := TrAt.keep (kal.b base) (Nat.le_refl _) _ _ ht
  have hc1 := hc.keep (al.block cb hc.lt)
  have H1 : ∀ n, RowS cb ((w.alloc (.cells #[.bool false, .bool false, .bool false, .bool false, lv, av, .int .i64 (k : Int)] 54)).drewN n) av A := fun n => ha.keep ⟨kal.os, kal.tape, kal.output, kal.size, kal.block⟩
  obtain ⟨nb, no, rfl, g1, g2, c0, ⟨x, c1⟩, c2⟩ := hT.kind
  obtain ⟨e0, e1, e2, e3, e4, e5, e6⟩ := hp.cells
  clear ht hT hp hl ha hc
  unfold plc
  rcases hf with ⟨rfl, rfl⟩ | ⟨hk, ⟨rfl, rfl⟩ | ⟨hs, rfl⟩⟩
  · rw [Bool.or_true]
    have F : ∀ n, Calls Tryz.prog 52 #[.pointer (some ⟨cb, 0, none⟩), .pointer (some ⟨nb, no, none⟩)] ((w.alloc (.cells #[.bool false, .bool false, .bool false, .bool false, lv, av, .int .i64 ((0 : Nat) : Int)] 54)).drewN n) fun e w' => e = .returned (.tuple #[]) ∧ CkAt cb true w' ∧ Pk cb w w' := fun n => (fail_walk (w := (w.alloc (.cells #[.bool false, .bool false, .bool false, .bool false, lv, av, .int .i64 ((0 : Nat) : Int)] 54)).drewN n) hc1 c1).mono fun e w' h => ⟨h.1, h.2.1, kal.trans ⟨h.2.2.os, h.2.2.tape, h.2.2.output, h.2.2.size, h.2.2.block⟩⟩
    simp only [show ((0 : Nat) : Int) = 0 from rfl] at *
    go_enter Tryz.func25, Tryz.ntmps25
    go_wp2
    go_quiet (skip)
    go_wp2_with (go_at_call 52; refine (F _).mono ?_)
    rintro e w2 ⟨rfl, hc2, hk2⟩
    go_wp2
    go_end0
    exact ⟨rfl, hc2, hk2⟩
  · rw [Bool.or_false]
    have hK : ((k : Int) == 0) = false := by simp; omega
    generalize (k : Int) = K at *
    clear hk
    go_enter Tryz.func25, Tryz.ntmps25
    go_wp2
    go_quiet (skip)
    go_wp2
    go_end0
    exact ⟨rfl, hc1, ⟨kal.os, kal.tape, kal.output, kal.size, kal.block⟩⟩
  · have hb := ne_toList hs
    have hb1 : s.toList.isEmpty = false := by rw [ByteArray.toList_eq]; simpa using fun q => hs (ByteArray.ext (by simpa using q))
    have hb2 : ¬ s.toList = [] := by rw [ByteArray.toList_eq]; simpa using fun q => hs (ByteArray.ext (by simpa using q))
    have Hn : ∀ n, Calls Tryz.prog 60 #[av, .string s] ((w.alloc (.cells #[.bool false, .bool false, .bool false, .bool false, lv, av, .int .i64 (k : Int)] 54)).drewN n) fun e w' => e = .returned (.bool r) ∧ w' = (w.alloc (.cells #[.bool false, .bool false, .bool false, .bool false, lv, av, .int .i64 (k : Int)] 54)).drewN n := fun n => has_walk (w := (w.alloc (.cells #[.bool false, .bool false, .bool false, .bool false, lv, av, .int .i64 (k : Int)] 54)).drewN n) (H1 n) hlen s r hr
    have F : ∀ n, Calls Tryz.prog 52 #[.pointer (some ⟨cb, 0, none⟩), .pointer (some ⟨nb, no, none⟩)] ((w.alloc (.cells #[.bool false, .bool false, .bool false, .bool false, lv, av, .int .i64 (k : Int)] 54)).drewN n) fun e w' => e = .returned (.tuple #[]) ∧ CkAt cb true w' ∧ Pk cb w w' := fun n => (fail_walk (w := (w.alloc (.cells #[.bool false, .bool false, .bool false, .bool false, lv, av, .int .i64 (k : Int)] 54)).drewN n) hc1 c1).mono fun e w' h => ⟨h.1, h.2.1, kal.trans ⟨h.2.2.os, h.2.2.tape, h.2.2.output, h.2.2.size, h.2.2.block⟩⟩
    have hK : ((k : Int) == 0) = false := by simp; omega
    generalize (k : Int) = K at *
    clear hk H1 hr hlen hs
    go_enter Tryz.func25, Tryz.ntmps25
    go_wp2
    go_quiet ((go_at_call 60; exact Calls.quiet_of_same (Hn _)))
    cases r with
    | true =>
      go_wp2
      go_end0
      exact ⟨rfl, by rw [show (bad || !true) = bad by simp]; exact hc1, ⟨kal.os, kal.tape, kal.output, kal.size, kal.block⟩⟩
    | false =>
      go_wp2_with (go_at_call 52; refine (F _).mono ?_)
      rintro e w2 ⟨rfl, hc2, hk2⟩
      go_wp2
      go_end0
      exact ⟨rfl, by rw [show (bad || !false) = true by simp]; exact hc2, hk2⟩
end Go.Proofs.YtjkgefnlennbjaaGreatDoor
