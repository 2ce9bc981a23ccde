/- EarlyLabels: no name twice. EarlyLabels: the names that are declared. EarlyLabels: the checker at blocks. No condition. -/
import Derived.Test.YtjkgefnlennbjaaGreatDoorEvMr
import Derived.WideMake
set_option linter.all false
namespace Go.Proofs.YtjkgefnlennbjaaGreatDoor
open Go.Ev Go.RowKit
set_option maxHeartbeats 8000000
set_option maxRecDepth 100000

theorem und76 : Tryz.prog.underlying 76 = some (.map 9 26) := by kernel_rfl
theorem und9 : Tryz.prog.underlying 9 = some .string := by kernel_rfl
theorem run_zero26 (w : World) : (zeroValue 26).run Tryz.prog w = .ok (.pointer none) w := by
  obtain ⟨i0, hi, hz0, -, -⟩ := info_at (P := Tryz.prog) (t := 26) (z := .pointer none) (s := 1) (b := 8) (by kernel_rfl) (by kernel_rfl) (by kernel_rfl)
  simp [zeroValue, typeInfo, hi, hz0]
theorem run_lookup_empty {w : World} {b : Nat} (hb : w.heap[b]? = some (.map #[] 0)) (s : ByteArray) : Sem.run Tryz.prog (Instr.lookup 76 (.map (some b)) (.string s) false) w = .ok (.pointer none) w := by
  have hf : Instr.findNow .string (.string s) ([] : List MapEntry) 0 = some none := rfl
  have hc : (Instr.checkKey true 10000 9 (.string s)).run Tryz.prog w = .ok () w := MapKept.run_checkKey (k := .string s) und9 (by simp [MapKept.IsKey]) true 9999
  show (Instr.lookup 76 (.map (some b)) (.string s) false).run Tryz.prog w = _
  simp [Instr.lookup, run_underlying und76, MapKept.run_getObj_map hb, hc, MapKept.run_findKey und9 hf, Result.andThen]
theorem unlike_nil {w : World} {cb : Nat} {bad : Bool} (hc : CkAt cb bad w) :
    Calls Tryz.prog 23 #[.pointer (some ⟨cb, 0, none⟩), .slice none 0 0] w fun e w' => e = .returned (.tuple #[]) ∧ CkAt cb bad w' ∧ Pk cb w w' := by
  have al := below_alloc w (.map #[] 0)
  have kal := Pk.below (pb := cb) al
  have hc1 := hc.keep (al.block cb hc.lt)
  have hmk : Sem.run Tryz.prog (Instr.makeMap 76 none) w = .ok (.map (some w.heap.size)) (w.alloc (.map #[] 0)) := run_makeMap_plain w 76
  go_enter Tryz.func23, Tryz.ntmps23
  go_wp2
  go_loopw [10] (fun i wr => i = .int .i64 0 ∧ wr = w.alloc (.map #[] 0)) (fun i _ => 0)
  case atStart => exact ⟨rfl, rfl⟩
  case round =>
    obtain ⟨rfl, rfl⟩ := hrel
    go_wp2
    go_end0
    exact ⟨rfl, hc1, kal⟩
theorem unlike_one {w : World} {cb g go cap nb no : Nat} {s : ByteArray} {bad : Bool} (hc : CkAt cb bad w) (hg : w.cell? ⟨g, go, none⟩ = some (.pointer (some ⟨nb, no, none⟩))) (hs : w.cell? ⟨nb, no + 2, none⟩ = some (.string s)) :
    Calls Tryz.prog 23 #[.pointer (some ⟨cb, 0, none⟩), .slice (some ⟨g, go, none⟩) 1 cap] w fun e w' => e = .returned (.tuple #[]) ∧ CkAt cb bad w' ∧ Pk cb w w' := by
  have al := below_alloc w (.map #[] 0)
  have kal := Pk.below (pb := cb) al
  have hc1 := hc.keep (al.block cb hc.lt)
  have hm : (w.alloc (.map #[] 0)).heap[w.heap.size]? = some (.map #[] 0) := heap_alloc_new w _
  have lt : ∀ {b o : Nat} {v : Value}, w.cell? ⟨b, o, none⟩ = some v → b < w.heap.size := fun {b o v} h => by
    refine Nat.lt_of_not_le fun q => ?_
    unfold World.cell? at h
    rw [Array.getElem?_eq_none q] at h
    cases h
  have hg1 : (w.alloc (.map #[] 0)).cell? ⟨g, go, none⟩ = _ := (World.cell?_of_block (a := ⟨g, go, none⟩) (al.block g (lt hg))).trans hg
  have hs1 : (w.alloc (.map #[] 0)).cell? ⟨nb, no + 2, none⟩ = _ := (World.cell?_of_block (a := ⟨nb, no + 2, none⟩) (al.block nb (lt hs))).trans hs
  have hmk : Sem.run Tryz.prog (Instr.makeMap 76 none) w = .ok (.map (some w.heap.size)) (w.alloc (.map #[] 0)) := run_makeMap_plain w 76
  go_enter Tryz.func23, Tryz.ntmps23
  go_wp2
  refine wp_loop_rounds 2 ?_
  rw [rounds_succ]
  have hlk := run_lookup_empty hm s
  have hup : Sem.run Tryz.prog (Instr.mapUpdate 76 (.map (some w.heap.size)) (.string s) (.pointer (some ⟨nb, no, none⟩))) (w.alloc (.map #[] 0)) = .ok () { w.alloc (.map #[] 0) with heap := (w.alloc (.map #[] 0)).heap.setIfInBounds w.heap.size (.map #[{ key := .string s, val := .pointer (some ⟨nb, no, none⟩), born := 0 }] (0 + 1)) } := run_mapUpdate_first _ 76 9 26 _ 0 s _ und76 und9 hm
  have k2 : Pk cb w { w.alloc (.map #[] 0) with heap := (w.alloc (.map #[] 0)).heap.setIfInBounds w.heap.size (.map #[{ key := .string s, val := .pointer (some ⟨nb, no, none⟩), born := 0 }] (0 + 1)) } := ⟨rfl, rfl, rfl, by simp, fun k hk _ => by
    show ((w.alloc (.map #[] 0)).heap.setIfInBounds w.heap.size _)[k]? = _
    rw [Array.getElem?_setIfInBounds_ne (by omega)]
    exact al.block k hk⟩
  have hc2 : CkAt cb bad { w.alloc (.map #[] 0) with heap := (w.alloc (.map #[] 0)).heap.setIfInBounds w.heap.size (.map #[{ key := .string s, val := .pointer (some ⟨nb, no, none⟩), born := 0 }] (0 + 1)) } := hc.keep (by
    show ((w.alloc (.map #[] 0)).heap.setIfInBounds w.heap.size _)[cb]? = _
    rw [Array.getElem?_setIfInBounds_ne (by have := hc.lt; omega)]
    exact al.block cb hc.lt)
  generalize { w.alloc (.map #[] 0) with heap := (w.alloc (.map #[] 0)).heap.setIfInBounds w.heap.size (.map #[{ key := .string s, val := .pointer (some ⟨nb, no, none⟩), born := 0 }] (0 + 1)) } = w2 at hup k2 hc2
  clear hmk hm hc1 kal
  go_wp2
  rw [rounds_succ]
  go_wp2
  go_end0
  exact ⟨rfl, hc2, k2⟩
end Go.Proofs.YtjkgefnlennbjaaGreatDoor

namespace Go.Proofs.YtjkgefnlennbjaaGreatDoor
open Go.Ev Go.RowKit
set_option maxHeartbeats 8000000
set_option maxRecDepth 100000

theorem newsA (w : World) (x : Value) (t : TypeId) : (w.alloc (.cells #[x] t)).cell? ⟨w.heap.size, 0, none⟩ = some x := by
  simp [World.cell?_alloc_at]
/-- One node in a row of its own. -/
def OneRow (w : World) (n : Addr) (e : Ending) (w' : World) : Prop := ∃ g cap, e = .returned (.slice (some ⟨g, 0, none⟩) 1 cap) ∧ Below w.heap.size w w' ∧ w.heap.size ≤ g ∧ g < w'.heap.size ∧ w'.cell? ⟨g, 0, none⟩ = some (.pointer (some n))
theorem names_name {base pb : Nat} {w : World} {s : ByteArray} {ks : List Tr} {a : Addr} (h : TrAt base pb w (.mk 32 s ks) a) : Calls Tryz.prog 53 #[.pointer (some a)] w (OneRow w a) := by
  obtain ⟨nb, no, rfl, g1, g2, c0, -, -⟩ := h.kind
  have c0' : w.cell? ⟨nb, no, none⟩ = some (.int .i64 32) := c0
  clear c0 h
  have al := below_alloc w (.cells #[.pointer (some ⟨nb, no, none⟩)] 26)
  have hn := newsA w (.pointer (some ⟨nb, no, none⟩)) 26
  go_enter Tryz.func53, Tryz.ntmps53
  go_wp2
  go_ret
  exact ⟨_, _, rfl, al, Nat.le_refl _, by simp, hn⟩
/-- The first part of a node. -/
theorem TrAt.first {base pb : Nat} {w : World} {kd : Nat} {s : ByteArray} {t : Tr} {ks : List Tr} {a : Addr} (h : TrAt base pb w (.mk kd s (t :: ks)) a) : ∃ nb no g go cap b, a = ⟨nb, no, none⟩ ∧ w.cell? ⟨nb, no, none⟩ = some (.int .i64 kd) ∧ w.cell? ⟨nb, no + 2, none⟩ = some (.string s) ∧ w.cell? ⟨nb, no + 5, none⟩ = some (.slice (some ⟨g, go, none⟩) ((ks.length : Nat) + 1 : Nat) cap) ∧ w.cell? ⟨g, go, none⟩ = some (.pointer (some b)) ∧ TrAt base pb w t b ∧ nb < w.heap.size ∧ nb ≠ pb ∧ g < w.heap.size ∧ g ≠ pb ∧ KsAt base pb w (t :: ks) g go := by
  rw [TrAt] at h
  obtain ⟨nb, no, v, rfl, h1, h2, h3, h4, h5, h6, h7, h8⟩ := h
  rcases h8 with ⟨h8, -⟩ | ⟨g, go, cap, rfl, g1, g2, g3, g4⟩
  · cases h8
  · have g5 := g4
    rw [KsAt] at g4
    obtain ⟨⟨b, b1, b2⟩, -⟩ := g4
    exact ⟨nb, no, g, go, cap, b, rfl, h4, h6, h7, b1, b2, h2, h3, g2, g3, g5⟩
theorem names_declare {base pb : Nat} {w : World} {s s2 : ByteArray} {ks2 ks : List Tr} {a : Addr} (h : TrAt base pb w (.mk 3 s (.mk 32 s2 ks2 :: ks)) a) : ∃ n, TrAt base pb w (.mk 32 s2 ks2) n ∧ Calls Tryz.prog 53 #[.pointer (some a)] w (OneRow w n) := by
  obtain ⟨nb, no, g, go, cap, b, rfl, c0, -, c5, cb, tb, -⟩ := h.first
  refine ⟨b, tb, ?_⟩
  have c0' : w.cell? ⟨nb, no, none⟩ = some (.int .i64 3) := c0
  have N := names_name tb
  clear c0 h tb
  have hle : (0 : Int) < ((ks.length + 1 : Nat) : Int) := by omega
  go_enter Tryz.func53, Tryz.ntmps53
  go_wp2_with (go_at_call 53; refine N.mono ?_)
  rintro e w2 ⟨g1, cap1, rfl, h1, h2, h3, h4⟩
  go_wp2
  go_ret
  exact ⟨_, _, rfl, h1, h2, h3, h4⟩
theorem names_let {base pb : Nat} {w : World} {s s1 s2 : ByteArray} {ks2 ks1 : List Tr} {a : Addr} (h : TrAt base pb w (.mk 2 s [.mk 3 s1 (.mk 32 s2 ks2 :: ks1)]) a) : ∃ n, TrAt base pb w (.mk 32 s2 ks2) n ∧ Calls Tryz.prog 53 #[.pointer (some a)] w (OneRow w n) := by
  obtain ⟨i0, hi, hz0, hz1, hz2⟩ := info_at (P := Tryz.prog) (t := 26) (z := .pointer none) (s := 1) (b := 8) (by kernel_rfl) (by kernel_rfl) (by kernel_rfl)
  obtain ⟨nb, no, g, go, cap, b, rfl, c0, -, c5, cb, tb, -⟩ := h.first
  obtain ⟨n, tn, N⟩ := names_declare tb
  refine ⟨n, tn, ?_⟩
  have c0' : w.cell? ⟨nb, no, none⟩ = some (.int .i64 2) := c0
  have c5' : w.cell? ⟨nb, no + 5, none⟩ = some (.slice (some ⟨g, go, none⟩) 1 cap) := c5
  clear c0 c5 h tb tn
  go_enter Tryz.func53, Tryz.ntmps53
  go_wp2
  refine wp_loop_rounds 2 ?_
  rw [rounds_succ]
  go_wp2_with (first | (go_at_call 53; refine N.mono ?_; rintro e w2 ⟨g1, cap1, rfl, h1, h2, h3, h4⟩) | (at_builtin; refine wpList_append_lies _ rfl (.tmp 29) (.tmp 31) 32 rfl w.heap.size 26 i0 (.pointer none) 1 8 Tryz.underlying32 hi hz0 hz1 hz2 rfl (by decide) (.slice none 0 0) 0 [] rfl (World.ownsRow_nil _ _ _ _) ⟨g1, 0, none⟩ 1 cap1 [.pointer (some n)] rfl rfl (fun j u hj => by match j, hj with | 0, hj => simp at hj; subst hj; exact h4) (by intro u hu; simp at hu; subst hu; rfl) (by decide) (by decide) (by decide) (h1.size) _ rfl ?_))
  intro g2 cap2 wn hown hgrow hat hlt
  have hg2 : g2 = w2.heap.size := hat.resolve_left (fun q => by cases q)
  have bn : Below w.heap.size w wn := h1.grown hgrow h1.size (fun k hk => by cases hk)
  have cn : wn.cell? ⟨g2, 0, none⟩ = some (.pointer (some n)) := row_cell hown rfl (j := 0) rfl
  have hge := h1.size
  clear hown hgrow hat N c0' c5' cb h1 h4
  go_wp2
  rw [rounds_succ]
  go_wp2
  go_ret
  exact ⟨_, _, rfl, bn, by omega, hlt, cn⟩
/-- What a list of one statement declares: nothing, if it is a label. -/
theorem declared_none {w : World} {base pb g go cap : Nat} {kd : Nat} {s : ByteArray} {ks : List Tr} {a : Addr} (hg : w.cell? ⟨g, go, none⟩ = some (.pointer (some a))) (h : TrAt base pb w (.mk kd s ks) a) (hkd : kd = 19 ∨ kd = 14 ∨ kd = 15) : Calls Tryz.prog 24 #[.slice (some ⟨g, go, none⟩) 1 cap] w fun e w' => e = .returned (.slice none 0 0) ∧ w' = w := by
  obtain ⟨nb, no, rfl, g1, g2, c0, -, -⟩ := h.kind
  clear h
  go_enter Tryz.func24, Tryz.ntmps24
  go_wp2
  refine wp_loop_rounds 2 ?_
  rw [rounds_succ]
  rcases hkd with rfl | rfl | rfl
  all_goals
    go_wp2
    rw [rounds_succ]
    go_wp2
    go_ret
    exact ⟨rfl, rfl⟩
/-- A declaration, and a label behind it. -/
theorem declared_let {w : World} {base pb g go cap : Nat} {s s1 s2 s3 : ByteArray} {ks1 ks2 ks3 : List Tr} {a a2 : Addr} (hg : w.cell? ⟨g, go, none⟩ = some (.pointer (some a))) (hg2 : w.cell? ⟨g, go + 1, none⟩ = some (.pointer (some a2))) (h : TrAt base pb w (.mk 2 s [.mk 3 s1 (.mk 32 s2 ks2 :: ks1)]) a) (h2 : TrAt base pb w (.mk 19 s3 ks3) a2) (hgl : g < w.heap.size) : ∃ n, TrAt base pb w (.mk 32 s2 ks2) n ∧ Calls Tryz.prog 24 #[.slice (some ⟨g, go, none⟩) 2 cap] w (OneRow w n) := by
  obtain ⟨i0, hi, hz0, hz1, hz2⟩ := info_at (P := Tryz.prog) (t := 26) (z := .pointer none) (s := 1) (b := 8) (by kernel_rfl) (by kernel_rfl) (by kernel_rfl)
  obtain ⟨n, tn, N⟩ := names_let h
  refine ⟨n, tn, ?_⟩
  obtain ⟨nb, no, rfl, p1, -, c0, -, -⟩ := h.kind
  obtain ⟨nb2, no2, rfl, p2, -, c2, -, -⟩ := h2.kind
  have c0' : w.cell? ⟨nb, no, none⟩ = some (.int .i64 2) := c0
  have c2' : w.cell? ⟨nb2, no2, none⟩ = some (.int .i64 19) := c2
  clear c0 c2 h h2 tn
  go_enter Tryz.func24, Tryz.ntmps24
  go_wp2
  refine wp_loop_rounds 3 ?_
  rw [rounds_succ]
  go_wp2_with (first | (go_at_call 53; refine N.mono ?_; rintro e w2 ⟨g1, cap1, rfl, h1, h2, h3, h4⟩) | (at_builtin; refine wpList_append_lies _ rfl (.tmp 31) (.tmp 33) 32 rfl w.heap.size 26 i0 (.pointer none) 1 8 Tryz.underlying32 hi hz0 hz1 hz2 rfl (by decide) (.slice none 0 0) 0 [] rfl (World.ownsRow_nil _ _ _ _) ⟨g1, 0, none⟩ 1 cap1 [.pointer (some n)] rfl rfl (fun j u hj => by match j, hj with | 0, hj => simp at hj; subst hj; exact h4) (by intro u hu; simp at hu; subst hu; rfl) (by decide) (by decide) (by decide) (h1.size) _ rfl ?_))
  intro g2 cap2 wn hown hgrow hat hlt
  have hgs : g2 = w2.heap.size := hat.resolve_left (fun q => by cases q)
  have bn : Below w.heap.size w wn := h1.grown hgrow h1.size (fun k hk => by cases hk)
  have cn : wn.cell? ⟨g2, 0, none⟩ = some (.pointer (some n)) := row_cell hown rfl (j := 0) rfl
  have hge := h1.size
  have x1 := (World.cell?_of_block (a := ⟨g, go + 1, none⟩) (bn.block g hgl)).trans hg2
  have x2 := (World.cell?_of_block (a := ⟨nb2, no2, none⟩) (bn.block nb2 p2)).trans c2'
  clear hown hgrow hat N c0' c2' h1 h4 hg hg2
  go_wp2
  rw [rounds_succ]
  go_wp2
  rw [rounds_succ]
  go_wp2
  go_ret
  exact ⟨_, _, rfl, bn, by omega, hlt, cn⟩
end Go.Proofs.YtjkgefnlennbjaaGreatDoor

namespace Go.Proofs.YtjkgefnlennbjaaGreatDoor
open Go.Ev Go.RowKit
set_option maxHeartbeats 8000000
set_option maxRecDepth 100000

theorem Pk.cellU {pb : Nat} {w w' : World} (k : Pk pb w w') {b o : Nat} (h : b < w.heap.size) (hn : b ≠ pb) : w'.cell? ⟨b, o, none⟩ = w.cell? ⟨b, o, none⟩ := by
  unfold World.cell?
  rw [k.block b h hn]
/-- A scope of one statement that declares nothing. -/
theorem list_one {kd : Nat} {s : ByteArray} {ks : List Tr} {L A : List ByteArray} {k : Nat} {f : Bool} (N : NodeOk (.mk kd s ks) L A k f) (hkd : kd = 19 ∨ kd = 14 ∨ kd = 15) {w : World} {cb base g go cap : Nat} {a : Addr} {lv av : Value} {bad : Bool} (hc : CkAt cb bad w) (hg : w.cell? ⟨g, go, none⟩ = some (.pointer (some a))) (hgl : g < w.heap.size) (hgc : g ≠ cb) (ht : TrAt base cb w (.mk kd s ks) a) (hl : RowS cb w lv L) (ha : RowS cb w av A) :
    Calls Tryz.prog 13 #[.pointer (some ⟨cb, 0, none⟩), .slice (some ⟨g, go, none⟩) 1 cap, plc lv av k] w fun e w' => e = .returned (.tuple #[]) ∧ CkAt cb (bad || f) w' ∧ Pk cb w w' := by
  have al := below_alloc w (.cells #[.bool false, .bool false, .bool false, .bool false, lv, av, .int .i64 (k : Int)] 54)
  have kal := Pk.below (pb := cb) al
  have hp := plc_new w lv av k
  have hT := TrAt.keep (kal.b base) (Nat.le_refl _) _ _ ht
  have hg1 := (kal.cellU (o := go) hgl hgc).trans hg
  have D := declared_none (cap := cap) hg1 hT hkd
  have U := unlike_nil (hc.keep (al.block cb hc.lt))
  have hsz : w.heap.size < (w.alloc (.cells #[.bool false, .bool false, .bool false, .bool false, lv, av, .int .i64 (k : Int)] 54)).heap.size := by simp
  have hcl := hc.lt
  have hl1 := hl.keep kal
  have ha1 := ha.keep kal
  have hgl1 := Nat.lt_of_lt_of_le hgl al.size
  unfold plc
  clear ht hl ha hc hg
  go_enter Tryz.func13, Tryz.ntmps13
  go_wp2_with (go_at_call 24; refine D.mono ?_)
  generalize w.alloc (.cells #[.bool false, .bool false, .bool false, .bool false, lv, av, .int .i64 (k : Int)] 54) = w1 at al kal hp hT hg1 D U hl1 ha1 hsz hgl1 ⊢
  rintro e w2 ⟨rfl, rfl⟩
  go_wp2_with (go_at_call 23; refine U.mono ?_)
  rintro e w3 ⟨rfl, hc3, k3⟩
  have k03 := kal.trans k3
  have hp3 : PlcAt w3 w.heap.size lv av k := by unfold PlcAt; rw [k3.block _ hsz (by omega)]; exact hp
  obtain ⟨e0, e1, e2, e3, e4, e5, e6⟩ := hp3.cells
  have hg3 := (k3.cellU (o := go) hgl1 hgc).trans hg1
  have N3 := N w3 cb base a lv av bad hc3 (TrAt.keep (k3.b base) (Nat.le_refl _) _ _ hT) (hl1.keep k3) (ha1.keep k3)
  unfold plc at N3
  clear hp hT hg1 D U hl1 ha1 hp3 hc3 kal al
  go_wp2
  refine wp_loop_rounds 2 ?_
  rw [rounds_succ]
  go_wp2_with (go_at_call 25; refine N3.mono ?_)
  rintro e w4 ⟨rfl, hc4, k4⟩
  clear N3 e0 e1 e2 e3 e4 e5 e6 hg3
  go_wp2
  rw [rounds_succ]
  go_wp2
  go_end0
  exact ⟨rfl, hc4, k03.trans k4⟩
/-- A block of one statement that declares nothing. -/
theorem node_block {kd : Nat} {s s0 : ByteArray} {ks : List Tr} {L A : List ByteArray} {k : Nat} {f : Bool} (N : NodeOk (.mk kd s ks) L A k f) (hkd : kd = 19 ∨ kd = 14 ∨ kd = 15) : NodeOk (.mk 7 s0 [.mk kd s ks]) L A k f := by
  intro w cb base a lv av bad hc ht hl ha
  have al := below_alloc w (.cells #[.bool false, .bool false, .bool false, .bool false, lv, av, .int .i64 (k : Int)] 54)
  have kal : Pk cb w (w.alloc (.cells #[.bool false, .bool false, .bool false, .bool false, lv, av, .int .i64 (k : Int)] 54)).drew := Pk.below (pb := cb) al.drew
  have hp : PlcAt (w.alloc (.cells #[.bool false, .bool false, .bool false, .bool false, lv, av, .int .i64 (k : Int)] 54)).drew w.heap.size lv av k := plc_new w lv av k
  have hT := TrAt.keep (kal.b base) (Nat.le_refl _) _ _ ht
  obtain ⟨nb, no, g, go, cap, b, rfl, c0, -, c5, cg, tb, h1, h2, h3, h4, -⟩ := hT.first
  have K := list_one (cap := cap) N hkd (hc.keep (al.block cb hc.lt) : CkAt cb bad (w.alloc (.cells #[.bool false, .bool false, .bool false, .bool false, lv, av, .int .i64 (k : Int)] 54)).drew) cg h3 h4 tb (hl.keep kal) (ha.keep kal)
  obtain ⟨e0, e1, e2, e3, e4, e5, e6⟩ := hp.cells
  have c5' : (w.alloc (.cells #[.bool false, .bool false, .bool false, .bool false, lv, av, .int .i64 (k : Int)] 54)).drew.cell? ⟨nb, no + 5, none⟩ = some (.slice (some ⟨g, go, none⟩) 1 cap) := c5
  have c0' : (w.alloc (.cells #[.bool false, .bool false, .bool false, .bool false, lv, av, .int .i64 (k : Int)] 54)).cell? ⟨nb, no, none⟩ = some (.int .i64 7) := c0
  unfold plc at K ⊢
  clear ht hT hp hl ha hc c5 tb c0 h1 h3
  go_enter Tryz.func25, Tryz.ntmps25
  go_wp2
  go_region_law (go_simp; go_at_call 13; refine K.mono ?_; rintro e w2 ⟨rfl, hc2, hk2⟩)
  all_goals
    go_wp2
    go_end0
    exact ⟨rfl, hc2, kal.trans hk2⟩
end Go.Proofs.YtjkgefnlennbjaaGreatDoor
