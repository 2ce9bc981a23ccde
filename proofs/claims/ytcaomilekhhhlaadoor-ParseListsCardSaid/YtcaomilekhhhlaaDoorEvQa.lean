/- ParseLists: the token at hand, by the parser. No condition. -/
import Derived.Test.YtcaomilekhhhlaaDoorEvPy
namespace Go.Proofs.YtcaomilekhhhlaaDoor
open Go.Ev Go.RowKit
set_option maxHeartbeats 4000000
set_option maxRecDepth 100000

theorem tok1_ret {fn : Func} {R : Ending → World → Prop} {tmps : Array Value} {w : World} {b : Nat} {x0 x1 x2 x3 : Value} {fz : Nat × Nat} (hr : fn.results = #[.cell 4 42]) (h4 : tmps.getD 4 undef = .pointer (some ⟨b, 0, none⟩)) (hb : w.heap[b]? = some (.cells #[x0, x1, x2, x3] 42 fz))
    (hR : R (.returned (.agg #[x0, x1, x2, x3])) w) : bodyPost Tryd.prog fn R .ret { tmps := tmps, defers := [] } w := by
  refine bodyPost_ret (v := .agg #[x0, x1, x2, x3]) ?_ rfl hR
  have h1 : (loadVar 42 ⟨b, 0, none⟩).run Tryd.prog w = .ok (.agg #[x0, x1, x2, x3]) w := run_loadVar_row _ b 42 42 _ _ _ hb Tryd.underlying42 rfl (by kernel_rfl)
  have h4' : tmps[4]?.getD undef = .pointer (some ⟨b, 0, none⟩) := by rw [← Array.getD_eq_getD_getElem?]; exact h4
  simp [results, hr, h4', asAddr, h1]
theorem ahead_walk {w : World} {pb po tb len cap j n q : Nat} {t : Tok} (c0 : w.cell? ⟨pb, po, none⟩ = some (.slice (some ⟨tb, 0, none⟩) len cap)) (c1 : w.cell? ⟨pb, po + 1, none⟩ = some (.int .i64 j)) (hq : j + n = q) (hj : q < len) (hlen : len ≤ 2000) (ht : tokAt w tb q t) :
    Calls Tryd.prog 13 #[.pointer (some ⟨pb, po, none⟩), .int .i64 n] w fun e w' => (∃ x : Int, e = .returned (.agg #[.int .i64 t.1, .string (sval t.2.1 t.2.2), .int .i64 x, .int .i64 0])) ∧ Below w.heap.size w w' := by
  obtain ⟨x, t0, t1, t2, t3⟩ := ht
  have w1 : IntKind.i64.wrap ((j : Int) + (n : Int)) = (q : Int) := by subst hq; have := Go.Ev.wrap_small IntKind.i64 (j + n) (by show _ ≤ 9223372036854775807; omega); simpa using this
  obtain ⟨m, hm⟩ : ∃ m, len - 1 = m := ⟨_, rfl⟩
  have w2 : IntKind.i64.wrap ((len : Int) - 1) = (m : Int) := by
    have := Go.Ev.wrap_small IntKind.i64 m (by show _ ≤ 9223372036854775807; omega)
    rw [show ((len : Int) - 1) = Int.ofNat m by simp only [Int.ofNat_eq_natCast]; omega]
    exact this
  have hmq : (q : Int) ≤ (m : Int) := by omega
  have hmin : min (q : Int) (m : Int) = (q : Int) := by omega
  have hq0 : (0 : Int) ≤ (q : Int) := by omega
  have hql : (q : Int) < (len : Int) := by omega
  clear hq hm hlen hj
  generalize ((t.1 : Nat) : Int) = k0 at t0 ⊢
  generalize sval t.2.1 t.2.2 = k1 at t1 ⊢
  go_enter Tryd.func13, Tryd.ntmps13
  go_wp2
  obtain ⟨w5, hw5⟩ : ∃ w5, w.alloc (Obj.cells #[Value.int IntKind.i64 0, Value.string { data := #[] }, Value.int IntKind.i64 0, Value.int IntKind.i64 0] 42) = w5 := ⟨_, rfl⟩
  rw [hw5]
  have hb5 : Below w.heap.size w w5 := by rw [← hw5]; exact (Below.refl _ w).alloc (Nat.le_refl _) _
  have h4 : w5.heap[w.heap.size]? = some (.cells #[.int .i64 0, .string ⟨#[]⟩, .int .i64 0, .int .i64 0] 42 (0, 0)) := by rw [← hw5]; exact heap_alloc_new w _
  have lp : pb < w.heap.size := World.block_lt_of_cell? w _ c0
  have lt : tb < w.heap.size := World.block_lt_of_cell? w _ t0
  replace c0 := (hb5.cell (p := ⟨pb, po, none⟩) lp).trans c0
  replace c1 := (hb5.cell (p := ⟨pb, po + 1, none⟩) lp).trans c1
  replace t0 := (hb5.cell (p := ⟨tb, q * 4, none⟩) lt).trans t0
  replace t1 := (hb5.cell (p := ⟨tb, q * 4 + 1, none⟩) lt).trans t1
  replace t2 := (hb5.cell (p := ⟨tb, q * 4 + 2, none⟩) lt).trans t2
  replace t3 := (hb5.cell (p := ⟨tb, q * 4 + 3, none⟩) lt).trans t3
  clear hw5
  generalize hg : w.heap.size = g at h4 hb5 ⊢
  obtain ⟨r0, r1, r2, r3, f0, f1, f2, f3⟩ := four_at h4
  go_region
  go_wp2
  have hE : (((((w5.setCell ⟨g, 0, none⟩ (.int .i64 k0)).setCell ⟨g, 1, none⟩ (.string k1)).setCell ⟨g, 2, none⟩ (.int .i64 x)).setCell ⟨g, 3, none⟩ (.int .i64 0)).drew).heap[g]? = some (.cells #[.int .i64 k0, .string k1, .int .i64 x, .int .i64 0] 42 (0, 0)) := four_set h4 _ _ _ _
  exact tok1_ret rfl rfl hE ⟨⟨x, rfl⟩, by rw [hg]; exact (below_set (below_set (below_set (below_set hb5 0 _) 1 _) 2 _) 3 _).drew⟩
end Go.Proofs.YtcaomilekhhhlaaDoor
