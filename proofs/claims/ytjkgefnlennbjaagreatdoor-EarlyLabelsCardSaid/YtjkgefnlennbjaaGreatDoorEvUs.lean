/- EarlyLabels: a text checked. No condition. -/
import Derived.Test.YtjkgefnlennbjaaGreatDoorEvUr
import Derived.Test.YtjkgefnlennbjaaGreatDoorEvYu
set_option linter.all false
namespace Go.Proofs.YtjkgefnlennbjaaGreatDoor
open Go.Ev Go.RowKit
set_option maxHeartbeats 8000000
set_option maxRecDepth 100000

mutual
/-- A tree below a block: that block may be named. -/
theorem TrAt.named {base pb cb : Nat} {w : World} (hcb : w.heap.size ≤ cb) : ∀ (t : Tr) (a : Addr), TrAt base pb w t a → TrAt base cb w t a
  | .mk kd s ks, a, h => by
    rw [TrAt] at h ⊢
    obtain ⟨nb, no, v, h1, h2, h3, h4, h5, h6, h7, h8, h9⟩ := h
    refine ⟨nb, no, v, h1, h2, h3, by omega, h5, h6, h7, h8, ?_⟩
    rcases h9 with h9 | ⟨g, go, cap, g1, g2, g3, g4, g5⟩
    · exact .inl h9
    · exact .inr ⟨g, go, cap, g1, g2, g3, by omega, KsAt.named hcb ks g go g5⟩
theorem KsAt.named {base pb cb : Nat} {w : World} (hcb : w.heap.size ≤ cb) : ∀ (ts : List Tr) (g i : Nat), KsAt base pb w ts g i → KsAt base cb w ts g i
  | [], _, _, _ => by rw [KsAt]; trivial
  | t :: ts, g, i, h => by
    rw [KsAt] at h ⊢
    obtain ⟨⟨b, h1, h2⟩, h3⟩ := h
    exact ⟨⟨b, h1, TrAt.named hcb t b h2⟩, KsAt.named hcb ts g (i + 1) h3⟩
end
theorem cell_ret {fn : Func} {R : Ending → World → Prop} {tmps : Array Value} {w : World} {b : Nat} {x0 x1 : Value} {fz : Nat × Nat} (hr : fn.results = #[.cell 2 29]) (h4 : tmps.getD 2 undef = .pointer (some ⟨b, 0, none⟩)) (hb : w.heap[b]? = some (.cells #[x0, x1] 29 fz))
    (hR : R (.returned (.agg #[x0, x1])) w) : bodyPost Tryz.prog fn R .ret { tmps := tmps, defers := [] } w := by
  refine bodyPost_ret (v := .agg #[x0, x1]) ?_ rfl hR
  have h1 : (loadVar 29 ⟨b, 0, none⟩).run Tryz.prog w = .ok (.agg #[x0, x1]) w := run_loadVar_row _ b 29 29 _ _ _ hb Tryz.underlying29 rfl (by kernel_rfl)
  have h4' : tmps[2]?.getD undef = .pointer (some ⟨b, 0, none⟩) := by rw [← Array.getD_eq_getD_getElem?]; exact h4
  simp [results, hr, h4', asAddr, h1]
theorem check_walk {w : World} {base pb : Nat} {s0 sL s1 s2 s3 : ByteArray} {ks2 ks3 : List Tr} {f : Bool} {a : Addr} (N1 : NodeOk (.mk 2 sL [.mk 3 s1 [.mk 32 s2 ks2]]) [] [] 0 false) (N2 : NodeOk (.mk 19 s3 ks3) [] [] 0 f) (ht : TrAt base pb w (.mk 1 s0 [.mk 2 sL [.mk 3 s1 [.mk 32 s2 ks2]], .mk 19 s3 ks3]) a) :
    Calls Tryz.prog 8 #[.pointer (some a)] w fun e w' => (∃ x : Int, e = .returned (.agg #[.int .i64 (ckK f), .int .i64 x])) ∧ Below w.heap.size w w' := by
  have ht1 := TrAt.named (cb := w.heap.size + 1) (by omega) _ _ ht
  have b2 : Below w.heap.size w ((w.alloc (.cells #[.int .i64 0, .int .i64 0] 29)).alloc (.cells #[.int .i64 0, .int .i64 0] 50)) := ((Below.refl _ w).alloc (Nat.le_refl _) _).alloc (by simp) _
  have hT := TrAt.keep ((Pk.below (pb := w.heap.size + 1) b2).b base) (Nat.le_refl _) _ _ ht1
  have h1 : (w.alloc (.cells #[.int .i64 0, .int .i64 0] 29)).heap.size = w.heap.size + 1 := by simp
  have hck : CkAt (w.heap.size + 1) false ((w.alloc (.cells #[.int .i64 0, .int .i64 0] 29)).alloc (.cells #[.int .i64 0, .int .i64 0] 50)) := ⟨0, by rw [← h1]; exact heap_alloc_new _ _⟩
  have hr0 : ((w.alloc (.cells #[.int .i64 0, .int .i64 0] 29)).alloc (.cells #[.int .i64 0, .int .i64 0] 50)).heap[w.heap.size]? = some (.cells #[.int .i64 0, .int .i64 0] 29 (0, 0)) := by
    rw [heap_alloc_old _ _ (by omega)]
    exact heap_alloc_new w _
  have hs2 : ((w.alloc (.cells #[.int .i64 0, .int .i64 0] 29)).alloc (.cells #[.int .i64 0, .int .i64 0] 50)).heap.size = w.heap.size + 2 := by simp
  obtain ⟨nb, no, g, go, cap, b1, rfl, -, -, c5, -, -, -, -, h3, h4, ks⟩ := hT.first
  have c5' : ((w.alloc (.cells #[.int .i64 0, .int .i64 0] 29)).alloc (.cells #[.int .i64 0, .int .i64 0] 50)).cell? ⟨nb, no + 5, none⟩ = some (.slice (some ⟨g, go, none⟩) 2 cap) := c5
  have LL := list_two (cap := cap) N1 N2 rfl hck h3 h4 ks (.inl ⟨rfl, rfl⟩) (.inl ⟨rfl, rfl⟩)
  rw [Bool.false_or] at LL
  unfold plc at LL
  clear ht ht1 hT c5 ks N1 N2
  go_enter Tryz.func8, Tryz.ntmps8
  go_wp2_with (go_at_call 13; refine LL.mono ?_)
  generalize ((w.alloc (.cells #[.int .i64 0, .int .i64 0] 29)).alloc (.cells #[.int .i64 0, .int .i64 0] 50)) = w2 at *
  rintro e w3 ⟨rfl, hc3, k3⟩
  obtain ⟨x, hx⟩ := hc3
  have hr3 : w3.heap[w.heap.size]? = some (.cells #[.int .i64 0, .int .i64 0] 29 (0, 0)) := (k3.block _ (by omega) (by omega)).trans hr0
  have d0 : w3.cell? ⟨w.heap.size + 1, 0, none⟩ = some (.int .i64 (ckK f)) := by simp [World.cell?, hx]
  have d1 : w3.cell? ⟨w.heap.size + 1, 1, none⟩ = some (.int .i64 x) := by simp [World.cell?, hx]
  obtain ⟨q0, q1, q2, q3⟩ := two_at hr3
  have b3 : Below w.heap.size w w3 := b2.trans (below_pk (w0 := w) k3 (by omega) b2.size)
  clear LL hck hr0 c5' hx k3
  go_wp2
  exact cell_ret rfl rfl (set_blk (set_blk hr3 0 _) 1 _) ⟨⟨x, rfl⟩, below_set (below_set b3 0 _) 1 _⟩
/-- What 'Source' gives back of such a text: the fault's kind. -/
def SrcEnd (f : Bool) (w : World) (e : Ending) (w' : World) : Prop := ∃ (p : Value) (x : Int), e = .returned (.tuple #[p, .agg #[.int .i64 (ckK f), .int .i64 x]]) ∧ Below w.heap.size w w'
theorem source_core {s : ByteArray} {w : World} {s0 sL s1 s2 s3 : ByteArray} {ks2 ks3 : List Tr} {f : Bool} (N1 : NodeOk (.mk 2 sL [.mk 3 s1 [.mk 32 s2 ks2]]) [] [] 0 false) (N2 : NodeOk (.mk 19 s3 ks3) [] [] 0 f)
    (hp : ∀ w1, Below w.heap.size w w1 → Calls Tryz.prog 7 #[.string s] w1 fun e w' => Below w1.heap.size w1 w' ∧ ∃ np pb, e = .returned (.tuple #[.pointer (some ⟨np, 0, none⟩), .agg #[.int .i64 0, .int .i64 0]]) ∧ TrAt w1.heap.size pb w' (.mk 1 s0 [.mk 2 sL [.mk 3 s1 [.mk 32 s2 ks2]], .mk 19 s3 ks3]) ⟨np, 0, none⟩) :
    Calls Tryz.prog 5 #[.string s] w (SrcEnd f w) := by
  have al := below_alloc w (.cells #[.int .i64 0, .int .i64 0] 29)
  have hP := hp _ al
  have hr0 : (w.alloc (.cells #[.int .i64 0, .int .i64 0] 29)).heap[w.heap.size]? = some (.cells #[.int .i64 0, .int .i64 0] 29 (0, 0)) := heap_alloc_new w _
  have hs1 : w.heap.size < (w.alloc (.cells #[.int .i64 0, .int .i64 0] 29)).heap.size := by simp
  unfold SrcEnd
  go_enter Tryz.func5, Tryz.ntmps5
  go_wp2_with (go_at_call 7; refine hP.mono ?_)
  generalize w.alloc (.cells #[.int .i64 0, .int .i64 0] 29) = w1 at *
  rintro e w2 ⟨b2, np, pb, rfl, ht⟩
  clear hP hp
  have b3 := below_alloc w2 (.cells #[.int .i64 0, .int .i64 0] 29)
  have ht3 := TrAt.keep ((Pk.below (pb := pb) b3).b w1.heap.size) (Nat.le_refl _) _ _ ht
  have C := check_walk N1 N2 ht3
  have hr2 : w2.heap[w.heap.size]? = some (.cells #[.int .i64 0, .int .i64 0] 29 (0, 0)) := (b2.block _ hs1).trans hr0
  have b02 : Below w.heap.size w w2 := al.trans (b2.mono al.size)
  have hw12 := b2.size
  have hr3 : (w2.alloc (.cells #[.int .i64 0, .int .i64 0] 29)).heap[w2.heap.size]? = some (.cells #[.int .i64 0, .int .i64 0] 29 (0, 0)) := heap_alloc_new w2 _
  have hs3 : (w2.alloc (.cells #[.int .i64 0, .int .i64 0] 29)).heap.size = w2.heap.size + 1 := by simp
  have hls : w.heap.size < w2.heap.size := Nat.lt_of_lt_of_le hs1 hw12
  go_wp2_with (go_at_call 8; refine C.mono ?_)
  generalize w2.alloc (.cells #[.int .i64 0, .int .i64 0] 29) = w3 at *
  rintro e w4 ⟨⟨x, rfl⟩, b4⟩
  have hr4 : w4.heap[w2.heap.size]? = some (.cells #[.int .i64 0, .int .i64 0] 29 (0, 0)) := (b4.block _ (by omega)).trans hr3
  have hq4 : w4.heap[w.heap.size]? = some (.cells #[.int .i64 0, .int .i64 0] 29 (0, 0)) := (b4.block _ (by omega)).trans ((b3.block _ hls).trans hr2)
  have b04 : Below w.heap.size w w4 := (b02.trans (b3.mono (by omega))).trans (b4.mono (by omega))
  obtain ⟨q0, q1, q2, q3⟩ := two_at hr4
  obtain ⟨y0, y1, y2, y3⟩ := two_at hq4
  clear C N1 N2 ht ht3 hr3 b3 b4 b2 al hr0 hr2
  have hne : ¬ w2.heap.size = w.heap.size := by omega
  have far : ∀ (K : Int), ((w4.setCell ⟨w2.heap.size, 0, none⟩ (.int .i64 K)).setCell ⟨w2.heap.size, 1, none⟩ (.int .i64 x)).heap[w.heap.size]? = some (.cells #[.int .i64 0, .int .i64 0] 29 (0, 0)) := fun K => by
    rw [Below.heap_setCell _ ⟨w2.heap.size, 1, none⟩ _ w.heap.size (by show w.heap.size ≠ w2.heap.size; omega), Below.heap_setCell _ ⟨w2.heap.size, 0, none⟩ _ w.heap.size (by show w.heap.size ≠ w2.heap.size; omega)]
    exact hq4
  have bel : ∀ (K : Int), Below w.heap.size w ((w4.setCell ⟨w2.heap.size, 0, none⟩ (.int .i64 K)).setCell ⟨w2.heap.size, 1, none⟩ (.int .i64 x)) := fun K => (b04.setCell (p := ⟨w2.heap.size, 0, none⟩) (by show w.heap.size ≤ w2.heap.size; omega) _).setCell (p := ⟨w2.heap.size, 1, none⟩) (by show w.heap.size ≤ w2.heap.size; omega) _
  cases f with
  | false =>
    rw [show ckK false = 0 from rfl]
    go_wp2
    exact scan_ret rfl rfl (set_blk (set_blk (far 0) 0 (.int .i64 0)) 1 (.int .i64 0)) ⟨_, 0, rfl, below_set (below_set (bel 0) 0 _) 1 _⟩
  | true =>
    rw [show ckK true = 6 from rfl]
    go_wp2
    have hr5 : ((w4.setCell ⟨w2.heap.size, 0, none⟩ (.int .i64 6)).setCell ⟨w2.heap.size, 1, none⟩ (.int .i64 x)).heap[w2.heap.size]? = some (.cells #[.int .i64 6, .int .i64 x] 29 (0, 0)) := set_blk (set_blk hr4 0 _) 1 _
    have hq5 := far 6
    have b5 := bel 6
    clear far bel q0 q1 q2 q3 y0 y1 y2 y3 hr4 hq4 b04
    generalize (w4.setCell ⟨w2.heap.size, 0, none⟩ (.int .i64 6)).setCell ⟨w2.heap.size, 1, none⟩ (.int .i64 x) = w5 at *
    have hr5d : w5.drew.heap[w2.heap.size]? = some (.cells #[.int .i64 6, .int .i64 x] 29 (0, 0)) := hr5
    have hq5d : w5.drew.heap[w.heap.size]? = some (.cells #[.int .i64 0, .int .i64 0] 29 (0, 0)) := hq5
    obtain ⟨q0, q1, -, -⟩ := two_at hr5d
    obtain ⟨y0, y1, y2, y3⟩ := two_at hq5d
    have hqs : (w5.setCell ⟨w.heap.size, 0, none⟩ (.int .i64 6)).drew.heap[w.heap.size]? = some (.cells #[.int .i64 6, .int .i64 0] 29 (0, 0)) := set_blk hq5 0 _
    obtain ⟨s0', s1', t0', t1'⟩ := two_at hqs
    go_region_law (go_simp)
    all_goals
      go_wp2
      exact scan_ret rfl rfl (set_blk (set_blk hq5 0 (.int .i64 6)) 1 (.int .i64 x)) ⟨_, x, rfl, (below_set (below_set b5 0 _) 1 _).drew⟩
end Go.Proofs.YtjkgefnlennbjaaGreatDoor
