/- ParseLists: an expression that assigns nothing. No condition. -/
import Derived.Test.YtcaomilekhhhlaaDoorEvQs
namespace Go.Proofs.YtcaomilekhhhlaaDoor
open Go.Ev Go.RowKit
set_option maxHeartbeats 16000000
set_option maxRecDepth 1000000

/-- One deeper, and back. -/
def Down (pb : Nat) (S0 S1 : World → Prop) : Prop := ∀ w, S0 w → Calls Tryd.prog 39 #[.pointer (some ⟨pb, 0, none⟩)] w fun e w' => e = .returned (.bool true) ∧ S1 w' ∧ Pk pb w w'
def Up (pb : Nat) (S S' : World → Prop) : Prop := ∀ w u, S w → CallsD Tryd.prog 38 #[.pointer (some ⟨pb, 0, none⟩)] u w fun e u' w' => u' = u ∧ (e = .returned (.tuple #[]) ∧ S' w' ∧ Pk pb w w')
/-- A sign is not at hand. -/
def No (pb : Nat) (S : World → Prop) (g : FuncId) (s : ByteArray) : Prop := ∀ w, S w → Calls Tryd.prog g #[.pointer (some ⟨pb, 0, none⟩), .string s] w fun e w' => e = .returned (.bool false) ∧ S w' ∧ Pk pb w w'
theorem assign_tail {S0 S1 S S' : World → Prop} {Φ : Nat → Addr → World → Prop} {pb N : Nat} {s0 : ByteArray} {b : Bool} (t : Tail pb N S s0 b) (hΦ : Firm Φ pb) (hdn : Down pb S0 S1) (hy : No pb S1 14 ⟨#[121, 105, 101, 108, 100]⟩) (ha : ∀ w, S1 w → Calls Tryd.prog 77 #[.pointer (some ⟨pb, 0, none⟩)] w fun e w' => e = .returned (.bool false) ∧ S1 w' ∧ Pk pb w w') (hc : ∀ w, S1 w → Calls Tryd.prog 79 #[.pointer (some ⟨pb, 0, none⟩)] w (Res S Φ pb w)) (hup : Up pb S S') (hs : s0 = ⟨#[41]⟩ ∨ s0 = ⟨#[59]⟩) {w : World} (h : S0 w) :
    Calls Tryd.prog 55 #[.pointer (some ⟨pb, 0, none⟩)] w (Res S' Φ pb w) := by
  go_enter_defers Tryd.func55, Tryd.ntmps55
  go_wp2_with (go_at_call 39; refine (hdn _ h).mono ?_)
  rintro e w1 ⟨rfl, p1, k1⟩
  go_wp2_with (go_at_call 14; refine (hy _ p1).mono ?_)
  rintro e w2 ⟨rfl, p2, k2⟩
  go_wp2_with (go_at_call 77; refine (ha _ p2).mono ?_)
  rintro e w3 ⟨rfl, p3, k3⟩
  go_wp2_with (go_at_call 79; refine (hc _ p3).mono ?_)
  rintro e w4 ⟨a, rfl, p4, f4, k4⟩
  go_wp2_with (go_at_call 9; refine (t.tok _ p4).mono ?_)
  rintro e w5 ⟨⟨y0, y1, x, y3, rfl, hy⟩, p5, k5⟩
  have k15 := (((k1.trans k2).trans k3).trans k4).trans k5
  have f5 := hΦ.up f4 ((k1.trans k2).trans k3).size k5
  clear k1 k2 k3 k4 k5 f4 p1 p2 p3 p4
  go_wp2_with (go_at_call 8; refine (t.ok _ ?st).mono ?_)
  case st => exact t.still _ _ p5 ((Below.refl _ w5).alloc (Nat.le_refl _) _)
  rintro e w6 ⟨rfl, p6, k6⟩
  have hpl : pb < w5.heap.size := Nat.lt_of_lt_of_le t.pn (t.lt _ p5)
  have hblk : w6.heap[w5.heap.size]? = some (.cells #[.int .i64 y0, .string y1, .int .i64 x, .int .i64 y3] 42 (0, 0)) := (k6.block w5.heap.size (by simp) (by omega)).trans (heap_alloc_new w5 _)
  have c0 : w6.cell? ⟨w5.heap.size, 0, none⟩ = some (.int .i64 y0) := by simp [World.cell?, hblk]
  have c1 : w6.cell? ⟨w5.heap.size, 1, none⟩ = some (.string y1) := by simp [World.cell?, hblk]
  have k56 : Pk pb w5 w6 := (Pk.below ((Below.refl _ w5).alloc (Nat.le_refl _) _)).trans k6
  have f6 := hΦ.up f5 (Nat.le_refl _) k56
  have k16 := k15.trans k56
  clear hblk hpl k6 k56 k15 f5 p5
  generalize w5.heap.size = tk at c0 c1 ⊢
  have hdoor : Up pb S S' := hup
  clear hup
  cases b with
  | false =>
    go_wp2
    refine leaves_cons (f := 38) (args := #[.pointer (some ⟨pb, 0, none⟩)]) (by simp) (by simp [go_sem]) ?_
    refine (hdoor _ .returning p6).mono ?_
    rintro e u' w7 ⟨rfl, rfl, p7, k7⟩
    exact ⟨_, results_tmp rfl _ _ _, a, rfl, p7, hΦ.up f6 (Nat.le_refl _) k7, k16.trans k7⟩
  | true =>
    obtain ⟨rfl, rfl⟩ := hy rfl
    rcases hs with rfl | rfl
    all_goals
      go_wp2
      refine leaves_cons (f := 38) (args := #[.pointer (some ⟨pb, 0, none⟩)]) (by simp) (by simp [go_sem]) ?_
      refine (hdoor _ .returning p6).mono ?_
      rintro e u' w7 ⟨rfl, rfl, p7, k7⟩
      exact ⟨_, results_tmp rfl _ _ _, a, rfl, p7, hΦ.up f6 (Nat.le_refl _) k7, k16.trans k7⟩
end Go.Proofs.YtcaomilekhhhlaaDoor
