/- ParseLists: operators: none. No condition. -/
import Derived.Test.YtcaomilekhhhlaaDoorEvQr
namespace Go.Proofs.YtcaomilekhhhlaaDoor
open Go.Ev Go.RowKit
set_option maxHeartbeats 16000000
set_option maxRecDepth 1000000

theorem binary_last {S0 S : World → Prop} {Φ : Nat → Addr → World → Prop} {pb : Nat} (hu : ∀ w, S0 w → Calls Tryd.prog 36 #[.pointer (some ⟨pb, 0, none⟩)] w (Res S Φ pb w)) {w : World} (h : S0 w) :
    Calls Tryd.prog 89 #[.pointer (some ⟨pb, 0, none⟩), .int .i64 7] w (Res S Φ pb w) := by
  go_enter Tryd.func89, Tryd.ntmps89
  go_wp2_with (go_at_call 36; refine (hu _ h).mono ?_)
  rintro e w1 ⟨a, rfl, p1, f1, k1⟩
  go_wp2
  go_ret
  exact ⟨a, rfl, p1, f1, k1⟩
theorem binary_step {S0 S : World → Prop} {Φ : Nat → Addr → World → Prop} {pb N : Nat} {s0 : ByteArray} {b : Bool} (t : Tail pb N S s0 b) (hΦ : Firm Φ pb) (k : Nat) (hk : k ≤ 6) (hu : ∀ w, S0 w → Calls Tryd.prog 89 #[.pointer (some ⟨pb, 0, none⟩), .int .i64 ((k + 1 : Nat) : Int)] w (Res S Φ pb w)) {w : World} (h : S0 w) :
    Calls Tryd.prog 89 #[.pointer (some ⟨pb, 0, none⟩), .int .i64 (k : Int)] w (Res S Φ pb w) := by
  have hw : IntKind.i64.wrap ((k : Int) + 1) = ((k + 1 : Nat) : Int) := by have := Go.Ev.wrap_small IntKind.i64 (k + 1) (by show _ ≤ 9223372036854775807; omega); simpa using this
  have h6 : ¬ (6 < (k : Int)) := by omega
  have hm : ¬ ((-1 : Int) = (k : Int)) := by omega
  generalize (k : Int) = K at *
  generalize ((k + 1 : Nat) : Int) = K1 at *
  go_enter Tryd.func89, Tryd.ntmps89
  go_wp2_with (go_at_call 89; refine (hu _ h).mono ?_)
  rintro e w1 ⟨a, rfl, p1, f1, k1⟩
  clear hw h6 hu
  go_wp2
  refine wp_loop_rounds 1 ?_
  rw [rounds_succ]
  cases b with
  | false =>
    go_wp2_with (go_at_call 8; refine (t.ok _ p1).mono ?_)
    rintro e w2 ⟨rfl, p2, k2⟩
    go_wp2
    go_ret
    exact ⟨a, rfl, p2, hΦ.up f1 (Nat.le_refl _) k2, k1.trans k2⟩
  | true =>
    go_wp2_with (go_at_call 8; refine (t.ok _ p1).mono ?_)
    rintro e w2 ⟨rfl, p2, k2⟩
    go_wp2_with (go_at_call 9; refine (t.tok _ p2).mono ?_)
    rintro e w3 ⟨⟨y0, y1, x, y3, rfl, hy⟩, p3, k3⟩
    obtain ⟨rfl, rfl⟩ := hy rfl
    have k13 := (k1.trans k2).trans k3
    have f3 := hΦ.up f1 (Nat.le_refl _) (k2.trans k3)
    clear k1 k2 k3 f1 p1 p2
    have hl := fun w' hk => t.lv rfl w' (t.still w3 w' p3 hk)
    go_wp2_with (go_at_call 93; refine (hl _ ?bel).mono ?_)
    case bel => exact (Below.refl _ w3).alloc (Nat.le_refl _) _
    rintro e w4 ⟨rfl, p4, k4⟩
    have k5 : Pk pb w3 w4 := (Pk.below ((Below.refl _ w3).alloc (Nat.le_refl _) _)).trans k4
    clear k4 hl
    go_wp2
    go_ret
    exact ⟨a, rfl, p4, hΦ.up f3 (Nat.le_refl _) k5, k13.trans k5⟩
theorem binary_all {S0 S : World → Prop} {Φ : Nat → Addr → World → Prop} {pb N : Nat} {s0 : ByteArray} {b : Bool} (t : Tail pb N S s0 b) (hΦ : Firm Φ pb) (hu : ∀ w, S0 w → Calls Tryd.prog 36 #[.pointer (some ⟨pb, 0, none⟩)] w (Res S Φ pb w)) :
    ∀ (m k : Nat), m + k = 7 → ∀ w, S0 w → Calls Tryd.prog 89 #[.pointer (some ⟨pb, 0, none⟩), .int .i64 (k : Int)] w (Res S Φ pb w)
  | 0, k, hk, w, h => by
    obtain rfl : k = 7 := by omega
    exact binary_last hu h
  | m + 1, k, hk, w, h => binary_step t hΦ k (by omega) (binary_all t hΦ hu m (k + 1) (by omega)) h
/-- An operand, and nothing behind it. -/
theorem cond_walk {S0 S : World → Prop} {Φ : Nat → Addr → World → Prop} {pb N : Nat} {s0 : ByteArray} {b : Bool} (t : Tail pb N S s0 b) (hΦ : Firm Φ pb) (hu : ∀ w, S0 w → Calls Tryd.prog 36 #[.pointer (some ⟨pb, 0, none⟩)] w (Res S Φ pb w)) {w : World} (h : S0 w) :
    Calls Tryd.prog 79 #[.pointer (some ⟨pb, 0, none⟩)] w (Res S Φ pb w) := cond_tail t hΦ (binary_all t hΦ hu 7 0 rfl) h
end Go.Proofs.YtcaomilekhhhlaaDoor
