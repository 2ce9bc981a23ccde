/- ParseLists: what gives an expression back as it is. No condition. -/
import Derived.Test.YtcaomilekhhhlaaDoorEvQq
namespace Go.Proofs.YtcaomilekhhhlaaDoor
open Go.Ev Go.RowKit
set_option maxHeartbeats 16000000
set_option maxRecDepth 1000000

theorem suffix_tail {S : World → Prop} {pb N : Nat} {s0 : ByteArray} (t : Tail pb N S s0 true) {w : World} (h : S w) (a : Addr) :
    Calls Tryd.prog 59 #[.pointer (some ⟨pb, 0, none⟩), .pointer (some a), .bool true] w fun e w' => e = .returned (.pointer (some a)) ∧ S w' ∧ Pk pb w w' := by
  go_enter Tryd.func59, Tryd.ntmps59
  go_wp2
  refine wp_loop_rounds 1 ?_
  rw [rounds_succ]
  go_wp2_with (go_at_call 8; refine (t.ok _ h).mono ?_)
  rintro e w1 ⟨rfl, p1, k1⟩
  go_wp2_with (go_at_call 9; refine (t.tok _ p1).mono ?_)
  rintro e w2 ⟨⟨y0, y1, x, y3, rfl, hyy⟩, p2, k2⟩
  clear hyy
  have hfd := field_at w2 y0 y1 x y3
  go_wp2_with (go_at_call 31; refine (t.td rfl _ p2).mono ?_)
  rintro e w3 ⟨rfl, p3, k3⟩
  clear hfd
  go_wp2_with (go_at_call 31; refine (t.tb rfl _ p3).mono ?_)
  rintro e w4 ⟨rfl, p4, k4⟩
  go_wp2_with (go_at_call 31; refine (t.tp rfl _ p4).mono ?_)
  rintro e w5 ⟨rfl, p5, k5⟩
  go_wp2
  go_ret
  exact ⟨rfl, p5, (((k1.trans k2).trans k3).trans k4).trans k5⟩
theorem cond_tail {S0 S : World → Prop} {Φ : Nat → Addr → World → Prop} {pb N : Nat} {s0 : ByteArray} {b : Bool} (t : Tail pb N S s0 b) (hΦ : Firm Φ pb) (hb : ∀ w, S0 w → Calls Tryd.prog 89 #[.pointer (some ⟨pb, 0, none⟩), .int .i64 0] w (Res S Φ pb w)) {w : World} (h : S0 w) :
    Calls Tryd.prog 79 #[.pointer (some ⟨pb, 0, none⟩)] w (Res S Φ pb w) := by
  go_enter Tryd.func79, Tryd.ntmps79
  go_wp2_with (go_at_call 89; refine (hb _ h).mono ?_)
  rintro e w1 ⟨a, rfl, p1, f1, k1⟩
  go_wp2_with (go_at_call 9; refine (t.tok _ p1).mono ?_)
  rintro e w2 ⟨⟨y0, y1, x, y3, rfl, hyy⟩, p2, k2⟩
  clear hyy
  have hfd := field_at w2 y0 y1 x y3
  go_wp2_with (go_at_call 31; refine (t.tq _ p2).mono ?_)
  rintro e w3 ⟨rfl, p3, k3⟩
  clear hfd
  go_wp2
  go_ret
  exact ⟨a, rfl, p3, hΦ.up f1 (Nat.le_refl _) (k2.trans k3), (k1.trans k2).trans k3⟩
end Go.Proofs.YtcaomilekhhhlaaDoor
