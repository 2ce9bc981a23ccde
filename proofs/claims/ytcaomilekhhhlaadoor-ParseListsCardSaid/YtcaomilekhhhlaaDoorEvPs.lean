/- ParseLists: the program's scanner, walked over the texts that the law writes. Condition: each token is one of those. -/
import Derived.Test.YtcaomilekhhhlaaDoorEvExt
import Derived.Test.YtcaomilekhhhlaaDoorEvMa
import Derived.WalkKit
import Derived.BigCall
import Derived.Lib.OthersKept
import Derived.OwnWalk
import Derived.Laws.AppendOwn
import Derived.Deep.AppendLies
import Derived.Deep.RegionLaw
import Derived.BigRegion
import Derived.Deep.QuietTactic
import Derived.BigQuiet
import Derived.Below
namespace Go.Proofs.YtcaomilekhhhlaaDoor
open Go.Ev Go.RowKit
set_option maxHeartbeats 4000000
set_option maxRecDepth 100000

theorem pref_false (s p : ByteArray) (w : World) (h : Lib.hasPrefix s.data.toList p.data.toList = false) : Calls Tryd.prog 20 #[.string s, .string p] w fun e w' => e = .returned (.bool false) ∧ w' = w := by
  refine (Tryd.strings_HasPrefix s p w).mono ?_
  rintro e w' ⟨rfl, rfl⟩
  rw [h]
  exact ⟨rfl, rfl⟩
theorem int_ne {c n : Nat} (h : c ≠ n) : ((c : Int) == (n : Int)) = false := by
  simp only [beq_eq_false_iff_ne, ne_eq]
  omega
/-- No blank, no comment: the place as it is. -/
theorem blank_none (s : ByteArray) (at_ : Nat) (w : World) (hlt : at_ < s.size) (hs : s.size ≤ 1000) (c : Nat) (hc : (s[at_]'hlt).toNat = c) (h1 : c ≠ 32) (h2 : c ≠ 9) (h3 : c ≠ 10) (h4 : c ≠ 13)
    (p1 : Lib.hasPrefix (s.extract at_ s.size).data.toList [47, 47] = false) (p2 : Lib.hasPrefix (s.extract at_ s.size).data.toList [47, 42] = false) :
    Calls Tryd.prog 11 #[.string s, .int .i64 at_] w fun e w' => e = .returned (.tuple #[.int .i64 at_, .bool true]) ∧ w' = w := by
  have q1 : ((c : Int) == 32) = false := int_ne h1
  have q2 : ((c : Int) == 9) = false := int_ne h2
  have q3 : ((c : Int) == 10) = false := int_ne h3
  have q4 : ((c : Int) == 13) = false := int_ne h4
  clear h1 h2 h3 h4
  go_enter Tryd.func11, Tryd.ntmps11
  go_wp2
  refine wp_loop_rounds 1 ?_
  rw [rounds_succ]
  go_wp2_with (go_at_call 20; refine (pref_false _ _ _ p1).mono ?_)
  rintro e w' ⟨rfl, rfl⟩
  go_wp2_with (go_at_call 20; refine (pref_false _ _ _ p2).mono ?_)
  rintro e w' ⟨rfl, rfl⟩
  go_wp2
  go_ret2
  exact ⟨rfl, rfl⟩
/-- One blank. -/
theorem blank_one (s : ByteArray) (at_ b : Nat) (w : World) (hb : b = at_ + 1) (hlt : at_ < s.size) (hlt2 : b < s.size) (hs : s.size ≤ 1000) (hc0 : (s[at_]'hlt).toNat = 32) (c : Nat) (hc : (s[b]'hlt2).toNat = c) (h1 : c ≠ 32) (h2 : c ≠ 9) (h3 : c ≠ 10) (h4 : c ≠ 13)
    (p1 : Lib.hasPrefix (s.extract b s.size).data.toList [47, 47] = false) (p2 : Lib.hasPrefix (s.extract b s.size).data.toList [47, 42] = false) :
    Calls Tryd.prog 11 #[.string s, .int .i64 at_] w fun e w' => e = .returned (.tuple #[.int .i64 b, .bool true]) ∧ w' = w := by
  have hw : IntKind.i64.wrap ((at_ : Int) + 1) = (b : Int) := by subst hb; have := Go.Ev.wrap_small IntKind.i64 (at_ + 1) (by show _ ≤ 9223372036854775807; omega); simpa using this
  have q1 : ((c : Int) == 32) = false := int_ne h1
  have q2 : ((c : Int) == 9) = false := int_ne h2
  have q3 : ((c : Int) == 10) = false := int_ne h3
  have q4 : ((c : Int) == 13) = false := int_ne h4
  clear h1 h2 h3 h4
  clear hb
  go_enter Tryd.func11, Tryd.ntmps11
  go_wp2
  refine wp_loop_rounds 2 ?_
  rw [rounds_succ]
  go_wp2
  rw [rounds_succ]
  go_wp2_with (go_at_call 20; refine (pref_false _ _ _ p1).mono ?_)
  rintro e w' ⟨rfl, rfl⟩
  go_wp2_with (go_at_call 20; refine (pref_false _ _ _ p2).mono ?_)
  rintro e w' ⟨rfl, rfl⟩
  go_wp2
  go_ret2
  exact ⟨rfl, rfl⟩
/-- The text is at its end. -/
theorem blank_end (s : ByteArray) (w : World) : Calls Tryd.prog 11 #[.string s, .int .i64 s.size] w fun e w' => e = .returned (.tuple #[.int .i64 s.size, .bool true]) ∧ w' = w := by
  go_enter Tryd.func11, Tryd.ntmps11
  go_wp2
  refine wp_loop_rounds 1 ?_
  rw [rounds_succ]
  go_wp2
  go_ret2
  exact ⟨rfl, rfl⟩
end Go.Proofs.YtcaomilekhhhlaaDoor
