/- ParseLists: a sign at a place, by the program's scanner. Condition: it is one of those that the law writes; the table of blanks holds what its initialiser lays. -/
import Derived.Test.YtgpogeemhaiicaaGreatDoorEvPv
set_option linter.all false
namespace Go.Proofs.YtgpogeemhaiicaaGreatDoor
open Go.Ev Go.RowKit
set_option maxHeartbeats 4000000
set_option maxRecDepth 100000

theorem one_sign {W : World} (hA : At W) (s t : ByteArray) (at_ b c k m : Nat) (w : World) (hb : b = at_ + m) (hm : m ≤ 3) (hlt : at_ < s.size) (hs : s.size ≤ 1000) (hc : (s[at_]'hlt).toNat = c) (hcn : c ∈ nonL) (h34 : c ≠ 34) (h39 : c ≠ 39) (hk : k < 36)
    (hF : ∀ i, i < k → Lib.hasPrefix (s.extract at_ s.size).data.toList (sgnT.getD i []) = false) (hT : Lib.hasPrefix (s.extract at_ s.size).data.toList (sgnT.getD k []) = true) (ht : t = ⟨(sgnT.getD k []).toArray⟩) (ht1 : t.size = m) (hB : Below W.heap.size W w) :
    Calls Tryz.prog 73 #[.string s, .int .i64 at_] w fun e w' => e = .returned (.tuple #[.agg #[.int .i64 5, .string t, .int .i64 0, .int .i64 0], .int .i64 b, .bool true]) ∧ Below w.heap.size w w' := by
  have hw : IntKind.i64.wrap ((at_ : Int) + (m : Int)) = (b : Int) := by subst hb; have := Go.Ev.wrap_small IntKind.i64 (at_ + m) (by show _ ≤ 9223372036854775807; omega); simpa using this
  have ln := letter_no hcn
  have dn := digit_no hcn
  have q1 : ((c : Int) == 34) = false := int_ne h34
  have q2 : ((c : Int) == 39) = false := int_ne h39
  have hBs := hB.size
  have hat : (at_ : Int) ≤ (s.size : Int) := by omega
  have hat0 : (0 : Int) ≤ (at_ : Int) := by omega
  clear hcn h34 h39 hb hs hm
  go_enter Tryz.func73, Tryz.ntmps73
  go_wp2_with (go_at_call 121; refine (ln _).mono ?_)
  rintro e w' ⟨rfl, rfl⟩
  go_wp2_with (go_at_call 123; refine (dn _).mono ?_)
  rintro e w' ⟨rfl, rfl⟩
  clear ln dn hc hlt
  go_wp2_with (go_at_call 126; refine (fields_calls hA ?bel).mono ?_)
  case bel => repeat (first | exact hB | refine Below.alloc ?_ (by first | omega | (simp; omega)) _)
  rintro e w2 ⟨fb, fo, fcap, rfl, hfc, hkb⟩
  have h4 : w2.heap[w.heap.size]? = _ := (hkb.block w.heap.size (by simp)).trans (heap_alloc_new w _)
  have hlt4 : w.heap.size < w2.heap.size := by have := hkb.size; simp at this; omega
  have hk2 : Below w.heap.size w w2 := ((Below.refl _ w).alloc (Nat.le_refl _) _).trans (hkb.mono (by simp))
  clear hkb hB hBs hA
  generalize hg : w.heap.size = g at h4 hlt4 hk2 ⊢
  obtain ⟨c0, c1, c2, c3, f0, f1, f2, f3⟩ := four_at h4
  go_wp2
  go_loopw [46] (fun i wr => ∃ j : Nat, j ≤ k ∧ i = .int .i64 j ∧ wr = w2) (fun i _ => k - (Go.RowKit.intOf i).toNat)
  case atStart => exact ⟨0, Nat.zero_le _, rfl, rfl⟩
  case round =>
    obtain ⟨j, hj, rfl, rfl⟩ := hrel
    have hj36 : j < 36 := by omega
    have hcell := hfc j hj36
    by_cases hlt : j < k
    · have hp := hF j hlt
      clear hF hT hfc ht
      go_wp2_with (go_at_call 118; refine (pref_is _ hp).mono ?_)
      rintro e w' ⟨rfl, rfl⟩
      clear hp hcell
      go_wp2
      go_roundw
      case rel => exact ⟨j + 1, by omega, by simp, trivial⟩
      case measure => simp [Go.RowKit.intOf]; omega
    · have hjk : j = k := by omega
      subst hjk
      rw [← ht] at hcell
      have hT' : Lib.hasPrefix (s.extract at_ s.size).data.toList t.data.toList = true := by rw [ht]; exact hT
      have ht2 : (t.size : Int) = (m : Int) := by omega
      clear hF hT hfc ht ht1
      go_wp2_with (go_at_call 118; refine (pref_is _ hT').mono ?_)
      rintro e w' ⟨rfl, rfl⟩
      clear hT' hcell
      go_wp2
      exact tok_ret rfl rfl (four_set h4 _ _ _ _) ⟨rfl, by rw [hg]; exact below_set (below_set (below_set (below_set hk2 0 _) 1 _) 2 _) 3 _⟩
end Go.Proofs.YtgpogeemhaiicaaGreatDoor
