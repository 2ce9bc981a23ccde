/- EarlyLabels: the token at a place, by the program's scanner: a name, a key word, the number 1. Condition: it is one of those that the law writes; the table of blanks holds what its initialiser lays. -/
import Derived.Test.YtgpogeemhaiicaaGreatDoorEvYb
set_option linter.all false
namespace Go.Proofs.YtgpogeemhaiicaaGreatDoor
open Go.Ev Go.RowKit
set_option maxHeartbeats 8000000
set_option maxRecDepth 100000

theorem pref_is {s p : ByteArray} {b : Bool} (w : World) (h : Lib.hasPrefix s.data.toList p.data.toList = b) : Calls Tryz.prog 118 #[.string s, .string p] w fun e w' => e = .returned (.bool b) ∧ w' = w := by
  refine (Tryz.strings_HasPrefix s p w).mono ?_
  rintro e w' ⟨rfl, rfl⟩
  rw [h]
  exact ⟨rfl, rfl⟩
theorem one_txt {W : World} (hA : At W) (s : ByteArray) (t : Tok) (ht : t ∈ txtL) (at_ b d : Nat) (w : World) (hb : b = at_ + t.2.2) (hlt2 : b < s.size) (hs : s.size ≤ 1000) (hc : ∀ p, at_ ≤ p → p < b → ∀ h : p < s.size, 97 ≤ (s[p]'h).toNat ∧ (s[p]'h).toNat ≤ 122) (hd : (s[b]'hlt2).toNat = d) (hdn : d ∈ nonL)
    (hx : s.extract at_ b = sval t.2.1 t.2.2) (hB : Below W.heap.size W w) :
    Calls Tryz.prog 73 #[.string s, .int .i64 at_] w fun e w' => e = .returned (.tuple #[.agg #[.int .i64 t.1, .string (sval t.2.1 t.2.2), .int .i64 0, .int .i64 0], .int .i64 b, .bool true]) ∧ Below w.heap.size w w' := by
  have nm : ∀ w, Below W.heap.size W w → _ := fun w h => name_walk hA s t ht at_ b d w hb hlt2 hs hc hd hdn hx h
  obtain ⟨-, h1, -⟩ := txt_ok t ht
  have hlt : at_ < s.size := by omega
  obtain ⟨c1, c2⟩ := hc at_ (Nat.le_refl _) (by omega) hlt
  obtain ⟨c, hcc⟩ : ∃ c, (s[at_]'hlt).toNat = c := ⟨_, rfl⟩
  rw [hcc] at c1 c2
  have ly := letter_yes c1 c2
  have hBs := hB.size
  clear hd hdn ht hx hb hlt2 hs h1 c1 c2 hc
  go_enter Tryz.func73, Tryz.ntmps73
  go_wp2_with (go_at_call 121; refine (ly _).mono ?_)
  rintro e w' ⟨rfl, rfl⟩
  clear ly hcc hlt
  go_wp2_with (go_at_call 122; refine (nm _ ?bel).mono ?_)
  case bel => repeat (first | exact hB | refine Below.alloc ?_ (by first | omega | (simp; omega)) _)
  clear nm
  rintro e w2 ⟨rfl, hk⟩
  have h4 : w2.heap[w.heap.size]? = _ := (hk.block w.heap.size (by simp)).trans (heap_alloc_new w _)
  have hlt4 : w.heap.size < w2.heap.size := by have := hk.size; simp at this; omega
  have hk2 : Below w.heap.size w w2 := ((Below.refl _ w).alloc (Nat.le_refl _) _).trans (hk.mono (by simp))
  clear hk hB hBs hA
  generalize hg : w.heap.size = g at h4 hlt4 hk2 ⊢
  obtain ⟨c0, c1, c2, c3, f0, f1, f2, f3⟩ := four_at h4
  go_wp2
  exact tok_ret rfl rfl (four_set h4 _ _ _ _) ⟨rfl, by rw [hg]; exact below_set (below_set (below_set (below_set hk2 0 _) 1 _) 2 _) 3 _⟩
theorem one_num {W : World} (hA : At W) (s S : ByteArray) (at_ b d : Nat) (gv : Nat → Nat) (w : World) (hab : at_ < b) (hlt2 : b < s.size) (hs : s.size ≤ 1000) (hg0 : gv at_ = 0)
    (hc : ∀ p, at_ ≤ p → p < b → ∀ h : p < s.size, 48 ≤ (s[p]'h).toNat ∧ (s[p]'h).toNat ≤ 57 ∧ gv (p + 1) = gv p * 10 + ((s[p]'h).toNat - 48)) (hg : ∀ p, p ≤ b → gv p ≤ 99999)
    (hd : (s[b]'hlt2).toNat = d) (hdn : d ∈ nonL) (hx : s.extract at_ b = S) (hS : S.size = b - at_) (hz : b = at_ + 1 ∨ ∃ h : 0 < S.size, (S[0]'h).toNat ≠ 48) (hB : Below W.heap.size W w) :
    Calls Tryz.prog 73 #[.string s, .int .i64 at_] w fun e w' => e = .returned (.tuple #[.agg #[.int .i64 3, .string S, .int .i64 0, .int .i64 (gv b)], .int .i64 b, .bool true]) ∧ Below w.heap.size w w' := by
  have nm : ∀ w, _ := fun w => num_walk s S at_ b d gv w hab hlt2 hs hg0 hc hg hd hdn hx hS hz
  have hlt : at_ < s.size := by omega
  obtain ⟨c1, c2, -⟩ := hc at_ (Nat.le_refl _) hab hlt
  obtain ⟨c, hcc⟩ : ∃ c, (s[at_]'hlt).toNat = c := ⟨_, rfl⟩
  rw [hcc] at c1 c2
  have ln := letter_dig c1 c2
  have dy := digit_yes c1 c2
  have hBs := hB.size
  clear hd hdn hx hlt2 hs hc hg hS hz hg0 hab c1 c2
  generalize ((gv b : Nat) : Int) = N at nm ⊢
  go_enter Tryz.func73, Tryz.ntmps73
  go_wp2_with (go_at_call 121; refine (ln _).mono ?_)
  rintro e w' ⟨rfl, rfl⟩
  go_wp2_with (go_at_call 123; refine (dy _).mono ?_)
  rintro e w' ⟨rfl, rfl⟩
  clear ln dy hcc hlt
  go_wp2_with (go_at_call 124; refine (nm _).mono ?_)
  clear nm
  rintro e w2 ⟨rfl, hk⟩
  have h4 : w2.heap[w.heap.size]? = _ := (hk.block w.heap.size (by simp)).trans (heap_alloc_new w _)
  have hlt4 : w.heap.size < w2.heap.size := by have := hk.size; simp at this; omega
  have hk2 : Below w.heap.size w w2 := ((Below.refl _ w).alloc (Nat.le_refl _) _).trans (hk.mono (by simp))
  clear hk hB hBs hA
  generalize hg : w.heap.size = g at h4 hlt4 hk2 ⊢
  obtain ⟨c0, c1, c2, c3, f0, f1, f2, f3⟩ := four_at h4
  go_wp2
  exact tok_ret rfl rfl (four_set h4 _ _ _ _) ⟨rfl, by rw [hg]; exact below_set (below_set (below_set (below_set hk2 0 _) 1 _) 2 _) 3 _⟩
end Go.Proofs.YtgpogeemhaiicaaGreatDoor
