/- VmLoops: the law, walked. Condition: the world of EvExt. -/
import Derived.Test.YtgpogeemhaiicaaGreatDoorEvLb
set_option linter.all false
namespace Go.Proofs.YtgpogeemhaiicaaGreatDoor
open Go.Ev Go.RowKit Go.Proofs.YtgpogeemhaiicaaGreatDoor.Cm Go.Proofs.YtgpogeemhaiicaaGreatDoor.Hd
set_option maxHeartbeats 16000000
set_option maxRecDepth 1000000

theorem roundV (K j : Nat) : Value.int IntKind.i64 (((K : Int) * 3 + j) % 10007) = .int .i64 (((3 * K + j) % 10007 : Nat) : Int) := by
  congr 1
  omega
theorem law_ret {W w : World} {a : Act} (h6 : a.tmps.getD 6 undef = .bool true) (hd : a.defers = []) (hb : Below W.heap.size W w) :
    bodyPost Tryz.prog Tryz.f3 (fun e w' => e = Ending.returned (Value.bool true) ∧ Below W.heap.size W w') .ret a w := by
  refine bodyPost_ret (v := .bool true) ?_ hd ⟨rfl, hb⟩
  have hr : Tryz.f3.results = #[.tmp 6] := rfl
  have h6' : a.tmps[6]?.getD undef = .bool true := by rw [← h6]; simp [Array.getD_eq_getD_getElem?]
  simp [results, hr, h6']
theorem law_walk {W : World} (hA : At W) (n stop skip : Int) :
    Calls Tryz.prog 3 #[.int .i64 n, .int .i64 stop, .int .i64 skip] W fun e w' => e = .returned (.bool true) ∧ Below W.heap.size W w' := by
  obtain ⟨X0, x0, e0⟩ := mod_pos n 30 (by decide) (by decide)
  obtain ⟨X1, x1, e1⟩ := mod_pos stop 40 (by decide) (by decide)
  obtain ⟨X2, x2, e2⟩ := mod_pos skip 40 (by decide) (by decide)
  replace e0 : (wrap64 (n.tmod 30 + 30)).tmod 30 = (X0 : Int) := e0
  replace e1 : (wrap64 (stop.tmod 40 + 40)).tmod 40 = (X1 : Int) := e1
  replace e2 : (wrap64 (skip.tmod 40 + 40)).tmod 40 = (X2 : Int) := e2
  have nm0 : ∀ w, Below W.heap.size W w → _ := fun w h => num_calls (w := w) hA (show X0 < 40 by omega) h
  have nm1 : ∀ w, Below W.heap.size W w → _ := fun w h => num_calls (w := w) hA x1 h
  have nm2 : ∀ w, Below W.heap.size W w → _ := fun w h => num_calls (w := w) hA x2 h
  have sz : ∀ X, X < 40 → (sval (nTok X).2.1 (nTok X).2.2).size ≤ 2 := fun X h => by
    show (sdec _ _).toArray.size ≤ 2
    rw [List.size_toArray, sdec_length]
    exact (nTok_ok X h).2.2.2
  have hs0 := sz X0 (by omega)
  have hs1 := sz X1 x1
  have hs2 := sz X2 x2
  generalize hN0 : sval (nTok X0).2.1 (nTok X0).2.2 = N0 at nm0 hs0
  generalize hN1 : sval (nTok X1).2.1 (nTok X1).2.2 = N1 at nm1 hs1
  generalize hN2 : sval (nTok X2).2.1 (nTok X2).2.2 = N2 at nm2 hs2
  go_enter Tryz.func3, Tryz.ntmps3
  go_wp2_with (go_at_call 4; refine (fit_calls hA (Below.refl _ _)).mono ?_)
  rintro e w1 ⟨rfl, hb1⟩
  go_wp2_with (go_at_call 5; refine (nm1 _ hb1).mono ?_)
  rintro e w2 ⟨rfl, hb2⟩
  replace hb2 := hb1.trans (hb2.mono hb1.size)
  go_wp2_with (go_at_call 5; refine (nm2 _ hb2).mono ?_)
  rintro e w3 ⟨rfl, hb3⟩
  replace hb3 := hb2.trans (hb3.mono hb2.size)
  go_wp2_with (go_at_call 5; refine (nm0 _ hb3).mono ?_)
  rintro e w4 ⟨rfl, hb4⟩
  replace hb4 := hb3.trans (hb4.mono hb3.size)
  go_wp2_with (go_at_call 5; refine (nm0 _ hb4).mono ?_)
  rintro e w5 ⟨rfl, hb5⟩
  replace hb5 := hb4.trans (hb5.mono hb4.size)
  go_wp2_with (go_at_call 5; refine (nm0 _ hb5).mono ?_)
  rintro e w6 ⟨rfl, hb6⟩
  replace hb6 := hb5.trans (hb6.mono hb5.size)
  go_wp2_with (go_at_call 5; refine (nm1 _ hb6).mono ?_)
  rintro e w7 ⟨rfl, hb7⟩
  replace hb7 := hb6.trans (hb7.mono hb6.size)
  go_wp2_with (go_at_call 5; refine (nm2 _ hb7).mono ?_)
  rintro e w8 ⟨rfl, hb8⟩
  replace hb8 := hb7.trans (hb8.mono hb7.size)
  go_wp2_with (go_at_call 5; refine (nm0 _ hb8).mono ?_)
  rintro e w9 ⟨rfl, hb9⟩
  replace hb9 := hb8.trans (hb9.mono hb8.size)
  go_wp2
  obtain ⟨S, hS⟩ : ∃ S, bigF N0 N1 N2 (bodyF N1 N2) = S := ⟨_, rfl⟩
  have hS9 : S = srcOf X0 X1 X2 := by rw [← hS, ← hN0, ← hN1, ← hN2]; exact big_eq X0 X1 X2
  unfold bigF bodyF at hS
  rw [hS]
  rename_i Kt hKt
  have hK : ∀ (tmps : Array Value) (w : World), tmps.size = Tryz.f3.ntmps → tmps.getD 9 undef = .string S → tmps.getD 10 undef = .int .i64 (wantOf X0 X1 X2 : Nat) → Below W.heap.size W w → Kt { tmps := tmps, defers := [] } w := by
    intro tmps w h1 h2 h3 h4
    refine hKt _ _ ?_
    refine wp_mono (tail_wp hA (by omega) (by omega) (by omega) h4 h1 (by rw [h2, hS9]) h3 ?_) ?_
    · rw [want_kAt]; exact (kAt_ok (by omega) (by omega)).1
    · rintro e a w' ⟨rfl, hd, h6, hb⟩
      exact law_ret h6 hd hb
  clear hKt
  go_loopw [82, 10] (fun i k wr => ∃ j : Nat, j ≤ X0 ∧ j ≤ X1 ∧ i = .int .i64 j ∧ k = .int .i64 (kAt X2 j : Nat) ∧ wr = w9) (fun i _ _ => X0 - (Go.RowKit.intOf i).toNat)
  case atStart => exact ⟨0, Nat.zero_le _, Nat.zero_le _, rfl, rfl, rfl⟩
  case round =>
    obtain ⟨j, hj0, hj1, rfl, rfl, rfl⟩ := hrel
    have kb := (kAt_ok (X2 := X2) (i := j) (by omega) (by omega)).1
    have hw0 : j = X0 → kAt X2 j = wantOf X0 X1 X2 := fun e => by subst e; exact want_min hj1
    have hw1 : j = X1 → kAt X2 j = wantOf X0 X1 X2 := fun e => by subst e; exact want_stop hj0
    clear nm0 nm1 nm2 hs0 hs1 hs2 hS hN0 hN1 hN2
    by_cases hlt : j < X0
    · by_cases hs : j = X1
      · replace hw1 := hw1 hs
        clear hw0
        go_wp2
        refine hK _ _ rfl rfl ?_ hb9
        rw [← hw1]
        rfl
      · clear hK hw0 hw1
        by_cases hp : j = X2
        · have hks := kAt_stay (X2 := X2) (i := j) hp
          have hp2 : ((j : Int) == (X2 : Int)) = true := by rw [hp]; simp
          have hp3 : ((j : Int) != (X2 : Int)) = false := by rw [hp]; simp
          obtain ⟨K, hKe⟩ : ∃ K, kAt X2 j = K := ⟨_, rfl⟩
          rw [hKe] at hks kb ⊢
          clear hKe
          go_wp2
          go_roundw
          case rel => exact ⟨j + 1, by omega, by omega, by first | (simp; done) | (simp; omega), by rw [hks], trivial⟩
          case measure => simp [Go.RowKit.intOf]; omega
        · have hkg : kAt X2 (j + 1) = (3 * kAt X2 j + j) % 10007 := kAt_go hp
          obtain ⟨K, hKe⟩ : ∃ K, kAt X2 j = K := ⟨_, rfl⟩
          rw [hKe] at hkg kb ⊢
          clear hKe
          go_wp2
          go_roundw
          case rel => exact ⟨j + 1, by omega, by omega, by first | (simp; done) | (simp; omega), by rw [hkg]; exact roundV K j, trivial⟩
          case measure => simp [Go.RowKit.intOf]; omega
    · replace hw0 := hw0 (by omega)
      clear hw1
      go_wp2
      refine hK _ _ rfl rfl ?_ hb9
      rw [← hw0]
      rfl
end Go.Proofs.YtgpogeemhaiicaaGreatDoor
