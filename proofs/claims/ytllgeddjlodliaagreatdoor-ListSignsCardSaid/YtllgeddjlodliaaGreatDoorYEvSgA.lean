/- ListSigns: the text's units, signs and parts, by the program's functions. Condition: a text of even length, at most 2000 bytes. -/
import Derived.Test.YtllgeddjlodliaaGreatDoorProg
import Derived.WalkKit
import Derived.BigCall
import Derived.Lib.OthersKept
import Derived.Deep.QuietTactic
import Derived.BigQuiet
import Derived.Laws.Bits64b
import Derived.Laws.DeepStrings4
import Derived.Test.YtllgeddjlodliaaGreatDoorYEvMa
namespace Go
theorem wrap16 (n : Nat) (h : n < 65536) : IntKind.u16.wrap (n : Int) = n := by
  simp only [IntKind.wrap, IntKind.bits, IntKind.signed]
  simp
  omega
theorem or16 (a b : Nat) (ha : a < 256) (hb : b < 256) : bits .or .u16 (IntKind.u16.wrap (IntKind.u16.wrap (a : Int) * 256)) (IntKind.u16.wrap (b : Int)) = ((256 * a + b : Nat) : Int) := by
  rw [wrap16 a (by omega), wrap16 b (by omega)]
  rw [show ((a : Int) * 256) = ((a * 256 : Nat) : Int) by omega, wrap16 (a * 256) (by omega)]
  have e : (a * 256) ||| b = 256 * a + b := by
    have h8 : (256 : Nat) = 2 ^ 8 := by decide
    have := Nat.shiftLeft_add_eq_or_of_lt (i := 8) (b := b) (by omega) a
    rw [Nat.shiftLeft_eq, ← h8] at this
    omega
  have h1 : (BitVec.ofInt 16 ((a * 256 : Nat) : Int)).toNat = a * 256 := by
    rw [BitVec.ofInt_natCast, BitVec.toNat_ofNat]; exact Nat.mod_eq_of_lt (by omega)
  have h2 : (BitVec.ofInt 16 (b : Int)).toNat = b := by
    rw [BitVec.ofInt_natCast, BitVec.toNat_ofNat]; exact Nat.mod_eq_of_lt (by omega)
  show IntKind.u16.wrap ((BitVec.ofInt 16 ((a * 256 : Nat) : Int) ||| BitVec.ofInt 16 (b : Int)).toNat : Int) = _
  rw [BitVec.toNat_or, h1, h2, e, wrap16 _ (by omega)]
end Go
namespace Go.Proofs.YtllgeddjlodliaaGreatDoor
open Go.Ev Go.RowKit
set_option maxHeartbeats 4000000
set_option maxRecDepth 100000
theorem len_walk (s : ByteArray) (w : World) (hs : s.size ≤ 2000) : Calls Tryz.prog 50 #[.string s] w fun e w' => e = .returned (.int .i64 ((s.size / 2 : Nat) : Int)) ∧ w' = w := by
  go_enter Tryz.func50, Tryz.ntmps50
  go_wp2
  go_ret
  exact ⟨rfl, rfl⟩
theorem half_walk (n : Nat) (w : World) : Calls Tryz.prog 161 #[.int .i32 (n : Int)] w fun e w' => e = .returned (.bool (decide (55296 ≤ n ∧ n ≤ 57343))) ∧ w' = w := by
  go_enter Tryz.func161, Tryz.ntmps161
  go_wp2
  all_goals go_ret
  all_goals refine ⟨?_, rfl⟩
  · have h1 : 55296 ≤ n := by omega
    simp [h1]
    constructor <;> intro h <;> omega
  · simp
    intro h; omega
/-- The same but for what was drawn. -/
def Drew (w w' : World) : Prop := ∃ n, w' = { w with drawn := n }
theorem Drew.refl (w : World) : Drew w w := ⟨w.drawn, rfl⟩
theorem Drew.trans {w w1 w2 : World} (h1 : Drew w w1) (h2 : Drew w1 w2) : Drew w w2 := by
  obtain ⟨a, rfl⟩ := h1
  obtain ⟨b, rfl⟩ := h2
  exact ⟨b, rfl⟩
theorem unit_lt (s : ByteArray) (i : Nat) : unitAt s i < 65536 := by
  unfold unitAt
  have h1 := (s.data.getD (2 * i) 0).toNat_lt
  have h2 := (s.data.getD (2 * i + 1) 0).toNat_lt
  omega
theorem unit_eq (s : ByteArray) (i : Nat) (h : 2 * i + 1 < s.size) : unitAt s i = 256 * (s[2 * i]'(by omega)).toNat + (s[2 * i + 1]'h).toNat := by
  have g : ∀ k (hk : k < s.size), s.data.getD k 0 = s[k]'hk := fun k hk => by
    have hk' : k < s.data.size := hk
    rw [Array.getD_eq_getD_getElem?, Array.getElem?_eq_getElem hk']
    rfl
  unfold unitAt
  rw [g _ (by omega), g _ h]
theorem at_walk (s : ByteArray) (i : Nat) (w : World) (hs : s.size ≤ 2000) (hi : i < s.size / 2) : Calls Tryz.prog 74 #[.string s, .int .i64 i] w fun e w' => e = .returned (.int .u16 (unitAt s i)) ∧ Drew w w' := by
  go_enter Tryz.func74, Tryz.ntmps74
  go_wp2_with (go_at_call 50; refine (len_walk s w hs).mono ?_)
  rintro e w' ⟨rfl, rfl⟩
  have h1 : (0 : Int) ≤ 2 * (i : Int) := by omega
  have h2 : (2 : Int) * (i : Int) < (s.size : Int) := by omega
  have h3 : (0 : Int) ≤ 2 * (i : Int) + 1 := by omega
  have h4 : (2 : Int) * (i : Int) + 1 < (s.size : Int) := by omega
  go_wp2
  go_quiet (fail)
  go_wp2
  go_ret
  refine ⟨?_, ⟨_, rfl⟩⟩
  have h5 : 2 * i + 1 < s.size := by omega
  have e := or16 (s[2 * i]'(by omega)).toNat (s[2 * i + 1]'h5).toNat (UInt8.toNat_lt _) (UInt8.toNat_lt _)
  rw [← unit_eq s i h5] at e
  show Ending.returned (Value.int .u16 _) = _
  rw [e]
def Hid (p : Prop) : Prop := p
/-- No sign behind the last unit. -/
theorem at_none (s : ByteArray) (i : Nat) (w : World) (hs : s.size ≤ 2000) (hi : s.size / 2 ≤ i) : Calls Tryz.prog 74 #[.string s, .int .i64 i] w fun e w' => e = .returned (.int .u16 0) ∧ w' = w := by
  go_enter Tryz.func74, Tryz.ntmps74
  go_wp2_with (go_at_call 50; refine (len_walk s w hs).mono ?_)
  rintro e w' ⟨rfl, rfl⟩
  go_wp2
  go_ret
  exact ⟨rfl, rfl⟩
theorem sub_walk (s : ByteArray) (a b : Nat) (w : World) (hs : s.size ≤ 2000) (hab : a ≤ b) (hb : b ≤ s.size / 2) : Calls Tryz.prog 52 #[.string s, .int .i64 a, .int .i64 b] w fun e w' => e = .returned (.string (s.extract (2 * a) (2 * b))) ∧ w' = w := by
  go_enter Tryz.func52, Tryz.ntmps52
  go_wp2_with (go_at_call 50; refine (len_walk s w hs).mono ?_)
  rintro e w' ⟨rfl, rfl⟩
  have h1 : (0 : Int) ≤ 2 * (a : Int) := by omega
  have h2 : 2 * (a : Int) ≤ 2 * (b : Int) := by omega
  have h3 : 2 * (b : Int) ≤ (s.size : Int) := by omega
  go_wp2
  go_ret
  exact ⟨rfl, rfl⟩
theorem point_core (s : ByteArray) (i : Nat) (w : World) (hs : s.size ≤ 2000) (hlt : i < s.size / 2) (x y : Int) (hx0 : 0 ≤ x) (hx1 : x < 65536) (hy0 : 0 ≤ y) (hy1 : y < 65536)
    (first : ∀ w, Calls Tryz.prog 74 #[.string s, .int .i64 i] w fun e w' => e = .returned (.int .u16 x) ∧ Drew w w') (second : ∀ w, Calls Tryz.prog 74 #[.string s, .int .i64 ((i : Int) + 1)] w fun e w' => e = .returned (.int .u16 y) ∧ Drew w w')
    (b1 b2 : Bool) (k1 : ∀ w, Calls Tryz.prog 161 #[.int .i32 x] w fun e w' => e = .returned (.bool b1) ∧ w' = w) (k2 : ∀ w, Calls Tryz.prog 161 #[.int .i32 y] w fun e w' => e = .returned (.bool b2) ∧ w' = w)
    (n : Int) (hn : Hid (n = if b1 = true ∧ b2 = true ∧ x < 56320 ∧ 56320 ≤ y then 2 else 1)) :
    Calls Tryz.prog 159 #[.string s, .int .i64 i] w fun e w' => (∃ u : Int, e = .returned (.tuple #[.int .i32 u, .int .i64 n])) ∧ Drew w w' := by
  go_enter Tryz.func159, Tryz.ntmps159
  go_wp2_with (go_at_call 50; refine (len_walk s w hs).mono ?_)
  rintro e w' ⟨rfl, rfl⟩
  go_wp2_with (go_at_call 74; refine (first _).mono ?_)
  rintro e w1 ⟨rfl, d1⟩
  go_wp2_with (go_at_call 74; refine (second _).mono ?_)
  rintro e w2 ⟨rfl, d2⟩
  have d3 := d1.trans d2
  clear d1 d2 first second hlt hs
  go_wp2_with (go_at_call 161; refine (k1 _).mono ?_)
  rintro e w4 ⟨rfl, rfl⟩
  clear k1 hx0 hx1
  cases b1
  · have hn' : n = 1 := by
      unfold Hid at hn
      simpa using hn
    subst hn'
    clear hn k2 hy0 hy1
    go_wp2
    go_ret2
    exact ⟨⟨_, rfl⟩, d3⟩
  · go_wp2_with (go_at_call 161; refine (k2 _).mono ?_)
    rintro e w4 ⟨rfl, rfl⟩
    clear k2 hy0 hy1
    cases b2
    · have hn' : n = 1 := by
        unfold Hid at hn
        simpa using hn
      subst hn'
      clear hn
      go_wp2
      go_ret2
      exact ⟨⟨_, rfl⟩, d3⟩
    · by_cases c3 : x < 56320
      · by_cases c4 : 56320 ≤ y
        · have hn' : n = 2 := by
            unfold Hid at hn
            simpa [c3, c4] using hn
          subst hn'
          clear hn
          go_wp2
          go_ret2
          exact ⟨⟨_, rfl⟩, d3⟩
        · have hn' : n = 1 := by
            unfold Hid at hn
            simpa [c3, c4] using hn
          subst hn'
          clear hn
          go_wp2
          go_ret2
          exact ⟨⟨_, rfl⟩, d3⟩
      · have hn' : n = 1 := by
          unfold Hid at hn
          simpa [c3] using hn
        subst hn'
        clear hn
        go_wp2
        go_ret2
        exact ⟨⟨_, rfl⟩, d3⟩
theorem point_walk (s : ByteArray) (i : Nat) (w : World) (hs : s.size ≤ 2000) (hi : i ≤ s.size / 2) : Calls Tryz.prog 159 #[.string s, .int .i64 i] w fun e w' => (∃ u : Int, e = .returned (.tuple #[.int .i32 u, .int .i64 (signLen s i)])) ∧ Drew w w' := by
  by_cases h0 : s.size / 2 ≤ i
  · have hn : signLen s i = 0 := by unfold signLen; rw [if_pos h0]
    rw [hn]
    go_enter Tryz.func159, Tryz.ntmps159
    go_wp2_with (go_at_call 50; refine (len_walk s w hs).mono ?_)
    rintro e w' ⟨rfl, rfl⟩
    go_wp2
    go_ret2
    exact ⟨⟨0, rfl⟩, Drew.refl _⟩
  · have hlt : i < s.size / 2 := by omega
    have hu := unit_lt s i
    obtain ⟨lo, hlo, hle, second⟩ : ∃ lo : Nat, lo < 65536 ∧ (lo = if i + 1 < s.size / 2 then unitAt s (i + 1) else 0) ∧ ∀ w, Calls Tryz.prog 74 #[.string s, .int .i64 ((i : Int) + 1)] w fun e w' => e = .returned (.int .u16 lo) ∧ Drew w w' := by
      by_cases h1 : i + 1 < s.size / 2
      · exact ⟨unitAt s (i + 1), unit_lt s _, by rw [if_pos h1], fun w => at_walk s (i + 1) w hs h1⟩
      · refine ⟨0, by omega, by rw [if_neg h1], fun w => (at_none s (i + 1) w hs (by omega)).mono ?_⟩
        rintro e w' ⟨rfl, rfl⟩
        exact ⟨rfl, Drew.refl _⟩
    refine point_core s i w hs hlt (unitAt s i) lo (by omega) (by omega) (by omega) (by omega) (fun w => at_walk s i w hs hlt) second _ _ (half_walk _) (half_walk _) _ ?_
    show ((signLen s i : Nat) : Int) = _
    unfold signLen
    rw [if_neg h0]
    simp only [decide_eq_true_eq]
    by_cases h1 : i + 1 < s.size / 2
    · rw [if_pos h1] at hle
      subst hle
      by_cases hc : i + 1 < s.size / 2 ∧ 55296 ≤ unitAt s i ∧ unitAt s i < 56320 ∧ 56320 ≤ unitAt s (i + 1) ∧ unitAt s (i + 1) ≤ 57343
      · rw [if_pos hc, if_pos (by omega)]; rfl
      · rw [if_neg hc, if_neg (by omega)]; rfl
    · rw [if_neg h1] at hle
      subst hle
      rw [if_neg (by omega), if_neg (by omega)]; rfl
end Go.Proofs.YtllgeddjlodliaaGreatDoor
