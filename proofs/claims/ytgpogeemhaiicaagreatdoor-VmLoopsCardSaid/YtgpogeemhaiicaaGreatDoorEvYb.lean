/- VmLoops: a number, by the program's scanner. Condition: it has at most five digits. -/
import Derived.Test.YtgpogeemhaiicaaGreatDoorEvYa
import Derived.Deep.RegionHeld3
set_option linter.all false
namespace Go.Proofs.YtgpogeemhaiicaaGreatDoor
open Go.Ev Go.RowKit
set_option maxHeartbeats 8000000
set_option maxRecDepth 100000

theorem num_walk (s S : ByteArray) (at_ b d : Nat) (gv : Nat → Nat) (w : World) (hab : at_ < b) (hlt2 : b < s.size) (hs : s.size ≤ 1000) (hg0 : gv at_ = 0)
    (hc : ∀ p, at_ ≤ p → p < b → ∀ h : p < s.size, 48 ≤ (s[p]'h).toNat ∧ (s[p]'h).toNat ≤ 57 ∧ gv (p + 1) = gv p * 10 + ((s[p]'h).toNat - 48)) (hg : ∀ p, p ≤ b → gv p ≤ 99999)
    (hd : (s[b]'hlt2).toNat = d) (hdn : d ∈ nonL) (hx : s.extract at_ b = S) (hS : S.size = b - at_) (hz : b = at_ + 1 ∨ ∃ h : 0 < S.size, (S[0]'h).toNat ≠ 48) :
    Calls Tryz.prog 124 #[.string s, .int .i64 at_] w fun e w' => e = .returned (.tuple #[.agg #[.int .i64 3, .string S, .int .i64 0, .int .i64 (gv b)], .int .i64 b, .bool true]) ∧ Below w.heap.size w w' := by
  have ln := letter_no hdn
  have dn := digit_no hdn
  have hne : ((b : Int) == (s.size : Int)) = false := by rw [beq_eq_false_iff_ne]; omega
  clear hdn
  go_enter Tryz.func124, Tryz.ntmps124
  go_wp2
  have h4a := heap_alloc_new w (.cells #[.int .i64 0, .string ⟨#[]⟩, .int .i64 0, .int .i64 0] 151)
  have e1 : (w.alloc (.cells #[.int .i64 0, .string ⟨#[]⟩, .int .i64 0, .int .i64 0] 151)).heap.size = w.heap.size + 1 := by simp
  have h4 := (heap_alloc_old (w.alloc (.cells #[.int .i64 0, .string ⟨#[]⟩, .int .i64 0, .int .i64 0] 151)) (.cells #[.int .i64 3, .string ⟨#[]⟩, .int .i64 0, .int .i64 0] 151) (by omega)).trans h4a
  have h8 := heap_alloc_new (w.alloc (.cells #[.int .i64 0, .string ⟨#[]⟩, .int .i64 0, .int .i64 0] 151)) (.cells #[.int .i64 3, .string ⟨#[]⟩, .int .i64 0, .int .i64 0] 151)
  rw [e1] at h8
  have hb3 : Below w.heap.size w ((w.alloc (.cells #[.int .i64 0, .string ⟨#[]⟩, .int .i64 0, .int .i64 0] 151)).alloc (.cells #[.int .i64 3, .string ⟨#[]⟩, .int .i64 0, .int .i64 0] 151)) := ((Below.refl _ w).alloc (Nat.le_refl _) _).alloc (by omega) _
  clear h4a e1
  generalize (w.alloc (.cells #[.int .i64 0, .string ⟨#[]⟩, .int .i64 0, .int .i64 0] 151)).alloc (.cells #[.int .i64 3, .string ⟨#[]⟩, .int .i64 0, .int .i64 0] 151) = w3 at h4 h8 hb3 ⊢
  generalize hgg : w.heap.size = g at h4 h8 hb3 ⊢
  go_loopw [8] (fun v wr => ∃ p : Nat, at_ ≤ p ∧ p ≤ b ∧ v = .int .i64 p ∧ wr.heap[g]? = some (.cells #[.int .i64 0, .string ⟨#[]⟩, .int .i64 0, .int .i64 0] 151 (0, 0)) ∧ wr.heap[g + 1]? = some (.cells #[.int .i64 3, .string ⟨#[]⟩, .int .i64 0, .int .i64 (gv p)] 151 (0, 0)) ∧ Below g w wr) (fun v _ => b - (Go.RowKit.intOf v).toNat)
  case atStart => exact ⟨at_, Nat.le_refl _, Nat.le_of_lt hab, rfl, h4, by rw [hg0]; exact h8, hb3⟩
  case round =>
    clear h4 h8 hb3
    obtain ⟨p, hp1, hp2, rfl, h4, h8, hb3⟩ := hrel
    by_cases hlt : p < b
    · have hps : p < s.size := by omega
      obtain ⟨c1, c2, c3⟩ := hc p hp1 hlt hps
      have hv := hg (p + 1) hlt
      obtain ⟨c, hcc⟩ : ∃ c, (s[p]'hps).toNat = c := ⟨_, rfl⟩
      rw [hcc] at c1 c2 c3
      have dy := digit_yes c1 c2
      have hwr : IntKind.i64.wrap ((p : Int) + 1) = ((p + 1 : Nat) : Int) := by have := Go.Ev.wrap_small IntKind.i64 (p + 1) (by show _ ≤ 9223372036854775807; omega); simpa using this
      obtain ⟨v, hv0⟩ : ∃ v, gv p = v := ⟨_, rfl⟩
      obtain ⟨v', hv1⟩ : ∃ v', gv (p + 1) = v' := ⟨_, rfl⟩
      rw [hv0] at h8 c3
      rw [hv1] at hv c3
      obtain ⟨e, he⟩ : ∃ e, c - 48 = e := ⟨_, rfl⟩
      rw [he] at c3
      have u1 : IntKind.u8.wrap ((c : Int) - 48) = (e : Int) := by rw [show (c : Int) - 48 = Int.ofNat e by simp only [Int.ofNat_eq_natCast]; omega]; exact Go.Ev.wrap_small IntKind.u8 e (by show e ≤ 255; omega)
      have u2 : IntKind.i64.wrap ((v : Int) * 10) = ((v * 10 : Nat) : Int) := by rw [show (v : Int) * 10 = Int.ofNat (v * 10) by simp only [Int.ofNat_eq_natCast]; omega]; exact Go.Ev.wrap_small IntKind.i64 (v * 10) (by show _ ≤ 9223372036854775807; omega)
      have u3 : IntKind.i64.wrap (e : Int) = (e : Int) := Go.Ev.wrap_small IntKind.i64 e (by show _ ≤ 9223372036854775807; omega)
      have u4 : IntKind.i64.wrap (((v * 10 : Nat) : Int) + (e : Int)) = (v' : Int) := by rw [show ((v * 10 : Nat) : Int) + (e : Int) = Int.ofNat v' by simp only [Int.ofNat_eq_natCast]; omega]; exact Go.Ev.wrap_small IntKind.i64 v' (by show _ ≤ 9223372036854775807; omega)
      have u5 : (v' : Int) ≤ 9007199254740991 := by omega
      generalize ((v * 10 : Nat) : Int) = v10 at u2 u4
      clear ln dn hd hc hx hg hz hS hne hg0 c1 c2 c3 hv hv0 hlt2
      go_wp2_with (go_at_call 123; refine (dy _).mono ?_)
      try (rintro e w' ⟨rfl, rfl⟩)
      clear dy
      go_wp2
      obtain ⟨a0, a1, a2, a3, b0, b1, b2, b3⟩ := four_at h4
      obtain ⟨d0, d1, d2, d3, f0, f1, f2, f3⟩ := four_at h8
      have h8d : w'.drew.heap[g + 1]? = some (.cells #[.int .i64 3, .string ⟨#[]⟩, .int .i64 0, .int .i64 v] 151 (0, 0)) := h8
      obtain ⟨p0, p1, p2, p3, q0, q1, q2, q3⟩ := four_at h8d
      go_region_law (go_simp)
      all_goals
        have g4 : (w'.setCell ⟨g + 1, 3, none⟩ (.int .i64 v')).drew.heap[g]? = some (.cells #[.int .i64 0, .string ⟨#[]⟩, .int .i64 0, .int .i64 0] 151 (0, 0)) := (Below.heap_setCell w' ⟨g + 1, 3, none⟩ (.int .i64 v') g (by show g ≠ g + 1; omega)).trans h4
        have g8 : (w'.setCell ⟨g + 1, 3, none⟩ (.int .i64 v')).drew.heap[g + 1]? = some (.cells #[.int .i64 3, .string ⟨#[]⟩, .int .i64 0, .int .i64 v'] 151 (0, 0)) := set_blk h8 3 _
        have gb : Below g w (w'.setCell ⟨g + 1, 3, none⟩ (.int .i64 v')).drew := (below_far hb3 (by omega) 3 _).drew
        clear h4 h8 hb3 h8d a0 a1 a2 a3 b0 b1 b2 b3 d0 d1 d2 d3 f0 f1 f2 f3 p0 p1 p2 p3 q0 q1 q2 q3 u1 u2 u3 u4
        generalize (w'.setCell ⟨g + 1, 3, none⟩ (.int .i64 v')).drew = w4 at g4 g8 gb ⊢
        obtain ⟨c0, c1, c2, c3, d0, d1, d2, d3⟩ := four_at g8
        go_wp2
        exact ⟨⟨p + 1, by omega, by omega, by simp, g4, by rw [hv1]; exact g8, gb⟩, by simp [Go.RowKit.intOf]; omega⟩
    · obtain rfl : p = b := by omega
      have j1 : (0 : Int) ≤ (at_ : Int) := by omega
      have j2 : (at_ : Int) ≤ (p : Int) := by omega
      have j3 : (p : Int) ≤ (s.size : Int) := by omega
      clear hc hg hg0 hab hp1 hs
      go_wp2_with (go_at_call 123; refine (dn _).mono ?_)
      try (rintro e w' ⟨rfl, rfl⟩)
      clear dn
      obtain ⟨c0, c1, c2, c3, d0, d1, d2, d3⟩ := four_at h8
      by_cases hone : S.size ≤ 1
      · have hs1 : (S.size : Int) ≤ 1 := by omega
        clear hz hS hone
        go_wp2
        have k4 : (w'.setCell ⟨g + 1, 1, none⟩ (.string S)).heap[g]? = some (.cells #[.int .i64 0, .string ⟨#[]⟩, .int .i64 0, .int .i64 0] 151 (0, 0)) := (Below.heap_setCell w' ⟨g + 1, 1, none⟩ (.string S) g (by show g ≠ g + 1; omega)).trans h4
        have k8 : (w'.setCell ⟨g + 1, 1, none⟩ (.string S)).drew.heap[g + 1]? = some (.cells #[.int .i64 3, .string S, .int .i64 0, .int .i64 (gv p)] 151 (0, 0)) := set_blk h8 1 _
        have kb : Below g w (w'.setCell ⟨g + 1, 1, none⟩ (.string S)) := below_far hb3 (by omega) 1 _
        clear h4 h8 hb3 c0 c1 c2 c3 d0 d1 d2 d3 hx j1 j2 j3
        generalize w'.setCell ⟨g + 1, 1, none⟩ (.string S) = w5 at k4 k8 kb ⊢
        obtain ⟨c0, c1, c2, c3, d0, d1, d2, d3⟩ := four_at k8
        have m0 : w5.drew.heap[g]? = some (.cells #[.int .i64 0, .string ⟨#[]⟩, .int .i64 0, .int .i64 0] 151 (0, 0)) := k4
        have m1 : (w5.setCell ⟨g, 0, none⟩ (.int .i64 3)).drew.heap[g]? = some (.cells #[.int .i64 3, .string ⟨#[]⟩, .int .i64 0, .int .i64 0] 151 (0, 0)) := set_blk k4 0 _
        have m2 : ((w5.setCell ⟨g, 0, none⟩ (.int .i64 3)).setCell ⟨g, 1, none⟩ (.string S)).drew.heap[g]? = some (.cells #[.int .i64 3, .string S, .int .i64 0, .int .i64 0] 151 (0, 0)) := set_blk (set_blk k4 0 _) 1 _
        have m3 : (((w5.setCell ⟨g, 0, none⟩ (.int .i64 3)).setCell ⟨g, 1, none⟩ (.string S)).setCell ⟨g, 2, none⟩ (.int .i64 0)).drew.heap[g]? = some (.cells #[.int .i64 3, .string S, .int .i64 0, .int .i64 0] 151 (0, 0)) := set_blk (set_blk (set_blk k4 0 _) 1 _) 2 _
        obtain ⟨x00, x01, x02, x03, y00, y01, y02, y03⟩ := four_at m0
        obtain ⟨x10, x11, x12, x13, y10, y11, y12, y13⟩ := four_at m1
        obtain ⟨x20, x21, x22, x23, y20, y21, y22, y23⟩ := four_at m2
        obtain ⟨x30, x31, x32, x33, y30, y31, y32, y33⟩ := four_at m3
        have n8 : ((((w5.setCell ⟨g, 0, none⟩ (.int .i64 3)).setCell ⟨g, 1, none⟩ (.string S)).setCell ⟨g, 2, none⟩ (.int .i64 0)).setCell ⟨g, 3, none⟩ (.int .i64 (gv p))).drew.heap[g + 1]? = some (.cells #[.int .i64 3, .string S, .int .i64 0, .int .i64 (gv p)] 151 (0, 0)) := by
          have hq : ∀ (W : World) (i : Nat) (v : Value), (W.setCell ⟨g, i, none⟩ v).heap[g + 1]? = W.heap[g + 1]? := fun W i v => Below.heap_setCell W ⟨g, i, none⟩ v (g + 1) (by show g + 1 ≠ g; omega)
          exact (hq _ _ _).trans ((hq _ _ _).trans ((hq _ _ _).trans ((hq _ _ _).trans k8)))
        obtain ⟨z0, z1, z2, z3, -, -, -, -⟩ := four_at n8
        go_region_held3 (fun w' => w'.cell? ⟨g + 1, 0, none⟩ = some (.int .i64 3) ∧ w'.cell? ⟨g + 1, 1, none⟩ = some (.string S) ∧ w'.cell? ⟨g + 1, 2, none⟩ = some (.int .i64 0) ∧ w'.cell? ⟨g + 1, 3, none⟩ = some (.int .i64 (gv p))) (first | exact ⟨c0, c1, c2, c3⟩ | exact ⟨z0, z1, z2, z3⟩) (first | (go_at_call 121; refine (ln _).mono ?_; rintro e w' ⟨rfl, rfl⟩))
        all_goals
          go_wp2
          exact tok_ret rfl rfl (four_set k4 _ _ _ _) ⟨rfl, by rw [hgg]; exact (below_set (below_set (below_set (below_set kb 0 _) 1 _) 2 _) 3 _).drew⟩
      · have hs1 : (1 : Int) < (S.size : Int) := by omega
        obtain ⟨h0S, hS0⟩ : ∃ h : 0 < S.size, (S[0]'h).toNat ≠ 48 := by
          rcases hz with q | q
          · omega
          · exact q
        obtain ⟨y, hy⟩ : ∃ y, (S[0]'h0S).toNat = y := ⟨_, rfl⟩
        have hy2 : ((y : Int) == 48) = false := by rw [beq_eq_false_iff_ne]; omega
        clear hz hS hone hS0
        go_wp2
        have k4 : (w'.setCell ⟨g + 1, 1, none⟩ (.string S)).heap[g]? = some (.cells #[.int .i64 0, .string ⟨#[]⟩, .int .i64 0, .int .i64 0] 151 (0, 0)) := (Below.heap_setCell w' ⟨g + 1, 1, none⟩ (.string S) g (by show g ≠ g + 1; omega)).trans h4
        have k8 : (w'.setCell ⟨g + 1, 1, none⟩ (.string S)).drew.heap[g + 1]? = some (.cells #[.int .i64 3, .string S, .int .i64 0, .int .i64 (gv p)] 151 (0, 0)) := set_blk h8 1 _
        have kb : Below g w (w'.setCell ⟨g + 1, 1, none⟩ (.string S)) := below_far hb3 (by omega) 1 _
        clear h4 h8 hb3 c0 c1 c2 c3 d0 d1 d2 d3 hx j1 j2 j3
        generalize w'.setCell ⟨g + 1, 1, none⟩ (.string S) = w5 at k4 k8 kb ⊢
        obtain ⟨c0, c1, c2, c3, d0, d1, d2, d3⟩ := four_at k8
        have m0 : w5.drew.heap[g]? = some (.cells #[.int .i64 0, .string ⟨#[]⟩, .int .i64 0, .int .i64 0] 151 (0, 0)) := k4
        have m1 : (w5.setCell ⟨g, 0, none⟩ (.int .i64 3)).drew.heap[g]? = some (.cells #[.int .i64 3, .string ⟨#[]⟩, .int .i64 0, .int .i64 0] 151 (0, 0)) := set_blk k4 0 _
        have m2 : ((w5.setCell ⟨g, 0, none⟩ (.int .i64 3)).setCell ⟨g, 1, none⟩ (.string S)).drew.heap[g]? = some (.cells #[.int .i64 3, .string S, .int .i64 0, .int .i64 0] 151 (0, 0)) := set_blk (set_blk k4 0 _) 1 _
        have m3 : (((w5.setCell ⟨g, 0, none⟩ (.int .i64 3)).setCell ⟨g, 1, none⟩ (.string S)).setCell ⟨g, 2, none⟩ (.int .i64 0)).drew.heap[g]? = some (.cells #[.int .i64 3, .string S, .int .i64 0, .int .i64 0] 151 (0, 0)) := set_blk (set_blk (set_blk k4 0 _) 1 _) 2 _
        obtain ⟨x00, x01, x02, x03, y00, y01, y02, y03⟩ := four_at m0
        obtain ⟨x10, x11, x12, x13, y10, y11, y12, y13⟩ := four_at m1
        obtain ⟨x20, x21, x22, x23, y20, y21, y22, y23⟩ := four_at m2
        obtain ⟨x30, x31, x32, x33, y30, y31, y32, y33⟩ := four_at m3
        have n8 : ((((w5.setCell ⟨g, 0, none⟩ (.int .i64 3)).setCell ⟨g, 1, none⟩ (.string S)).setCell ⟨g, 2, none⟩ (.int .i64 0)).setCell ⟨g, 3, none⟩ (.int .i64 (gv p))).drew.heap[g + 1]? = some (.cells #[.int .i64 3, .string S, .int .i64 0, .int .i64 (gv p)] 151 (0, 0)) := by
          have hq : ∀ (W : World) (i : Nat) (v : Value), (W.setCell ⟨g, i, none⟩ v).heap[g + 1]? = W.heap[g + 1]? := fun W i v => Below.heap_setCell W ⟨g, i, none⟩ v (g + 1) (by show g + 1 ≠ g; omega)
          exact (hq _ _ _).trans ((hq _ _ _).trans ((hq _ _ _).trans ((hq _ _ _).trans k8)))
        obtain ⟨z0, z1, z2, z3, -, -, -, -⟩ := four_at n8
        go_region_held3 (fun w' => w'.cell? ⟨g + 1, 0, none⟩ = some (.int .i64 3) ∧ w'.cell? ⟨g + 1, 1, none⟩ = some (.string S) ∧ w'.cell? ⟨g + 1, 2, none⟩ = some (.int .i64 0) ∧ w'.cell? ⟨g + 1, 3, none⟩ = some (.int .i64 (gv p))) (first | exact ⟨c0, c1, c2, c3⟩ | exact ⟨z0, z1, z2, z3⟩) (first | (go_at_call 121; refine (ln _).mono ?_; rintro e w' ⟨rfl, rfl⟩))
        all_goals
          go_wp2
          exact tok_ret rfl rfl (four_set k4 _ _ _ _) ⟨rfl, by rw [hgg]; exact (below_set (below_set (below_set (below_set kb 0 _) 1 _) 2 _) 3 _).drew⟩
end Go.Proofs.YtgpogeemhaiicaaGreatDoor
