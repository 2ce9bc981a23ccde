/- EarlyLabels: the number 1, by the program's scanner. No condition. -/
import Derived.Test.YtjkgefnlennbjaaGreatDoorEvMk
import Derived.Deep.RegionHeld3
set_option linter.all false
namespace Go.Proofs.YtjkgefnlennbjaaGreatDoor
open Go.Ev Go.RowKit
set_option maxHeartbeats 8000000
set_option maxRecDepth 100000

theorem num_walk (s : ByteArray) (at_ b d : Nat) (w : World) (hb : b = at_ + 1) (hlt : at_ < s.size) (hlt2 : b < s.size) (hs : s.size ≤ 1000) (hc : (s[at_]'hlt).toNat = 49) (hd : (s[b]'hlt2).toNat = d) (hdn : d ∈ nonL) (hx : s.extract at_ b = ⟨#[49]⟩) :
    Calls Tryz.prog 32 #[.string s, .int .i64 at_] w fun e w' => e = .returned (.tuple #[.agg #[.int .i64 3, .string ⟨#[49]⟩, .int .i64 0, .int .i64 1], .int .i64 b, .bool true]) ∧ Below w.heap.size w w' := by
  have hw : IntKind.i64.wrap ((at_ : Int) + 1) = (b : Int) := by subst hb; have := Go.Ev.wrap_small IntKind.i64 (at_ + 1) (by show _ ≤ 9223372036854775807; omega); simpa using this
  have hab : at_ ≤ b := by omega
  have ln := letter_no (c := d) (by simp [hdn])
  have dn := digit_no hdn
  have hne : ((b : Int) == (s.size : Int)) = false := by rw [beq_eq_false_iff_ne]; omega
  clear hdn hb
  go_enter Tryz.func32, Tryz.ntmps32
  go_wp2
  refine wp_loop_rounds 2 ?_
  rw [rounds_succ]
  go_wp2_with (go_at_call 31; refine (digit_yes _).mono ?_)
  try (rintro e w' ⟨rfl, rfl⟩)
  go_wp2
  have h4a := heap_alloc_new w (.cells #[.int .i64 0, .string ⟨#[]⟩, .int .i64 0, .int .i64 0] 45)
  have e1 : (w.alloc (.cells #[.int .i64 0, .string ⟨#[]⟩, .int .i64 0, .int .i64 0] 45)).heap.size = w.heap.size + 1 := by simp
  have h4 := (heap_alloc_old (w.alloc (.cells #[.int .i64 0, .string ⟨#[]⟩, .int .i64 0, .int .i64 0] 45)) (.cells #[.int .i64 3, .string ⟨#[]⟩, .int .i64 0, .int .i64 0] 45) (by omega)).trans h4a
  have h8 := heap_alloc_new (w.alloc (.cells #[.int .i64 0, .string ⟨#[]⟩, .int .i64 0, .int .i64 0] 45)) (.cells #[.int .i64 3, .string ⟨#[]⟩, .int .i64 0, .int .i64 0] 45)
  rw [e1] at h8
  have hb3 : Below w.heap.size w ((w.alloc (.cells #[.int .i64 0, .string ⟨#[]⟩, .int .i64 0, .int .i64 0] 45)).alloc (.cells #[.int .i64 3, .string ⟨#[]⟩, .int .i64 0, .int .i64 0] 45)) := ((Below.refl _ w).alloc (Nat.le_refl _) _).alloc (by omega) _
  clear h4a e1
  generalize (w.alloc (.cells #[.int .i64 0, .string ⟨#[]⟩, .int .i64 0, .int .i64 0] 45)).alloc (.cells #[.int .i64 3, .string ⟨#[]⟩, .int .i64 0, .int .i64 0] 45) = w3 at h4 h8 hb3 ⊢
  generalize hg : w.heap.size = g at h4 h8 hb3 ⊢
  obtain ⟨a0, a1, a2, a3, b0, b1, b2, b3⟩ := four_at h4
  obtain ⟨c0, c1, c2, c3, d0, d1, d2, d3⟩ := four_at h8
  have h8d : w3.drew.heap[g + 1]? = some (.cells #[.int .i64 3, .string ⟨#[]⟩, .int .i64 0, .int .i64 0] 45 (0, 0)) := h8
  obtain ⟨p0, p1, p2, p3, q0, q1, q2, q3⟩ := four_at h8d
  have u1 : IntKind.u8.wrap 1 = 1 := by decide
  have u2 : IntKind.i64.wrap 0 = 0 := by decide
  have u3 : IntKind.i64.wrap 1 = 1 := by decide
  go_region_law (go_simp)
  all_goals
    have g4 : (w3.setCell ⟨g + 1, 3, none⟩ (.int .i64 1)).drew.heap[g]? = some (.cells #[.int .i64 0, .string ⟨#[]⟩, .int .i64 0, .int .i64 0] 45 (0, 0)) := (Below.heap_setCell w3 ⟨g + 1, 3, none⟩ (.int .i64 1) g (by show g ≠ g + 1; omega)).trans h4
    have g8 : (w3.setCell ⟨g + 1, 3, none⟩ (.int .i64 1)).drew.heap[g + 1]? = some (.cells #[.int .i64 3, .string ⟨#[]⟩, .int .i64 0, .int .i64 1] 45 (0, 0)) := set_blk h8 3 _
    have gb : Below g w (w3.setCell ⟨g + 1, 3, none⟩ (.int .i64 1)).drew := (below_far hb3 (by omega) 3 _).drew
    clear h4 h8 hb3 h8d a0 a1 a2 a3 b0 b1 b2 b3 c0 c1 c2 c3 d0 d1 d2 d3 p0 p1 p2 p3 q0 q1 q2 q3 u1 u2
    generalize (w3.setCell ⟨g + 1, 3, none⟩ (.int .i64 1)).drew = w4 at g4 g8 gb ⊢
    obtain ⟨c0, c1, c2, c3, d0, d1, d2, d3⟩ := four_at g8
    go_wp2
    rw [rounds_succ]
    clear hw
    go_wp2_with (go_at_call 31; refine (dn _).mono ?_)
    try (rintro e w' ⟨rfl, rfl⟩)
    have j1 : (0 : Int) ≤ (at_ : Int) := by omega
    have j2 : (at_ : Int) ≤ (b : Int) := by omega
    have j3 : (b : Int) ≤ (s.size : Int) := by omega
    go_wp2
    have k4 : (w'.setCell ⟨g + 1, 1, none⟩ (.string ⟨#[49]⟩)).heap[g]? = some (.cells #[.int .i64 0, .string ⟨#[]⟩, .int .i64 0, .int .i64 0] 45 (0, 0)) := (Below.heap_setCell w' ⟨g + 1, 1, none⟩ (.string ⟨#[49]⟩) g (by show g ≠ g + 1; omega)).trans g4
    have k8 : (w'.setCell ⟨g + 1, 1, none⟩ (.string ⟨#[49]⟩)).drew.heap[g + 1]? = some (.cells #[.int .i64 3, .string ⟨#[49]⟩, .int .i64 0, .int .i64 1] 45 (0, 0)) := set_blk g8 1 _
    have kb : Below g w (w'.setCell ⟨g + 1, 1, none⟩ (.string ⟨#[49]⟩)) := below_far gb (by omega) 1 _
    clear g4 g8 gb c0 c1 c2 c3 d0 d1 d2 d3 hx j1 j2 j3 dn hc
    generalize w'.setCell ⟨g + 1, 1, none⟩ (.string ⟨#[49]⟩) = w5 at k4 k8 kb ⊢
    obtain ⟨c0, c1, c2, c3, d0, d1, d2, d3⟩ := four_at k8
    have m0 : w5.drew.heap[g]? = some (.cells #[.int .i64 0, .string ⟨#[]⟩, .int .i64 0, .int .i64 0] 45 (0, 0)) := k4
    have m1 : (w5.setCell ⟨g, 0, none⟩ (.int .i64 3)).drew.heap[g]? = some (.cells #[.int .i64 3, .string ⟨#[]⟩, .int .i64 0, .int .i64 0] 45 (0, 0)) := set_blk k4 0 _
    have m2 : ((w5.setCell ⟨g, 0, none⟩ (.int .i64 3)).setCell ⟨g, 1, none⟩ (.string ⟨#[49]⟩)).drew.heap[g]? = some (.cells #[.int .i64 3, .string ⟨#[49]⟩, .int .i64 0, .int .i64 0] 45 (0, 0)) := set_blk (set_blk k4 0 _) 1 _
    have m3 : (((w5.setCell ⟨g, 0, none⟩ (.int .i64 3)).setCell ⟨g, 1, none⟩ (.string ⟨#[49]⟩)).setCell ⟨g, 2, none⟩ (.int .i64 0)).drew.heap[g]? = some (.cells #[.int .i64 3, .string ⟨#[49]⟩, .int .i64 0, .int .i64 0] 45 (0, 0)) := set_blk (set_blk (set_blk k4 0 _) 1 _) 2 _
    obtain ⟨x00, x01, x02, x03, y00, y01, y02, y03⟩ := four_at m0
    obtain ⟨x10, x11, x12, x13, y10, y11, y12, y13⟩ := four_at m1
    obtain ⟨x20, x21, x22, x23, y20, y21, y22, y23⟩ := four_at m2
    obtain ⟨x30, x31, x32, x33, y30, y31, y32, y33⟩ := four_at m3
    have n8 : ((((w5.setCell ⟨g, 0, none⟩ (.int .i64 3)).setCell ⟨g, 1, none⟩ (.string ⟨#[49]⟩)).setCell ⟨g, 2, none⟩ (.int .i64 0)).setCell ⟨g, 3, none⟩ (.int .i64 1)).drew.heap[g + 1]? = some (.cells #[.int .i64 3, .string ⟨#[49]⟩, .int .i64 0, .int .i64 1] 45 (0, 0)) := by
      have hq : ∀ (W : World) (i : Nat) (v : Value), (W.setCell ⟨g, i, none⟩ v).heap[g + 1]? = W.heap[g + 1]? := fun W i v => Below.heap_setCell W ⟨g, i, none⟩ v (g + 1) (by show g + 1 ≠ g; omega)
      exact (hq _ _ _).trans ((hq _ _ _).trans ((hq _ _ _).trans ((hq _ _ _).trans k8)))
    obtain ⟨z0, z1, z2, z3, -, -, -, -⟩ := four_at n8
    go_region_held3 (fun w' => w'.cell? ⟨g + 1, 0, none⟩ = some (.int .i64 3) ∧ w'.cell? ⟨g + 1, 1, none⟩ = some (.string ⟨#[49]⟩) ∧ w'.cell? ⟨g + 1, 2, none⟩ = some (.int .i64 0) ∧ w'.cell? ⟨g + 1, 3, none⟩ = some (.int .i64 1)) (first | exact ⟨c0, c1, c2, c3⟩ | exact ⟨z0, z1, z2, z3⟩) (first | (go_at_call 29; refine (ln _).mono ?_; rintro e w' ⟨rfl, rfl⟩))
    all_goals
      go_wp2
      exact tok_ret rfl rfl (four_set k4 _ _ _ _) ⟨rfl, by rw [hg]; exact (below_set (below_set (below_set (below_set kb 0 _) 1 _) 2 _) 3 _).drew⟩
end Go.Proofs.YtjkgefnlennbjaaGreatDoor
