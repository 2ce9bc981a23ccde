/- ParseLists: a name as a part of a pattern. No condition. -/
import Derived.Test.YtcaomilekhhhlaaDoorEvQh
namespace Go.Proofs.YtcaomilekhhhlaaDoor
open Go.Ev Go.RowKit
set_option maxHeartbeats 8000000
set_option maxRecDepth 100000

theorem ok_walk {w : World} {pb : Nat} (c3 : w.cell? ⟨pb, 3, none⟩ = some (.int .i64 0)) : Calls Tryd.prog 8 #[.pointer (some ⟨pb, 0, none⟩)] w fun e w' => e = .returned (.bool true) ∧ w' = w := by
  go_enter Tryd.func8, Tryd.ntmps8
  go_wp2
  go_ret
  exact ⟨rfl, rfl⟩
theorem simple_name {w : World} {pb kb no : Nat} (c3 : w.cell? ⟨pb, 3, none⟩ = some (.int .i64 0)) (k0 : w.cell? ⟨kb, no, none⟩ = some (.int .i64 32)) : Calls Tryd.prog 58 #[.pointer (some ⟨pb, 0, none⟩), .pointer (some ⟨kb, no, none⟩)] w fun e w' => e = .returned (.tuple #[]) ∧ w' = w := by
  go_enter Tryd.func58, Tryd.ntmps58
  go_wp2_with (go_at_call 8; refine (ok_walk c3).mono ?_)
  try (rintro e w' ⟨rfl, rfl⟩)
  go_wp2
  exact bodyPost_ret (v := .tuple #[]) (results_none (by rfl) _ _ _) rfl ⟨rfl, rfl⟩
theorem refine_name {w : World} {pb kb no : Nat} {x : Int} (c3 : w.cell? ⟨pb, 3, none⟩ = some (.int .i64 0)) (k0 : w.cell? ⟨kb, no, none⟩ = some (.int .i64 32)) (k1 : w.cell? ⟨kb, no + 1, none⟩ = some (.int .i64 x)) : Calls Tryd.prog 64 #[.pointer (some ⟨pb, 0, none⟩), .pointer (some ⟨kb, no, none⟩)] w fun e w' => e = .returned (.pointer (some ⟨kb, no, none⟩)) ∧ Below w.heap.size w w' := by
  have lp : pb < w.heap.size := World.block_lt_of_cell? w _ c3
  have lk : kb < w.heap.size := World.block_lt_of_cell? w _ k0
  go_enter Tryd.func64, Tryd.ntmps64
  go_wp2_with (go_at_call 8; refine (ok_walk c3).mono ?_)
  try (rintro e w' ⟨rfl, rfl⟩)
  go_wp2_with (go_at_call 58; refine (simple_name (w := _) ?c3 ?k0).mono ?_)
  case c3 => exact (((Below.refl w'.heap.size w').alloc (Nat.le_refl _) _).cell (p := ⟨pb, 3, none⟩) lp).trans c3
  case k0 => exact (((Below.refl w'.heap.size w').alloc (Nat.le_refl _) _).cell (p := ⟨kb, no, none⟩) lk).trans k0
  try (rintro e w2 ⟨rfl, rfl⟩)
  go_wp2
  go_ret
  exact ⟨rfl, (Below.refl _ w').alloc (Nat.le_refl _) _⟩
theorem part_name {w : World} {pb kb no : Nat} {x : Int} (c3 : w.cell? ⟨pb, 3, none⟩ = some (.int .i64 0)) (k0 : w.cell? ⟨kb, no, none⟩ = some (.int .i64 32)) (k1 : w.cell? ⟨kb, no + 1, none⟩ = some (.int .i64 x)) : Calls Tryd.prog 84 #[.pointer (some ⟨pb, 0, none⟩), .pointer (some ⟨kb, no, none⟩)] w fun e w' => e = .returned (.pointer (some ⟨kb, no, none⟩)) ∧ Below w.heap.size w w' := by
  go_enter Tryd.func84, Tryd.ntmps84
  go_wp2_with (go_at_call 64; refine (refine_name c3 k0 k1).mono ?_)
  rintro e w2 ⟨rfl, hk⟩
  go_wp2
  go_ret
  exact ⟨rfl, hk⟩
end Go.Proofs.YtcaomilekhhhlaaDoor
