/- ListSigns: the plain law: a text's signs are the list's signs. No condition. -/
import Derived.Test.YtllgeddjlodliaaGreatDoorYEvSgC
import Derived.Test.YtllgeddjlodliaaGreatDoorYEvSgL
namespace Go.Proofs.YtllgeddjlodliaaGreatDoor
open Go.Ev

def bl (us : List Nat) : List UInt8 := us.flatMap fun u => [UInt8.ofNat (u / 256), UInt8.ofNat (u % 256)]
theorem push_all (l : List Int) : ∀ s : ByteArray, (l.foldl (fun r n => r.push (UInt8.ofNat n.toNat)) s).data.toList = s.data.toList ++ l.map fun n => UInt8.ofNat n.toNat := by
  induction l with
  | nil => intro s; simp
  | cons n l ih =>
    intro s
    rw [List.foldl_cons, ih]
    simp [ByteArray.push]
theorem strS_bytes (us : List Nat) : (strS us).data.toList = bl us := by
  unfold strS
  rw [push_all]
  unfold strN bl
  rw [List.map_flatMap]
  show [] ++ _ = _
  rw [List.nil_append]
  congr 1
theorem bl_len (us : List Nat) : (bl us).length = 2 * us.length := by
  induction us with
  | nil => rfl
  | cons u us ih =>
    have : bl (u :: us) = UInt8.ofNat (u / 256) :: UInt8.ofNat (u % 256) :: bl us := rfl
    rw [this, List.length_cons, List.length_cons, ih, List.length_cons]
    omega
theorem strS_size (us : List Nat) : (strS us).size = 2 * us.length := by
  have := congrArg List.length (strS_bytes us)
  rw [bl_len] at this
  simpa using this
theorem bl_drop : ∀ (a : Nat) (us : List Nat), (bl us).drop (2 * a) = bl (us.drop a)
  | 0, us => rfl
  | a + 1, [] => by simp [bl]
  | a + 1, u :: us => by
    have : bl (u :: us) = UInt8.ofNat (u / 256) :: UInt8.ofNat (u % 256) :: bl us := rfl
    rw [this, show 2 * (a + 1) = 2 * a + 1 + 1 by omega, List.drop_succ_cons, List.drop_succ_cons, List.drop_succ_cons, bl_drop a us]
theorem bl_take : ∀ (a : Nat) (us : List Nat), (bl us).take (2 * a) = bl (us.take a)
  | 0, us => rfl
  | a + 1, [] => by simp [bl]
  | a + 1, u :: us => by
    have : bl (u :: us) = UInt8.ofNat (u / 256) :: UInt8.ofNat (u % 256) :: bl us := rfl
    rw [this, show 2 * (a + 1) = 2 * a + 1 + 1 by omega, List.take_succ_cons, List.take_succ_cons, List.take_succ_cons, bl_take a us]
    rfl
theorem strS_extract (us : List Nat) (a n : Nat) : (strS us).extract (2 * a) (2 * (a + n)) = strS ((us.drop a).take n) := by
  have key : ∀ s t : ByteArray, s.data.toList = t.data.toList → s = t := fun s t h => by
    cases s with | mk s =>
    cases t with | mk t =>
    congr 1
    exact Array.toList_inj.1 h
  refine key _ _ ?_
  rw [strS_bytes, ← bl_take, ← bl_drop, ← strS_bytes]
  simp only [ByteArray.data_extract, Array.toList_extract, List.extract_eq_take_drop]
  congr 1
  omega
theorem unit_at (us : List Nat) (a : Nat) (h : a < us.length) (hu : us[a] < 65536) : unitAt (strS us) a = us[a] := by
  have e : us.drop a = us[a] :: us.drop (a + 1) := List.drop_eq_getElem_cons h
  have h1 : (bl us).drop (2 * a) = UInt8.ofNat (us[a] / 256) :: UInt8.ofNat (us[a] % 256) :: bl (us.drop (a + 1)) := by
    rw [bl_drop, e]; rfl
  have g0 : (strS us).data.getD (2 * a) 0 = UInt8.ofNat (us[a] / 256) := by
    have h2 : (bl us)[2 * a]? = some (UInt8.ofNat (us[a] / 256)) := by
      have := congrArg (fun l => l[0]?) h1
      simpa using this
    rw [← strS_bytes] at h2
    rw [Array.getD_eq_getD_getElem?, ← Array.getElem?_toList, h2]
    rfl
  have g1 : (strS us).data.getD (2 * a + 1) 0 = UInt8.ofNat (us[a] % 256) := by
    have h2 : (bl us)[2 * a + 1]? = some (UInt8.ofNat (us[a] % 256)) := by
      have := congrArg (fun l => l[1]?) h1
      simpa using this
    rw [← strS_bytes] at h2
    rw [Array.getD_eq_getD_getElem?, ← Array.getElem?_toList, h2]
    rfl
  unfold unitAt
  rw [g0, g1]
  simp only [UInt8.toNat_ofNat']
  omega
theorem sgnL_law (us : List Nat) (hu : ∀ u ∈ us, u < 65536) : ∀ (f a : Nat), us.length - a ≤ f → sgnL (strS us) (f + 1) a = (signsL (us.drop a)).map strS := by
  intro f
  induction f with
  | zero =>
    intro a h
    have h1 : us.length ≤ a := by omega
    have hn : signLen (strS us) a = 0 := by unfold signLen; rw [strS_size, if_pos (by omega)]
    rw [sgnL, if_pos hn, List.drop_eq_nil_of_le h1]
    rfl
  | succ f ih =>
    intro a h
    by_cases h1 : us.length ≤ a
    · have hn : signLen (strS us) a = 0 := by unfold signLen; rw [strS_size, if_pos (by omega)]
      rw [sgnL, if_pos hn, List.drop_eq_nil_of_le h1]
      rfl
    · have h2 : a < us.length := by omega
      have e : us.drop a = us[a] :: us.drop (a + 1) := List.drop_eq_getElem_cons h2
      have ux := unit_at us a h2 (hu _ (List.getElem_mem h2))
      by_cases hp : a + 1 < us.length ∧ 55296 ≤ unitAt (strS us) a ∧ unitAt (strS us) a < 56320 ∧ 56320 ≤ unitAt (strS us) (a + 1) ∧ unitAt (strS us) (a + 1) ≤ 57343
      · have hn : signLen (strS us) a = 2 := by
          unfold signLen
          rw [strS_size, if_neg (by omega), if_pos ⟨by omega, hp.2⟩]
        have uy := unit_at us (a + 1) hp.1 (hu _ (List.getElem_mem hp.1))
        have e2 : us.drop (a + 1) = us[a + 1] :: us.drop (a + 1 + 1) := List.drop_eq_getElem_cons hp.1
        rw [ux, uy] at hp
        rw [sgnL, if_neg (by omega), hn, ih (a + 2) (by omega), strS_extract, e, e2, signsL_two (by
          unfold pairUp
          simp only [Bool.and_eq_true, Nat.ble_eq]
          omega)]
        rfl
      · have hn : signLen (strS us) a = 1 := by
          unfold signLen
          rw [strS_size, if_neg (by omega), if_neg (fun q => hp ⟨by omega, q.2⟩)]
        rw [sgnL, if_neg (by omega), hn, ih (a + 1) (by omega), strS_extract, e, signsL_one (fun y hy => by
          rw [← Bool.not_eq_true]
          intro q
          unfold pairUp at q
          simp only [Bool.and_eq_true, Nat.ble_eq] at q
          have hlt : a + 1 < us.length := by
            by_cases g : a + 1 < us.length
            · exact g
            · rw [List.drop_eq_nil_of_le (by omega)] at hy; cases hy
          have uy := unit_at us (a + 1) hlt (hu _ (List.getElem_mem hlt))
          have e2 : us.drop (a + 1) = us[a + 1] :: us.drop (a + 1 + 1) := List.drop_eq_getElem_cons hlt
          rw [e2] at hy
          simp only [List.head?_cons, Option.some.injEq] at hy
          subst hy
          exact hp ⟨hlt, by omega⟩)]
        rfl
end Go.Proofs.YtllgeddjlodliaaGreatDoor
