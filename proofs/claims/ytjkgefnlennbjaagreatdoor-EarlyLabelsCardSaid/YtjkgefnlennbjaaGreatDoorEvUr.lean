/- EarlyLabels: the checker over all levels. No condition. -/
import Derived.Test.YtjkgefnlennbjaaGreatDoorEvUp
import Derived.Test.YtjkgefnlennbjaaGreatDoorEvUq
import Derived.Test.YtjkgefnlennbjaaGreatDoorEvMq
set_option linter.all false
namespace Go.Proofs.YtjkgefnlennbjaaGreatDoor
open Go.Ev Go.RowKit
set_option maxHeartbeats 8000000
set_option maxRecDepth 100000

theorem lbl_inj : ∀ x, x < 15 → ∀ y, y < 15 → (lblS x).data.toList = (lblS y).data.toList → x = y := by decide +kernel
theorem lbl_ne : ∀ x, x < 15 → (lblS x).data.toList ≠ [] := by decide +kernel
theorem lbl_mem {m : Nat} (hm : m < 15) {L : List Nat} (hL : ∀ x ∈ L, x < 15) : L.contains m = true ↔ lblS m ∈ L.map lblS := by
  rw [List.contains_iff_mem, List.mem_map]
  constructor
  · intro h
    exact ⟨m, h, rfl⟩
  · rintro ⟨x, hx, e⟩
    obtain rfl := lbl_inj x (hL x hx) m hm (by rw [e])
    exact hx
/-- Is a fault found at the leaf; within so many levels? -/
def leafF (again : Bool) (tgt : Option Nat) (Li Ai : List Nat) (k : Nat) : Bool := match again, tgt with
  | false, none => k == 0
  | false, some m => !(Li.contains m)
  | true, none => k == 0
  | true, some m => k == 0 || !(Ai.contains m)
def levF (again : Bool) (tgt : Option Nat) (i : Nat) (Li Ai : List Nat) (k : Nat) : List Nat → Bool
  | [] => leafF again tgt Li Ai k
  | kd :: ks => match kd with
    | 2 => levF again tgt (i + 1) (Li ++ [i]) Ai k ks
    | _ => levF again tgt (i + 1) (Li ++ [i]) (Ai ++ [i]) (k + 1) ks
theorem leaf_node {again : Bool} {tgt : Option Nat} (hto : ∀ m, tgt = some m → m < 15) {Li Ai : List Nat} (hL : ∀ x ∈ Li, x < 15) (hA : ∀ x ∈ Ai, x < 15) (hLl : Li.length ≤ 50) (hAl : Ai.length ≤ 50) {k : Nat} (hk : k ≤ 50) : NodeOk (leafT again tgt) (Li.map lblS) (Ai.map lblS) k (leafF again tgt Li Ai k) := by
  have l1 : (Li.map lblS).length ≤ 50 := by rw [List.length_map]; exact hLl
  have l2 : (Ai.map lblS).length ≤ 50 := by rw [List.length_map]; exact hAl
  have ne : ∀ m, m < 15 → lblS m ≠ ⟨#[]⟩ := fun m hm q => lbl_ne m hm (by rw [q])
  have kz : (k = 0 ∧ (k == 0) = true) ∨ (0 < k ∧ k ≤ 50 ∧ (k == 0) = false) := by
    rcases Nat.eq_zero_or_pos k with h | h
    · exact .inl ⟨h, by simp [h]⟩
    · exact .inr ⟨h, hk, by simp; omega⟩
  cases again <;> cases tgt
  · obtain ⟨r, hr⟩ : ∃ r : Bool, r = true ↔ (⟨#[]⟩ : ByteArray) ∈ Li.map lblS := by
      by_cases h : (⟨#[]⟩ : ByteArray) ∈ Li.map lblS
      · exact ⟨true, by simp [h]⟩
      · exact ⟨false, by simp [h]⟩
    exact node_break (f := k == 0) l1 hr (.inl ⟨rfl, kz⟩)
  · rename_i m
    have hm := hto m rfl
    exact node_break l1 (lbl_mem hm hL) (.inr ⟨ne m hm, rfl⟩)
  · obtain ⟨r, hr⟩ : ∃ r : Bool, r = true ↔ (⟨#[]⟩ : ByteArray) ∈ Ai.map lblS := by
      by_cases h : (⟨#[]⟩ : ByteArray) ∈ Ai.map lblS
      · exact ⟨true, by simp [h]⟩
      · exact ⟨false, by simp [h]⟩
    refine node_again (f := k == 0) l2 hr ?_
    rcases kz with h | h
    · exact .inl h
    · exact .inr ⟨h.1, .inl ⟨rfl, h.2.2⟩⟩
  · rename_i m
    have hm := hto m rfl
    refine node_again (f := k == 0 || !(Ai.contains m)) l2 (lbl_mem hm hA) ?_
    rcases kz with h | h
    · exact .inl ⟨h.1, by rw [h.2]; rfl⟩
    · exact .inr ⟨h.1, .inr ⟨ne m hm, by rw [h.2.2]; rfl⟩⟩
theorem cOne_tr : cOne.tr = .mk 30 (sval 0 0) [] := by simp [cOne, Trc.tr, Trc.trs]
theorem cX_tr : cX.tr = .mk 32 (sval 120 1) [] := by simp [cX, Trc.tr, Trc.trs]
theorem cY_tr : cY.tr = .mk 32 (sval 121 1) [] := by simp [cY, Trc.tr, Trc.trs]
theorem cLetY_tr : cLetY.tr = .mk 2 (sval 7628140 3) [.mk 3 (sval 0 0) [.mk 32 (sval 121 1) []]] := by simp [cLetY, cY, Trc.tr, Trc.trs]
theorem one_node (L A : List ByteArray) (k : Nat) : NodeOk cOne.tr L A k false := by
  rw [cOne_tr]
  exact node_flat (.inr (.inl rfl)) (fun t h => by simp at h) (by simp)
theorem name_node (s : ByteArray) (L A : List ByteArray) (k : Nat) : NodeOk (.mk 32 s []) L A k false := node_flat (.inr (.inr rfl)) (fun t h => by simp at h) (by simp)
theorem lev_kind (again : Bool) (tgt : Option Nat) (i : Nat) (ks : List Nat) : ∃ kd s l, levT i (leafT again tgt) ks = .mk kd s l ∧ (kd = 19 ∨ kd = 14 ∨ kd = 15) := by
  cases ks with
  | nil => cases again
           · exact ⟨14, _, _, rfl, .inr (.inl rfl)⟩
           · exact ⟨15, _, _, rfl, .inr (.inr rfl)⟩
  | cons k ks => exact ⟨19, _, _, rfl, .inl rfl⟩
theorem constS_ne : (⟨#[99, 111, 110, 115, 116]⟩ : ByteArray) ≠ ⟨#[]⟩ := by intro q; cases q
theorem lev_node (again : Bool) (tgt : Option Nat) (hto : ∀ m, tgt = some m → m < 15) : ∀ (ks : List Nat) (i : Nat) (Li Ai : List Nat) (k : Nat), (∀ x ∈ Li, x < i) → (∀ x ∈ Ai, x < i) → Li.length ≤ i → Ai.length ≤ i → k ≤ i → i + ks.length ≤ 12 → (∀ x ∈ ks, x < 4) →
    NodeOk (levT i (leafT again tgt) ks) (Li.map lblS) (Ai.map lblS) k (levF again tgt i Li Ai k ks)
  | [], i, Li, Ai, k, hL, hA, hLl, hAl, hk, hi, _ => by
    simp only [List.length_nil] at hi
    exact leaf_node hto (fun x hx => by have := hL x hx; omega) (fun x hx => by have := hA x hx; omega) (by omega) (by omega) (by omega)
  | kd :: ks, i, Li, Ai, k, hL, hA, hLl, hAl, hk, hi, hks => by
    simp only [List.length_cons] at hi
    have hL2 : ∀ x ∈ Li ++ [i], x < i + 1 := fun x hx => by
      rcases List.mem_append.1 hx with h | h
      · have := hL x h; omega
      · simp at h; omega
    have hA2 : ∀ x ∈ Ai ++ [i], x < i + 1 := fun x hx => by
      rcases List.mem_append.1 hx with h | h
      · have := hA x h; omega
      · simp at h; omega
    have hA3 : ∀ x ∈ Ai, x < i + 1 := fun x hx => by have := hA x hx; omega
    have hks2 : ∀ x ∈ ks, x < 4 := fun x hx => hks x (by simp [hx])
    have hnew : lblS i ∉ Li.map lblS := fun q => by
      have h := (lbl_mem (m := i) (by omega) (L := Li) (fun x hx => by have := hL x hx; omega)).2 q
      rw [List.contains_iff_mem] at h
      have := hL i h
      omega
    have l1 : (Li.map lblS).length ≤ 30 := by rw [List.length_map]; omega
    have l2 : (Ai.map lblS).length ≤ 30 := by rw [List.length_map]; omega
    have kd4 := hks kd (by simp)
    have ml : (Li ++ [i]).map lblS = Li.map lblS ++ [lblS i] := by simp
    have ma : (Ai ++ [i]).map lblS = Ai.map lblS ++ [lblS i] := by simp
    have R1 := lev_node again tgt hto ks (i + 1) (Li ++ [i]) (Ai ++ [i]) (k + 1) hL2 hA2 (by simp; omega) (by simp; omega) (by omega) (by omega) hks2
    have R2 := lev_node again tgt hto ks (i + 1) (Li ++ [i]) Ai k hL2 hA3 (by simp; omega) (by omega) (by omega) (by omega) hks2
    rw [ml, ma] at R1
    rw [ml] at R2
    have hkd : kd = 0 ∨ kd = 1 ∨ kd = 2 ∨ kd = 3 := by omega
    rcases hkd with rfl | rfl | rfl | rfl
    · exact node_label_9 (node_while (one_node _ _ _) R1 (by omega)) rfl hnew l1 l2
    · have X := name_node (sval 120 1) (Li.map lblS ++ [lblS i]) (Ai.map lblS ++ [lblS i]) k
      have Y := name_node (sval 121 1) (Li.map lblS ++ [lblS i]) (Ai.map lblS ++ [lblS i]) k
      have B := node_forof constS_ne X Y R1 (by omega)
      show NodeOk (.mk 19 (lblS i) [.mk 12 ⟨#[99, 111, 110, 115, 116]⟩ [cX.tr, cY.tr, levT (i + 1) (leafT again tgt) ks]]) _ _ _ _
      rw [cX_tr, cY_tr]
      exact node_label_12 B rfl hnew l1 l2
    · obtain ⟨kd', s', l', e, hkd'⟩ := lev_kind again tgt (i + 1) ks
      show NodeOk (.mk 19 (lblS i) [.mk 7 ⟨#[]⟩ [levT (i + 1) (leafT again tgt) ks]]) _ _ _ _
      rw [e] at R2 ⊢
      exact node_label_7 (node_block R2 hkd') rfl hnew l1 l2
    · exact node_label_10 (node_do R1 (one_node _ _ _) (by omega)) rfl hnew l1 l2
end Go.Proofs.YtjkgefnlennbjaaGreatDoor
