/- VmNatives: the contracts of the calls whose states are written down; the law's call with them. Condition: the world of EvExt. -/
import Derived.Test.YthhnpmanmcjhbaaGreatDoorEvExt
import Derived.Test.YthhnpmanmcjhbaaGreatDoorEvNq0
import Derived.Test.YthhnpmanmcjhbaaGreatDoorEvNq1
import Derived.Test.YthhnpmanmcjhbaaGreatDoorEvNq2
import Derived.Test.YthhnpmanmcjhbaaGreatDoorEvNq3
import Derived.Test.YthhnpmanmcjhbaaGreatDoorEvNr0
import Derived.Test.YthhnpmanmcjhbaaGreatDoorEvNr1
import Derived.Test.YthhnpmanmcjhbaaGreatDoorEvNr2
import Derived.Test.YthhnpmanmcjhbaaGreatDoorEvNr3
import Derived.Test.YthhnpmanmcjhbaaGreatDoorEvNr4
import Derived.Test.YthhnpmanmcjhbaaGreatDoorEvNb
namespace Go.Proofs.YthhnpmanmcjhbaaGreatDoor
open Go.Ev Nc

theorem px_all (n : Nat) (h : n < 9) : pieceC 14 call1 5 (avX n) xS (xT n) = true :=
  match n, h with
  | 0, _ => px0
  | 1, _ => px1
  | 2, _ => px2
  | 3, _ => px3
  | 4, _ => px4
  | 5, _ => px5
  | 6, _ => px6
  | 7, _ => px7
  | 8, _ => px8
  | q + 9, h => absurd h (by omega)
theorem po_all (n : Nat) (h : n < 9) : pieceC 210 call1 47 avO (oS n) (oT n) = true :=
  match n, h with
  | 0, _ => List.all_eq_true.1 po0 0 (by decide)
  | 1, _ => List.all_eq_true.1 po0 1 (by decide)
  | 2, _ => List.all_eq_true.1 po0 2 (by decide)
  | 3, _ => List.all_eq_true.1 po0 3 (by decide)
  | 4, _ => List.all_eq_true.1 po0 4 (by decide)
  | 5, _ => List.all_eq_true.1 po1 0 (by decide)
  | 6, _ => List.all_eq_true.1 po1 1 (by decide)
  | 7, _ => List.all_eq_true.1 po1 2 (by decide)
  | 8, _ => List.all_eq_true.1 po1 3 (by decide)
  | q + 9, h => absurd h (by omega)
theorem st_all (k n : Nat) (hk : k ≤ n) (h : n < 9) : ∀ lo, (k, lo) ∈ stepL → pieceC lo call1 49 avS (sS k n) (sT k n) = true := by
  intro lo hm
  simp only [stepL, List.mem_cons, Prod.mk.injEq, List.not_mem_nil, or_false] at hm
  rcases hm with ⟨rfl, rfl⟩ | ⟨rfl, rfl⟩ | ⟨rfl, rfl⟩ | ⟨rfl, rfl⟩ | ⟨rfl, rfl⟩ | ⟨rfl, rfl⟩ | ⟨rfl, rfl⟩ | ⟨rfl, rfl⟩ | ⟨rfl, rfl⟩
  · by_cases hc : n < 5
    · have h1 := List.all_eq_true.1 st0_0 (n - 0) (List.mem_range.2 (by omega))
      rw [show n - 0 + 0 = n by omega] at h1
      exact h1
    · have h1 := List.all_eq_true.1 st0_1 (n - 5) (List.mem_range.2 (by omega))
      rw [show n - 5 + 5 = n by omega] at h1
      exact h1
  · by_cases hc : n < 5
    · have h1 := List.all_eq_true.1 st1_0 (n - 1) (List.mem_range.2 (by omega))
      rw [show n - 1 + 1 = n by omega] at h1
      exact h1
    · have h1 := List.all_eq_true.1 st1_1 (n - 5) (List.mem_range.2 (by omega))
      rw [show n - 5 + 5 = n by omega] at h1
      exact h1
  · by_cases hc : n < 6
    · have h1 := List.all_eq_true.1 st2_0 (n - 2) (List.mem_range.2 (by omega))
      rw [show n - 2 + 2 = n by omega] at h1
      exact h1
    · have h1 := List.all_eq_true.1 st2_1 (n - 6) (List.mem_range.2 (by omega))
      rw [show n - 6 + 6 = n by omega] at h1
      exact h1
  · by_cases hc : n < 6
    · have h1 := List.all_eq_true.1 st3_0 (n - 3) (List.mem_range.2 (by omega))
      rw [show n - 3 + 3 = n by omega] at h1
      exact h1
    · have h1 := List.all_eq_true.1 st3_1 (n - 6) (List.mem_range.2 (by omega))
      rw [show n - 6 + 6 = n by omega] at h1
      exact h1
  · have h1 := List.all_eq_true.1 st4_0 (n - 4) (List.mem_range.2 (by omega))
    rw [show n - 4 + 4 = n by omega] at h1
    exact h1
  · have h1 := List.all_eq_true.1 st5_0 (n - 5) (List.mem_range.2 (by omega))
    rw [show n - 5 + 5 = n by omega] at h1
    exact h1
  · have h1 := List.all_eq_true.1 st6_0 (n - 6) (List.mem_range.2 (by omega))
    rw [show n - 6 + 6 = n by omega] at h1
    exact h1
  · have h1 := List.all_eq_true.1 st7_0 (n - 7) (List.mem_range.2 (by omega))
    rw [show n - 7 + 7 = n by omega] at h1
    exact h1
  · have h1 := List.all_eq_true.1 st8_0 (n - 8) (List.mem_range.2 (by omega))
    rw [show n - 8 + 8 = n by omega] at h1
    exact h1

theorem stepG_ok {W : World} (hW : At W) {n : Nat} (hn : n < 9) : ∀ (l : List (Nat × Nat)), (∀ p ∈ l, p ∈ stepL) → ∀ {vs : List V} {h h' : H} {v : V}, stepG n vs h l = some (v, h') → CallOk Tryz.prog W 49 vs h v h'
  | [], _, _, _, _, _, he => by cases he
  | (k, lo) :: l, hl, vs, h, h', v, he => by
    unfold stepG at he
    cases hb : (Nat.beq h.next lo && Nat.ble k n)
    · rw [hb] at he
      exact stepG_ok hW hn l (fun p hp => hl p (List.mem_cons_of_mem _ hp)) he
    · rw [hb] at he
      simp only [Bool.and_eq_true] at hb
      exact callE_ok (ext1_sound hW 300 3000) rfl (st_all k n (Nat.le_of_ble_eq_true hb.2) hn lo (hl _ (List.mem_cons_self ..))) he

theorem extN_ok {W : World} (hW : At W) {n : Nat} (hn : n < 9) (g : FuncId) (hg : isExtN g = true) (vs : List V) (h : H) (v : V) (h' : H) (he : extN n g vs h = some (v, h')) : CallOk Tryz.prog W g vs h v h' := by
  unfold extN at he
  cases h1 : Nat.beq g 5
  · rw [h1] at he
    simp only [cond_false] at he
    cases h2 : Nat.beq g 47
    · rw [h2] at he
      simp only [cond_false] at he
      cases h3 : Nat.beq g 49
      · rw [h3] at he
        simp only [cond_false] at he
        refine ext_ok2 hW g ?_ vs h v h' he
        unfold isExtN at hg
        rw [h1, h2, h3] at hg
        exact hg
      · rw [h3] at he
        obtain rfl := Nat.eq_of_beq_eq_true h3
        exact stepG_ok hW hn stepL (fun _ h => h) he
    · rw [h2] at he
      obtain rfl := Nat.eq_of_beq_eq_true h2
      exact callE_ok (ext1_sound hW 300 3000) rfl (po_all n hn) he
  · rw [h1] at he
    obtain rfl := Nat.eq_of_beq_eq_true h1
    exact callE_ok (ext1_sound hW 300 3000) rfl (px_all n hn) he

theorem headN_ok {W : World} (hW : At W) {n : Nat} (hn : n < 9) {s : Nat} {b : Bool} (hb : headN n s b = true) : ∃ h', CallOk Tryz.prog W 3 [.cls 9 n, .cls 12 s, .bool b] h0 (.bool true) h' := by
  unfold headN at hb
  split at hb
  · rename_i b' h' he
    subst hb
    refine ⟨h', ?_⟩
    have hA : CallFnOk Tryz.prog W (callS Tryz.prog (extN n) isExtN mask tab 3000 300) := by
      rw [callS_eq _ _ _ tabOk]
      exact callN_sound (by kernel_rfl) (extN_ok hW hn) noNum progOk (fun call hc => draws call hc) 300
    exact (hA 3 _ h0 _ h' he).1 rfl
  · cases hb

end Go.Proofs.YthhnpmanmcjhbaaGreatDoor
