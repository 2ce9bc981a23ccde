/- EarlyLabels: the law's texts, their bytes; the law's example. Condition: the table holds what its initialiser lays. -/
import Derived.Test.YtjkgefnlennbjaaGreatDoorEvUt
import Derived.Laws.BytesString
import Derived.Laws.Entries
set_option linter.all false
namespace Go.Proofs.YtjkgefnlennbjaaGreatDoor
open Go.Ev Go.RowKit
set_option maxHeartbeats 8000000
set_option maxRecDepth 100000

/-- What the law writes behind a label, by its kind; what closes it. -/
def ktB (k : Nat) : List UInt8 := match k with
  | 0 => [119, 104, 105, 108, 101, 32, 40, 49, 41, 32]
  | 1 => [102, 111, 114, 32, 40, 99, 111, 110, 115, 116, 32, 120, 32, 111, 102, 32, 121, 41, 32]
  | 2 => [123, 32]
  | _ => [100, 111, 32]
def clB (k : Nat) : List UInt8 := match k with
  | 0 => []
  | 1 => []
  | 2 => [32, 125]
  | _ => [32, 119, 104, 105, 108, 101, 32, 40, 49, 41, 59]
def hdB (i : Nat) : List Nat → List UInt8
  | [] => []
  | k :: ks => [108, UInt8.ofNat (97 + i), 58, 32] ++ ktB k ++ hdB (i + 1) ks
def tlB : List Nat → List UInt8
  | [] => []
  | k :: ks => tlB ks ++ clB k
theorem hdB_snoc (k : Nat) : ∀ (ks : List Nat) (i : Nat), hdB i (ks ++ [k]) = hdB i ks ++ ([108, UInt8.ofNat (97 + (i + ks.length)), 58, 32] ++ ktB k)
  | [], i => by simp [hdB]
  | q :: ks, i => by
    rw [List.cons_append, hdB, hdB, hdB_snoc k ks (i + 1), List.length_cons, show i + 1 + ks.length = i + (ks.length + 1) by omega]
    simp [List.append_assoc]
theorem kt_len (k : Nat) : (ktB k).length ≤ 19 := by unfold ktB; split <;> decide
theorem cl_len (k : Nat) : (clB k).length ≤ 11 := by unfold clB; split <;> decide
theorem hdB_len : ∀ (ks : List Nat) (i : Nat), (hdB i ks).length ≤ 23 * ks.length
  | [], _ => by simp [hdB]
  | k :: ks, i => by
    have h1 := kt_len k
    have h2 := hdB_len ks (i + 1)
    simp only [hdB, List.length_append, List.length_cons, List.length_nil]
    omega
theorem tlB_len : ∀ (ks : List Nat), (tlB ks).length ≤ 11 * ks.length
  | [] => by simp [tlB]
  | k :: ks => by
    have h1 := cl_len k
    have h2 := tlB_len ks
    simp only [tlB, List.length_append, List.length_cons]
    omega
theorem opn_kt (k : Nat) : psB (opn k) ++ [32] = [32] ++ ktB k := by
  rcases k with _ | _ | _ | k <;> rfl
theorem cls_cl (k : Nat) : psB (cls k) = clB k := by
  rcases k with _ | _ | _ | k <;> rfl
theorem lblB : ∀ i, i < 15 → tB (tLbl i) = [108, UInt8.ofNat (97 + i)] := by decide
theorem lev_bytes (mid : List (Bool × Tok)) (M : List UInt8) (hm : psB mid = [32] ++ M) : ∀ (ks : List Nat) (i : Nat), i + ks.length ≤ 15 → psB (lev i mid ks) = [32] ++ (hdB i ks ++ (M ++ tlB ks))
  | [], i, _ => by rw [lev, hm]; simp [hdB, tlB]
  | k :: ks, i, h => by
    simp only [List.length_cons] at h
    have ih := lev_bytes mid M hm ks (i + 1) (by omega)
    have e1 : pB (true, tLbl i) = [32, 108, UInt8.ofNat (97 + i)] := by
      show [32] ++ tB (tLbl i) = _
      rw [lblB i (by omega)]
      rfl
    have e2 : pB (false, tS 58) = [58] := rfl
    have e3 := opn_kt k
    rw [lev, psB_cons, psB_cons, psB_append, psB_append, ih, e1, e2, cls_cl, hdB, tlB]
    have e4 : psB (opn k) ++ ([32] ++ (hdB (i + 1) ks ++ (M ++ tlB ks)) ++ clB k) = [32] ++ ktB k ++ ((hdB (i + 1) ks ++ (M ++ tlB ks)) ++ clB k) := by
      rw [← e3]
      simp [List.append_assoc]
    rw [e4]
    simp [List.append_assoc]
theorem pcsE_bytes (again : Bool) (tgt : Option Nat) (M : List UInt8) (hm : psB (leaf again tgt) = [32] ++ M) (ks : List Nat) (h : ks.length ≤ 12) : psB (pcsE again tgt ks) = [108, 101, 116, 32, 121, 59, 32] ++ (hdB 0 ks ++ (M ++ tlB ks)) := by
  rw [pcsE, psB_cons, psB_cons, psB_cons, lev_bytes _ M hm ks 0 (by omega)]
  rfl
def wordB (again : Bool) : List UInt8 := match again with | false => [98, 114, 101, 97, 107] | true => [99, 111, 110, 116, 105, 110, 117, 101]
theorem leaf_none (again : Bool) : psB (leaf again none) = [32] ++ (wordB again ++ [59]) := by cases again <;> rfl
theorem leaf_some (again : Bool) (m : Nat) (hm : m < 15) : psB (leaf again (some m)) = [32] ++ (wordB again ++ [32, 108] ++ [UInt8.ofNat (97 + m)] ++ [59]) := by
  have e : pB (true, tLbl m) = [32] ++ [108, UInt8.ofNat (97 + m)] := by
    show [32] ++ tB (tLbl m) = _
    rw [lblB m hm]
  have e2 : psB (leaf again (some m)) = pB (true, if again then tCont else tBreak) ++ (pB (true, tLbl m) ++ (pB (false, tS 59) ++ [])) := rfl
  rw [e2, e]
  cases again <;> rfl
theorem dat_append (a b : ByteArray) : (a ++ b).data.toList = a.data.toList ++ b.data.toList := by rw [ByteArray.data_append, Array.toList_append]
/-! What comes of it. -/
theorem levF_none (again : Bool) : ∀ (ks : List Nat) (i : Nat) (Li Ai : List Nat) (k : Nat), levF again none i Li Ai k ks = ((k == 0) && ks.all (· == 2))
  | [], i, Li, Ai, k => by cases again <;> simp [levF, leafF]
  | kd :: ks, i, Li, Ai, k => by
    by_cases h : kd = 2
    · subst h
      show levF again none (i + 1) (Li ++ [i]) Ai k ks = _
      rw [levF_none again ks]
      simp
    · have e : levF again none i Li Ai k (kd :: ks) = levF again none (i + 1) (Li ++ [i]) (Ai ++ [i]) (k + 1) ks := by
        rw [levF]
        exact h
      rw [e, levF_none again ks]
      have h' : (kd == 2) = false := by simpa using h
      simp [h']
theorem levF_break (m : Nat) : ∀ (ks : List Nat) (i : Nat) (Li Ai : List Nat) (k : Nat), (∀ x, x ∈ Li ↔ x < i) → levF false (some m) i Li Ai k ks = !(decide (m < i + ks.length))
  | [], i, Li, Ai, k, h => by
    have := h m
    by_cases hm : m < i
    · have h1 := this.2 hm
      simp [levF, leafF, hm, h1]
    · have h1 : m ∉ Li := fun q => hm (this.1 q)
      simp [levF, leafF, hm, h1]
  | kd :: ks, i, Li, Ai, k, h => by
    have h2 : ∀ x, x ∈ Li ++ [i] ↔ x < i + 1 := fun x => by
      rw [List.mem_append, h x]
      simp
      omega
    have e : ∃ A' k', levF false (some m) i Li Ai k (kd :: ks) = levF false (some m) (i + 1) (Li ++ [i]) A' k' ks := by
      by_cases h2 : kd = 2
      · subst h2
        exact ⟨_, _, rfl⟩
      · refine ⟨Ai ++ [i], k + 1, ?_⟩
        rw [levF]
        exact h2
    obtain ⟨A', k', e⟩ := e
    rw [e, levF_break m ks (i + 1) (Li ++ [i]) A' k' h2, List.length_cons, show i + 1 + ks.length = i + (ks.length + 1) by omega]
theorem levF_again (m : Nat) : ∀ (ks : List Nat) (i : Nat) (Li Ai : List Nat) (k : Nat), (∀ x ∈ Ai, x < i) → (Ai ≠ [] → 0 < k) → levF true (some m) i Li Ai k ks = !(Ai.contains m || (decide (i ≤ m) && (match ks[m - i]? with | some kd => !(kd == 2) | none => false)))
  | [], i, Li, Ai, k, h, h0 => by
    by_cases hA : Ai.contains m = true
    · have hne : Ai ≠ [] := fun q => by rw [q] at hA; simp at hA
      have := h0 hne
      have hk : (k == 0) = false := by simp; omega
      simp [levF, leafF, hk]
    · have hA' : Ai.contains m = false := by simpa using hA
      simp [levF, leafF]
      intro _
      simpa using hA
  | kd :: ks, i, Li, Ai, k, h, h0 => by
    by_cases h2 : kd = 2
    · subst h2
      have e : levF true (some m) i Li Ai k (2 :: ks) = levF true (some m) (i + 1) (Li ++ [i]) Ai k ks := rfl
      rw [e, levF_again m ks (i + 1) (Li ++ [i]) Ai k (fun x hx => by have := h x hx; omega) h0]
      congr 2
      by_cases hm : i ≤ m
      · rcases Nat.eq_or_lt_of_le hm with rfl | hlt
        · have q : ¬ (i + 1 ≤ i) := by omega
          simp [q]
        · have : m - i = (m - (i + 1)) + 1 := by omega
          rw [this, List.getElem?_cons_succ]
          simp [hm, show i + 1 ≤ m by omega]
      · simp [hm, show ¬ (i + 1 ≤ m) by omega]
    · have e : levF true (some m) i Li Ai k (kd :: ks) = levF true (some m) (i + 1) (Li ++ [i]) (Ai ++ [i]) (k + 1) ks := by
        rw [levF]
        exact h2
      have hA2 : ∀ x ∈ Ai ++ [i], x < i + 1 := fun x hx => by
        rcases List.mem_append.1 hx with q | q
        · have := h x q; omega
        · simp at q; omega
      rw [e, levF_again m ks (i + 1) (Li ++ [i]) (Ai ++ [i]) (k + 1) hA2 (fun _ => by omega)]
      congr 1
      have h2' : (kd == 2) = false := by simpa using h2
      by_cases hm : i ≤ m
      · rcases Nat.eq_or_lt_of_le hm with rfl | hlt
        · simp [h2']
        · have q : m - i = (m - (i + 1)) + 1 := by omega
          rw [q, List.getElem?_cons_succ]
          have q2 : m ≠ i := by omega
          simp [hm, show i + 1 ≤ m by omega, q2]
      · have q2 : m ≠ i := by omega
        simp [hm, show ¬ (i + 1 ≤ m) by omega, q2]
theorem fit_calls {W : World} (hA : At W) : Calls Tryz.prog 4 #[] W fun e w' => e = .returned (.bool true) ∧ Below W.heap.size W w' := by
  have hq := hA.begins.quiet
  refine (fit_ok hA h0 (globEmb Tryz.prog W) W #[] hq.rel hA.begins.gl hq.base .nil).mono ?_
  rintro e w' ⟨z, r', rfl, st, hv⟩
  cases hv
  exact ⟨rfl, ⟨st.os, st.tape, st.out, st.size, fun k hk => st.keep k hk (hq.none k)⟩⟩
end Go.Proofs.YtjkgefnlennbjaaGreatDoor
