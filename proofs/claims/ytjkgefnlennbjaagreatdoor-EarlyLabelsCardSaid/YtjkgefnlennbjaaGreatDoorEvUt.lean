/- EarlyLabels: 'Source' of the law's texts. No condition. -/
import Derived.Test.YtjkgefnlennbjaaGreatDoorEvUs
set_option linter.all false
namespace Go.Proofs.YtjkgefnlennbjaaGreatDoor
open Go.Ev Go.RowKit
set_option maxHeartbeats 8000000
set_option maxRecDepth 100000

theorem len_opn (k : Nat) : (psB (opn k)).length + (psB (cls k)).length ≤ 19 := by
  unfold opn cls
  split <;> decide
theorem lbl_len : ∀ i, i < 15 → (tB (tLbl i)).length = 2 := by decide
theorem psB_lev (mid : List (Bool × Tok)) : ∀ (ks : List Nat) (i : Nat), i + ks.length ≤ 15 → (psB (lev i mid ks)).length ≤ (psB mid).length + 23 * ks.length
  | [], _, _ => by simp [lev]
  | k :: ks, i, h => by
    simp only [List.length_cons] at h
    have ih := psB_lev mid ks (i + 1) (by omega)
    have ho := len_opn k
    have hl := lbl_len i (by omega)
    have e : (psB (lev i mid (k :: ks))).length = (3 + 1) + ((psB (opn k)).length + ((psB (lev (i + 1) mid ks)).length + (psB (cls k)).length)) := by
      rw [lev, psB_cons, psB_cons, psB_append, psB_append]
      simp only [List.length_append, pB, hl, List.length_cons, List.length_nil, if_true]
      have : (tB (tS 58)).length = 1 := rfl
      simp [this]
      omega
    simp only [List.length_cons]
    omega
theorem psB_leaf : ∀ again : Bool, ∀ m, m < 15 → (psB (leaf again (some m))).length ≤ 13 := by decide
theorem psB_leaf0 : ∀ again : Bool, (psB (leaf again none)).length ≤ 13 := by decide
theorem psB_len (again : Bool) (tgt : Option Nat) (ht : ∀ m, tgt = some m → m < 15) (ks : List Nat) (hk : ks.length ≤ 12) : (psB (pcsE again tgt ks)).length ≤ 300 := by
  have h := psB_lev (leaf again tgt) ks 0 (by omega)
  have hl : (psB (leaf again tgt)).length ≤ 13 := by
    cases tgt with
    | none => exact psB_leaf0 again
    | some m => exact psB_leaf again m (ht m rfl)
  have e : (psB (pcsE again tgt ks)).length = 6 + (psB (lev 0 (leaf again tgt) ks)).length := by
    rw [pcsE, psB_cons, psB_cons, psB_cons]
    have h1 : (pB (false, tLet)).length = 3 := rfl
    have h2 : (pB (true, tY)).length = 2 := rfl
    have h3 : (pB (false, tS 59)).length = 1 := rfl
    simp only [List.length_append, h1, h2, h3]
    omega
  omega
theorem letS_ne : sval 7628140 3 ≠ ⟨#[99, 111, 110, 115, 116]⟩ := by intro q; cases q
theorem src_walk {W : World} (hA : At W) (again : Bool) (tgt : Option Nat) (ht : ∀ m, tgt = some m → m < 15) (k0 : Nat) (ks0 : List Nat) (hk : (k0 :: ks0).length ≤ 12) (h4 : ∀ k ∈ k0 :: ks0, k < 4) (s : ByteArray) (hs : s.data.toList = psB (pcsE again tgt (k0 :: ks0))) {w : World} (hB : Below W.heap.size W w) :
    Calls Tryz.prog 5 #[.string s] w (SrcEnd (levF again tgt 0 [] [] 0 (k0 :: ks0)) w) := by
  have hsz : s.size ≤ 1000 := by
    have h := psB_len again tgt ht (k0 :: ks0) hk
    rw [← hs] at h
    have : s.data.toList.length = s.size := Array.length_toList
    omega
  have hok := okPsE again tgt ht (k0 :: ks0) hk
  have hlen : (pcsE again tgt (k0 :: ks0)).length ≤ 200 := by
    have h := lev_len (leaf again tgt) (k0 :: ks0) 0
    have hl : (leaf again tgt).length ≤ 3 := by cases tgt <;> simp [leaf]
    have e : (pcsE again tgt (k0 :: ks0)).length = 3 + (lev 0 (leaf again tgt) (k0 :: ks0)).length := by rw [pcsE]; simp only [List.length_cons]; omega
    omega
  obtain ⟨ps, hps⟩ : ∃ ps, pcsE again tgt (k0 :: ks0) = ps := ⟨_, rfl⟩
  obtain ⟨M, hM⟩ : ∃ M, (lev 0 (leaf again tgt) (k0 :: ks0)).map (·.2) = M := ⟨_, rfl⟩
  have hT : ps.map (·.2) ++ [tEnd] = [tLet, tY, tS 59] ++ (M ++ [tEnd]) := by rw [← hps, ← hM]; simp [pcsE]
  have hMl : (lev 0 (leaf again tgt) (k0 :: ks0)).length = M.length := by rw [← hM, List.length_map]
  have hMle : M.length ≤ 200 := by
    have e : (pcsE again tgt (k0 :: ks0)).length = 3 + (lev 0 (leaf again tgt) (k0 :: ks0)).length := by rw [pcsE]; simp only [List.length_cons]; omega
    omega
  have hTl : (ps.map (·.2) ++ [tEnd]).length ≤ 900 := by simp; rw [hps] at hlen; omega
  have w0 : WinAt (ps.map (·.2) ++ [tEnd]) 0 40 := winL _ (pre := []) (win := [tLet, tY, tS 59]) (rest := M ++ [tEnd]) hT rfl rfl
  have w1 : WinAt (ps.map (·.2) ++ [tEnd]) 3 0 := by
    refine winL _ (pre := [tLet, tY, tS 59]) (win := [tLbl 0, tS 58]) (rest := ((opn k0).map (·.2) ++ ((lev 1 (leaf again tgt) ks0).map (·.2) ++ (cls k0).map (·.2))) ++ [tEnd]) ?_ rfl rfl
    rw [hT, ← hM]
    simp [lev]
  have w2 : WinAt (ps.map (·.2) ++ [tEnd]) (3 + M.length) 41 := winL _ (pre := [tLet, tY, tS 59] ++ M) (win := [tEnd]) (rest := []) (by rw [hT]; simp) (by simp; omega) rfl
  have KT := kTop
  have KT2 := kTop2
  have KE := kEnd
  simp only [Bool.and_eq_true] at KT KT2 KE
  rw [hps] at hok hs hlen
  have N1 : NodeOk (.mk 2 (sval 7628140 3) [.mk 3 (sval 0 0) [.mk 32 (sval 121 1) []]]) [] [] 0 false := node_let letS_ne (node_flat (.inl rfl) (fun t h => by simp at h; subst h; exact name_node _ _ _ _) (by simp))
  have N2 : NodeOk (levT 0 (leafT again tgt) (k0 :: ks0)) [] [] 0 (levF again tgt 0 [] [] 0 (k0 :: ks0)) := lev_node again tgt ht (k0 :: ks0) 0 [] [] 0 (fun x hx => by simp at hx) (fun x hx => by simp at hx) (by simp) (by simp) (by omega) (by omega) h4
  obtain ⟨R, hR⟩ : ∃ R, levT 0 (leafT again tgt) (k0 :: ks0) = .mk 19 (lblS 0) R := ⟨_, rfl⟩
  rw [hR] at N2
  refine source_core (s0 := ⟨#[]⟩) N1 N2 fun wq hq => ?_
  have PW := parse2_walk hA s ps hs hsz hok (by omega) (hB.trans (hq.mono hB.size)) (t1 := cLetY.tr) (t2 := .mk 19 (lblS 0) R) (n1 := 3) (n2 := 3 + M.length) (kd1 := 2) (kd2 := 1) (by decide) (by decide)
    (fun pb tb cap => ⟨ok_P KT.1 (win_ne 40 (by decide)) w0 (by omega), tkk_P KT.2 (win_ne 40 (by decide)) w0 (by omega)⟩)
    (fun pb tb cap w h => tree_P (t := cLetY) kLet rfl (win_ne 40 (by decide)) h w0 (by omega) (.cons (rP_ptr W 0 tb _ cap pb) .nil))
    (fun pb tb cap => ⟨ok_P KT2.2 (win_ne 0 (by decide)) w1 (by omega), tkk_P KT2.1 (win_ne 0 (by decide)) w1 (by omega)⟩)
    (fun pb tb cap w h => by
      have L := levs_walk (W := W) (pb := pb) (tb := tb) (len := ps.length + 1) (cap := cap) (T := ps.map (·.2) ++ [tEnd]) again tgt ht (k0 :: ks0) 0 [tLet, tY, tS 59] [tEnd] (by rw [hT, hM]) (by omega) h4 hTl
      rw [hMl, hR] at L
      exact item_stmt L.1 L.2 h)
    (fun pb tb cap => ⟨ok_P KE.1 (win_ne 41 (by decide)) w2 (by omega), tkk_P KE.2 (win_ne 41 (by decide)) w2 (by omega)⟩)
  rw [cLetY_tr] at PW
  exact PW
end Go.Proofs.YtjkgefnlennbjaaGreatDoor
