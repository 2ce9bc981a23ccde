/- A seed's value, by contract: it answers with a value whose kind is at most 7. Condition: the tables hold what their initialisers lay. -/
import Derived.Test.YtllgeddjlodliaaGreatDoorEvExt
namespace Go.Proofs.YtllgeddjlodliaaGreatDoor
open Go.Ev

theorem u16L_length : ∀ n, (u16L n).length = n
  | 0 => rfl
  | n + 1 => by rw [u16L, List.length_cons, u16L_length n]
theorem u16L_rel (r : Emb) : ∀ (xs : List Int), VsRel r (u16L xs.length) (xs.map (Value.int .u16))
  | [] => .nil
  | x :: xs => .cons (.uint (k := .u16) (fun h => by cases h)) (u16L_rel r xs)
theorem cls11 (n : Int) : ∃ q, q < 11 ∧ ∀ r, VRel r (.cls 11 q) (.int .i64 n) := by
  have h1 : n.tmod 11 < 11 := Int.tmod_lt_of_pos n (by omega)
  have h2 : -(11 : Int) < n.tmod 11 := Int.lt_tmod_of_pos n (by omega)
  obtain ⟨k, hk⟩ : ∃ k : Nat, n.tmod 11 + 11 = Int.ofNat k := ⟨(n.tmod 11 + 11).toNat, by simp only [Int.ofNat_eq_natCast]; omega⟩
  refine ⟨k % 11, Nat.mod_lt _ (by omega), fun r => .cls (m := 11) (by omega) ?_⟩
  show (n.tmod 11 + 11).tmod 11 = _
  rw [hk]
  rfl
theorem isI64_sound {r : Emb} {v : V} {x : Value} (h : isI64 v = true) (hx : VRel r v x) : ∃ n : Int, x = .int .i64 n := by
  unfold isI64 at h
  split at h
  · cases hx; exact ⟨_, rfl⟩
  · rename_i q
    obtain rfl := Nat.eq_of_beq_eq_true h
    exact uint_inv hx
  · cases h
theorem ustr_inv {r : Emb} {a : Value} (hx : VRel r (.cl2 0 63) a) : ∃ s : ByteArray, a = .string s := by
  generalize hv : V.cl2 0 63 = v at hx
  cases hx with
  | cl2 hm _ => cases hv; omega
  | @lslice L j b o z cap m hL h hj hz hj6 => simp only [V.cl2.injEq] at hv; omega
  | llen _ _ _ => simp only [V.cl2.injEq] at hv; omega
  | lbig _ => simp only [V.cl2.injEq] at hv; omega
  | lbigl _ => simp only [V.cl2.injEq] at hv; omega
  | lvoid => simp only [V.cl2.injEq] at hv; omega
  | @uint k n _ => simp only [V.cl2.injEq] at hv; have := kq_mod k; omega
  | ustr s => exact ⟨s, rfl⟩
  | _ => cases hv
theorem isS_sound {r : Emb} {v : V} {x : Value} (h : isS v = true) (hx : VRel r v x) : ∃ s : ByteArray, x = .string s := by
  unfold isS at h
  split at h
  · cases hx; exact ⟨_, rfl⟩
  · rename_i q
    obtain rfl := Nat.eq_of_beq_eq_true h
    exact ustr_inv hx
  · cases h

/-- A run that answers so: three names for it. -/
theorem val_names {w : World} {r r1 : Emb} {h h1 : H} (hq : Quiet r1 h1 w) (hg1 : GRel Tryz.prog r1) (hr : Rel r h w) {q L : Nat} {s : V} (hL : h1 = hV L) (hB : valB q L s = true) {k n : Int} {sv : Value}
    (hk : VRel r1 (.cls 11 q) (.int .i64 k)) (hs : VRel r1 s sv) :
    Calls Tryz.prog 19 #[.agg #[.int .i64 k, .int .i64 n, sv]] w fun e w' => ∃ z r', e = .returned z ∧ Step r h w r' h.more3 w' ∧
      VRel r' (.agg [.cls 0 (8 * h.next + 2), .cls 0 (8 * (h.next + 1)), .cls 0 (8 * (h.next + 2) + 1)]) z := by
  subst hL
  unfold valB at hB
  split at hB
  · rename_i kk nn t h' hc
    simp only [Bool.and_eq_true] at hB
    obtain ⟨b1, b2, b3⟩ := hB
    have hcall := (ext0_sound (W := w) 300 3000 19 _ _ _ h' hc).1 rfl
    refine (hcall r1 w _ hq.rel hg1 hq.base (.cons (.agg (.cons hk (.cons (.uint (k := .i64) (fun h => by cases h)) (.cons hs .nil)))) .nil)).mono ?_
    rintro e w' ⟨z, r2, rfl, st, hz⟩
    cases hz with
    | @agg _ zs hz =>
      obtain ⟨zs⟩ := zs
      cases hz with
      | @cons _ x0 _ _ z0 hz =>
        cases hz with
        | @cons _ x1 _ _ z1 hz =>
          cases hz with
          | @cons _ x2 _ _ z2 hz =>
            cases hz
            cases z0
            obtain ⟨n1, rfl⟩ := isI64_sound b2 z1
            obtain ⟨s1, rfl⟩ := isS_sound b3 z2
            obtain ⟨p, l, hp, rfl⟩ := sval_all s1
            have sl := st.left hq.none hr
            have stp := sl.names (kk, 0, 0) (nameI n1) (p, l, 0)
            refine ⟨_, _, rfl, stp, .agg (.cons (.nkind (y := 0) (z := 0) ?_ (Nat.le_of_ble_eq_true b1)) (.cons (rel_nameI ?_) (.cons (.nstr (z := 0) (Emb.put_same _ _ _) hp) .nil)))⟩
            · rw [Emb.put_other _ _ _ _ (by omega), Emb.put_other _ _ _ _ (by omega), Emb.put_same]
            · rw [Emb.put_other _ _ _ _ (by omega), Emb.put_same]
  · cases hB

end Go.Proofs.YtllgeddjlodliaaGreatDoor
