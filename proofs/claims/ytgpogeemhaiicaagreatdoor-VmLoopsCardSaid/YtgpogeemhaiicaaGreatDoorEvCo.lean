/- VmLoops: the contract of the compiler's call, whole. Condition: the world of EvExt. -/
import Derived.Test.YtgpogeemhaiicaaGreatDoorEvCn
set_option linter.all false
namespace Go.Proofs.YtgpogeemhaiicaaGreatDoor.Cm
open Go.Ev Go.Proofs.YtgpogeemhaiicaaGreatDoor.Sn Go.Proofs.YtgpogeemhaiicaaGreatDoor.Hd
set_option maxRecDepth 100000

theorem node_blk : ∃ vs : List V, vs.length = 6 ∧ vs[3]? = some (.cl1 0 528) ∧ (scS 528).h.mem.blk 976 = .live 6 124 false true (cellsOf vs) := ⟨[i 30, .cl2 0 316, E, .cl1 0 528, i 0, Z], rfl, rfl, by kernel_rfl⟩
/-- What the law's numbers are, read off a node. -/
theorem names_of {r : Emb} {w : World} (hr : Rel r (scS 528).h w) : ∃ X0 X1 X2, NmX r (pOf X0 X1 X2) X0 X1 X2 := by
  obtain ⟨vs, hl, h3, hb⟩ := node_blk
  obtain ⟨b, sh, m, e1, ⟨⟨cs, fz, ⟨ty, q1, _⟩, q2, q3, q4, q5⟩, _⟩⟩ := hr.blk 976 6 124 false true _ (by decide) hb
  obtain ⟨x, _, hx⟩ := q5 3 (by omega)
  rw [cellsOf_get vs (by omega) 3 (by omega)] at hx
  have e : vs[3]'(by omega) = .cl1 0 528 := (List.getElem?_eq_some_iff.1 h3).2
  rw [e] at hx
  obtain ⟨_, n, rfl, hn⟩ := nam_inv hx (by decide)
  rcases hn with ⟨q, _⟩ | ⟨_, q, _⟩ | ⟨_, _, X0, X1, X2, g0, g1, g2, ⟨b0, g3⟩, b1, b2, _, _⟩ | ⟨q, _⟩
  · omega
  · omega
  · exact ⟨X0, X1, X2, g0, g1, g2, g3, b0, b1, b2, pOf_ok X0 X1 X2⟩
  · omega
theorem optIs_some {o : Option Nat} {n : Nat} (h : optIs o n = true) : o = some n := by
  unfold optIs at h
  split at h
  · rw [Nat.eq_of_beq_eq_true h]
  · cases h
theorem cvX_mem : ∀ (xs : List Nat) (j0 : Nat) (v u : V), (v, u) ∈ cvX j0 xs → ∃ j x, xs[j]? = some x ∧ v = nmV (j0 + j) ∧ u = i x
  | [], j0, v, u, h => by simp [cvX] at h
  | x :: xs, j0, v, u, h => by
    simp only [cvX, List.mem_cons, Prod.mk.injEq] at h
    rcases h with ⟨rfl, rfl⟩ | h
    · exact ⟨0, x, rfl, rfl, rfl⟩
    · obtain ⟨j, y, h1, h2, h3⟩ := cvX_mem xs (Nat.succ j0) v u h
      refine ⟨j + 1, y, h1, ?_, h3⟩
      rw [h2]
      congr 1
      show j0 + 1 + j = j0 + (j + 1)
      omega
theorem nmV_rel {r : Emb} {j x : Nat} (hj : j < 10) (hx : x ≤ 9) (hr : r (6008 + j) = some (x, 0, 0)) : VRel r (nmV j) (.int .i64 x) := by
  have e : nmV j = .msk 0 (4 * sPack (6008 + j) 1073741824 1073741824 0 9 + 1) := rfl
  rw [e]
  refine .sym ⟨?_, ?_, .inr ⟨x, 0, 0, ?_, ?_, ?_⟩⟩
  · rw [sPack_lo (by omega) (by omega) (by omega) (by omega)]; omega
  · rw [sPack_hi (by omega) (by omega) (by omega) (by omega)]; omega
  · rw [sPack_id (by omega)]; exact hr
  · rw [sPack_c (by omega) (by omega)]; omega
  · rw [sPack_d (by omega) (by omega) (by omega)]; omega
theorem after_some {p : Nat} {xs : List Nat} {o : Option (V × H)} (h : afterC p xs o = true) : ∃ fid h1 n t ro pl c il io ilen icap ie cl clen ccap h2, o = some (.ptr fid 0, h1) ∧ h1.mem.blk fid = .live n t ro pl c ∧ c.get 8 = .slice il io ilen icap ie ∧ c.get 9 = .slice cl 0 clen ccap 3 ∧ 9 < n ∧ fid < 65536 ∧ xs.length = 10 ∧ (∀ x ∈ xs, x < clen ∧ x ≤ 9) ∧
    rises 0 0 (tS fid il h1.next).ents = true ∧ splitH cl xs h1 = some h2 ∧ turnX 5996 (xsL h1.next) (cvC p xs cl clen ccap) (fset fr0 0 (.ptr fid 0)) h2 (tS fid il h1.next) = true ∧ labsC (tS fid il h1.next) h1.next = true := by
  unfold afterC at h
  split at h
  · rename_i fid h1
    split at h
    · rename_i n t ro pl c hb
      split at h
      · rename_i il io ilen icap ie cl clen ccap e8 e9
        simp only [Bool.and_eq_true, Nat.blt_eq, List.all_eq_true] at h
        obtain ⟨⟨g1, g2, g3, g4, g5⟩, h⟩ := h
        split at h
        · rename_i h2 hs
          simp only [Bool.and_eq_true] at h
          exact ⟨fid, h1, n, t, ro, pl, c, il, io, ilen, icap, ie, cl, clen, ccap, h2, rfl, hb, e8, e9, g1, g2, Nat.eq_of_beq_eq_true g3, fun x hx => ⟨(g4 x hx).1, Nat.le_of_ble_eq_true (g4 x hx).2⟩, g5, hs, h.1, h.2⟩
        · cases h
      · cases h
    · cases h
  · cases h
theorem labsC_some {T : Snap} {N : Nat} (h : labsC T N = true) (j : Nat) (hj : j < 21) : sNm 5996 6019 (ntX (xsL N) (ntOf 5996 T.ents n4)) (5998 + j) = some (N + j) := by
  unfold labsC at h
  exact optIs_some (List.all_eq_true.1 h j (List.mem_range.2 hj))
theorem isNam_lt {id : Nat} (h : id < 40000) : isNam id = false := by
  unfold isNam
  have : Nat.ble 40000 id = false := by rw [← Bool.not_eq_true, Nat.ble_eq]; omega
  rw [this]
  rfl
/-- THE COMPILER'S CALL: a state with names comes of it. -/
theorem comp_inner {W : World} (hW : At W) {r : Emb} {w : World} {ys : Array Value} (hr : Rel r (scS 528).h w) (hg : GRel Tryz.prog r) (hba : Base W r (scS 528).h w) (hvs : VsRel r avC ys.toList) :
    Calls Tryz.prog 18 ys w fun e w' => ∃ z rT fid il N, e = .returned z ∧ rises 0 0 (tS fid il N).ents = true ∧ Step r (scS 528).h w rT (tS fid il N).h w' ∧ VRel rT (.ptr 5996 0) z := by
  obtain ⟨X0, X1, X2, hX⟩ := names_of hr
  have hin := pOf_in X0 X1 X2
  unfold inPat at hin
  obtain ⟨⟨p, xs⟩, hmem, hpe⟩ := List.any_eq_true.1 hin
  have hpe' : p = pOf X0 X1 X2 := Nat.eq_of_beq_eq_true hpe
  rw [← hpe'] at hX
  have hB := comp_all _ hmem
  unfold compB at hB
  simp only [Bool.and_eq_true] at hB
  obtain ⟨hR, hA⟩ := hB
  obtain ⟨fid, h1, n, t, ro, pl, c, il, io, ilen, icap, ie, cl, clen, ccap, h2, hc, hb, e8, e9, g1, g2, g3, g4, g5, hs, hT, hL⟩ := after_some hA
  -- the pattern is told
  obtain ⟨hd0, hs0⟩ := St.enter (P := Tryz.prog) (n := 0) (mask := 0) hr hg hba (.nil : VsRel r [] (#[] : Array Value).toList)
  obtain ⟨-, r2, -, -, hs2, st2, -⟩ := turnX_sound (nm := fun _ => none) hR (by decide) (by decide) (.inr fun _ => rfl) hr hg hd0 hs0 (Step.refl hr) (by
    intro r2 _ _ hle v u x hm hv
    have hX2 := hX.up hle
    simp only [cvR, List.mem_cons, Prod.mk.injEq, List.not_mem_nil, or_false] at hm
    have key : ∀ j, j < 3 → VRel r (.cl1 0 (528 + j)) x → VRel r2 (.cl1 0 (32 + 4 * p + j)) x := fun j hj h => by
      have := code_val hX (c := 528 + j) (by omega) (by omega) h
      rw [this, show (528 + j) % 4 = j by omega]
      exact code_rel hX2 hj
    rcases hm with ⟨rfl, rfl⟩ | ⟨rfl, rfl⟩ | ⟨rfl, rfl⟩
    · exact key 0 (by omega) hv
    · exact key 1 (by omega) hv
    · exact key 2 (by omega) hv)
  -- the call
  refine (((ext1_sound hW 300 3000) 18 avC (scS (codeP p)).h _ h1 hc).1 rfl r2 w ys hs2.rel hs2.gl hs2.base (hvs.up st2.le)).mono ?_
  rintro e w' ⟨z, r1, rfl, st1, hv⟩
  have hg1 : GRel Tryz.prog r1 := GRel.up st1.le hs2.gl
  -- where the constants lie
  obtain ⟨b, sh, m, hcl, hlen, hsz⟩ : ∃ b sh m, r1 cl = some (b, sh, m) ∧ 0 < clen ∧ clen ≤ clen := by
    obtain ⟨b, sh, m, _, ⟨⟨cs, fz, ⟨ty, q1, _⟩, q2, q3, q4, q5⟩, _⟩⟩ := st1.rel.blk fid n t ro pl c g2 hb
    obtain ⟨x, _, hx⟩ := q5 9 g1
    rw [e9] at hx
    have hpos : 0 < clen := by
      cases hxs : xs with
      | nil => rw [hxs] at g3; cases g3
      | cons y ys =>
        have := (g4 y (by rw [hxs]; simp)).1
        omega
    cases hx with
    | slice h1 h2 h3 h4 => exact ⟨_, _, _, h1, hpos, Nat.le_refl _⟩
    | slice0 h1 h3 => omega
  obtain ⟨r3, st3, k1, k2⟩ := split_sound st1.rel hs hcl clen 0
  have st03 := (st2.trans st1).trans st3
  obtain ⟨hd4, hs4⟩ := St.enter (P := Tryz.prog) (n := 0) (mask := 1) st3.rel (GRel.up st3.le hg1) (hba.step st03) (VsRel.cons (hv.up st3.le) .nil : VsRel r3 [.ptr fid 0] (#[z] : Array Value).toList)
  have e1 : args0 1 0 [V.ptr fid 0] fr0 = fset fr0 0 (.ptr fid 0) := rfl
  rw [e1] at hd4 hs4
  obtain ⟨-, rT, -, -, hsT, stT, -⟩ := turnX_sound (nm := fun _ => none) hT (by decide) (by decide) (.inr fun _ => rfl) hr hg hd4 hs4 st03 (by
    intro rT _ hbind hle v u x hm hv'
    have hX3 := hX.up st03.le
    have hXT := hX.up hle
    have lab : ∀ j, j < 21 → rT (5998 + j) = r3 (h1.next + j) := fun j hj => by
      have q1 := hbind (5998 + j) (isNam_lt (by omega))
      have q2 : sNm 5996 (tS fid il h1.next).nxt (ntX (xsL h1.next) (ntOf 5996 (tS fid il h1.next).ents n4)) (5998 + j) = some (h1.next + j) := labsC_some hL j hj
      rw [q2] at q1
      exact q1
    have view : ∀ j (hj : j < 10), ∃ x, xs[j]? = some x ∧ x < clen ∧ x ≤ 9 ∧ rT (5998 + j) = some (b, sh + x * 3, m) ∧ rT (6008 + j) = some (x, 0, 0) := fun j hj => by
      obtain ⟨x0, hx⟩ : ∃ x0, xs[j]? = some x0 := ⟨xs[j]'(by omega), List.getElem?_eq_getElem (by omega)⟩
      have hin := g4 _ (List.mem_of_getElem? hx)
      obtain ⟨a1, a2⟩ := k1 j _ hx
      refine ⟨_, hx, hin.1, hin.2, by rw [lab j (by omega)]; exact a1, ?_⟩
      have := lab (10 + j) (by omega)
      rw [show 5998 + (10 + j) = 6008 + j by omega] at this
      rw [this, ← Nat.add_assoc]
      have a3 := a2
      rw [g3] at a3
      exact a3
    unfold cvC at hm
    rcases List.mem_cons.1 hm with hm | hm
    · simp only [Prod.mk.injEq] at hm
      obtain ⟨rfl, rfl⟩ := hm
      have hiz : rT 6018 = some (clen, 0, 0) := by
        have := lab 20 (by omega)
        rw [show 5998 + 20 = 6018 by omega] at this
        rw [this, ← k2, g3]
      have es : satV = .msk 0 (4 * (5998 + 65536 * (6008 + 65536 * 6018)) + 3) := rfl
      rw [es]
      cases hv' with
      | slice a1 a2 a3 a4 =>
        rw [st3.le _ _ hcl] at a1
        cases a1
        refine .sat (by omega) (by omega) (fun j hj => ?_) hiz
        obtain ⟨x, _, x1, _, x2, x3⟩ := view j hj
        exact ⟨x, m, by rw [Nat.zero_add]; exact x2, x3, x1⟩
      | slice0 a1 a3 => omega
    · rcases List.mem_append.1 hm with hm | hm
      · obtain ⟨j, x, a1, rfl, rfl⟩ := cvX_mem xs 0 v u hm
        have hj : j < 10 := by have := (List.getElem?_eq_some_iff.1 a1).1; omega
        obtain ⟨y, y1, _, y2, _, y3⟩ := view j hj
        rw [a1] at y1
        cases y1
        cases hv'
        rw [Nat.zero_add]
        exact nmV_rel hj y2 y3
      · have := (List.mem_filter.1 hm).2
        exact num_turn hX3 hXT this hv')
  refine ⟨z, rT, fid, il, h1.next, rfl, g5, stT, ?_⟩
  have h0 := hsT.tm 0
  have e2 : fget (tS fid il h1.next).f 0 = .ptr 5996 0 := rfl
  rw [e2] at h0
  simpa [Array.getD_eq_getD_getElem?] using h0

/-- What the compiler's call comes to. -/
def compE (vs : List V) (h : H) : Option (V × H) :=
  bif Nat.beq h.next 5996 && (veqL vs avC && (snaple 5996 fr0 h (scS 528) && rises 0 0 (scS 528).ents)) then some (.ptr 5996 0, overlay h (scS 528) (tS 0 0 0)) else none
theorem overlay_tS (h : H) (fid il N : Nat) : overlay h (scS 528) (tS fid il N) = overlay h (scS 528) (tS 0 0 0) := rfl
theorem comp_ok {W : World} (hW : At W) {vs : List V} {h h' : H} {v : V} (he : compE vs h = some (v, h')) : CallOk Tryz.prog W 18 vs h v h' := by
  intro r w xs hr hg hba hvs
  unfold compE at he
  cases hb : (Nat.beq h.next 5996 && (veqL vs avC && (snaple 5996 fr0 h (scS 528) && rises 0 0 (scS 528).ents)))
  · rw [hb] at he; cases he
  rw [hb] at he
  simp only [cond_true, Option.some.injEq, Prod.mk.injEq] at he
  obtain ⟨rfl, rfl⟩ := he
  simp only [Bool.and_eq_true] at hb
  obtain ⟨b1, b2, b3, b5⟩ := hb
  have hlo : h.next ≤ 5996 := Nat.le_of_eq (Nat.eq_of_beq_eq_true b1)
  obtain rfl := veqL_eq b2
  obtain ⟨hd0, hs0⟩ := St.enter (P := Tryz.prog) (n := 0) (mask := 0) hr hg hba (.nil : VsRel r [] (#[] : Array Value).toList)
  obtain ⟨-, rS, hsS, stS, k1, k2⟩ := snap_sound2 b3 hlo hr hg hba hd0 hs0 (Step.refl hr)
  refine (comp_inner hW hsS.rel hsS.gl hsS.base (hvs.up stS.le)).mono ?_
  rintro e w' ⟨z, rT, fid, il, N, rfl, hrT, stT, hv⟩
  have stO := overlay_sound b5 hrT (by decide) hr hsS.rel k1 k2 stS.le stS.own stS.held stT
  rw [overlay_tS] at stO
  exact ⟨z, rT, rfl, stO, hv⟩
end Go.Proofs.YtgpogeemhaiicaaGreatDoor.Cm
