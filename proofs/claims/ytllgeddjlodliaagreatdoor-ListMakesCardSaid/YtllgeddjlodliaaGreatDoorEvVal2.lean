/- A seed's value, by contract, wherever it is called. Condition: the tables hold what their initialisers lay. -/
import Derived.Test.YtllgeddjlodliaaGreatDoorEvVal
namespace Go.Proofs.YtllgeddjlodliaaGreatDoor
open Go.Ev

theorem cell_same {W w : World} (hs : ∀ b, b < W.heap.size → w.heap[b]? = W.heap[b]?) {b o : Nat} {v : Value} (h : W.cell? ⟨b, o, none⟩ = some v) : w.cell? ⟨b, o, none⟩ = some v := by
  obtain ⟨cs, t, fz, hc⟩ := cells_of h
  have := hs b (Array.getElem?_eq_some_iff.1 hc).1
  unfold World.cell? at h ⊢
  rw [this]
  exact h
theorem at_same {W w : World} (hW : At W) (hs : ∀ b, b < W.heap.size → w.heap[b]? = W.heap[b]?) : At w :=
  { tab := fun i hi => cell_same hs (hW.tab i hi), len0 := cell_same hs hW.len0, len1 := cell_same hs hW.len1, len2 := cell_same hs hW.len2 }
theorem valN_at {q : Nat} (hq : q < 11) : valB q 0 (.cl2 0 60) = true := List.all_eq_true.1 valN_true q (List.mem_range.2 hq)
theorem valS_at {q L : Nat} (hq : q < 11) (hL : L ≤ 50) : valB q L (.slice 8 0 L L 1) = true :=
  List.all_eq_true.1 (List.all_eq_true.1 valS_true L (List.mem_range.2 (by omega))) q (List.mem_range.2 hq)
theorem glob8 (w : World) : globEmb Tryz.prog w 8 = none := by
  have : Tryz.prog.globals.size = 8 := by kernel_rfl
  simp [globEmb, this]
theorem isU16_eq {k : Blk} (h : isU16 k = true) : k = .u16b := by
  cases k <;> first | rfl | (simp [isU16] at h)

theorem val_ok {W : World} (hW : At W) {vs : List V} {h h' : H} {v : V} (he : valV vs h = some (v, h')) : CallOk Tryz.prog W 19 vs h v h' := by
  unfold valV at he
  split at he
  · rename_i a b c
    cases hb : ((Nat.beq (Nat.mod a 8) 0 && Nat.beq (Nat.mod b 8) 0) && (Nat.beq (Nat.mod c 8) 3 && (Nat.blt (Nat.div c 8) 65536 && isU16 (h.mem.blk (Nat.div c 8))))) <;> simp only [hb, cond_true, cond_false, reduceCtorEq, Option.some.injEq, Prod.mk.injEq] at he
    obtain ⟨rfl, rfl⟩ := he
    simp only [Bool.and_eq_true, Nat.blt_eq] at hb
    obtain ⟨⟨ha, hb'⟩, hc, hlt, hu⟩ := hb
    intro r w xs hr hg hba hx
    obtain ⟨xs⟩ := xs
    cases hx with
    | cons hx hnil =>
      cases hnil
      cases hx with
      | @agg _ zs hz =>
        obtain ⟨zs⟩ := zs
        cases hz with
        | cons z0 hz =>
          cases hz with
          | cons z1 hz =>
            cases hz with
            | cons z2 hz =>
              cases hz
              obtain ⟨_, _, _, _, rfl⟩ := name0_inv z0 (Nat.eq_of_beq_eq_true ha)
              obtain ⟨_, _, _, _, rfl⟩ := name0_inv z1 (Nat.eq_of_beq_eq_true hb')
              obtain ⟨x, y, cc, z, o, cap, hr3, hz50, ho, rfl⟩ := name3_inv z2 (Nat.eq_of_beq_eq_true hc)
              have hq0 : Quiet (globEmb Tryz.prog w) h0 w := (at_same hW hba.same).begins.quiet
              have hgl : GRel Tryz.prog (globEmb Tryz.prog w) := (at_same hW hba.same).begins.gl
              obtain ⟨q, hq, hk⟩ := cls11 _
              rcases ho with ⟨rfl, hcap, hzc⟩ | ⟨rfl, rfl⟩
              · by_cases hz0 : z = 0
                · subst hz0
                  have hq1 := hq0.nam (id := 8) (by decide) (glob8 w) (x, 0, y + cap)
                  exact val_names hq1 (GRel.up (Emb.le_put _ _ _ (glob8 w)) hgl) hr (L := 0) (s := .slice 8 0 0 0 1) rfl (valS_at hq (by omega)) (hk _) (.slice0 (Emb.put_same _ _ _) (by omega))
                · obtain ⟨b1, sh1, m1, e1, e2⟩ := hr.fit (c / 8) hlt (by
                    have := isU16_eq hu
                    have e : h.mem.blk (c / 8) = .u16b := this
                    rw [e]; rfl)
                  rw [hr3] at e1
                  cases e1
                  have e : h.mem.blk (c / 8) = .u16b := isU16_eq hu
                  rw [e] at e2
                  obtain ⟨_, e3⟩ := e2
                  rcases e3 with e3 | ⟨cs, t, fz, g1, g2, ys, g3, g4⟩
                  · omega
                  · have hlen : (ys.take z).length = z := by rw [List.length_take]; omega
                    have hrel : VsRel ((globEmb Tryz.prog w).put 8 (x, y, cs.size)) (u16L z) ((ys.take z).map (Value.int .u16)) := by
                      have := u16L_rel ((globEmb Tryz.prog w).put 8 (x, y, cs.size)) (ys.take z)
                      rwa [hlen] at this
                    have hl : (u16L z).length = z := u16L_length z
                    have hfit := fits_range hrel g1 (by rw [hl]; omega) (fun j u hj => g4 j u (by
                      rw [List.map_take] at hj
                      rw [List.getElem?_take] at hj
                      split at hj
                      · exact hj
                      · cases hj)) (by rw [hl]; omega)
                    rw [hl] at hfit
                    have hq1 := hq0.lab (id := 8) (by omega) (by decide) (glob8 w) rfl hfit
                    have hLv : h0.setB 8 (.live z 0 true false (cellsOf (u16L z))) = hV z := by
                      unfold hV
                      cases hbz : Nat.beq z 0
                      · rfl
                      · exact absurd (Nat.eq_of_beq_eq_true hbz) hz0
                    have hsl : VRel ((globEmb Tryz.prog w).put 8 (x, y, cs.size)) (.slice 8 0 z z 1) (.slice (some ⟨x, y, none⟩) z cap) := by
                      have := VRel.slice (r := (globEmb Tryz.prog w).put 8 (x, y, cs.size)) (id := 8) (o := 0) (len := z) (cap := z) (esz := 1) (cap' := cap) (Emb.put_same _ _ _) (Nat.le_refl _) hzc (by show 0 + y + cap * 1 ≤ cs.size; omega)
                      rw [Nat.zero_add] at this
                      exact this
                    exact val_names hq1 (GRel.up (Emb.le_put _ _ _ (glob8 w)) hgl) hr (L := z) (s := .slice 8 0 z z 1) hLv (valS_at hq hz50) (hk _) hsl
              · exact val_names hq0 hgl hr (L := 0) (s := .cl2 0 60) rfl (valN_at hq) (hk _) .lvoid
  · cases he

end Go.Proofs.YtllgeddjlodliaaGreatDoor
