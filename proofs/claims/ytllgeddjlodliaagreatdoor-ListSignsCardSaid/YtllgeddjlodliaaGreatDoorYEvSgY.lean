/- ListSigns: the law, walked. Condition: the tables hold what their initialisers lay; what the rounds come to. -/
import Derived.Test.YtllgeddjlodliaaGreatDoorYEvSgZ
import Derived.Deep.RegionHeld3
namespace Go.Proofs.YtllgeddjlodliaaGreatDoor
open Go.Ev Go.RowKit
set_option maxHeartbeats 8000000
set_option maxRecDepth 100000
theorem law_walk {W : World} (hA : At W) (Fs : SgFacts) (hM : fM = true) (hF : fW = true) (hE : fE = true) (p : Option Addr) (cap : Nat) (us : List Nat) (hn : us.length ≤ 500) (hu : ∀ u ∈ us, u < 65536) (hc : ∀ j, j < us.length → ∃ b off, p = some ⟨b, off, none⟩ ∧ b < W.heap.size ∧ W.cell? ⟨b, off + j, none⟩ = some (.int .u16 ((us.getD j 0 : Nat) : Int))) :
    Calls Tryz.prog 3 #[.slice p us.length cap] W fun e w' => e = .returned (.bool true) ∧ Below W.heap.size W w' := by
  obtain ⟨i0, hi, hz0, hz1, hz2⟩ := info_at (P := Tryz.prog) (t := 3) (z := .int .i64 0) (s := 1) (b := 8) (by kernel_rfl) (by kernel_rfl) (by kernel_rfl)
  go_enter Tryz.func3, Tryz.ntmps3
  go_wp2_with (go_at_call 6; refine (fit_calls hA).mono ?_)
  rintro e w1 ⟨rfl, r1, st1⟩
  go_wp2_with (go_at_call 7; refine (mac_calls hA hM st1).mono ?_)
  rintro e w2 ⟨mb, msh, mc, r2, rfl, h22, st2, hnm⟩
  go_wp2
  have hB02 : Below W.heap.size W w2 := ⟨st2.os, st2.tape, st2.out, st2.size, fun k hk => st2.keep k hk (hA.begins.quiet.none k)⟩
  go_loopw [4, 22] (fun v i wr => ∃ k : Nat, k ≤ us.length ∧ i = .int .i64 k ∧ wr.ownsRow w2.heap.size 3 1 v k (uC (us.take k)) ∧ Below w2.heap.size w2 wr) (fun _ i _ => us.length - (Go.RowKit.intOf i).toNat)
  case atStart => exact ⟨0, Nat.zero_le _, rfl, World.ownsRow_nil _ _ _ _, Below.refl _ _⟩
  case round =>
    obtain ⟨k, hk, rfl, hown, hbw⟩ := hrel
    by_cases hlt : k < us.length
    · obtain ⟨b, off, rfl, hb, hc0⟩ := hc k hlt
      have hcx : wr.cell? ⟨b, off + k, none⟩ = some (.int .u16 ((us.getD k 0 : Nat) : Int)) := (hbw.cell (Nat.lt_of_lt_of_le hb hB02.size)).trans ((hB02.cell hb).trans hc0)
      have hux : us.getD k 0 < 65536 := hu _ (by simp [List.getD, hlt])
      have htk : us.take (k + 1) = us.take k ++ [us.getD k 0] := by rw [List.take_succ_eq_append_getElem hlt]; simp [List.getD, hlt]
      generalize hxe : us.getD k 0 = x at hcx hux htk
      have hwr : IntKind.i64.wrap (x : Int) = (x : Int) := wrapI x hux
      obtain ⟨X, hX⟩ : ∃ X : Int, (x : Int) = X := ⟨_, rfl⟩
      rw [hX] at hcx hwr
      clear hux hxe
      go_wp2_with (at_builtin; refine wpList_append_lies _ rfl (.tmp 26) (.tmp 29) 26 rfl w2.heap.size 3 i0 (.int .i64 0) 1 8 Tryz.underlying26 hi hz0 hz1 hz2 rfl (by decide) u4 k (uC (us.take k)) rfl (by exact hown.alloc _) ⟨wr.heap.size, 0, none⟩ 1 1 [.int .i64 X] rfl rfl (by exact news1 wr _ 3) (by intro u hu; exact one_c rfl hu) (by decide) (by unfold maxLen; omega) (by omega) (by have := hbw.size; simp; omega) _ rfl ?_)
      intro g1 cap1 wn hown2 hgrow2 hat2 hlt2
      have hb2 : Below w2.heap.size w2 wn := below_gen hbw ((Below.refl _ wr).alloc (Nat.le_refl _) _) hown hgrow2
      have R : wn.ownsRow w2.heap.size 3 1 (.slice (some ⟨g1, 0, none⟩) (k + 1) cap1) (k + 1) (uC (us.take (k + 1))) := by
        rw [htk]
        unfold uC at hown2 ⊢
        rw [List.map_append, List.map_cons, List.map_nil, hX]
        exact hown2
      clear hown2 hgrow2 hat2 hlt2 hown
      go_wp2
      go_roundw
      case rel => exact ⟨k + 1, by omega, by simp, R, hb2⟩
      case measure => simp [Go.RowKit.intOf]; omega
    · have hkl : k = us.length := by omega
      subst hkl
      have hown' : wr.ownsRow w2.heap.size 3 1 u4 us.length (uC us) := by rw [List.take_length] at hown; exact hown
      obtain ⟨x, y, hxy, hxs⟩ := sval_all (strS us)
      have c9 := str_any hown' hn hu
      clear hown
      go_wp2_with (go_at_call 9; refine c9.mono ?_)
      rintro e w3 ⟨rfl, hb3⟩
      have st3 := step_below (step_below st2 hbw) hb3
      go_wp2_with (go_at_call 8; refine (wlk_calls' hA hF st3 hnm h22 hxy hxs).mono ?_)
      rintro e w4 ⟨r4, rfl, h10, h22', st4, hkp⟩
      have hsz : (sval x y).size = 2 * us.length := by rw [hxs]; exact strS_size us
      have hq0 : Quiet (globEmb Tryz.prog W) hE0 W := quiet_next (n := 256) hA.begins.quiet (fun id h => glob_hi W (by omega))
      obtain ⟨w5, hw5⟩ : ∃ w5, w4.alloc (.cells #[.int .i64 9, .int .i64 38, .string ByteArray.empty] 29) = w5 := ⟨_, rfl⟩
      have hbA : Below w4.heap.size w4 w5 := by rw [← hw5]; exact (Below.refl _ w4).alloc (Nat.le_refl _) _
      have hc7 : ∀ j v, (#[.int .i64 9, .int .i64 38, .string ByteArray.empty] : Array Value)[j]? = some v → w5.cell? ⟨w4.heap.size, j, none⟩ = some v := by rw [← hw5]; intro j v hj; rw [World.cell?_alloc_at _ _ _ _ rfl]; exact hj
      have h7a : w5.cell? ⟨w4.heap.size, 0, none⟩ = some (.int .i64 9) := hc7 0 _ rfl
      have h7b : w5.cell? ⟨w4.heap.size, 1, none⟩ = some (.int .i64 38) := hc7 1 _ rfl
      have h7c : w5.cell? ⟨w4.heap.size, 2, none⟩ = some (.string ByteArray.empty) := hc7 2 _ rfl
      have hl7 : w4.heap.size < w5.heap.size := by rw [← hw5]; simp
      clear hc7
      have c10 := all_walk Fs hE (fun id h => glob_hi W (by omega)) hA.begins.gl hq0.base (step_below st4 hbA) h10 hxy (by omega) (by omega) h22' (show VRel r4 (.ptr 22 0) (.pointer (some ⟨mb, msh, none⟩)) from by have := VRel.ptr (r := r4) (id := 22) (o := 0) h22'; rw [Nat.zero_add] at this; exact this) (wk_rel r4)
      have hKp : ∀ g, w2.heap.size ≤ g → g < wr.heap.size → w4.heap[g]? = wr.heap[g]? ∧ ¬ Held r4 Sg.wlkS.h g := fun g hg hl => by
        have hl3 : g < w3.heap.size := Nat.lt_of_lt_of_le hl hb3.size
        have kp := hkp w3 (fun b => Held r2 Sg.macS.h b) ⟨fun _ _ _ => rfl, fun _ _ hh => hh, Nat.le_refl _⟩
        have hn2 : ¬ Held r2 Sg.macS.h g := fun hh => by have := st2.rel.held_lt hh; omega
        exact ⟨(kp.same g hl3 hn2).trans (hb3.block g hl), fun hh => hn2 (kp.held g hl3 hh)⟩
      have hl45 : wr.heap.size ≤ w4.heap.size := Nat.le_trans hb3.size (hkp w3 (fun b => Held r2 Sg.macS.h b) ⟨fun _ _ _ => rfl, fun _ _ hh => hh, Nat.le_refl _⟩).size
      clear hkp hnm st3 c9 hb3 h10 h22 hi hz0 hz1 hz2 hB02
      go_wp2_with (go_at_call 10; refine c10.mono ?_)
      clear c10 hw5
      rintro e w6 ⟨kk, lst, r6, hk6, rfl, st6, own6, free6, n22, kp6⟩
      have hkU : ∀ g, u4.ownBlock = some g → w6.heap[g]? = wr.heap[g]? := fun g hg => by
        obtain ⟨g1, g2⟩ := hown'.lt g hg
        obtain ⟨q1, q2⟩ := hKp g g1 g2
        have hl4 : g < w4.heap.size := by omega
        rw [kp6.same g (Nat.lt_of_lt_of_le hl4 hbA.size) q2, hbA.block g hl4, q1]
      have c11 := signs_any (ownsRow_at hown' hkU) hn hu
      have h7 : w6.cell? ⟨w4.heap.size, 0, none⟩ = w5.cell? ⟨w4.heap.size, 0, none⟩ ∧ w6.cell? ⟨w4.heap.size, 1, none⟩ = w5.cell? ⟨w4.heap.size, 1, none⟩ ∧ w6.cell? ⟨w4.heap.size, 2, none⟩ = w5.cell? ⟨w4.heap.size, 2, none⟩ := by
        have hb : w6.heap[w4.heap.size]? = w5.heap[w4.heap.size]? := kp6.same _ hl7 (fun hh => by have := st4.rel.held_lt hh; omega)
        exact ⟨World.cell?_of_block (w := w5) hb, World.cell?_of_block (w := w5) hb, World.cell?_of_block (w := w5) hb⟩
      rw [h7a, h7b, h7c] at h7
      have hl76 : w4.heap.size < w6.heap.size := Nat.lt_of_lt_of_le hl7 kp6.size
      clear hkU hKp kp6 free6 h7a h7b h7c hl7 hbA st4 h22' hl45 hown' hbw st2
      go_wp2_with (go_at_call 11; refine c11.mono ?_)
      clear c11
      rintro e w7 ⟨v7, rfl, sg7, hb7⟩
      obtain ⟨hkl, p1, cap1, p2, cap2, rfl, rfl, pr⟩ := pairs (f := (sval x y).size / 2) hxs (by omega) hu own6 hb7 sg7
      obtain ⟨sl, hsl⟩ : ∃ sl, signsL us = sl := ⟨_, rfl⟩
      rw [hsl] at hkl pr
      subst hkl
      have st7 := step_below st6 hb7
      obtain ⟨h71, h72, h73⟩ := h7
      have k71 := (hb7.cell hl76).trans h71
      have k72 := (hb7.cell hl76).trans h72
      have k73 := (hb7.cell hl76).trans h73
      have hl77 : w4.heap.size < w7.heap.size := Nat.lt_of_lt_of_le hl76 hb7.size
      clear hsl sg7 own6 st6 hb7 h71 h72 h73 hl76 hsz hu hn hc hxs
      go_wp2
      go_loopw [56] (fun i wq => ∃ k : Nat, k ≤ sl.length ∧ i = .int .i64 k ∧ Below w7.heap.size w7 wq) (fun i _ => sl.length - (Go.RowKit.intOf i).toNat)
      case atStart => exact ⟨0, Nat.zero_le _, rfl, Below.refl _ _⟩
      case round =>
        obtain ⟨k, hk, rfl, hbw⟩ := hrel
        by_cases hlt : k < sl.length
        · obtain ⟨ul, hul⟩ : ∃ ul, sl[k]? = some ul := ⟨sl[k], by simp [hlt]⟩
          obtain ⟨g, g', b, rfl, rfl, l1, l2, l3, c0, c1, c2, c3, hn, hu, hc⟩ := (pr.below hbw) k ul hul
          clear pr hul k71 k72 k73 hl77 st7 n22
          go_wp2
          obtain ⟨w9, hw9⟩ : ∃ w9, wr.alloc (Obj.cells #[.int .i64 7, .int .i64 0, .string (strS ul)] 29) = w9 := ⟨_, rfl⟩
          rw [hw9]
          have hB9 : Below wr.heap.size wr w9 := by rw [← hw9]; exact (Below.refl _ wr).alloc (Nat.le_refl _) _
          have hc9 : ∀ j v, (#[.int .i64 7, .int .i64 0, .string (strS ul)] : Array Value)[j]? = some v → w9.cell? ⟨wr.heap.size, j, none⟩ = some v := by rw [← hw9]; intro j v hj; rw [World.cell?_alloc_at _ _ _ _ rfl]; exact hj
          have hl9 : wr.heap.size < w9.heap.size := by rw [← hw9]; simp
          clear hw9
          have keep9 : ∀ w', Below w9.heap.size w9 w' → w'.cell? ⟨wr.heap.size, 0, none⟩ = some (.int .i64 7) ∧ w'.cell? ⟨wr.heap.size, 2, none⟩ = some (.string (strS ul)) ∧ w'.cell? ⟨g', k, none⟩ = some (.slice (some ⟨b, 0, none⟩) ul.length ul.length) ∧ Below w9.heap.size w9 w' := fun w' hb =>
            ⟨(hb.cell hl9).trans (hc9 0 _ rfl), (hb.cell hl9).trans (hc9 2 _ rfl), (hb.cell (Nat.lt_of_lt_of_le l2 hB9.size)).trans ((hB9.cell l2).trans c3), hb⟩
          obtain ⟨d0, d2, d3, d4⟩ := keep9 w9 (Below.refl _ _)
          have l39 : b < w9.heap.size := Nat.lt_of_lt_of_le l3 hB9.size
          have hc39 : ∀ j, j < ul.length → w9.cell? ⟨b, 0 + j, none⟩ = some (.int .i64 ((ul.getD j 0 : Nat) : Int)) := fun j hj => (hB9.cell l3).trans (hc j hj)
          clear hc9 hc c0 c1 c2 c3
          go_region_held3 (fun w' => w'.cell? ⟨wr.heap.size, 0, none⟩ = some (.int .i64 7) ∧ w'.cell? ⟨wr.heap.size, 2, none⟩ = some (.string (strS ul)) ∧ w'.cell? ⟨g', k, none⟩ = some (.slice (some ⟨b, 0, none⟩) ul.length ul.length) ∧ Below w9.heap.size w9 w')
            (first | exact ⟨d0, d2, d3, d4⟩ | exact keep9 _ hbS | exact keep9 _ d4.drew | exact keep9 _ hbS.drew | go_keep)
            (first | (go_at_call 9; refine (str_at l39 hn hu hc39 ?_).mono ?_; (first | assumption | (go_split_ands; assumption)); rintro e w' ⟨rfl, hbS⟩))
          have hbE := hbw.trans ((hB9.trans (hbS.mono hB9.size)).mono hbw.size)
          clear hbS d0 d2 d3 d4 keep9 hB9 hc39 hn hu l1 l2 l3 l39 hl9 hbw
          go_wp2
          go_roundw
          case rel => exact ⟨k + 1, by omega, by simp, hbE⟩
          case measure => simp [Go.RowKit.intOf]; omega
        · have hkl : k = sl.length := by omega
          subst hkl
          have st8 := step_below st7 hbw
          have c12 := again_walk Fs hq0.base hA.begins.gl hk6 st8 (show VRel r6 (.ptr 22 0) (.pointer (some ⟨mb, msh, none⟩)) from by have := VRel.ptr (r := r6) (id := 22) (o := 0) n22; rw [Nat.zero_add] at this; exact this) (wk_rel r6)
          have g71 := (hbw.cell hl77).trans k71
          have g72 := (hbw.cell hl77).trans k72
          have g73 := (hbw.cell hl77).trans k73
          clear k71 k72 k73 hl77 pr n22 st7 hq0
          go_wp2_with (go_at_call 10; refine c12.mono ?_)
          clear c12
          rintro e w9 ⟨rfl, r', h', st9⟩
          have stE := st8.trans st9
          have hE9 : Below W.heap.size W w9 := ⟨stE.os, stE.tape, stE.out, stE.size, fun k hk => stE.keep k hk (hA.begins.quiet.none k)⟩
          clear stE st8 st9 hbw
          go_wp2
          go_ret
          exact ⟨rfl, hE9⟩
end Go.Proofs.YtllgeddjlodliaaGreatDoor
