/- ParseLists: a call's arguments, by the parser: walked. No condition. -/
import Derived.Test.YtcaomilekhhhlaaDoorEvQm
namespace Go.Proofs.YtcaomilekhhhlaaDoor
open Go.Ev Go.RowKit
set_option maxHeartbeats 16000000
set_option maxRecDepth 100000

/-- How far the arguments are, as a measure: none behind a fault. -/
def mOf (pb : Nat) (w : World) : Nat := match w.cell? ⟨pb, 3, none⟩ with | some (.int _ n) => if n = 0 then 2001 - atOf pb w else 0 | _ => 0
theorem mOf_is {W w : World} {pb tb len cap j d : Nat} {T : List Tok} (h : Ps W w pb tb len cap j d T) : mOf pb w = 2001 - j := by
  have h1 := atOf_is h
  unfold mOf
  have : w.cell? ⟨pb, 3, none⟩ = some (.int .i64 0) := by
    have := h.hp.blk
    simp [World.cell?, this]
  rw [this]
  simp [h1]
theorem mOf_fault {W w : World} {pb tb len cap j d : Nat} {T : List Tok} (h : Pf W w pb tb len cap j d T) : mOf pb w = 0 := by
  obtain ⟨x, hx⟩ := h.hp.blk
  unfold mOf
  have : w.cell? ⟨pb, 3, none⟩ = some (.int .i64 4) := by simp [World.cell?, hx]
  rw [this]
  simp
theorem Ps.row {W w w' : World} {pb tb len cap j d B : Nat} {T : List Tok} (h : Ps W w pb tb len cap j d T) (hk : Below B w w') (hpB : pb < B) (htB : tb < B) (hWB : W.heap.size ≤ B) : Ps W w' pb tb len cap j d T := h.other hk hpB htB hWB
theorem Pf.row {W w w' : World} {pb tb len cap j d B : Nat} {T : List Tok} (h : Pf W w pb tb len cap j d T) (hk : Below B w w') (hpB : pb < B) (htB : tb < B) (hWB : W.heap.size ≤ B) : Pf W w' pb tb len cap j d T :=
  ⟨h.hB.trans (hk.mono hWB), h.hpb, ⟨by rw [hk.block pb hpB]; exact h.hp.blk⟩, h.hne, Nat.lt_of_lt_of_le h.htb hk.size, h.hlen, h.hT, fun i t hi => (h.toks i t hi).keep (hk.block tb htB)⟩
/-- The arguments are through, or there is a hole. -/
def ArgEnd (W w : World) (pb tb len cap j0 : Nat) (T : List Tok) (l : List Bool) (dr : Bool) : Prop :=
  ((∀ b ∈ l, b = true) ∧ Ps W w pb tb len cap (j0 + (toks l dr).length + 1) 3 T) ∨ (false ∈ l ∧ ∃ j, j ≤ 1000 ∧ WinAt T j 6 ∧ Pf W w pb tb len cap j 3 T)
theorem all_snoc {done : List Bool} (h : ∀ b ∈ done, b = true) : ∀ b ∈ done ++ [true], b = true := fun b hb => by
  rcases List.mem_append.1 hb with hb | hb
  · exact h b hb
  · simpa using hb
theorem args_walk {W w0 : World} {pb tb len cap j0 : Nat} {T : List Tok} (h0 : Ps W w0 pb tb len cap j0 3 T) (l0 : List Bool) (dr : Bool) (pre0 suf : List Tok) (hT : T = pre0 ++ (toks l0 dr ++ ((5, 41, 1) :: suf))) (hj0 : pre0.length = j0) (hl : l0.length ≤ 100) (hj10 : j0 ≤ 10) :
    Calls Tryd.prog 81 #[.pointer (some ⟨pb, 0, none⟩)] w0 fun e w' => ∃ v n xs, e = .returned v ∧ n ≤ 200 ∧ w'.ownsRow w0.heap.size 24 1 v n xs ∧ (n = 0 → v = .slice none 0 0) ∧ (∀ u ∈ xs, ∃ a, u = .pointer a) ∧ ArgEnd W w' pb tb len cap j0 T l0 dr ∧ Pk pb w0 w' := by
  obtain ⟨i0, hi, hz0, hz1, hz2⟩ := info_at (P := Tryd.prog) (t := 24) (z := .pointer none) (s := 1) (b := 8) (by kernel_rfl) (by kernel_rfl) (by kernel_rfl)
  have A := chkF_of
  have htl := toks_len l0 dr
  have hpB : pb < w0.heap.size := (Array.getElem?_eq_some_iff.1 h0.hp.blk).1
  have htB := h0.htb
  have hWB := h0.hB.size
  go_enter Tryd.func81, Tryd.ntmps81
  go_wp2
  go_loopw [3] (fun v wr => ∃ (n : Nat) (xs : List Value), n ≤ 150 ∧ wr.ownsRow w0.heap.size 24 1 v n xs ∧ (n = 0 → v = .slice none 0 0) ∧ (∀ u ∈ xs, ∃ a, u = .pointer a) ∧ Pk pb w0 wr ∧
    ((∃ (done rest : List Bool) (j : Nat) (pre : List Tok), l0 = done ++ rest ∧ (∀ b ∈ done, b = true) ∧ n = done.length ∧ T = pre ++ (toks rest dr ++ ((5, 41, 1) :: suf)) ∧ pre.length = j ∧ j0 + (toks l0 dr).length = j + (toks rest dr).length ∧ Ps W wr pb tb len cap j 3 T) ∨
     (false ∈ l0 ∧ ∃ j, j ≤ 1000 ∧ WinAt T j 6 ∧ Pf W wr pb tb len cap j 3 T))) (fun _ wr => mOf pb wr)
  case atStart => exact ⟨0, [], by omega, World.ownsRow_nil _ _ _ _, fun _ => rfl, fun u hu => by simp at hu, Pk.refl _ _, .inl ⟨[], l0, j0, pre0, rfl, fun b hb => by simp at hb, rfl, hT, hj0, rfl, h0⟩⟩
  case round =>
    obtain ⟨n, xs, hn, ho, hz, hx, kp, hst⟩ := hrel
    rcases hst with ⟨done, rest, j, pre, hl0, hdn, hnd, hTr, hj, hjn, ps⟩ | ⟨hf, j, hj1, hw, pf⟩
    · have hjl : j ≤ 300 := by omega
      have hm := mOf_is ps
      cases rest with
      | nil =>
        have hw : WinAt T j 11 := win_mid (win := [(5, 41, 1)]) (rest := suf) hTr hj rfl
        go_wp2_with (go_at_call 8; refine (bool1 A.ok11 rfl (by decide) ps hw (by omega)).mono ?_)
        rintro e w2 ⟨rfl, p2, k2⟩
        go_wp2_with (go_at_call 31; refine (bool2 A.tk11 rfl (by decide) (by decide) p2 hw (by omega)).mono ?_)
        rintro e w3 ⟨rfl, p3, k3⟩
        have k23 := k2.trans k3
        have ho3 := ownsRow_at ho (fun g hg => k23.block g (ho.lt g hg).2 (by have := (ho.lt g hg).1; omega))
        go_wp2
        go_ret
        refine ⟨_, n, xs, rfl, by omega, ho3, hz, hx, .inl ⟨?_, ?_⟩, kp.trans k23⟩
        · rw [hl0, List.append_nil]; exact hdn
        · have e : j0 + (toks l0 dr).length + 1 = j + 0 + 1 := by rw [hjn]; rfl
          rw [e]
          exact p3
      | cons b rest =>
        cases b with
        | false =>
          have e : toks (false :: rest) dr = tC :: toks rest dr := rfl
          have hw : WinAt T j 6 := win_mid (win := [tC]) (rest := toks rest dr ++ ((5, 41, 1) :: suf)) (by rw [hTr, e]; rfl) hj rfl
          go_wp2_with (go_at_call 8; refine (bool1 A.ok6 rfl (by decide) ps hw (by omega)).mono ?_)
          rintro e w2 ⟨rfl, p2, k2⟩
          go_wp2_with (go_at_call 31; refine (bool2 A.tk6 rfl (by decide) (by decide) p2 hw (by omega)).mono ?_)
          rintro e w3 ⟨rfl, p3, k3⟩
          go_wp2_with (go_at_call 90; refine (fault_P spF rfl (by decide) p3 hw (by omega)).mono ?_)
          rintro e w4 ⟨aa, rfl, p4, k4⟩
          have k24 := (k2.trans k3).trans k4
          have ho4 := ownsRow_at ho (fun g hg => k24.block g (ho.lt g hg).2 (by have := (ho.lt g hg).1; omega))
          have kv : ∀ g, u3.ownBlock = some g → w0.heap.size ≤ g := fun g hg => (ho4.lt g hg).1
          have kp4 := kp.trans k24
          go_wp2_with (at_builtin; refine wpList_append_lies _ rfl (.tmp 11) (.tmp 14) 30 rfl w0.heap.size 24 i0 (.pointer none) 1 8 Tryd.underlying30 hi hz0 hz1 hz2 rfl (by decide) u3 n xs rfl (by exact ho4.alloc _) ⟨w4.heap.size, 0, none⟩ 1 1 [.pointer (some aa)] rfl rfl (by exact news1 w4 _ 24) (by intro u hu; simp at hu; subst hu; rfl) (by decide) (by unfold maxLen; omega) (by omega) (by have := (kp.trans k24).size; simp; omega) _ rfl ?_)
          intro g1 cap1 wn hown2 hgrow2 hat2 hlt2
          have hbn : Below w0.heap.size w4 wn := (((Below.refl _ w4).alloc (Nat.le_refl _) (.cells #[.pointer (some aa)] 24)).mono kp4.size).grown hgrow2 (Nat.le_trans kp4.size (by simp)) (fun k hk => kv k hk)
          have hx2 : ∀ u ∈ xs ++ [Value.pointer (some aa)], ∃ a, u = .pointer a := by
            intro u hu
            rcases List.mem_append.1 hu with hu | hu
            · exact hx u hu
            · simp at hu; exact ⟨_, hu⟩
          have kpn : Pk pb w0 wn := ⟨hbn.os.trans kp4.os, hbn.tape.trans kp4.tape, hbn.output.trans kp4.output, Nat.le_trans kp4.size hbn.size, fun k hk hne => (hbn.block k hk).trans (kp4.block k hk hne)⟩
          have p5 := p4.row hbn hpB htB hWB
          clear hgrow2 hat2 hlt2 ho4 kv hbn kp4 p4 k24 k2 k3 k4 ho hx kp
          go_wp2_with (go_at_call 14; refine (boolF2 brF rfl (by decide) (by decide) p5 hw (by omega)).mono ?_)
          rintro e w7 ⟨rfl, p7, k7⟩
          go_wp2_with (go_at_call 16; refine (unitF2 waF rfl (by decide) (by decide) p7 hw (by omega)).mono ?_)
          rintro e w8 ⟨rfl, p8, k8⟩
          have k78 := k7.trans k8
          have ho7 := ownsRow_at hown2 (fun g hg => k78.block g (hown2.lt g hg).2 (by have := (hown2.lt g hg).1; omega))
          go_wp2
          go_roundw
          case rel => exact ⟨done.length + 1, _, by have := congrArg List.length hl0; rw [List.length_append] at this; omega, ho7, fun h => by omega, hx2, kpn.trans k78, .inr ⟨by rw [hl0]; simp, j, by omega, hw, p8⟩⟩
          case measure => rw [mOf_fault p8, hm]; omega
        | true =>
          by_cases hlast : rest = [] ∧ dr = true
          · have e : toks (true :: rest) dr = [tA] := by rw [toks, if_pos hlast]
            have hw : WinAt T j 5 := win_mid (win := [tA, (5, 41, 1)]) (rest := suf) (by rw [hTr, e]; rfl) hj rfl
            go_wp2_with (go_at_call 8; refine (bool1 A.ok5 rfl (by decide) ps hw (by omega)).mono ?_)
            rintro e w2 ⟨rfl, p2, k2⟩
            go_wp2_with (go_at_call 31; refine (bool2 A.tk5 rfl (by decide) (by decide) p2 hw (by omega)).mono ?_)
            rintro e w3 ⟨rfl, p3, k3⟩
            go_wp2_with (go_at_call 90; refine (node1 A.sp5 rfl (by decide) p3 hw (by omega)).mono ?_)
            rintro e w4 ⟨kb, no, rfl, kb1, kb2, kb3, nd, p4, k4⟩
            clear nd kb1 kb2 kb3
            have k24 := (k2.trans k3).trans k4
            have ho4 := ownsRow_at ho (fun g hg => k24.block g (ho.lt g hg).2 (by have := (ho.lt g hg).1; omega))
            have kv : ∀ g, u3.ownBlock = some g → w0.heap.size ≤ g := fun g hg => (ho4.lt g hg).1
            have kp4 := kp.trans k24
            go_wp2_with (at_builtin; refine wpList_append_lies _ rfl (.tmp 11) (.tmp 14) 30 rfl w0.heap.size 24 i0 (.pointer none) 1 8 Tryd.underlying30 hi hz0 hz1 hz2 rfl (by decide) u3 n xs rfl (by exact ho4.alloc _) ⟨w4.heap.size, 0, none⟩ 1 1 [.pointer (some ⟨kb, no, none⟩)] rfl rfl (by exact news1 w4 _ 24) (by intro u hu; simp at hu; subst hu; rfl) (by decide) (by unfold maxLen; omega) (by omega) (by have := (kp.trans k24).size; simp; omega) _ rfl ?_)
            intro g1 cap1 wn hown2 hgrow2 hat2 hlt2
            have hbn : Below w0.heap.size w4 wn := (((Below.refl _ w4).alloc (Nat.le_refl _) (.cells #[.pointer (some ⟨kb, no, none⟩)] 24)).mono kp4.size).grown hgrow2 (Nat.le_trans kp4.size (by simp)) (fun k hk => kv k hk)
            have hx2 : ∀ u ∈ xs ++ [Value.pointer (some ⟨kb, no, none⟩)], ∃ a, u = .pointer a := by
              intro u hu
              rcases List.mem_append.1 hu with hu | hu
              · exact hx u hu
              · simp at hu; exact ⟨_, hu⟩
            have kpn : Pk pb w0 wn := ⟨hbn.os.trans kp4.os, hbn.tape.trans kp4.tape, hbn.output.trans kp4.output, Nat.le_trans kp4.size hbn.size, fun k hk hne => (hbn.block k hk).trans (kp4.block k hk hne)⟩
            have p5 := p4.row hbn hpB htB hWB
            clear hgrow2 hat2 hlt2 ho4 kv hbn kp4 p4 k24 k2 k3 k4 ho hx kp
            have hw1 : WinAt T (j + 0 + 0 + 1) 11 := win_mid (pre := pre ++ [tA]) (win := [(5, 41, 1)]) (rest := suf) (by rw [hTr, e]; simp) (by rw [List.length_append, hj]; rfl) rfl
            go_wp2_with (go_at_call 14; refine (bool2 A.br11 rfl (by decide) (by decide) p5 hw1 (by omega)).mono ?_)
            rintro e w7 ⟨rfl, p7, k7⟩
            have ho7 := ownsRow_at hown2 (fun g hg => k7.block g (hown2.lt g hg).2 (by have := (hown2.lt g hg).1; omega))
            go_wp2
            go_roundw
            case rel => exact ⟨done.length + 1, _, by have := congrArg List.length hl0; rw [List.length_append] at this; omega, ho7, fun h => by omega, hx2, kpn.trans k7, .inl ⟨done ++ [true], [], j + 1, pre ++ [tA], by rw [hl0, hlast.1]; simp, fun b hb => all_snoc hdn b hb, by rw [List.length_append]; rfl, by rw [hTr, e]; simp [toks], by rw [List.length_append, hj]; rfl, by rw [hjn, e]; simp [toks], p7⟩⟩
            case measure => rw [mOf_is p7, hm]; omega
          · have e : toks (true :: rest) dr = tA :: tC :: toks rest dr := by rw [toks, if_neg hlast]
            have hw : WinAt T j 3 := win_mid (win := [tA, tC]) (rest := toks rest dr ++ ((5, 41, 1) :: suf)) (by rw [hTr, e]; rfl) hj rfl
            go_wp2_with (go_at_call 8; refine (bool1 A.ok3 rfl (by decide) ps hw (by omega)).mono ?_)
            rintro e w2 ⟨rfl, p2, k2⟩
            go_wp2_with (go_at_call 31; refine (bool2 A.tk3 rfl (by decide) (by decide) p2 hw (by omega)).mono ?_)
            rintro e w3 ⟨rfl, p3, k3⟩
            go_wp2_with (go_at_call 90; refine (node1 A.sp3 rfl (by decide) p3 hw (by omega)).mono ?_)
            rintro e w4 ⟨kb, no, rfl, kb1, kb2, kb3, nd, p4, k4⟩
            clear nd kb1 kb2 kb3
            have k24 := (k2.trans k3).trans k4
            have ho4 := ownsRow_at ho (fun g hg => k24.block g (ho.lt g hg).2 (by have := (ho.lt g hg).1; omega))
            have kv : ∀ g, u3.ownBlock = some g → w0.heap.size ≤ g := fun g hg => (ho4.lt g hg).1
            have kp4 := kp.trans k24
            go_wp2_with (at_builtin; refine wpList_append_lies _ rfl (.tmp 11) (.tmp 14) 30 rfl w0.heap.size 24 i0 (.pointer none) 1 8 Tryd.underlying30 hi hz0 hz1 hz2 rfl (by decide) u3 n xs rfl (by exact ho4.alloc _) ⟨w4.heap.size, 0, none⟩ 1 1 [.pointer (some ⟨kb, no, none⟩)] rfl rfl (by exact news1 w4 _ 24) (by intro u hu; simp at hu; subst hu; rfl) (by decide) (by unfold maxLen; omega) (by omega) (by have := (kp.trans k24).size; simp; omega) _ rfl ?_)
            intro g1 cap1 wn hown2 hgrow2 hat2 hlt2
            have hbn : Below w0.heap.size w4 wn := (((Below.refl _ w4).alloc (Nat.le_refl _) (.cells #[.pointer (some ⟨kb, no, none⟩)] 24)).mono kp4.size).grown hgrow2 (Nat.le_trans kp4.size (by simp)) (fun k hk => kv k hk)
            have hx2 : ∀ u ∈ xs ++ [Value.pointer (some ⟨kb, no, none⟩)], ∃ a, u = .pointer a := by
              intro u hu
              rcases List.mem_append.1 hu with hu | hu
              · exact hx u hu
              · simp at hu; exact ⟨_, hu⟩
            have kpn : Pk pb w0 wn := ⟨hbn.os.trans kp4.os, hbn.tape.trans kp4.tape, hbn.output.trans kp4.output, Nat.le_trans kp4.size hbn.size, fun k hk hne => (hbn.block k hk).trans (kp4.block k hk hne)⟩
            have p5 := p4.row hbn hpB htB hWB
            clear hgrow2 hat2 hlt2 ho4 kv hbn kp4 p4 k24 k2 k3 k4 ho hx kp
            have hw1 : WinAt T (j + 0 + 0 + 1) 6 := win_mid (pre := pre ++ [tA]) (win := [tC]) (rest := toks rest dr ++ ((5, 41, 1) :: suf)) (by rw [hTr, e]; simp) (by rw [List.length_append, hj]; rfl) rfl
            go_wp2_with (go_at_call 14; refine (bool2 A.br6 rfl (by decide) (by decide) p5 hw1 (by omega)).mono ?_)
            rintro e w7 ⟨rfl, p7, k7⟩
            go_wp2_with (go_at_call 16; refine (unit2 A.wa6 rfl (by decide) (by decide) p7 hw1 (by omega)).mono ?_)
            rintro e w8 ⟨rfl, p8, k8⟩
            have k78 := k7.trans k8
            have ho7 := ownsRow_at hown2 (fun g hg => k78.block g (hown2.lt g hg).2 (by have := (hown2.lt g hg).1; omega))
            go_wp2
            go_roundw
            case rel => exact ⟨done.length + 1, _, by have := congrArg List.length hl0; rw [List.length_append] at this; omega, ho7, fun h => by omega, hx2, kpn.trans k78, .inl ⟨done ++ [true], rest, j + 1 + 1, pre ++ [tA, tC], by rw [hl0, List.append_assoc]; rfl, fun b hb => all_snoc hdn b hb, by rw [List.length_append]; rfl, by rw [hTr, e]; simp, by rw [List.length_append, hj]; rfl, by rw [hjn, e]; simp; omega, p8⟩⟩
            case measure => rw [mOf_is p8, hm]; omega
    · have hm := mOf_fault pf
      go_wp2_with (go_at_call 8; refine (boolF1 okF rfl (by decide) pf hw hj1).mono ?_)
      rintro e w2 ⟨rfl, p2, k2⟩
      have ho2 := ownsRow_at ho (fun g hg => k2.block g (ho.lt g hg).2 (by have := (ho.lt g hg).1; omega))
      go_wp2
      go_ret
      exact ⟨_, n, xs, rfl, by omega, ho2, hz, hx, .inr ⟨hf, j, hj1, hw, p2⟩, kp.trans k2⟩
end Go.Proofs.YtcaomilekhhhlaaDoor
