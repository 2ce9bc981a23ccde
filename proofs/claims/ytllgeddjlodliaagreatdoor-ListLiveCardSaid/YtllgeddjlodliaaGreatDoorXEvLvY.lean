/- ListLive: the call, at each list of acts. Condition: the tables hold what their initialisers lay; what the rounds come to. -/
import Derived.Test.YtllgeddjlodliaaGreatDoorXEvLvX
import Derived.Test.YtllgeddjlodliaaGreatDoorXEvMj
import Derived.Below
namespace Go.Proofs.YtllgeddjlodliaaGreatDoor
open Go.Ev Go.RowKit
open Lv (ss sy i s Head Ctx Facts spF stF stX mx)

def hE0 : H := ⟨20, h0.mem⟩
def hE : H := hE0.setB 9 (.live 0 0 true false (cellsOf []))
def olds0 : List Nat := [22, 23, 24, 25, 26, 29, 30, 33, 34, 37, 38, 41, 42, 45, 46, 49, 50, 53, 54, 57, 58, 61, 62, 65, 66, 69, 70, 73, 74, 77, 78, 81, 82, 85, 86, 89, 90, 93, 94, 97, 98, 101, 102, 105, 106, 111, 117, 118, 191, 192, 200, 224, 245, 246, 254, 278, 307, 341, 342, 350, 374, 391, 394, 395, 403, 427, 446, 447, 455, 479, 498, 499, 507, 531, 574, 575, 583, 607, 630, 656, 657, 665, 689, 708, 709, 717, 741, 760, 761, 769, 793, 824, 825, 833, 857, 888, 889, 897, 921, 952, 953, 961, 985, 1069, 1071, 1072, 1080, 1104, 1112, 1120, 1125, 1127, 1128, 1132, 1191, 1202, 1203, 1205, 1206, 1208]
def old0 (k : Nat) : Nat := bif Nat.blt k 20 then k else olds0.getD (Nat.sub k 20) 0
/-- At the loop's first round. -/
def st0 : Snap := ⟨140, (spF false 0 0 3 1).l old0, [(3, Lv.p 22), (4, Lv.p 133), (5, Lv.p 139), (7, i 0), (8, Lv.F), (9, .cl2 0 316), (37, ss 9 1 19 0 100), (38, sy 19 0 0 0 100), (39, i 0)]⟩
noncomputable def preL : List Code := (flatC lawCode).take 10
noncomputable def postL : List Code := (flatC lawCode).drop 11
theorem law_at : (flatC lawCode)[10]? = some (.block 0 (.loop bodyCode)) := by kernel_rfl
theorem law_parts : flatC lawCode = preL ++ (.block 0 (.loop bodyCode) :: postL) := by
  have h := law_at
  have hlt := (List.getElem?_eq_some_iff.1 h).1
  have he := (List.getElem?_eq_some_iff.1 h).2
  unfold preL postL
  rw [← he, List.getElem_cons_drop, List.take_append_drop]
theorem law_body : Tryz.f4.body = some lawCode := by kernel_rfl
theorem pre_ok : (preL.all (codeOk Tryz.f4.ntmps)) = true := by decide +kernel
theorem post_ok : (postL.all (codeOk Tryz.f4.ntmps)) = true := by decide +kernel
theorem rs_0 (S : Lv.Sp) : rises 0 0 (S.l old0) = true := by kernel_rfl
noncomputable def fI : Bool :=
  match denL Tryz.prog callL (mask 4) 3000 preL (args0 (mask 4) 0 [ss 9 1 19 0 100] fr0) [] hE with
  | .ok .norm f d h => (match d with | [] => snaple 20 f h st0 | _ => false)
  | _ => false
/-- The end: from behind the loop. -/
noncomputable def fZ (n : Nat) : Bool :=
  match bodyR (stX n).f [] (stX n).h with
  | .ok (.exit 0) f d h => (match d with
    | [] => (match denL Tryz.prog callL (mask 4) 3000 postL f [] h with
      | .ok .ret f2 d2 h2 => (match d2 with | [] => (match resV Tryz.prog f2 h2 Tryz.f4.results.toList with | some [.bool b] => b | _ => false) | _ => false)
      | _ => false)
    | _ => false)
  | _ => false
noncomputable def fB (v : V) : Bool := match callL 4 [v] h0 with | some (.bool b, _) => b | _ => false

theorem quiet_next {r : Emb} {n m : Nat} {mem : Mem} {w : World} (h : Quiet r ⟨n, mem⟩ w) (hn : ∀ id, m ≤ id → r id = none) : Quiet r ⟨m, mem⟩ w :=
  ⟨⟨fun id hi hl => h.rel.fit id hi hl, fun id id' b sh k sh' k' hl hl' ho e e' => h.rel.inj id id' b sh k sh' k' hl hl' ho e e', hn⟩, fun id hl => h.ro id hl⟩
theorem glob_hi (W : World) {id : Nat} (h : 8 ≤ id) : globEmb Tryz.prog W id = none := by
  have : Tryz.prog.globals.size = 8 := by kernel_rfl
  simp only [globEmb, this]
  rw [if_neg (by omega)]


set_option maxRecDepth 100000 in
theorem live_walk {W : World} (hW : At W) (hI : fI = true) (hZ : ∀ n, n ≤ 100 → fZ n = true) (Fs : Facts bodyR) {vb vo n cap : Nat} {cs : Array Value} {t : TypeId} {fz : Nat × Nat} (hb : W.heap[vb]? = some (.cells cs t fz)) (hnc : n ≤ cap) (hc : 0 < cap) (hsz : vo + cap ≤ cs.size) (hn : n ≤ 100)
    (hacts : ∀ k, k < n → ∃ x : Int, W.cell? ⟨vb, vo + k, none⟩ = some (.int .i64 x)) :
    Calls Tryz.prog 4 #[.slice (some ⟨vb, vo, none⟩) n cap] W fun e w' => e = .returned (.bool true) ∧ Below W.heap.size W w' := by
  have hq0 : Quiet (globEmb Tryz.prog W) hE0 W := quiet_next (n := 256) hW.begins.quiet (fun id h => glob_hi W (by omega))
  have hfit : FitB ((globEmb Tryz.prog W).put 9 (vb, vo, cs.size)) (.live 0 0 true false (cellsOf [])) vb vo cs.size W := fits_range (vs := []) (xs := []) .nil hb (by show vo + 0 ≤ cs.size; omega) (fun o v h => by simp at h) (by decide)
  have hq9 := hq0.lab (id := 9) (by decide) (by decide) (glob_hi W (by omega)) rfl hfit
  obtain ⟨r9, hr9⟩ : ∃ r9, r9 = (globEmb Tryz.prog W).put 9 (vb, vo, cs.size) := ⟨_, rfl⟩
  rw [← hr9] at hq9
  have hq9' : Quiet r9 hE W := hq9
  have r9_9 : r9 9 = some (vb, vo, cs.size) := by rw [hr9, Emb.put_same]
  have r9_hi : ∀ id, 10 ≤ id → r9 id = none := fun id h => by rw [hr9, Emb.put_other _ _ _ _ (by omega)]; exact glob_hi W (by omega)
  have g9 : GRel Tryz.prog r9 := by rw [hr9]; exact GRel.up (Emb.le_put _ _ _ (glob_hi W (by omega))) hW.begins.gl
  have hqe := hq9'.nam (id := 19) (by decide) (r9_hi 19 (by omega)) (n, 0, 0)
  have hle : r9.le (r9.put 19 (n, 0, 0)) := r9.le_put 19 _ (r9_hi 19 (by omega))
  have ge : GRel Tryz.prog (r9.put 19 (n, 0, 0)) := GRel.up hle g9
  have ste : Step r9 hE W (r9.put 19 (n, 0, 0)) hE W := ⟨hle, hqe.rel, Nat.le_refl _, fun _ _ _ => rfl, fun b hb ho => (hqe.none b ho).elim, fun b hb hh => by
    obtain ⟨id, sh, m, hl, e⟩ := hh
    obtain ⟨b2, sh2, m2, e2, _⟩ := hq9'.rel.fit id hl.1 hl.2
    have e3 := hle _ _ e2
    rw [e] at e3
    cases e3
    exact ⟨id, sh, m, hl, e2⟩, rfl, rfl, rfl⟩
  have hcall := callL_ok hW
  refine calls_of_wp_defers Tryz.func4 law_body (wp_pieces ?_)
  rw [law_parts]
  have hI' := hI
  unfold fI at hI'
  split at hI'
  · rename_i f d h hden
    split at hI'
    · have hx : VsRel (r9.put 19 (n, 0, 0)) [ss 9 1 19 0 100] [.slice (some ⟨vb, vo, none⟩) n cap] := .cons (Lv.mk_ss (by decide) (by decide) (by decide) (by decide) (Emb.put_same _ _ _) (Nat.zero_le _) hn (by decide) (by rw [Emb.put_other _ _ _ _ (by decide)]; exact r9_9) ⟨hnc, hc⟩ (by omega)) .nil
      obtain ⟨hd0, hs0⟩ := St.enter (n := Tryz.f4.ntmps) (mask := mask 4) hqe.rel ge hqe.base (xs := #[.slice (some ⟨vb, vo, none⟩) n cap]) hx
      refine denL_sound hcall noNum (draws _ hcall) preL _ f [] [] hE h .norm _ _ W pre_ok hd0 hs0 hden (fun e r' a' w' q1 q2 q3 q4 => ?_)
      have e1 : e = .normal := q1
      subst e1
      obtain ⟨u1, r2, u2, u3, u4, u5⟩ := snap_sound3 hI' (Nat.le_refl 20) hq9'.rel g9 hq9'.base q2 q3 (ste.trans q4)
      have n19 : r2 19 = some (n, 0, 0) := by rw [u4 19 (by decide)]; exact q4.le _ _ (Emb.put_same _ _ _)
      have n9 : r2 9 = some (vb, vo, cs.size) := by rw [u4 9 (by decide)]; exact q4.le _ _ (hle _ _ r9_9)
      have sl : ∀ (t : Nat) (v : V), fget st0.f t = v → VRel r2 v (a'.tmps.getD t undef) := fun t v e => by
        have := u2.tm t
        rw [e] at this
        exact this
      obtain ⟨b2, sh2, m2, cap2, k1, k2, ⟨k3, k4⟩, k5⟩ := Lv.inv_ss (by decide) (by decide) (by decide) (by decide) n19 (sl 37 (ss 9 1 19 0 100) (by kernel_rfl))
      rw [n9] at k1
      cases k1
      have k38 := Lv.inv_sy (a := 0) (by decide) (by decide) n19 (by decide) (sl 38 (sy 19 0 0 0 100) (by kernel_rfl))
      have ht : Lv.Turns (fun _ => none) r2 w' (spF false 0 0 3 1) (spF false 0 0 3 1) :=
        { t20 := Lv.tn_AR (Lv.free_s rfl) Lv.free_i, t22 := Lv.tn_M Lv.free_i, t130 := Lv.tn_E (by decide), t132 := Lv.tn_A (Lv.free_s rfl), t136 := Lv.tn_W Lv.free_i, t137 := Lv.tn_C (by decide) }
      obtain ⟨g1, g2, g3⟩ := Lv.sp_turn (old2 := Lv.idS) u2.rel (rs_0 _) (Lv.rs_id _) ht
      have hle2 : r9.le (reNm (fun _ => none) r2) := fun id x e => by
        have hid : id < 10 := by
          by_cases q : id < 10
          · exact q
          · rw [r9_hi id (by omega)] at e; cases e
        rw [reNm_old (by unfold isNm; have : Nat.ble 10 id = false := by rw [← Bool.not_eq_true]; intro q; have := Nat.le_of_ble_eq_true q; omega
                         rw [this]; rfl)]
        exact u3.le _ _ e
      have C : Ctx Tryz.prog W r9 hE vb vo n cap2 := ⟨hq9'.rel, g9, hq9'.base, Nat.le_refl _, by
        have : Tryz.prog.globals.size = 8 := by kernel_rfl
        omega, r9_hi, ⟨9, vo, cs.size, ⟨by decide, by kernel_rfl⟩, r9_9⟩, (Array.getElem?_eq_some_iff.1 hb).1, hacts⟩
      have H : Head Tryz.prog W W.heap.size Tryz.f4.ntmps r9 hE (.slice (some ⟨vb, vo, none⟩) n cap2) n 0 false 0 0 0 3 1 (reNm (fun _ => none) r2) a' w' := by
        refine ⟨st_turn u2 g1 (fun b ho => (g2 b ho).elim .inl (fun q => q.elim)) (GRel.up hle2 g9) (slots_rel (fun t v h => ?_)), step_turn u3 g1 hle2 (fun b ho => (g2 b ho).elim .inl (fun q => q.elim)) (fun b hh => (g3 b hh).elim .inl (fun q => q.elim)), fun id hid => by rw [reNm_new hid], k2, k38⟩
        simp only [stF, List.mem_cons, Prod.mk.injEq, List.not_mem_nil, or_false] at h
        rcases h with ⟨rfl, rfl⟩ | ⟨rfl, rfl⟩ | ⟨rfl, rfl⟩ | ⟨rfl, rfl⟩ | ⟨rfl, rfl⟩ | ⟨rfl, rfl⟩ | ⟨rfl, rfl⟩
        · exact ⟨by decide, Lv.free (by decide +kernel) _ (sl 3 _ (by kernel_rfl))⟩
        · exact ⟨by decide, Lv.free (by decide +kernel) _ (sl 4 _ (by kernel_rfl))⟩
        · exact ⟨by decide, Lv.free (by decide +kernel) _ (sl 5 _ (by kernel_rfl))⟩
        · exact ⟨by decide, Lv.free_i _ (sl 7 _ (by kernel_rfl))⟩
        · exact ⟨by decide, Lv.free (by decide +kernel) _ (sl 8 _ (by kernel_rfl))⟩
        · exact ⟨by decide, Lv.free (by decide +kernel) _ (sl 9 (.cl2 0 316) (by kernel_rfl))⟩
        · exact ⟨by decide, Lv.free_i _ (sl 39 _ (by kernel_rfl))⟩
      have hZn := hZ n hn
      unfold fZ at hZn
      split at hZn
      · rename_i fx dx hx' hX
        split at hZn
        · split at hZn
          · rename_i f2 d2 h2 hpost
            split at hZn
            · split at hZn
              · rename_i bb hres
                subst hZn
                have hloop := Lv.loop_all (ro := none) (P := Tryz.prog) (mask := mask 4) (cd := bodyCode) (body := bodyR) (fun f f' d d' h h' x r a w hd hs he => den_sound (ro := none) hcall noNum (draws _ hcall) bodyCode f f' d d' h h' x r a w body_ok (.inl rfl) hd hs he)
                  lives_kept Fs C hn hX n 0 (by omega) false 0 0 0 3 1 _ a' w' (fun _ => ⟨rfl, rfl⟩) (by omega) (by omega) (by omega) (by omega) (by omega) H
                show Code.wp Tryz.prog (.block 0 (.loop bodyCode)) _ a' w'
                refine wp_block (wp_mono (wpIn_wide.1 (wpIn_loop_rounds (F := wideR none) (n := 0) (n + 1) hloop)) ?_)
                rintro e a2 w2 ⟨x, f3, h3, r3, hB, hx2, hd3, hs3, st3⟩
                rw [hX] at hB
                simp only [RC.ok.injEq, true_and] at hB
                obtain ⟨rfl, rfl, rfl⟩ := hB
                have e2 : e = .exit 0 := hx2
                subst e2
                show Exit.inBlock 0 _ (.exit 0) a2 w2
                simp only [Exit.inBlock, if_true]
                show wpL Tryz.prog _ postL a2 w2
                have := denL_sound (rest := []) hcall noNum (draws _ hcall) postL fx f2 [] [] hx' h2 .ret r3 a2 w2 post_ok hd3 hs3 hpost (Q := bodyPostD Tryz.prog Tryz.f4 fun e w' => e = .returned (.bool true) ∧ Below W.heap.size W w') (fun e r4 a4 w4 p1 p2 p3 p4 => by
                  have e4 : e = .ret := p1
                  subst e4
                  show Leaves _ _ _ _ _ _ _
                  have hdef : a4.defers = [] := by
                    have := p3.ds
                    cases hq : a4.defers with
                    | nil => rfl
                    | cons _ _ => rw [hq] at this; cases this
                  rw [hdef]
                  obtain ⟨z, z1, z2⟩ := oneRes_sound p3.rel p3.tm hres
                  cases z2
                  have stA := st3.trans p4
                  exact ⟨_, z1, rfl, stA.os, stA.tape, stA.out, stA.size, fun k hk => stA.keep k hk (hq9'.none k)⟩)
                rw [List.append_nil] at this
                exact this
              · cases hZn
            · cases hZn
          · cases hZn
        · cases hZn
      · cases hZn
    · cases hI'
  · cases hI'

end Go.Proofs.YtllgeddjlodliaaGreatDoor
