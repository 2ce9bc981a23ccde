/- VmLoops: the contract of the machine's run: the loops, from their beginning to their end. Condition: the world of EvExt. -/
import Derived.Test.YtgpogeemhaiicaaGreatDoorEvRo
import Derived.Test.YtgpogeemhaiicaaGreatDoorEvExt
import Derived.Test.YtgpogeemhaiicaaGreatDoorEvMi
set_option linter.all false
namespace Go.Proofs.YtgpogeemhaiicaaGreatDoor
open Go.Ev

theorem run_shape : runCode = .seq preCode (.block 0 (.loop bodyCode)) := by kernel_rfl
theorem run_body : Tryz.f49.body = some runCode := by kernel_rfl
theorem body_ok : codeOk Tryz.f49.ntmps bodyCode = true := by decide +kernel
theorem pre_ok : codeOk Tryz.f49.ntmps preCode = true := by decide +kernel
theorem round_eq : round = den Tryz.prog call1 (mask 49) 3000 bodyCode := by
  funext f d h
  exact comp_run (mask 49) (tab 49) 3000 call1 bodyCode (by decide +kernel) f d h

/-- No function. -/
def call00 : CallFn := fun _ _ _ => none
theorem call00_ok {W : World} : CallFnOk Tryz.prog W call00 := fun f vs h v h' he => by cases he


namespace Hd
open Go.Proofs.YtgpogeemhaiicaaGreatDoor.Sn Go.Proofs.YtgpogeemhaiicaaGreatDoor.Cm
set_option maxRecDepth 10000000 in
theorem tE0 : pieceN 6479 cvE round (sE0.h, sE0.f) (sH1F gI gK g0 g1 g2 [6806, 6724, 6540, 6744, 6743, 6770, 6769, 6804, 6803, 6496, 6796, 6478]) 21 = true := by decide +kernel
set_option maxRecDepth 100000
theorem view_blk : ∃ vs : List V, vs.length = 3 ∧ vs[1]? = some (.cl1 0 528) ∧ sE0.h.mem.blk 6003 = .live 3 28 true true (cellsOf vs) := ⟨[i 3, .cl1 0 528, E], rfl, rfl, by kernel_rfl⟩
theorem names_E0 {r : Emb} {w : World} (hr : Rel r sE0.h w) : ∃ X0 X1 X2, NmX r 124 X0 X1 X2 := by
  obtain ⟨vs, hl, h3, hb⟩ := view_blk
  obtain ⟨b, sh, m, e1, ⟨⟨cs, fz, ⟨ty, q1, _⟩, q2, q3, q4, q5⟩, _⟩⟩ := hr.blk 6003 3 28 true true _ (by decide) hb
  obtain ⟨x, _, hx⟩ := q5 1 (by omega)
  rw [cellsOf_get vs (by omega) 1 (by omega)] at hx
  have e : vs[1]'(by omega) = .cl1 0 528 := (List.getElem?_eq_some_iff.1 h3).2
  rw [e] at hx
  obtain ⟨_, n, rfl, hn⟩ := nam_inv hx (by decide)
  rcases hn with ⟨q, _⟩ | ⟨_, q, _⟩ | ⟨_, _, X0, X1, X2, g0, g1, g2, ⟨b0, g3⟩, b1, b2, g5, _⟩ | ⟨q, _⟩
  · omega
  · omega
  · exact ⟨X0, X1, X2, g0, g1, g2, g3, b0, b1, b2, g5⟩
  · omega
theorem cvE_ok {r : Emb} {X0 X1 X2 : Nat} (hX : NmX r 124 X0 X1 X2) : CvOk r (fun _ => none) (nmF 1 0 21 1 1) cvE := by
  intro r1 r2 e1 e2 _ e4 v u x hm hv
  have n := nmR_of2 e4
  have x1 := hX.up e1
  have x2 := hX.up e2
  have b0 := hX.b0
  have b1 := hX.b1
  have b2 := hX.b2
  simp only [cvE, List.mem_cons, Prod.mk.injEq, List.not_mem_nil, or_false] at hm
  rcases hm with ⟨rfl, rfl⟩ | ⟨rfl, rfl⟩ | ⟨rfl, rfl⟩ | ⟨rfl, rfl⟩ | ⟨rfl, rfl⟩ | ⟨rfl, rfl⟩ | ⟨rfl, rfl⟩ | ⟨rfl, rfl⟩
  · rw [int_val hv]; exact sy_rel (by decide) n.s (by decide) (by decide) (by decide)
  · rw [int_val hv]; exact sy_rel (by decide) n.p (by decide) (by decide) (by decide)
  · rw [int_val hv]; exact sy_rel (by decide) n.w (by decide) (by decide) (by decide)
  · rw [int_val hv]; exact gK_rel n.k (by decide)
  · rw [int_val hv]; exact sy_rel (by decide) n.i (by decide) (by decide) (by decide)
  · rw [code_val x1 (c := 528) (by decide) (by decide) hv]; exact nw_rel (j := 0) (w := 0) (by decide) (by decide) x2.n0 n.i (by show X0 ≤ 39; omega) (by decide) trivial
  · rw [code_val x1 (c := 529) (by decide) (by decide) hv]; exact nw_rel (j := 1) (w := 0) (by decide) (by decide) x2.n1 n.i b1 (by decide) trivial
  · rw [code_val x1 (c := 530) (by decide) (by decide) hv]; exact nw_rel (j := 2) (w := 0) (by decide) (by decide) x2.n2 n.i b2 (by decide) trivial
/-- The loop of the run, from its beginning. -/
theorem loop_all {W : World} (hW : At W) {nb : Nat} {r : Emb} {w : World} {a1 : Act} {w1 : World} (hrel : Rel r sE0.h w) (hg : GRel Tryz.prog r) (hs : At' Tryz.prog W nb Tryz.f49.ntmps (mask 49) r sE0.h w sE0 a1 w1) :
    (Code.loop bodyCode).wp Tryz.prog (EndQ W nb r sE0.h w) a1 w1 := by
  obtain ⟨X0, X1, X2, hX⟩ := names_E0 hrel
  have hcall : CallFnOk Tryz.prog W call1 := ext1_sound hW 300 3000
  have C : Ctx W nb r sE0.h w X0 X1 X2 := ⟨by decide, hrel, hg, hX, by
    rw [round_eq]
    intro f f' d d' h h' x r a w hd hs he
    exact den_sound (ro := none) hcall noNum (draws _ hcall) bodyCode f f' d d' h h' x r a w body_ok (.inl rfl) hd hs he⟩
  obtain ⟨N, F⟩ := F_fin C (by decide) 21 1 1 ⟨by decide, by decide, by decide⟩
  obtain ⟨hd, r2, hs2, st2⟩ := hs
  have hat : AtN Tryz.prog W nb Tryz.f49.ntmps (mask 49) r sE0.h w (sE0.h, sE0.f) (fun _ => none) a1 w1 := by
    refine ⟨hd, r2, fun id hid => ?_, hs2, st2⟩
    refine hs2.rel.new id ?_
    unfold isNam at hid
    simp only [Bool.and_eq_true] at hid
    have : 40000 ≤ id := Nat.le_of_ble_eq_true hid.1
    show 6479 ≤ id
    omega
  refine wpIn_wide.1 (wpIn_loop_rounds (F := wideR none) (n := 0) (21 + N) ?_)
  refine pieceN_sound C.body tE0 (by decide) (by decide) hrel hg (cvE_ok hX) (fun a' w' q => F a' w' ?_) hat
  have e : ((sH1F gI gK g0 g1 g2 [6806, 6724, 6540, 6744, 6743, 6770, 6769, 6804, 6803, 6496, 6796, 6478]).h, (sH1F gI gK g0 g1 g2 [6806, 6724, 6540, 6744, 6743, 6770, 6769, 6804, 6803, 6496, 6796, 6478]).f) = gF := by
    show (hOf _ (mkO _ _), _) = _
    rw [hOf_mkO]
    rfl
  rw [← e]
  exact q
end Hd
open Hd
/-- What the run comes to, where it begins as sE0 says. -/
noncomputable def runE (vs : List V) (h : H) : Option (V × H) :=
  bif Nat.beq h.next 6478 then
    match den Tryz.prog call00 (mask 49) 3000 preCode (args0 (mask 49) 0 vs fr0) [] h with
    | .ok .norm f d h1 =>
      (match d with
      | [] => bif snaple 6479 f h1 sE0 && (Nat.ble h1.next 6479 && (rises 0 0 sE0.ents && rises 0 0 endS.ents)) then (resV Tryz.prog endS.f endS.h Tryz.f49.results.toList).map fun l => (oneRes l, overlay h1 sE0 endS) else none
      | _ => none)
    | _ => none
  else none

theorem runE_ok {W : World} (hW : At W) {vs : List V} {h h' : H} {v : V} (he : runE vs h = some (v, h')) : CallOk Tryz.prog W 49 vs h v h' := by
  intro r w xs hr hg hba hvs
  unfold runE at he
  cases hnx : Nat.beq h.next 6478
  · rw [hnx] at he; cases he
  rw [hnx] at he
  simp only [cond_true] at he
  have hn := Nat.eq_of_beq_eq_true hnx
  obtain ⟨hd, hs⟩ := St.enter (n := Tryz.f49.ntmps) (mask := mask 49) hr hg hba hvs
  split at he
  · rename_i f d h1 hden
    split at he
    · cases hb : (snaple 6479 f h1 sE0 && (Nat.ble h1.next 6479 && (rises 0 0 sE0.ents && rises 0 0 endS.ents)))
      · rw [hb] at he; cases he
      rw [hb] at he
      simp only [cond_true] at he
      simp only [Bool.and_eq_true] at hb
      obtain ⟨hb, hbn, hrS, hrT⟩ := hb
      obtain ⟨l, hl, e⟩ := Option.map_eq_some_iff.1 he
      simp only [Prod.mk.injEq] at e
      obtain ⟨rfl, rfl⟩ := e
      refine calls_of_wp_defers Tryz.func49 run_body ?_
      rw [run_shape]
      refine wp_seq (wp_mono (wpIn_wide.1 (den_sound (ro := none) call00_ok noNum (draws _ call00_ok) preCode _ f [] [] h h1 .norm r _ w pre_ok (.inl rfl) hd hs hden)) ?_)
      rintro e a1 w1 ⟨hx, hd1, r1, hs1, st1⟩
      have e1 : e = .normal := hx
      subst e1
      have hnext : h1.next ≤ 6479 := Nat.le_of_ble_eq_true hbn
      obtain ⟨hdS, rS, hsS, stS, k1, k2⟩ := snap_sound2 hb hnext hs1.rel hs1.gl hs1.base hd1 hs1 (Step.refl hs1.rel)
      have hat : At' Tryz.prog W w.heap.size Tryz.f49.ntmps (mask 49) rS sE0.h w1 sE0 a1 w1 := ⟨hdS, rS, hsS, Step.refl hsS.rel⟩
      have hloop := loop_all hW hsS.rel hsS.gl hat
      refine wpIn_wide.1 (wpIn_block (wpIn_mono ((wpIn_wide (n := 0)).2 hloop) ?_))
      rintro e a2 w2 ⟨rfl, nm', hd2, r2, -, hs2, st2⟩
      have stO := overlay_sound hrS hrT (by decide) hs1.rel hsS.rel k1 k2 stS.le stS.own stS.held st2
      have key : Leaves Tryz.prog Tryz.f49 a2.tmps (fun e w' => ∃ z r', e = .returned z ∧ Step r h w r' (overlay h1 sE0 endS) w' ∧ VRel r' (oneRes l) z) a2.defers .returning w2 := by
        have hdef : a2.defers = [] := by
          have := hs2.ds
          cases hq : a2.defers with
          | nil => rfl
          | cons _ _ => rw [hq] at this; cases this
        rw [hdef]
        obtain ⟨z, g1, g2⟩ := oneRes_sound hs2.rel hs2.tm hl
        exact ⟨z, g1, z, r2, rfl, st1.trans stO, g2⟩
      exact key
    · cases he
  · cases he
end Go.Proofs.YtgpogeemhaiicaaGreatDoor
