/- The machine's run, gone through in pieces: the contract of the function. Condition: the world of EvExt. -/
import Derived.Test.YtodakbgbngdfbaaGreatDoorEvExt
import Derived.Test.YtodakbgbngdfbaaGreatDoorEvSn
import Derived.Test.YtodakbgbngdfbaaGreatDoorEvFr
namespace Go.Proofs.YtodakbgbngdfbaaGreatDoor
open Go.Ev

theorem run_shape : runCode = .seq preCode (.block 0 (.loop bodyCode)) := by kernel_rfl
theorem run_body : Tryz.f48.body = some runCode := by kernel_rfl
theorem body_ok : codeOk Tryz.f48.ntmps bodyCode = true := by decide +kernel
theorem pre_ok : codeOk Tryz.f48.ntmps preCode = true := by decide +kernel
theorem round_eq : round = den Tryz.prog call1 (mask 48) 3000 bodyCode := by
  funext f d h
  exact comp_run (mask 48) (tab 48) 3000 call1 bodyCode (by decide +kernel) f d h

/-- No function. -/
def call00 : CallFn := fun _ _ _ => none
theorem call00_ok {W : World} : CallFnOk Tryz.prog W call00 := fun f vs h v h' he => by cases he

/-- What the run comes to, where it begins as S says: T. -/
noncomputable def runE (lo nxt : Nat) (S T : Snap) (vs : List V) (h : H) : Option (V × H) :=
  bif Nat.beq h.next nxt then
    match den Tryz.prog call00 (mask 48) 3000 preCode (args0 (mask 48) 0 vs fr0) [] h with
    | .ok .norm f d h1 =>
      (match d with
      | [] => bif snaple lo f h1 S && (Nat.ble h1.next lo && Nat.ble S.nxt lo && (rises 0 0 S.ents && rises 0 0 T.ents)) then (resV Tryz.prog T.f T.h Tryz.f48.results.toList).map fun l => (oneRes l, overlay h1 S T) else none
      | _ => none)
    | _ => none
  else none

theorem runE_ok {W : World} (hW : At W) {lo nxt K : Nat} {S T : Snap} (hlo : Nat.ble nxt lo = true) (hc : Chain lo round T S K) {vs : List V} {h h' : H} {v : V} (he : runE lo nxt S T vs h = some (v, h')) : CallOk Tryz.prog W 48 vs h v h' := by
  intro r w xs hr hg hba hvs
  unfold runE at he
  cases hnx : Nat.beq h.next nxt
  · rw [hnx] at he; cases he
  rw [hnx] at he
  simp only [cond_true] at he
  have hn := Nat.eq_of_beq_eq_true hnx
  have hlo' : h.next ≤ lo := by rw [hn]; exact Nat.le_of_ble_eq_true hlo
  obtain ⟨hd, hs⟩ := St.enter (n := Tryz.f48.ntmps) (mask := mask 48) hr hg hba hvs
  split at he
  · rename_i f d h1 hden
    split at he
    · cases hb : (snaple lo f h1 S && (Nat.ble h1.next lo && Nat.ble S.nxt lo && (rises 0 0 S.ents && rises 0 0 T.ents)))
      · rw [hb] at he; cases he
      rw [hb] at he
      simp only [cond_true] at he
      simp only [Bool.and_eq_true] at hb
      obtain ⟨hb, ⟨hbn, hSn⟩, hrS, hrT⟩ := hb
      have hSn' := Nat.le_of_ble_eq_true hSn
      obtain ⟨l, hl, e⟩ := Option.map_eq_some_iff.1 he
      simp only [Prod.mk.injEq] at e
      obtain ⟨rfl, rfl⟩ := e
      refine calls_of_wp_defers Tryz.func48 run_body ?_
      rw [run_shape]
      refine wp_seq (wp_mono (wpIn_wide.1 (den_sound (ro := none) call00_ok noNum (draws _ call00_ok) preCode _ f [] [] h h1 .norm r _ w pre_ok (.inl rfl) hd hs hden)) ?_)
      rintro e a1 w1 ⟨hx, hd1, r1, hs1, st1⟩
      have e1 : e = .normal := hx
      subst e1
      have hnext : h1.next ≤ lo := Nat.le_of_ble_eq_true hbn
      obtain ⟨hdS, rS, hsS, stS, k1, k2⟩ := snap_sound2 hb hnext hs1.rel hs1.gl hs1.base hd1 hs1 (Step.refl hs1.rel)
      have hat : At' Tryz.prog W w.heap.size Tryz.f48.ntmps (mask 48) rS S.h w1 S a1 w1 := ⟨hdS, rS, hsS, Step.refl hsS.rel⟩
      rw [round_eq] at hc
      have hcall : CallFnOk Tryz.prog W call1 := ext1_sound hW 300 3000
      have hloop := chain_loop hcall noNum (draws _ hcall) body_ok hc hSn' hsS.rel hsS.gl hsS.base hat
      refine wpIn_wide.1 (wpIn_block (wpIn_mono ((wpIn_wide (n := 0)).2 hloop) ?_))
      rintro e a2 w2 ⟨rfl, hd2, r2, hs2, st2⟩
      have stO := overlay_sound hrS hrT hSn' hs1.rel hsS.rel k1 k2 stS.le stS.own stS.held st2
      have key : Leaves Tryz.prog Tryz.f48 a2.tmps (fun e w' => ∃ z r', e = .returned z ∧ Step r h w r' (overlay h1 S T) w' ∧ VRel r' (oneRes l) z) a2.defers .returning w2 := by
        have hdef : a2.defers = [] := by
          have := hs2.ds
          cases hq : a2.defers with
          | nil => rfl
          | cons _ _ => rw [hq] at this; cases this
        rw [hdef]
        obtain ⟨z, g1, g2⟩ := oneRes_sound hs2.rel hs2.tm hl
        exact ⟨z, g1, z, r2, rfl, st1.trans stO, g2⟩
      exact key
    · cases he
  · cases he

/-- The whole call, at so many rounds: the run by its pieces. -/
noncomputable def extR (lo nxt : Nat) (S T : Snap) : CallFn := fun g vs h => bif Nat.beq g 48 then runE lo nxt S T vs h else ext2 g vs h
def isExtR (g : FuncId) : Bool := Nat.beq g 48 || isExt2 g
noncomputable def headB (n lo nxt : Nat) (S T : Snap) : Bool :=
  match callS Tryz.prog (extR lo nxt S T) isExtR mask tab 3000 300 3 [.cls 20 n] h0 with
  | some (.bool b, _) => b
  | _ => false
theorem extR_ok {W : World} (hW : At W) {lo nxt K : Nat} {S T : Snap} (hlo : Nat.ble nxt lo = true) (hc : Chain lo round T S K) (g : FuncId) (hg : isExtR g = true) (vs : List V) (h : H) (v : V) (h' : H) (he : extR lo nxt S T g vs h = some (v, h')) : CallOk Tryz.prog W g vs h v h' := by
  unfold extR at he
  cases hb : Nat.beq g 48
  · rw [hb] at he
    refine ext_ok2 hW g ?_ vs h v h' he
    unfold isExtR at hg
    rw [hb] at hg
    exact hg
  · rw [hb] at he
    obtain rfl := Nat.eq_of_beq_eq_true hb
    exact runE_ok hW hlo hc he
theorem head_ok {W : World} (hW : At W) {n lo nxt K : Nat} {S T : Snap} (hlo : Nat.ble nxt lo = true) (hc : Chain lo round T S K) (hb : headB n lo nxt S T = true) : ∃ h', CallOk Tryz.prog W 3 [.cls 20 n] h0 (.bool true) h' := by
  unfold headB at hb
  split at hb
  · rename_i b h' he
    subst hb
    refine ⟨h', ?_⟩
    have hA : CallFnOk Tryz.prog W (callS Tryz.prog (extR lo nxt S T) isExtR mask tab 3000 300) := by
      rw [callS_eq _ _ _ tabOk]
      exact callN_sound (by kernel_rfl) (extR_ok hW hlo hc) noNum progOk (fun call hc => draws call hc) 300
    exact (hA 3 _ h0 _ h' he).1 rfl
  · cases hb

end Go.Proofs.YtodakbgbngdfbaaGreatDoor
