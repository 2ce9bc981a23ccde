/- ListSigns: the calls of the law by contract: the machine, the walker, all twice. Condition: what its rounds come to. -/
import Derived.Test.YtllgeddjlodliaaGreatDoorYEvSgM
namespace Go.Proofs.YtllgeddjlodliaaGreatDoor
open Go.Ev

def hE0 : H := ⟨20, h0.mem⟩
def flat0 : Code → List Code
  | .seq a b => flat0 a ++ flat0 b
  | c => [c]
noncomputable def entL : List Code := (flatC allCode).take 3
noncomputable def endL : List Code := (flatC allCode).drop 4
noncomputable def fM : Bool := match callG 7 [] hE0 with | some (v, h) => turnB 20 [] (fset fr0 0 v) h Sg.macS | none => false
noncomputable def fW : Bool := match callG 8 [.ptr 22 0, Sg.i 3, .agg [Sg.i 7, Sg.i 0, Sg.txV]] Sg.macS.h with | some (v, h) => snaple 20 (fset fr0 0 v) h Sg.wlkS | none => false
def tbE : List (Nat × Nm) := [(10, .keep), (11, .at_ 0)]
noncomputable def fE : Bool := match denL Tryz.prog callG (mask 10) 3000 entL (args0 (mask 10) 0 [.ptr 22 0, Sg.wkV] fr0) [] Sg.wlkS.h with | .ok .norm f d h => (match d with | [] => turnB 20 tbE f h Sg.entS | _ => false) | _ => false
theorem all_at : (flatC allCode)[3]? = some (.block 0 (.loop bodyCode)) := by kernel_rfl
theorem all_parts : flatC allCode = entL ++ (.block 0 (.loop bodyCode) :: endL) := by
  have h := all_at
  have hlt := (List.getElem?_eq_some_iff.1 h).1
  have he := (List.getElem?_eq_some_iff.1 h).2
  unfold entL endL
  rw [← he, List.getElem_cons_drop, List.take_append_drop]
theorem all_body : Tryz.f10.body = some allCode := by kernel_rfl
theorem ent_ok : (entL.all (codeOk 47)) = true := by decide +kernel
theorem all_res : Tryz.f10.results.toList = [.tmp 4, .tmp 5] := by kernel_rfl
theorem all_tmps : Tryz.f10.ntmps = 47 := by kernel_rfl
theorem ent_h : Sg.entS.h = (Sg.headS 0).h := by kernel_rfl
theorem ent_f : Sg.entS.f = (Sg.headS 0).f := by kernel_rfl

section
variable {W : World} {r0 : Emb} {h0' : H}

/-- A call whose end is written down. -/
theorem call_snap (hlo : h0'.next ≤ 20) (hrel0 : Rel r0 h0' W) (hg0 : GRel Tryz.prog r0) (hb0 : Base W r0 h0' W) {g : FuncId} {vs : List V} {h h1 : H} {v : V} {S : Snap} (hy : Nat.beq g yieldG = false) (hc : callG g vs h = some (v, h1)) (hs : snaple 20 (fset fr0 0 v) h1 S = true) (hri : rises 0 0 S.ents = true)
    {r : Emb} {w : World} {xs : Array Value} (hst : Step r0 h0' W r h w) (hvs : VsRel r vs xs.toList) :
    Calls Tryz.prog g xs w fun e w' => ∃ z r2, e = .returned z ∧ VRel r2 (fget S.f 0) z ∧ Step r0 h0' W r2 S.h w' ∧ (∀ id x, id < 20 → r id = some x → r2 id = some x) ∧ (∀ w0 B, Kp w0 B r h w → Kp w0 B r2 S.h w') ∧
      (∀ id old e, (id, old, e) ∈ S.ents → ∀ x, r old = some x → r2 id = some x) := by
  have hg := GRel.up hst.le hg0
  have hb := hb0.step hst
  refine ((callG_ok (W := W) g vs h v h1 hc).1 hy r w xs hst.rel hg hb hvs).mono ?_
  rintro e w' ⟨z, r', rfl, st1, hv⟩
  obtain ⟨hd1, hs1⟩ := St.enter (P := Tryz.prog) (n := 0) (mask := 1) st1.rel (GRel.up st1.le hg) (hb.step st1) (VsRel.cons hv .nil : VsRel r' [v] (#[z] : Array Value).toList)
  have e1 : args0 1 0 [v] fr0 = fset fr0 0 v := rfl
  rw [e1] at hd1 hs1
  obtain ⟨-, r2, hs2, st2, u4, u5⟩ := snap_sound3 hs hlo hrel0 hg0 hb0 hd1 hs1 (hst.trans st1)
  refine ⟨z, r2, rfl, ?_, st2, fun id x hi hx => by rw [u4 id hi]; exact st1.le _ _ hx, fun w0 B kp => (kp.step st1).go (fun _ _ _ => rfl) (fun b _ hh => ?_) (Nat.le_refl _), fun id old e hm x hx => by rw [(u5 id old e hm).1]; exact st1.le _ _ hx⟩
  · have := hs2.tm 0
    simpa [Array.getD_eq_getD_getElem?] using this
  · obtain ⟨id, sh, m, hl, e⟩ := hh
    obtain ⟨old, en, q1, q2⟩ := hOf_live hri hl.1 hl.2
    obtain ⟨g1, g2, _⟩ := u5 id old en q1
    exact ⟨old, sh, m, g2, by rw [← g1]; exact e⟩

theorem results_two {P : Program} (fn : Func) (h : fn.results = #[.tmp 4, .tmp 5]) (tmps : Array Value) (w : World) : (results fn tmps).run P w = .ok (.tuple #[tmps.getD 4 undef, tmps.getD 5 undef]) w := by
  simp [results, h]
theorem tbE_is {a : Nat} : tbOf tbE a = .no ∨ (tbOf tbE a = .keep ∧ a = 10) ∨ (tbOf tbE a = .at_ 0 ∧ a = 11) := by
  simp only [tbE, tbOf]
  cases h1 : Nat.beq a 10 <;> simp only [cond_true, cond_false]
  · cases h2 : Nat.beq a 11 <;> simp only [cond_true, cond_false]
    · exact .inl (by trivial)
    · exact .inr (.inr ⟨by trivial, Nat.eq_of_beq_eq_true h2⟩)
  · exact .inr (.inl ⟨by trivial, Nat.eq_of_beq_eq_true h1⟩)

set_option maxHeartbeats 4000000 in
set_option maxRecDepth 100000 in
/-- All, the first time. -/
theorem all_walk (Fs : SgFacts) (hE : fE = true) (hlow : ∀ id, 10 ≤ id → r0 id = none) (hg0 : GRel Tryz.prog r0) (hb0 : Base W r0 h0' W) {r : Emb} {w : World} {x y : Nat} (hst : Step r0 h0' W r Sg.wlkS.h w) (h10 : r 10 = some (x, y, 0)) (hxy : x < 256 ^ y) (hev : (sval x y).size % 2 = 0) (hsz : (sval x y).size ≤ 1000)
    {mv wv : Value} {p22 : Nat × Nat × Nat} (h22 : r 22 = some p22) (hm : VRel r (.ptr 22 0) mv) (hw : VRel r Sg.wkV wv) :
    Calls Tryz.prog 10 #[mv, wv] w fun e w' => ∃ k lst r', k ≤ 500 ∧ e = .returned (.tuple #[lst, .bool true]) ∧ Step r0 h0' W r' (Sg.doneS k).h w' ∧ w'.ownsRow w.heap.size 29 3 lst k (cellsSg (sgnL (sval x y) ((sval x y).size / 2 + 1) 0)) ∧
      (∀ g, lst.ownBlock = some g → ¬ Held r' (Sg.doneS k).h g) ∧ r' 22 = some p22 ∧ Kp w (fun b => Held r Sg.wlkS.h b) r' (Sg.doneS k).h w' := by
  have hg := GRel.up hst.le hg0
  have hb := hb0.step hst
  have hcall : CallFnOk Tryz.prog W callG := callG_ok
  refine calls_of_wp_defers Tryz.func10 all_body (wp_pieces ?_)
  rw [all_parts]
  unfold fE at hE
  split at hE
  · rename_i f d h he
    split at hE
    · obtain ⟨hd0, hs0⟩ := St.enter (n := 47) (mask := mask 10) hst.rel hg hb (xs := #[mv, wv]) (.cons hm (.cons hw .nil) : VsRel r [.ptr 22 0, Sg.wkV] (#[mv, wv] : Array Value).toList)
      rw [all_tmps]
      refine denL_sound hcall noNum (draws _ hcall) entL _ f [] [] Sg.wlkS.h h .norm r _ w ent_ok hd0 hs0 he (fun e r' a' w' q1 q2 q3 q4 => ?_)
      have e1 : e = .normal := q1
      subst e1
      obtain ⟨r2, u1, u2, u3, u4, u5, u6⟩ := turn_sound hE (nm := fun id => if id = 10 then some (x, y, 0) else if id = 11 then some (0, 0, 0) else none) (Nat.le_refl 20) hlow hg0 q3 (hst.trans q4) (fun r2 hr2 =>
        { num := fun a f lb ub e => by
            rcases tbE_is (a := a) with q | ⟨q, _⟩ | ⟨q, _⟩ <;> (rw [q] at e; cases e)
          keep := fun a e => by
            rcases tbE_is (a := a) with q | ⟨q, rfl⟩ | ⟨q, _⟩
            · rw [q] at e; cases e
            · exact ⟨rfl, by rw [hr2 10 rfl, q4.le _ _ h10]; rfl⟩
            · rw [q] at e; cases e
          at_ := fun a m e => by
            rcases tbE_is (a := a) with q | ⟨q, _⟩ | ⟨q, rfl⟩
            · rw [q] at e; cases e
            · rw [q] at e; cases e
            · rw [q] at e
              cases e
              exact ⟨rfl, by rw [hr2 11 rfl]; rfl⟩ })
      have kp0 : Kp w (fun b => Held r Sg.wlkS.h b) r Sg.wlkS.h w := ⟨fun _ _ _ => rfl, fun _ _ hh => hh, Nat.le_refl _⟩
      have kp2 := (kp0.step q4).go (r' := r2) (h' := Sg.entS.h) (w' := w') (fun _ _ _ => rfl) (fun g _ hh => u5 g hh) (Nat.le_refl _)
      have hin : (22, 22, Sg.eM (Sg.i 0)) ∈ Sg.entS.ents := in_22 (old := Sg.oldEn) rfl
      have n22 : r2 22 = some p22 := by rw [u6.2 22 22 _ hin]; exact q4.le _ _ h22
      have s6 : a'.tmps.getD 6 undef = .slice none 0 0 := by
        have := u3.tm 6
        rw [show fget Sg.entS.f 6 = .nils from by kernel_rfl] at this
        generalize a'.tmps.getD 6 undef = z at this ⊢
        cases this
        rfl
      rw [ent_h, ent_f] at u3
      rw [ent_h] at u4 kp2
      have H : HeadAt w (fun b => Held r Sg.wlkS.h b) W w.heap.size r0 h0' w.heap.size x y 0 0 p22 [] r2 a' w' :=
        ⟨u3, u4, by rw [u1 10 rfl]; rfl, by rw [u1 11 rfl]; rfl, by rw [u1 12 rfl]; rfl, by rw [u1 13 rfl]; rfl, n22, by rw [s6]; exact World.ownsRow_nil _ _ _ _, fun g hg => (by rw [s6] at hg; cases hg), q4.size, kp2⟩
      have hloop := loop_ok (nb := w.heap.size) (base := w.heap.size) Fs hlow hg0 hst.size (Nat.le_refl _) hxy hev hsz ((sval x y).size / 2) 0 0 [] r2 a' w' (by omega) (Nat.zero_le _) (by omega) H
      show Code.wp Tryz.prog (.block 0 (.loop bodyCode)) _ a' w'
      refine wp_block (wp_mono (wpIn_wide.1 (wpIn_loop_rounds (F := wideR none) (n := 0) ((sval x y).size / 2 + 1) hloop)) ?_)
      rintro e a2 w2 ⟨rfl, k, r3, hk, D⟩
      show Leaves _ _ _ _ _ _ _
      have hdef : a2.defers = [] := by
        have := D.st.ds
        cases hq : a2.defers with
        | nil => rfl
        | cons _ _ => rw [hq] at this; cases this
      rw [hdef]
      refine ⟨.tuple #[a2.tmps.getD 4 undef, .bool true], ?_, k, _, r3, hk, rfl, D.step, by have := D.own; rw [List.nil_append] at this; exact this, D.free, D.n22, D.kp⟩
      have hr : Tryz.f10.results = #[.tmp 4, .tmp 5] := by kernel_rfl
      rw [results_two Tryz.f10 hr, D.t5]
    · cases hE
  · cases hE

/-- All, the second time. -/
theorem again_walk (Fs : SgFacts) (hb0 : Base W r0 h0' W) (hg0 : GRel Tryz.prog r0) {k : Nat} (hk : k ≤ 500) {r : Emb} {w : World} (hst : Step r0 h0' W r (Sg.doneS k).h w) {mv wv : Value} (hm : VRel r (.ptr 22 0) mv) (hw : VRel r Sg.wkV wv) :
    Calls Tryz.prog 10 #[mv, wv] w fun e w' => e = .returned (.tuple #[.slice none 0 0, .bool true]) ∧ ∃ r' h', Step r (Sg.doneS k).h w r' h' w' := by
  have hD := Fs.d k hk
  unfold fD at hD
  split at hD
  · split at hD
    · simp only [Bool.and_eq_true] at hD
      obtain ⟨_, hD2⟩ := hD
      split at hD2
      · rename_i b h1 hc
        subst hD2
        refine ((callG_ok (W := W) 10 _ _ _ _ hc).1 rfl r w #[mv, wv] hst.rel (GRel.up hst.le hg0) (hb0.step hst) (.cons hm (.cons hw .nil))).mono ?_
        rintro e w' ⟨z, r', rfl, st1, hv⟩
        refine ⟨?_, r', h1, st1⟩
        cases hv with
        | @tup _ xs hx =>
          cases xs with | mk l =>
          cases hx with
          | cons g1 hx => cases hx with
            | cons g2 hx =>
              cases hx
              cases g1
              cases g2
              rfl
      · cases hD2
    · cases hD
  · cases hD
end
end Go.Proofs.YtllgeddjlodliaaGreatDoor
