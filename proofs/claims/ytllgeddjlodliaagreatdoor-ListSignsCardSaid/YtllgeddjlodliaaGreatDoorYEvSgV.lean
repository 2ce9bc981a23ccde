/- ListSigns: what the law's walk wants: steps of its own, texts and signs of a list that it owns. No condition. -/
import Derived.Test.YtllgeddjlodliaaGreatDoorYEvSgN
import Derived.Test.YtllgeddjlodliaaGreatDoorYEvSgQ
namespace Go.Proofs.YtllgeddjlodliaaGreatDoor
open Go.Ev Go.RowKit
set_option maxHeartbeats 4000000
set_option maxRecDepth 100000

/-- What the law does by itself touches no label. -/
theorem step_below {r0 r : Emb} {h0' h : H} {W w w' : World} (st : Step r0 h0' W r h w) (hb : Below w.heap.size w w') : Step r0 h0' W r h w' :=
  ⟨st.le, rel_same st.rel (Emb.le_refl _) st.rel.new (fun b hh => hb.block b (st.rel.held_lt hh)), Nat.le_trans st.size hb.size,
    fun b hlt hn => by rw [hb.block b (Nat.lt_of_lt_of_le hlt st.size)]; exact st.keep b hlt hn, st.own, st.held, hb.os.trans st.os, hb.output.trans st.out, hb.tape.trans st.tape⟩
/-- A call whose end is written down, names forgotten. -/
theorem call_turn {W : World} {r0 : Emb} {h0' : H} (hlow : ∀ id, 10 ≤ id → r0 id = none) (hg0 : GRel Tryz.prog r0) (hb0 : Base W r0 h0' W) {g : FuncId} {vs : List V} {h h1 : H} {v : V} {S : Snap} (hy : Nat.beq g yieldG = false) (hc : callG g vs h = some (v, h1)) (hs : turnB 20 [] (fset fr0 0 v) h1 S = true)
    {r : Emb} {w : World} {xs : Array Value} (hst : Step r0 h0' W r h w) (hvs : VsRel r vs xs.toList) :
    Calls Tryz.prog g xs w fun e w' => ∃ z r2, e = .returned z ∧ VRel r2 (fget S.f 0) z ∧ Step r0 h0' W r2 S.h w' ∧ ∀ id, isNam id = true → r2 id = none := by
  have hg := GRel.up hst.le hg0
  have hb := hb0.step hst
  refine ((callG_ok (W := W) g vs h v h1 hc).1 hy r w xs hst.rel hg hb hvs).mono ?_
  rintro e w' ⟨z, r', rfl, st1, hv⟩
  obtain ⟨hd1, hs1⟩ := St.enter (P := Tryz.prog) (n := 0) (mask := 1) st1.rel (GRel.up st1.le hg) (hb.step st1) (VsRel.cons hv .nil : VsRel r' [v] (#[z] : Array Value).toList)
  have e1 : args0 1 0 [v] fr0 = fset fr0 0 v := rfl
  rw [e1] at hd1 hs1
  obtain ⟨r2, u1, u2, u3, u4, u5, u6⟩ := turn_sound hs (nm := fun _ => none) (Nat.le_refl 20) hlow hg0 hs1 (hst.trans st1) (fun r2 hr2 =>
    { num := fun a f lb ub e => (by cases e), keep := fun a e => (by cases e), at_ := fun a n e => (by cases e) })
  refine ⟨z, r2, rfl, ?_, u4, u1⟩
  have := u3.tm 0
  simpa [Array.getD_eq_getD_getElem?] using this
/-- The units as they lie. -/
def uC (us : List Nat) : List Value := us.map fun (u : Nat) => Value.int .i64 (u : Int)
theorem u_cell {w : World} {base g cap : Nat} {us : List Nat} (h : w.ownsRow base 3 1 (.slice (some ⟨g, 0, none⟩) us.length cap) us.length (uC us)) (j : Nat) (hj : j < us.length) : w.cell? ⟨g, 0 + j, none⟩ = some (.int .i64 ((us.getD j 0 : Nat) : Int)) := by
  rcases h.2 with ⟨e, _⟩ | ⟨g', cap', cur, e, _, hh, h1, _, h2, h3⟩
  · cases e
  · cases e
    have hlt : j < cur.size := by omega
    have g1 : (cur.toList.take (us.length * 1))[j]? = some (Value.int .i64 ((us.getD j 0 : Nat) : Int)) := by
      rw [h3]
      simp [uC, List.getD, hj]
    rw [List.getElem?_take_of_lt (by omega)] at g1
    simp only [World.cell?, hh]
    simpa using g1
theorem str_any {w : World} {base : Nat} {v : Value} {us : List Nat} (h : w.ownsRow base 3 1 v us.length (uC us)) (hn : us.length ≤ 500) (hu : ∀ u ∈ us, u < 65536) :
    Calls Tryz.prog 9 #[v] w fun e w' => e = .returned (.string (strS us)) ∧ Below w.heap.size w w' := by
  rcases h.2 with ⟨rfl, h0⟩ | ⟨g, cap, cur, rfl, hb, hh, _⟩
  · obtain rfl := List.eq_nil_of_length_eq_zero h0
    exact str_nil w
  · exact str_walk g 0 cap us w (Array.getElem?_eq_some_iff.1 hh).1 hn hu (fun j hj => u_cell h j hj)
theorem signs_nil (w : World) : Calls Tryz.prog 11 #[.slice none 0 0] w fun e w' => ∃ v, e = .returned v ∧ SgOk w' w.heap.size v (signsL []) ∧ Below w.heap.size w w' := by
  go_enter Tryz.func11, Tryz.ntmps11
  go_wp2
  refine wp_loop_rounds 1 ?_
  rw [rounds_succ]
  go_wp2
  go_ret
  exact ⟨_, rfl, SgOk.nil _ _, Below.refl _ _⟩
theorem signs_any {w : World} {base : Nat} {v : Value} {us : List Nat} (h : w.ownsRow base 3 1 v us.length (uC us)) (hn : us.length ≤ 500) (hu : ∀ u ∈ us, u < 65536) :
    Calls Tryz.prog 11 #[v] w fun e w' => ∃ v, e = .returned v ∧ SgOk w' w.heap.size v (signsL us) ∧ Below w.heap.size w w' := by
  rcases h.2 with ⟨rfl, h0⟩ | ⟨g, cap, cur, rfl, hb, hh, _⟩
  · obtain rfl := List.eq_nil_of_length_eq_zero h0
    exact signs_nil w
  · exact signs_walk g 0 cap us w (Array.getElem?_eq_some_iff.1 hh).1 hn hu (fun j hj => u_cell h j hj)
end Go.Proofs.YtllgeddjlodliaaGreatDoor
