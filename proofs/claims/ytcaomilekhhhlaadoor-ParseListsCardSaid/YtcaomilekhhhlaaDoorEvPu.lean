/- ParseLists: a sign, by the program's scanner. Condition: it is one of those that the law writes; the table of blanks holds what its initialiser lays. -/
import Derived.Test.YtcaomilekhhhlaaDoorEvPt
namespace Go.Proofs.YtcaomilekhhhlaaDoor
open Go.Ev Go.RowKit
set_option maxHeartbeats 4000000
set_option maxRecDepth 100000

def signsB : ByteArray := ⟨([46, 46, 46, 32, 61, 61, 61, 32, 33, 61, 61, 32, 38, 38, 32, 124, 124, 32, 63, 63, 32, 61, 62, 32, 43, 43, 32, 45, 45, 32, 43, 61, 32, 45, 61, 32, 42, 61, 32, 47, 61, 32, 37, 61, 32].append [60, 61, 32, 62, 61, 32, 40, 32, 41, 32, 91, 32, 93, 32, 123, 32, 125, 32, 46, 32, 44, 32, 59, 32, 58, 32, 63, 32, 33, 32, 61, 32, 43, 32, 45, 32, 42, 32, 47, 32, 37, 32, 60, 32, 62]).toArray⟩
theorem signs_rel (r : Emb) : VRel r (.str signsN 90) (.string signsB) := by
  have h := vrel_constV1 r (.string signsB)
  have e : constV1 (.string signsB) = .str signsN 90 := by kernel_rfl
  rw [e] at h
  exact h
def sgnC : Bool := (List.range 36).all fun i => match signsL[i]? with | some (.str n l) => sdec n l == sgnT.getD i [] | _ => false
theorem sgnC_true : sgnC = true := by decide +kernel
theorem sgn_cell {i : Nat} (hi : i < 36) : ∃ n l, signsL[i]? = some (.str n l) ∧ sval n l = ⟨(sgnT.getD i []).toArray⟩ := by
  have := List.all_eq_true.1 sgnC_true i (List.mem_range.2 hi)
  split at this
  · rename_i n l h
    exact ⟨n, l, h, by unfold sval; rw [eq_of_beq this]⟩
  · cases this
theorem co_calls {W : World} (hA : At W) {g : FuncId} {vs : List V} {h1 : H} {v : V} (hc : CallOk Tryd.prog W g vs h0 v h1) {w : World} (hb : Below W.heap.size W w) {xs : Array Value} (hvs : VsRel (globEmb Tryd.prog W) vs xs.toList) :
    Calls Tryd.prog g xs w fun e w' => ∃ z r', e = .returned z ∧ VRel r' v z ∧ Rel r' h1 w' ∧ (∀ b, Own r' h1 b → w.heap.size ≤ b) ∧ Below w.heap.size w w' := by
  have hg := hA.begins
  refine (hc (globEmb Tryd.prog W) w xs (hg.rel w hb.block) hg.gl (hg.base hb.block hb.size) hvs).mono ?_
  rintro e w' ⟨z, r', rfl, st, hv⟩
  exact ⟨z, r', rfl, hv, st.rel, fun b hh => (Nat.lt_or_ge b w.heap.size).elim (fun hl => (hg.none b (st.own b hl hh)).elim) id, st.os, st.tape, st.out, st.size, fun k hk => st.keep k hk (hg.none k)⟩
/-- The list of signs, taken apart. -/
theorem fields_calls {W : World} (hA : At W) {w : World} (hb : Below W.heap.size W w) : Calls Tryd.prog 28 #[.string signsB] w fun e w' => ∃ g o cap, e = .returned (.slice (some ⟨g, o, none⟩) 36 cap) ∧ (∀ i, i < 36 → w'.cell? ⟨g, o + i, none⟩ = some (.string ⟨(sgnT.getD i []).toArray⟩)) ∧ Below w.heap.size w w' := by
  refine (co_calls hA (fields_ok hA h0 (by decide)) hb (.cons (signs_rel _) .nil)).mono ?_
  rintro e w' ⟨z, r', rfl, hv, hr, -, hk⟩
  have hl : signsL.length = 36 := rfl
  have hblk : (h0.lay 36 9 true (cellsOf signsL)).mem.blk 600 = .live 36 9 false true (cellsOf signsL) := by kernel_rfl
  obtain ⟨b, sh, m, e1, hf⟩ := hr.blk 600 36 9 false true _ (by decide) hblk
  rcases (show ∃ cap, z = .slice (some ⟨b, 0 + sh, none⟩) 36 cap by
    cases hv with
    | slice h h1 h2 h3 =>
      rw [show h0.next = 600 from rfl, e1] at h
      cases h
      exact ⟨_, rfl⟩) with ⟨cap, rfl⟩
  obtain ⟨⟨cs, fz, ⟨t', q1, _⟩, q2, q3, q4, q5⟩, _⟩ := hf
  refine ⟨b, 0 + sh, cap, rfl, fun i hi => ?_, hk⟩
  obtain ⟨x, hx, hv⟩ := q5 i hi
  obtain ⟨n, l, s1, s2⟩ := sgn_cell hi
  rw [cellsOf_get signsL (by omega) i (by omega)] at hv
  have : signsL[i]'(by omega) = .str n l := (List.getElem?_eq_some_iff.1 s1).2
  rw [this] at hv
  cases hv
  rw [← s2]
  simp only [World.cell?, q1]
  rw [show 0 + sh + i = i + sh by omega]
  simpa using hx
end Go.Proofs.YtcaomilekhhhlaaDoor
