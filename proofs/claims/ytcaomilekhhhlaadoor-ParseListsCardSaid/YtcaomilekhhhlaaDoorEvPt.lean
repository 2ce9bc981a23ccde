/- ParseLists: a token, by the program's scanner. Condition: it is one of those that the law writes; the table of blanks holds what its initialiser lays. -/
import Derived.Test.YtcaomilekhhhlaaDoorEvPs
import Derived.Test.YtcaomilekhhhlaaDoorEvMi
namespace Go.Proofs.YtcaomilekhhhlaaDoor
open Go.Ev Go.RowKit
set_option maxHeartbeats 4000000
set_option maxRecDepth 100000

/-- What the evaluator says of a call, anywhere later. -/
theorem ev_calls {W : World} (hA : At W) {g : FuncId} {vs : List V} {h1 : H} {v : V} (hy : Nat.beq g yieldG = false) (hc : call1 g vs h0 = some (v, h1)) {w : World} (hb : Below W.heap.size W w) {xs : Array Value} (hvs : VsRel (globEmb Tryd.prog W) vs xs.toList) :
    Calls Tryd.prog g xs w fun e w' => ∃ z r', e = .returned z ∧ VRel r' v z ∧ Rel r' h1 w' ∧ (∀ b, Held r' h1 b → Held (globEmb Tryd.prog W) h0 b ∨ w.heap.size ≤ b) ∧ Below w.heap.size w w' := by
  have hg := hA.begins
  refine (((ext1_sound hA 60 1000 g vs h0 v h1 hc).1 hy) (globEmb Tryd.prog W) w xs (hg.rel w hb.block) hg.gl (hg.base hb.block hb.size) hvs).mono ?_
  rintro e w' ⟨z, r', rfl, st, hv⟩
  exact ⟨z, r', rfl, hv, st.rel, fun b hh => (Nat.lt_or_ge b w.heap.size).imp (fun hl => st.held b hl hh) id, st.os, st.tape, st.out, st.size, fun k hk => st.keep k hk (hg.none k)⟩

theorem cont_at {W : World} (hA : At W) {w : World} (hb : Below W.heap.size W w) (s sub : ByteArray) (hs : s.size < 4294967281) {b : Bool} (hc : Lib.contains s.data.toList sub.data.toList = b) : Calls Tryd.prog 69 #[.string s, .string sub] w fun e w' => e = .returned (.bool b) ∧ w' = w := by
  obtain ⟨m, hm⟩ := hA.max
  have hlt : 1 < W.heap.size := by
    unfold World.cell? at hm
    split at hm
    · rename_i c t fz hc
      exact (Array.getElem?_eq_some_iff.1 hc).1
    · cases hm
  have hm' : w.cell? ⟨1, 0, none⟩ = some (.int .i64 m) := (hb.cell hlt).trans hm
  refine (Tryd.strings_Contains s sub m w hs hm').mono ?_
  rintro e w' ⟨rfl, rfl⟩
  rw [hc]
  exact ⟨rfl, rfl⟩
/-- A name of the law's is no key word. -/
theorem word_no {W : World} (hA : At W) {c : Nat} (hc : c = 97 ∨ c = 98 ∨ c = 102) {w : World} (hb : Below W.heap.size W w) : Calls Tryd.prog 49 #[.string ⟨#[UInt8.ofNat c]⟩] w fun e w' => e = .returned (.bool false) ∧ w' = w := by
  rcases hc with rfl | rfl | rfl
  · go_enter Tryd.func49, Tryd.ntmps49
    go_wp2_with (go_at_call 69; refine (cont_at hA hb _ _ (by decide) (b := false) (by decide +kernel)).mono ?_)
    rintro e w' ⟨rfl, rfl⟩
    go_wp2_with (go_at_call 69; refine (cont_at hA hb _ _ (by decide) (b := false) (by decide +kernel)).mono ?_)
    rintro e w' ⟨rfl, rfl⟩
    go_wp2
    go_ret
    exact ⟨rfl, rfl⟩
  · go_enter Tryd.func49, Tryd.ntmps49
    go_wp2_with (go_at_call 69; refine (cont_at hA hb _ _ (by decide) (b := false) (by decide +kernel)).mono ?_)
    rintro e w' ⟨rfl, rfl⟩
    go_wp2_with (go_at_call 69; refine (cont_at hA hb _ _ (by decide) (b := false) (by decide +kernel)).mono ?_)
    rintro e w' ⟨rfl, rfl⟩
    go_wp2
    go_ret
    exact ⟨rfl, rfl⟩
  · go_enter Tryd.func49, Tryd.ntmps49
    go_wp2_with (go_at_call 69; refine (cont_at hA hb _ _ (by decide) (b := false) (by decide +kernel)).mono ?_)
    rintro e w' ⟨rfl, rfl⟩
    go_wp2_with (go_at_call 69; refine (cont_at hA hb _ _ (by decide) (b := false) (by decide +kernel)).mono ?_)
    rintro e w' ⟨rfl, rfl⟩
    go_wp2
    go_ret
    exact ⟨rfl, rfl⟩
def nonL : List Nat := [32, 40, 41, 44, 59, 91, 93, 61]
theorem letter_yes {c : Nat} (hc : c = 97 ∨ c = 98 ∨ c = 102) (w : World) : Calls Tryd.prog 23 #[.int .u8 c] w fun e w' => e = .returned (.bool true) ∧ w' = w := by
  rcases hc with rfl | rfl | rfl <;> (go_enter Tryd.func23, Tryd.ntmps23; go_wp2; go_ret; exact ⟨rfl, rfl⟩)
theorem letter_no {c : Nat} (hc : c ∈ nonL) (w : World) : Calls Tryd.prog 23 #[.int .u8 c] w fun e w' => e = .returned (.bool false) ∧ w' = w := by
  simp only [nonL, List.mem_cons, List.not_mem_nil, or_false] at hc
  rcases hc with rfl | rfl | rfl | rfl | rfl | rfl | rfl | rfl <;> (go_enter Tryd.func23, Tryd.ntmps23; go_wp2; go_ret; exact ⟨rfl, rfl⟩)
theorem digit_no {c : Nat} (hc : c ∈ nonL) (w : World) : Calls Tryd.prog 25 #[.int .u8 c] w fun e w' => e = .returned (.bool false) ∧ w' = w := by
  simp only [nonL, List.mem_cons, List.not_mem_nil, or_false] at hc
  rcases hc with rfl | rfl | rfl | rfl | rfl | rfl | rfl | rfl <;> (go_enter Tryd.func25, Tryd.ntmps25; go_wp2; go_ret; exact ⟨rfl, rfl⟩)
/-- Back with a token that lies in a cell, a place, a truth. -/
theorem tok_ret {fn : Func} {R : Ending → World → Prop} {tmps : Array Value} {w : World} {b : Nat} {x0 x1 x2 x3 : Value} {fz : Nat × Nat} (hr : fn.results = #[.cell 4 42, .tmp 5, .tmp 6]) (h4 : tmps.getD 4 undef = .pointer (some ⟨b, 0, none⟩)) (hb : w.heap[b]? = some (.cells #[x0, x1, x2, x3] 42 fz))
    (hR : R (.returned (.tuple #[.agg #[x0, x1, x2, x3], tmps.getD 5 undef, tmps.getD 6 undef])) w) : bodyPost Tryd.prog fn R .ret { tmps := tmps, defers := [] } w := by
  refine bodyPost_ret (v := .tuple #[.agg #[x0, x1, x2, x3], tmps.getD 5 undef, tmps.getD 6 undef]) ?_ rfl hR
  have h1 : (loadVar 42 ⟨b, 0, none⟩).run Tryd.prog w = .ok (.agg #[x0, x1, x2, x3]) w := run_loadVar_row _ b 42 42 _ _ _ hb Tryd.underlying42 rfl (by kernel_rfl)
  have h4' : tmps[4]?.getD undef = .pointer (some ⟨b, 0, none⟩) := by rw [← Array.getD_eq_getD_getElem?]; exact h4
  simp [results, hr, h4', asAddr, h1]
/-- A name of one letter. -/
theorem name_one {W : World} (hA : At W) (s t : ByteArray) (at_ b c d : Nat) (w : World) (hb : b = at_ + 1) (hlt : at_ < s.size) (hlt2 : b < s.size) (hs : s.size ≤ 1000) (hc : (s[at_]'hlt).toNat = c) (hd : (s[b]'hlt2).toNat = d) (hcl : c = 97 ∨ c = 98 ∨ c = 102) (hdn : d ∈ nonL)
    (ht : t = ⟨#[UInt8.ofNat c]⟩) (hx : s.extract at_ b = t) (hB : Below W.heap.size W w) :
    Calls Tryd.prog 24 #[.string s, .int .i64 at_] w fun e w' => e = .returned (.tuple #[.agg #[.int .i64 1, .string t, .int .i64 0, .int .i64 0], .int .i64 b, .bool true]) ∧ Below w.heap.size w w' := by
  have hw : IntKind.i64.wrap ((at_ : Int) + 1) = (b : Int) := by subst hb; have := Go.Ev.wrap_small IntKind.i64 (at_ + 1) (by show _ ≤ 9223372036854775807; omega); simpa using this
  have hw2 : IntKind.i64.wrap ((b : Int) - (at_ : Int)) = 1 := by subst hb; rw [show ((at_ + 1 : Nat) : Int) - (at_ : Int) = 1 by omega]; decide
  have hab : at_ ≤ b := by omega
  have hw9 : ∀ w, Below W.heap.size W w → Calls Tryd.prog 49 #[.string t] w fun e w' => e = .returned (.bool false) ∧ w' = w := fun w h => by rw [ht]; exact word_no hA hcl h
  have ly := letter_yes hcl
  have ln := letter_no hdn
  have dn := digit_no hdn
  clear hcl hdn hb ht
  go_enter Tryd.func24, Tryd.ntmps24
  go_wp2
  refine wp_loop_rounds 2 ?_
  rw [rounds_succ]
  go_wp2_with (go_at_call 23; refine (ly _).mono ?_)
  rintro e w' ⟨rfl, rfl⟩
  go_wp2
  rw [rounds_succ]
  clear hw
  go_wp2_with (go_at_call 23; refine (ln _).mono ?_)
  rintro e w' ⟨rfl, rfl⟩
  go_wp2_with (go_at_call 25; refine (dn _).mono ?_)
  rintro e w' ⟨rfl, rfl⟩
  clear ly ln dn
  have h1 : (0 : Int) ≤ (at_ : Int) := by omega
  have h2 : (at_ : Int) ≤ (b : Int) := by omega
  have h3 : (b : Int) ≤ (s.size : Int) := by omega
  have hBs := hB.size
  go_wp2_with (go_at_call 49; refine (hw9 _ ?bel).mono ?_)
  case bel => repeat (first | exact hB | refine Below.alloc ?_ (by first | omega | (simp; omega)) _)
  clear hw9 hc hd hlt hlt2 hx
  rintro e w2 ⟨rfl, rfl⟩
  go_wp2
  exact tok_ret rfl rfl ((heap_alloc_old (w.alloc _) _ (by simp)).trans (heap_alloc_new w _)) ⟨rfl, ((Below.refl _ w).alloc (Nat.le_refl _) _).alloc (by simp) _⟩
end Go.Proofs.YtcaomilekhhhlaaDoor
