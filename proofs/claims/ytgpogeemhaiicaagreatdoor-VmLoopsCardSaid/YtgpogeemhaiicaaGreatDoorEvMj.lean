/- ParseLists: the program's scanner, walked over the texts that the law writes. Condition: each token is one of those. EarlyLabels: a token, by the program's scanner. Condition: it is one of those that the law writes; the table of blanks holds what its initialiser lays. ParseLists: a sign, by the program's scanner. Condition: it is one of those that the law writes; the table of blanks holds what its initialiser lays. No condition. -/
import Derived.Test.YtgpogeemhaiicaaGreatDoorEvExt
import Derived.Test.YtgpogeemhaiicaaGreatDoorEvMa
import Derived.WalkKit
import Derived.BigCall
import Derived.Lib.OthersKept
import Derived.OwnWalk
import Derived.Laws.AppendOwn
import Derived.Deep.AppendLies
import Derived.Deep.RegionLaw
import Derived.BigRegion
import Derived.Deep.QuietTactic
import Derived.BigQuiet
import Derived.Below
import Derived.Test.YtgpogeemhaiicaaGreatDoorEvMk
set_option linter.all false
namespace Go.Proofs.YtgpogeemhaiicaaGreatDoor
open Go.Ev Go.RowKit
set_option maxHeartbeats 4000000
set_option maxRecDepth 100000

theorem pref_false (s p : ByteArray) (w : World) (h : Lib.hasPrefix s.data.toList p.data.toList = false) : Calls Tryz.prog 118 #[.string s, .string p] w fun e w' => e = .returned (.bool false) ∧ w' = w := by
  refine (Tryz.strings_HasPrefix s p w).mono ?_
  rintro e w' ⟨rfl, rfl⟩
  rw [h]
  exact ⟨rfl, rfl⟩
theorem int_ne {c n : Nat} (h : c ≠ n) : ((c : Int) == (n : Int)) = false := by
  simp only [beq_eq_false_iff_ne, ne_eq]
  omega
/-- No blank, no comment: the place as it is. -/
theorem blank_none (s : ByteArray) (at_ : Nat) (w : World) (hlt : at_ < s.size) (hs : s.size ≤ 1000) (c : Nat) (hc : (s[at_]'hlt).toNat = c) (h1 : c ≠ 32) (h2 : c ≠ 9) (h3 : c ≠ 10) (h4 : c ≠ 13)
    (p1 : Lib.hasPrefix (s.extract at_ s.size).data.toList [47, 47] = false) (p2 : Lib.hasPrefix (s.extract at_ s.size).data.toList [47, 42] = false) :
    Calls Tryz.prog 72 #[.string s, .int .i64 at_] w fun e w' => e = .returned (.tuple #[.int .i64 at_, .bool true]) ∧ w' = w := by
  have q1 : ((c : Int) == 32) = false := int_ne h1
  have q2 : ((c : Int) == 9) = false := int_ne h2
  have q3 : ((c : Int) == 10) = false := int_ne h3
  have q4 : ((c : Int) == 13) = false := int_ne h4
  clear h1 h2 h3 h4
  go_enter Tryz.func72, Tryz.ntmps72
  go_wp2
  refine wp_loop_rounds 1 ?_
  rw [rounds_succ]
  go_wp2_with (go_at_call 118; refine (pref_false _ _ _ p1).mono ?_)
  rintro e w' ⟨rfl, rfl⟩
  go_wp2_with (go_at_call 118; refine (pref_false _ _ _ p2).mono ?_)
  rintro e w' ⟨rfl, rfl⟩
  go_wp2
  go_ret2
  exact ⟨rfl, rfl⟩
/-- One blank. -/
theorem blank_one (s : ByteArray) (at_ b : Nat) (w : World) (hb : b = at_ + 1) (hlt : at_ < s.size) (hlt2 : b < s.size) (hs : s.size ≤ 1000) (hc0 : (s[at_]'hlt).toNat = 32) (c : Nat) (hc : (s[b]'hlt2).toNat = c) (h1 : c ≠ 32) (h2 : c ≠ 9) (h3 : c ≠ 10) (h4 : c ≠ 13)
    (p1 : Lib.hasPrefix (s.extract b s.size).data.toList [47, 47] = false) (p2 : Lib.hasPrefix (s.extract b s.size).data.toList [47, 42] = false) :
    Calls Tryz.prog 72 #[.string s, .int .i64 at_] w fun e w' => e = .returned (.tuple #[.int .i64 b, .bool true]) ∧ w' = w := by
  have hw : IntKind.i64.wrap ((at_ : Int) + 1) = (b : Int) := by subst hb; have := Go.Ev.wrap_small IntKind.i64 (at_ + 1) (by show _ ≤ 9223372036854775807; omega); simpa using this
  have q1 : ((c : Int) == 32) = false := int_ne h1
  have q2 : ((c : Int) == 9) = false := int_ne h2
  have q3 : ((c : Int) == 10) = false := int_ne h3
  have q4 : ((c : Int) == 13) = false := int_ne h4
  clear h1 h2 h3 h4
  clear hb
  go_enter Tryz.func72, Tryz.ntmps72
  go_wp2
  refine wp_loop_rounds 2 ?_
  rw [rounds_succ]
  go_wp2
  rw [rounds_succ]
  go_wp2_with (go_at_call 118; refine (pref_false _ _ _ p1).mono ?_)
  rintro e w' ⟨rfl, rfl⟩
  go_wp2_with (go_at_call 118; refine (pref_false _ _ _ p2).mono ?_)
  rintro e w' ⟨rfl, rfl⟩
  go_wp2
  go_ret2
  exact ⟨rfl, rfl⟩
/-- The text is at its end. -/
theorem blank_end (s : ByteArray) (w : World) : Calls Tryz.prog 72 #[.string s, .int .i64 s.size] w fun e w' => e = .returned (.tuple #[.int .i64 s.size, .bool true]) ∧ w' = w := by
  go_enter Tryz.func72, Tryz.ntmps72
  go_wp2
  refine wp_loop_rounds 1 ?_
  rw [rounds_succ]
  go_wp2
  go_ret2
  exact ⟨rfl, rfl⟩
end Go.Proofs.YtgpogeemhaiicaaGreatDoor

namespace Go.Proofs.YtgpogeemhaiicaaGreatDoor
open Go.Ev Go.RowKit
set_option maxHeartbeats 4000000
set_option maxRecDepth 100000

/-- What the evaluator says of a call, anywhere later. -/
theorem ev_calls {W : World} (hA : At W) {g : FuncId} {vs : List V} {h1 : H} {v : V} (hy : Nat.beq g yieldG = false) (hc : call1 g vs h0 = some (v, h1)) {w : World} (hb : Below W.heap.size W w) {xs : Array Value} (hvs : VsRel (globEmb Tryz.prog W) vs xs.toList) :
    Calls Tryz.prog g xs w fun e w' => ∃ z r', e = .returned z ∧ VRel r' v z ∧ Rel r' h1 w' ∧ (∀ b, Held r' h1 b → Held (globEmb Tryz.prog W) h0 b ∨ w.heap.size ≤ b) ∧ Below w.heap.size w w' := by
  have hg := hA.begins
  refine (((ext1_sound hA 300 3000 g vs h0 v h1 hc).1 hy) (globEmb Tryz.prog W) w xs (hg.rel w hb.block) hg.gl (hg.base hb.block hb.size) hvs).mono ?_
  rintro e w' ⟨z, r', rfl, st, hv⟩
  exact ⟨z, r', rfl, hv, st.rel, fun b hh => (Nat.lt_or_ge b w.heap.size).imp (fun hl => st.held b hl hh) id, st.os, st.tape, st.out, st.size, fun k hk => st.keep k hk (hg.none k)⟩

theorem cont_at {W : World} (hA : At W) {w : World} (hb : Below W.heap.size W w) (s sub : ByteArray) (hs : s.size < 4294967281) {b : Bool} (hc : Lib.contains s.data.toList sub.data.toList = b) : Calls Tryz.prog 273 #[.string s, .string sub] w fun e w' => e = .returned (.bool b) ∧ w' = w := by
  obtain ⟨m, hm⟩ := hA.max
  have hlt : 2 < W.heap.size := by
    unfold World.cell? at hm
    split at hm
    · rename_i c t fz hc
      exact (Array.getElem?_eq_some_iff.1 hc).1
    · cases hm
  have hm' : w.cell? ⟨2, 0, none⟩ = some (.int .i64 m) := (hb.cell hlt).trans hm
  refine (Tryz.strings_Contains s sub m w hs hm').mono ?_
  rintro e w' ⟨rfl, rfl⟩
  rw [hc]
  exact ⟨rfl, rfl⟩
theorem loop_ne (bs : ByteArray) (i : Nat) (r : List UInt8) (h : r ≠ []) : ByteArray.toList.loop bs i r ≠ [] := by
  induction i, r using ByteArray.toList.loop.induct bs with
  | case1 i r hlt ih =>
    rw [ByteArray.toList.loop, if_pos hlt]
    exact ih (by simp)
  | case2 i r hlt =>
    rw [ByteArray.toList.loop, if_neg hlt]
    simpa using h
theorem toList_ne {S : ByteArray} (h : S.size ≠ 0) : S.toList.isEmpty = false := by
  unfold ByteArray.toList
  rw [ByteArray.toList.loop, if_pos (by omega)]
  cases hq : ByteArray.toList.loop S (0 + 1) [S.get! 0] with
  | nil => exact (loop_ne S _ _ (by simp) hq).elim
  | cons a l => rfl
/-- Is a name of the law's a key word? -/
theorem word_is {W : World} (hA : At W) {t : Tok} (ht : t ∈ txtL) {w : World} (hb : Below W.heap.size W w) : Calls Tryz.prog 190 #[.string (sval t.2.1 t.2.2)] w fun e w' => e = .returned (.bool (t.1 == 2)) ∧ w' = w := by
  obtain ⟨-, h1, h2, -, h4, h5⟩ := txt_ok t ht
  have hsz : (sval t.2.1 t.2.2).size = t.2.2 := by
    show (sdec t.2.1 t.2.2).toArray.size = _
    rw [List.size_toArray, sdec_length]
  have c1 := cont_at hA hb (sval t.2.1 t.2.2) ⟨#[32]⟩ (by omega) (b := false) (by rw [← h4]; unfold sval tB; rfl)
  have c2 := cont_at hA hb ⟨wordsT.toArray⟩ (⟨#[32]⟩ ++ sval t.2.1 t.2.2 ++ ⟨#[32]⟩) (by decide) (b := t.1 == 2) (by
    have e : (⟨#[32]⟩ ++ sval t.2.1 t.2.2 ++ ⟨#[32]⟩ : ByteArray).data.toList = [32] ++ tB t ++ [32] := by
      rw [ByteArray.data_append, ByteArray.data_append, Array.toList_append, Array.toList_append]
      rfl
    rw [e]
    exact h5)
  generalize hS : sval t.2.1 t.2.2 = S at hsz c1 c2 ⊢
  have h8 : S.size ≤ 8 := by omega
  have hie : S.toList.isEmpty = false := toList_ne (by omega)
  have hne : ¬ S.toList = [] := fun q => by rw [q] at hie; cases hie
  generalize (t.1 == 2) = B at c2 ⊢
  clear hS h5 h4
  go_enter Tryz.func190, Tryz.ntmps190
  go_wp2_with (go_at_call 273; refine c1.mono ?_)
  try (rintro e w' ⟨rfl, rfl⟩)
  go_wp2_with (go_at_call 273; refine c2.mono ?_)
  try (rintro e w' ⟨rfl, rfl⟩)
  go_wp2
  go_ret
  exact ⟨by simp [hie], rfl⟩
theorem letter_yes {c : Nat} (h1 : 97 ≤ c) (h2 : c ≤ 122) (w : World) : Calls Tryz.prog 121 #[.int .u8 c] w fun e w' => e = .returned (.bool true) ∧ w' = w := by
  have i1 : (97 : Int) ≤ (c : Int) := by omega
  have i2 : (c : Int) ≤ 122 := by omega
  have i3 : ((c : Int) == 95) = false := by rw [beq_eq_false_iff_ne]; omega
  have i4 : ((c : Int) == 36) = false := by rw [beq_eq_false_iff_ne]; omega
  generalize (c : Int) = C at *
  go_enter Tryz.func121, Tryz.ntmps121
  go_wp2
  go_ret
  exact ⟨rfl, rfl⟩
theorem letter_no {c : Nat} (hc : c ∈ nonL) (w : World) : Calls Tryz.prog 121 #[.int .u8 c] w fun e w' => e = .returned (.bool false) ∧ w' = w := by
  simp only [nonL, List.mem_cons, List.not_mem_nil, or_false] at hc
  rcases hc with rfl | rfl | rfl | rfl | rfl | rfl | rfl | rfl | rfl | rfl | rfl | rfl | rfl | rfl | rfl <;> (go_enter Tryz.func121, Tryz.ntmps121; go_wp2; go_ret; exact ⟨rfl, rfl⟩)
theorem digit_cases {c : Nat} (h1 : 48 ≤ c) (h2 : c ≤ 57) : c = 48 ∨ c = 49 ∨ c = 50 ∨ c = 51 ∨ c = 52 ∨ c = 53 ∨ c = 54 ∨ c = 55 ∨ c = 56 ∨ c = 57 := by omega
theorem letter_dig {c : Nat} (h1 : 48 ≤ c) (h2 : c ≤ 57) (w : World) : Calls Tryz.prog 121 #[.int .u8 c] w fun e w' => e = .returned (.bool false) ∧ w' = w := by
  rcases digit_cases h1 h2 with rfl | rfl | rfl | rfl | rfl | rfl | rfl | rfl | rfl | rfl <;> (go_enter Tryz.func121, Tryz.ntmps121; go_wp2; go_ret; exact ⟨rfl, rfl⟩)
theorem digit_no {c : Nat} (hc : c ∈ nonL) (w : World) : Calls Tryz.prog 123 #[.int .u8 c] w fun e w' => e = .returned (.bool false) ∧ w' = w := by
  simp only [nonL, List.mem_cons, List.not_mem_nil, or_false] at hc
  rcases hc with rfl | rfl | rfl | rfl | rfl | rfl | rfl | rfl | rfl | rfl | rfl | rfl | rfl | rfl | rfl <;> (go_enter Tryz.func123, Tryz.ntmps123; go_wp2; go_ret; exact ⟨rfl, rfl⟩)
theorem digit_yes {c : Nat} (h1 : 48 ≤ c) (h2 : c ≤ 57) (w : World) : Calls Tryz.prog 123 #[.int .u8 c] w fun e w' => e = .returned (.bool true) ∧ w' = w := by
  rcases digit_cases h1 h2 with rfl | rfl | rfl | rfl | rfl | rfl | rfl | rfl | rfl | rfl <;> (go_enter Tryz.func123, Tryz.ntmps123; go_wp2; go_ret; exact ⟨rfl, rfl⟩)
/-- Back with a token that lies in a cell, a place, a truth. -/
theorem tok_ret {fn : Func} {R : Ending → World → Prop} {tmps : Array Value} {w : World} {b : Nat} {x0 x1 x2 x3 : Value} {fz : Nat × Nat} (hr : fn.results = #[.cell 4 151, .tmp 5, .tmp 6]) (h4 : tmps.getD 4 undef = .pointer (some ⟨b, 0, none⟩)) (hb : w.heap[b]? = some (.cells #[x0, x1, x2, x3] 151 fz))
    (hR : R (.returned (.tuple #[.agg #[x0, x1, x2, x3], tmps.getD 5 undef, tmps.getD 6 undef])) w) : bodyPost Tryz.prog fn R .ret { tmps := tmps, defers := [] } w := by
  refine bodyPost_ret (v := .tuple #[.agg #[x0, x1, x2, x3], tmps.getD 5 undef, tmps.getD 6 undef]) ?_ rfl hR
  have h1 : (loadVar 151 ⟨b, 0, none⟩).run Tryz.prog w = .ok (.agg #[x0, x1, x2, x3]) w := run_loadVar_row _ b 151 151 _ _ _ hb Tryz.underlying151 rfl (by kernel_rfl)
  have h4' : tmps[4]?.getD undef = .pointer (some ⟨b, 0, none⟩) := by rw [← Array.getD_eq_getD_getElem?]; exact h4
  simp [results, hr, h4', asAddr, h1]
end Go.Proofs.YtgpogeemhaiicaaGreatDoor

namespace Go.Proofs.YtgpogeemhaiicaaGreatDoor
open Go.Ev Go.RowKit
set_option maxHeartbeats 4000000
set_option maxRecDepth 100000

def signsB : ByteArray := ⟨([46, 46, 46, 32, 61, 61, 61, 32, 33, 61, 61, 32, 38, 38, 32, 124, 124, 32, 63, 63, 32, 61, 62, 32, 43, 43, 32, 45, 45, 32, 43, 61, 32, 45, 61, 32, 42, 61, 32, 47, 61, 32, 37, 61, 32].append [60, 61, 32, 62, 61, 32, 40, 32, 41, 32, 91, 32, 93, 32, 123, 32, 125, 32, 46, 32, 44, 32, 59, 32, 58, 32, 63, 32, 33, 32, 61, 32, 43, 32, 45, 32, 42, 32, 47, 32, 37, 32, 60, 32, 62]).toArray⟩
theorem signs_rel (r : Emb) : VRel r (.str fieldAN 90) (.string signsB) := by
  have h := vrel_constV1 r (.string signsB)
  have e : constV1 (.string signsB) = .str fieldAN 90 := by kernel_rfl
  rw [e] at h
  exact h
def sgnC : Bool := (List.range 36).all fun i => match fieldAL[i]? with | some (.str n l) => sdec n l == sgnT.getD i [] | _ => false
theorem sgnC_true : sgnC = true := by decide +kernel
theorem sgn_cell {i : Nat} (hi : i < 36) : ∃ n l, fieldAL[i]? = some (.str n l) ∧ sval n l = ⟨(sgnT.getD i []).toArray⟩ := by
  have := List.all_eq_true.1 sgnC_true i (List.mem_range.2 hi)
  split at this
  · rename_i n l h
    exact ⟨n, l, h, by unfold sval; rw [eq_of_beq this]⟩
  · cases this
theorem co_calls {W : World} (hA : At W) {g : FuncId} {vs : List V} {h1 : H} {v : V} (hc : CallOk Tryz.prog W g vs h0 v h1) {w : World} (hb : Below W.heap.size W w) {xs : Array Value} (hvs : VsRel (globEmb Tryz.prog W) vs xs.toList) :
    Calls Tryz.prog g xs w fun e w' => ∃ z r', e = .returned z ∧ VRel r' v z ∧ Rel r' h1 w' ∧ (∀ b, Own r' h1 b → w.heap.size ≤ b) ∧ Below w.heap.size w w' := by
  have hg := hA.begins
  refine (hc (globEmb Tryz.prog W) w xs (hg.rel w hb.block) hg.gl (hg.base hb.block hb.size) hvs).mono ?_
  rintro e w' ⟨z, r', rfl, st, hv⟩
  exact ⟨z, r', rfl, hv, st.rel, fun b hh => (Nat.lt_or_ge b w.heap.size).elim (fun hl => (hg.none b (st.own b hl hh)).elim) id, st.os, st.tape, st.out, st.size, fun k hk => st.keep k hk (hg.none k)⟩
/-- The list of signs, taken apart. -/
theorem fields_calls {W : World} (hA : At W) {w : World} (hb : Below W.heap.size W w) : Calls Tryz.prog 126 #[.string signsB] w fun e w' => ∃ g o cap, e = .returned (.slice (some ⟨g, o, none⟩) 36 cap) ∧ (∀ i, i < 36 → w'.cell? ⟨g, o + i, none⟩ = some (.string ⟨(sgnT.getD i []).toArray⟩)) ∧ Below w.heap.size w w' := by
  refine (co_calls hA (fieldA_ok hA h0 (by decide)) hb (.cons (signs_rel _) .nil)).mono ?_
  rintro e w' ⟨z, r', rfl, hv, hr, -, hk⟩
  have hl : fieldAL.length = 36 := rfl
  have hblk : (h0.lay 36 9 true (cellsOf fieldAL)).mem.blk 16 = .live 36 9 false true (cellsOf fieldAL) := by kernel_rfl
  obtain ⟨b, sh, m, e1, hf⟩ := hr.blk 16 36 9 false true _ (by decide) hblk
  rcases (show ∃ cap, z = .slice (some ⟨b, 0 + sh, none⟩) 36 cap by
    cases hv with
    | slice h h1 h2 h3 =>
      rw [show h0.next = 16 from rfl, e1] at h
      cases h
      exact ⟨_, rfl⟩) with ⟨cap, rfl⟩
  obtain ⟨⟨cs, fz, ⟨t', q1, _⟩, q2, q3, q4, q5⟩, _⟩ := hf
  refine ⟨b, 0 + sh, cap, rfl, fun i hi => ?_, hk⟩
  obtain ⟨x, hx, hv⟩ := q5 i hi
  obtain ⟨n, l, s1, s2⟩ := sgn_cell hi
  rw [cellsOf_get fieldAL (by omega) i (by omega)] at hv
  have : fieldAL[i]'(by omega) = .str n l := (List.getElem?_eq_some_iff.1 s1).2
  rw [this] at hv
  cases hv
  rw [← s2]
  simp only [World.cell?, q1]
  rw [show 0 + sh + i = i + sh by omega]
  simpa using hx
end Go.Proofs.YtgpogeemhaiicaaGreatDoor
