/- ListSigns: the document's text of units, and its signs. Condition: units below 65536, at most 500. -/
import Derived.Test.YtllgeddjlodliaaGreatDoorYEvSgA
import Derived.OwnWalk
import Derived.Laws.AppendOwn
import Derived.Deep.AppendLies
import Derived.Deep.RegionLaw
import Derived.BigRegion
import Derived.Laws.BytesString
namespace Go.Proofs.YtllgeddjlodliaaGreatDoor
open Go.Ev Go.RowKit
set_option maxHeartbeats 4000000
set_option maxRecDepth 100000
theorem info_at {P : Program} {t : TypeId} {z : Value} {s b : Nat} (h1 : (P.info? t).map (·.zero) = some (some z)) (h2 : (P.info? t).map (·.size) = some s) (h3 : (P.info? t).map (·.bytes) = some b) : ∃ i, P.info? t = some i ∧ i.zero = some z ∧ i.size = s ∧ i.bytes = b := by
  cases h : P.info? t with
  | none => rw [h] at h1; cases h1
  | some i =>
    rw [h] at h1 h2 h3
    exact ⟨i, rfl, Option.some.inj h1, Option.some.inj h2, Option.some.inj h3⟩
/-- The two bytes of each unit. -/
def strN (us : List Nat) : List Int := us.flatMap fun u => [((u / 256 : Nat) : Int), ((u % 256 : Nat) : Int)]
def strS (us : List Nat) : ByteArray := (strN us).foldl (fun r n => r.push (UInt8.ofNat n.toNat)) ByteArray.empty
def strB (us : List Nat) : List Value := us.flatMap fun u => [.int .u8 ((u / 256 : Nat) : Int), .int .u8 ((u % 256 : Nat) : Int)]
theorem below_of_grown {w w' : World} (h : w.grownBy w' none) : Below w.heap.size w w' := by
  exact ⟨h.os, h.tape, h.output, h.size, fun k hk => h.block k hk (by simp)⟩
theorem news2 (w : World) (x y : Value) (t : TypeId) : ∀ j u, [x, y][j]? = some u → (w.alloc (.cells #[x, y] t)).cell? ((⟨w.heap.size, 0, none⟩ : Addr).add j) = some u := by
  intro j u hj
  match j, hj with
  | 0, hj => simp at hj; subst hj; simp [Addr.add, World.cell?_alloc_at]
  | 1, hj => simp at hj; subst hj; simp [Addr.add, World.cell?_alloc_at]
theorem strB_map (us : List Nat) : strB us = (strN us).map (Value.int .u8) := by
  unfold strB strN
  rw [List.map_flatMap]
  rfl
theorem strB_len (us : List Nat) : (strB us).length = 2 * us.length := by
  induction us with
  | nil => rfl
  | cons u us ih =>
    unfold strB at ih ⊢
    rw [List.flatMap_cons, List.length_append, ih]
    simp
    omega
theorem below_step {w wr wn : World} {v : Value} {e : TypeId} {size n : Nat} {xs : List Value} {o : Obj} (hbw : Below w.heap.size w wr) (hown : wr.ownsRow w.heap.size e size v n xs) (hg : ((wr.alloc o).drew).grownBy wn v.ownBlock) : Below w.heap.size w wn := by
  refine ⟨hg.os.trans hbw.os, hg.tape.trans hbw.tape, hg.output.trans hbw.output, ?_, fun k hk => ?_⟩
  · have h1 := hg.size
    have h2 := hbw.size
    have h3 : (wr.alloc o).drew.heap.size = wr.heap.size + 1 := by simp
    omega
  · have h2 := hbw.size
    have h3 : (wr.alloc o).drew.heap.size = wr.heap.size + 1 := by simp
    rw [hg.block k (by omega) ?_]
    · show (wr.alloc o).heap[k]? = _
      rw [heap_alloc_old wr o (by omega)]
      exact hbw.block k hk
    · rcases hown.2 with ⟨rfl, _⟩ | ⟨g, cap, cur, rfl, h4, _⟩
      · simp [Value.ownBlock]
      · simp only [Value.ownBlock, ne_eq, Option.some.injEq]
        omega
theorem wrap8 (n : Nat) (h : n < 256) : IntKind.u8.wrap (n : Int) = n := by
  simp only [IntKind.wrap, IntKind.bits, IntKind.signed]
  simp
  omega
theorem wrapI (n : Nat) (h : n < 65536) : IntKind.i64.wrap (n : Int) = n := by
  simp only [IntKind.wrap, IntKind.bits, IntKind.signed]
  simp
  omega
theorem str_next {us : List Nat} {k : Nat} (hlt : k < us.length) (hu : us[k] < 65536) {w : World} {base e size n : Nat} {v : Value} (h : w.ownsRow base e size v n (strB (us.take k) ++ [.int .u8 (IntKind.u8.wrap (IntKind.i64.wrap (((us[k] : Nat) : Int) / 256))), .int .u8 (IntKind.u8.wrap ((((us[k] : Nat) : Int)).tmod 256))])) :
    w.ownsRow base e size v n (strB (us.take (k + 1))) := by
  have e1 : strB (us.take (k + 1)) = strB (us.take k) ++ [.int .u8 (IntKind.u8.wrap (IntKind.i64.wrap (((us[k] : Nat) : Int) / 256))), .int .u8 (IntKind.u8.wrap ((((us[k] : Nat) : Int)).tmod 256))] := by
    unfold strB
    rw [List.take_add_one, List.flatMap_append, List.getElem?_eq_getElem hlt]
    simp only [Option.toList_some, List.flatMap_cons, List.flatMap_nil, List.append_nil]
    have a1 : ((us[k] : Nat) : Int) / 256 = ((us[k] / 256 : Nat) : Int) := by omega
    have a2 : (((us[k] : Nat) : Int)).tmod 256 = ((us[k] % 256 : Nat) : Int) := by
      rw [Int.tmod_eq_emod_of_nonneg (by omega)]; omega
    rw [a1, a2, wrapI _ (by omega), wrap8 _ (by omega), wrap8 _ (by omega)]
  rw [e1]
  exact h
theorem str_conv {us : List Nat} {w : World} {base : Nat} {v : Value} (h : w.ownsRow base 5 1 v (2 * us.length) (strB (us.take us.length))) (hb : v.ownBlock ≠ none) : (convert 86 9 v).run Tryz.prog w = .ok (.string (strS us)) w := by
  rcases h.2 with ⟨rfl, _⟩ | ⟨g, cap, cur, rfl, h1, h2, h3, h4, h5, h6⟩
  · simp [Value.ownBlock] at hb
  · rw [run_convert_bytes_string w 86 9 5 _ _ _ Tryz.underlying86 Tryz.underlying5 Tryz.underlying9]
    have hl : (loadCells ⟨g, 0, none⟩ (strB us).length).run Tryz.prog w = .ok (strB us).toArray w := run_loadCells_list w ⟨g, 0, none⟩ (strB us) (fun j x hj => by
      have hadd : (⟨g, 0, none⟩ : Addr).add j = ⟨g, j, none⟩ := by unfold Addr.add; split <;> simp_all
      rw [hadd]
      unfold World.cell?
      rw [h2]
      simp only [Option.isSome_none, Bool.false_eq_true, if_false]
      rw [List.take_length] at h6
      rw [← h6] at hj
      rw [List.getElem?_take] at hj
      split at hj
      · simpa using hj
      · cases hj)
    rw [strB_len, strB_map] at hl
    exact run_bytesToString w _ _ _ _ hl
theorem str_walk (b off cap : Nat) (us : List Nat) (w : World) (hb : b < w.heap.size) (hn : us.length ≤ 500) (hu : ∀ u ∈ us, u < 65536) (hc : ∀ j, j < us.length → w.cell? ⟨b, off + j, none⟩ = some (.int .i64 ((us.getD j 0 : Nat) : Int))) :
    Calls Tryz.prog 9 #[.slice (some ⟨b, off, none⟩) us.length cap] w fun e w' => e = .returned (.string (strS us)) ∧ Below w.heap.size w w' := by
  obtain ⟨i0, hi, hz0, hz1, hz2⟩ := info_at (P := Tryz.prog) (t := 5) (z := .int .u8 0) (s := 1) (b := 1) (by kernel_rfl) (by kernel_rfl) (by kernel_rfl)
  go_enter Tryz.func9, Tryz.ntmps9
  go_wp2_with (at_make; refine wpList_make_own _ rfl _ _ 86 rfl w.heap.size 5 i0 (.int .u8 0) 1 Tryz.underlying86 hi hz0 hz1 .i64 .i64 (2 * (us.length : Int)) (2 * us.length) rfl rfl (by omega) (by rw [hz2]; omega) (by unfold maxLen; omega) (Nat.le_refl _) ?_)
  intro w1 hown hgrow
  have hB1 : Below w.heap.size w w1 := below_of_grown hgrow
  clear hgrow
  go_wp2
  go_loopw [3, 4] (fun v i wr => ∃ k : Nat, k ≤ us.length ∧ i = .int .i64 k ∧ wr.ownsRow w.heap.size 5 1 v (2 * k) (strB (us.take k)) ∧ Below w.heap.size w wr ∧ v.ownBlock ≠ none) (fun _ i _ => us.length - (intOf i).toNat)
  case atStart => exact ⟨0, Nat.zero_le _, rfl, by simpa [strB] using hown, hB1, by simp [Value.ownBlock]⟩
  case round =>
    obtain ⟨k, hk, rfl, hown, hbw, hob⟩ := hrel
    have hcx : k < us.length → wr.cell? ⟨b, off + k, none⟩ = some (.int .i64 ((us.getD k 0 : Nat) : Int)) := fun hk => (hbw.cell hb).trans (hc k hk)
    have hux : k < us.length → us.getD k 0 < 65536 := fun hk => hu _ (by simp [List.getD, hk])
    by_cases hlt : k < us.length
    · have hcx := hcx hlt
      have hux := hux hlt
      clear hux
      go_wp2
      go_region_law (refine step_append_lies _ rfl (.tmp 15) (.tmp 28) 86 rfl w.heap.size 5 i0 (.int .u8 0) 1 1 Tryz.underlying86 hi hz0 hz1 hz2 rfl (by decide) u3 (2 * k) (strB (us.take k)) rfl (by exact (hown.alloc _).drew) ⟨wr.heap.size, 0, none⟩ 2 2 [.int .u8 (IntKind.u8.wrap (IntKind.i64.wrap (((us[k]'hlt : Nat) : Int) / 256))), .int .u8 (IntKind.u8.wrap ((((us[k]'hlt : Nat) : Int)).tmod 256))] rfl rfl (by exact news2 wr _ _ 5) (by intro u hu; simp at hu; rcases hu with rfl | rfl <;> rfl) (by decide) (by unfold maxLen; omega) (by omega) (by have := hbw.size; simp; omega) _ rfl ?_; intro g1 cap1 wn hown2 hgrow2 hat2 hlt2)
      all_goals
        have R := str_next hlt (hu _ (List.getElem_mem hlt)) hown2
        have hb2 := below_step hbw hown hgrow2
        clear hown2 hgrow2 hat2 hlt2 hown
        go_wp2
        go_roundw
        case rel => exact ⟨k + 1, by omega, by simp, by rw [show 2 * (k + 1) = 2 * k + 2 by omega]; exact R, hb2, by simp [Value.ownBlock]⟩
        case measure => simp [intOf]; omega
    · have hkl : k = us.length := by omega
      subst hkl
      clear hcx hux
      have hcv := str_conv hown hob
      go_wp2
      go_ret
      exact ⟨rfl, hbw⟩
theorem str_nil (w : World) : Calls Tryz.prog 9 #[.slice none 0 0] w fun e w' => e = .returned (.string (strS [])) ∧ Below w.heap.size w w' := by
  obtain ⟨i0, hi, hz0, hz1, hz2⟩ := info_at (P := Tryz.prog) (t := 5) (z := .int .u8 0) (s := 1) (b := 1) (by kernel_rfl) (by kernel_rfl) (by kernel_rfl)
  go_enter Tryz.func9, Tryz.ntmps9
  go_wp2_with (at_make; refine wpList_make_own _ rfl _ _ 86 rfl w.heap.size 5 i0 (.int .u8 0) 1 Tryz.underlying86 hi hz0 hz1 .i64 .i64 0 0 rfl rfl rfl (by omega) (by unfold maxLen; omega) (Nat.le_refl _) ?_)
  intro w1 hown hgrow
  have hB1 : Below w.heap.size w w1 := below_of_grown hgrow
  have hcv := str_conv (us := []) (by simpa [strB] using hown) (by simp [Value.ownBlock])
  clear hgrow hown
  go_wp2
  refine wp_loop_rounds 1 ?_
  rw [rounds_succ]
  go_wp2
  go_ret
  exact ⟨rfl, hB1⟩
end Go.Proofs.YtllgeddjlodliaaGreatDoor
