/- ListSigns: the document's signs of a list of units. Condition: units below 65536, at most 500. -/
import Derived.Test.YtllgeddjlodliaaGreatDoorYEvSgB
namespace Go.Proofs.YtllgeddjlodliaaGreatDoor
open Go.Ev Go.RowKit
set_option maxHeartbeats 4000000
set_option maxRecDepth 100000
/-- The signs of units. -/
def pairUp (x y : Nat) : Bool := Nat.ble 55296 x && Nat.ble x 56319 && Nat.ble 56320 y && Nat.ble y 57343
def signsL : List Nat → List (List Nat)
  | [] => []
  | [x] => [[x]]
  | x :: y :: l => if pairUp x y then [x, y] :: signsL l else [x] :: signsL (y :: l)
def intsC (us : List Nat) : Array Value := (us.map fun (u : Nat) => Value.int .i64 (u : Int)).toArray
/-- The signs as they lie: a row of slices, each of a row of its own. -/
def SgOk (w : World) (base : Nat) (v : Value) (sl : List (List Nat)) : Prop :=
  ∃ xs, w.ownsRow base 26 1 v sl.length xs ∧ ∀ (i : Nat) (us : List Nat), sl[i]? = some us → ∃ g fz, xs[i]? = some (Value.slice (some ⟨g, 0, none⟩) us.length us.length) ∧ base ≤ g ∧ w.heap[g]? = some (.cells (intsC us) 3 fz)
theorem SgOk.nil (w : World) (base : Nat) : SgOk w base (.slice none 0 0) [] := ⟨[], World.ownsRow_nil _ _ _ _, fun i us h => by simp at h⟩
/-- One sign more. -/
theorem SgOk.snoc {w w1 wn : World} {base : Nat} {v : Value} {sl : List (List Nat)} {us : List Nat} (h : SgOk w base v sl) (hs : ∀ k, k < w.heap.size → w1.heap[k]? = w.heap[k]?) (hg : w1.heap[w.heap.size]? = some (.cells (intsC us) 3 (0, 0))) (hb : base ≤ w.heap.size) (hsz : w.heap.size < w1.heap.size) {xs : List Value} {v2 : Value}
    (hx : w.ownsRow base 26 1 v sl.length xs) (hk : ∀ (i : Nat) (us : List Nat), sl[i]? = some us → ∃ g fz, xs[i]? = some (Value.slice (some ⟨g, 0, none⟩) us.length us.length) ∧ base ≤ g ∧ w.heap[g]? = some (.cells (intsC us) 3 fz))
    (ho : wn.ownsRow base 26 1 v2 (sl.length + 1) (xs ++ [Value.slice (some ⟨w.heap.size, 0, none⟩) us.length us.length])) (hgr : w1.grownBy wn v.ownBlock) : SgOk wn base v2 (sl ++ [us]) := by
  have hlen : xs.length = sl.length := by have := hx.1; omega
  have keep : ∀ g us fz, w1.heap[g]? = some (.cells (intsC us) 3 fz) → g < w1.heap.size → wn.heap[g]? = some (.cells (intsC us) 3 fz) := fun g us fz e hlt => by
    rw [hgr.block g hlt ?_]
    · exact e
    · intro e2
      rcases hx.2 with ⟨rfl, _⟩ | ⟨g', cap, cur, rfl, h4, h5, _⟩
      · simp [Value.ownBlock] at e2
      · simp only [Value.ownBlock, Option.some.injEq] at e2
        subst e2
        have hlt' : g < w.heap.size := (Array.getElem?_eq_some_iff.1 h5).1
        rw [hs g hlt', h5] at e
        simp at e
  refine ⟨_, by rw [List.length_append]; exact ho, fun i us' hi => ?_⟩
  by_cases hlt : i < sl.length
  · rw [List.getElem?_append_left hlt] at hi
    obtain ⟨g, fz, h1, h2, h3⟩ := hk i us' hi
    have hg' : g < w.heap.size := (Array.getElem?_eq_some_iff.1 h3).1
    refine ⟨g, fz, by rw [List.getElem?_append_left (by omega)]; exact h1, h2, keep g us' fz (by rw [hs g hg']; exact h3) (by omega)⟩
  · rw [List.getElem?_append_right (by omega)] at hi
    have hi0 : i - sl.length = 0 := by
      cases hq : i - sl.length with
      | zero => rfl
      | succ n => rw [hq] at hi; simp at hi
    rw [hi0] at hi
    simp only [List.getElem?_cons_zero, Option.some.injEq] at hi
    subst hi
    refine ⟨w.heap.size, (0, 0), ?_, hb, keep _ us (0, 0) hg hsz⟩
    rw [List.getElem?_append_right (by omega), show i - xs.length = 0 by omega]
    rfl
theorem signsL_two {x y : Nat} {l : List Nat} (h : pairUp x y = true) : signsL (x :: y :: l) = [x, y] :: signsL l := by
  rw [signsL, if_pos h]
theorem signsL_one {x : Nat} {l : List Nat} (h : ∀ y, l.head? = some y → pairUp x y = false) : signsL (x :: l) = [x] :: signsL l := by
  cases l with
  | nil => rfl
  | cons y l => rw [signsL, if_neg (by rw [h y rfl]; decide)]
theorem below_gen {w wr w1 wn : World} {v : Value} {e : TypeId} {size n : Nat} {xs : List Value} (hbw : Below w.heap.size w wr) (h1 : Below wr.heap.size wr w1) (hown : wr.ownsRow w.heap.size e size v n xs) (hg : w1.grownBy wn v.ownBlock) : Below w.heap.size w wn := by
  have h2 := hbw.size
  have h3 := h1.size
  refine ⟨(hg.os.trans h1.os).trans hbw.os, (hg.tape.trans h1.tape).trans hbw.tape, (hg.output.trans h1.output).trans hbw.output, ?_, fun k hk => ?_⟩
  · have := hg.size
    omega
  · rw [hg.block k (by omega) ?_, h1.block k (by omega), hbw.block k hk]
    rcases hown.2 with ⟨rfl, _⟩ | ⟨g, cap, cur, rfl, h4, _⟩
    · simp [Value.ownBlock]
    · simp only [Value.ownBlock, ne_eq, Option.some.injEq]
      omega
theorem two_below (w : World) (o o' : Obj) : Below w.heap.size w ((w.alloc o).alloc o').drew := (((Below.refl _ w).alloc (Nat.le_refl _) o).alloc (by simp) o').drew
theorem two_below' (w : World) (o o' : Obj) : Below w.heap.size w ((w.alloc o).alloc o') := ((Below.refl _ w).alloc (Nat.le_refl _) o).alloc (by simp) o'
theorem news1 (w : World) (x : Value) (t : TypeId) : ∀ j u, [x][j]? = some u → (w.alloc (.cells #[x] t)).cell? ((⟨w.heap.size, 0, none⟩ : Addr).add j) = some u := by
  intro j u hj
  match j, hj with
  | 0, hj => simp at hj; subst hj; simp [Addr.add, World.cell?_alloc_at]
theorem one_c {x u : Value} (hx : x.oneCell' = true) (h : u ∈ [x]) : u.oneCell' = true := by
  simp only [List.mem_cons, List.not_mem_nil, or_false] at h
  rw [h]; exact hx
theorem signs_walk (b off cap : Nat) (us : List Nat) (w : World) (hb : b < w.heap.size) (hn : us.length ≤ 500) (hu : ∀ u ∈ us, u < 65536) (hc : ∀ j, j < us.length → w.cell? ⟨b, off + j, none⟩ = some (.int .i64 ((us.getD j 0 : Nat) : Int))) :
    Calls Tryz.prog 11 #[.slice (some ⟨b, off, none⟩) us.length cap] w fun e w' => ∃ v, e = .returned v ∧ SgOk w' w.heap.size v (signsL us) ∧ Below w.heap.size w w' := by
  obtain ⟨i0, hi, hz0, hz1, hz2⟩ := info_at (P := Tryz.prog) (t := 26) (z := .slice none 0 0) (s := 1) (b := 24) (by kernel_rfl) (by kernel_rfl) (by kernel_rfl)
  go_enter Tryz.func11, Tryz.ntmps11
  go_wp2
  go_loopw [3, 4] (fun v i wr => ∃ (k : Nat) (sl : List (List Nat)), k ≤ us.length ∧ i = .int .i64 k ∧ sl.length ≤ k ∧ sl ++ signsL (us.drop k) = signsL us ∧ SgOk wr w.heap.size v sl ∧ Below w.heap.size w wr) (fun _ i _ => us.length - (intOf i).toNat)
  case atStart => exact ⟨0, [], Nat.zero_le _, rfl, Nat.le_refl _, rfl, SgOk.nil _ _, Below.refl _ _⟩
  case round =>
    obtain ⟨k, sl, hk, rfl, hkl, hsl, ⟨xs, hown, hxs⟩, hbw⟩ := hrel
    by_cases hlt : k < us.length
    · have hcx : wr.cell? ⟨b, off + k, none⟩ = some (.int .i64 ((us.getD k 0 : Nat) : Int)) := (hbw.cell hb).trans (hc k hlt)
      have hux : us.getD k 0 < 65536 := hu _ (by simp [List.getD, hlt])
      have hdr : us.drop k = us.getD k 0 :: us.drop (k + 1) := by rw [List.drop_eq_getElem_cons hlt]; simp [List.getD, hlt]
      generalize hxe : us.getD k 0 = x at hcx hux hdr
      obtain ⟨X, hX⟩ : ∃ X : Int, (x : Int) = X := ⟨_, rfl⟩
      rw [hX] at hcx
      by_cases c1 : (55296 : Int) ≤ X
      · by_cases c2 : X ≤ 56319
        · by_cases c3 : k + 1 < us.length
          · have hcy : wr.cell? ⟨b, off + (k + 1), none⟩ = some (.int .i64 ((us.getD (k + 1) 0 : Nat) : Int)) := (hbw.cell hb).trans (hc (k + 1) c3)
            have hdr2 : us.drop (k + 1) = us.getD (k + 1) 0 :: us.drop (k + 2) := by rw [List.drop_eq_getElem_cons c3]; simp [List.getD, c3]
            generalize hye : us.getD (k + 1) 0 = y at hcy hdr2
            obtain ⟨Y, hY⟩ : ∃ Y : Int, (y : Int) = Y := ⟨_, rfl⟩
            rw [hY] at hcy
            by_cases c4 : (56320 : Int) ≤ Y
            · by_cases c5 : Y ≤ 57343
              · have hpos : signsL (us.drop k) = [x, y] :: signsL (us.drop (k + 2)) := by
                  rw [hdr, hdr2]
                  refine signsL_two ?_
                  unfold pairUp
                  simp only [Bool.and_eq_true, Nat.ble_eq]
                  omega
                rw [hpos] at hsl
                have hin : intsC [x, y] = #[Value.int .i64 X, Value.int .i64 Y] := by rw [← hX, ← hY]; rfl
                clear hux hdr hdr2 hxe hye hX hY hpos
                have h31 : (0 : Int) ≤ (k : Int) + 1 := by omega
                have h32 : (k : Int) + 1 < (us.length : Int) := by omega
                have h33 : (0 : Int) ≤ (k : Int) + 1 ∧ (k : Int) + 1 < (us.length : Int) := ⟨h31, h32⟩
                have hwr : IntKind.i64.wrap ((k : Int) + 1) = (k : Int) + 1 := by have := wrapI (k + 1) (by omega); simpa using this
                go_wp2
                go_region_law (refine step_append_lies _ rfl (.tmp 46) (.tmp 57) 35 rfl w.heap.size 26 i0 (.slice none 0 0) 1 24 Tryz.underlying35 hi hz0 hz1 hz2 rfl (by decide) u3 sl.length xs rfl (by exact ((hown.alloc _).alloc _).drew) ⟨wr.heap.size + 1, 0, none⟩ 1 1 [.slice (some ⟨wr.heap.size, 0, none⟩) 2 2] rfl rfl (by exact fun j u hj => by have := news1 (wr.alloc (.cells #[Value.int .i64 X, Value.int .i64 Y] 3)) (.slice (some ⟨wr.heap.size, 0, none⟩) 2 2) 26 j u hj; simpa using this) (fun u hu => one_c rfl hu) (by decide) (by unfold maxLen; omega) (by omega) (by have := hbw.size; simp; omega) _ rfl ?_; intro g1 cap1 wn hown2 hgrow2 hat2 hlt2)
                all_goals
                  have R : SgOk wn w.heap.size (.slice (some ⟨g1, 0, none⟩) (sl.length + 1) cap1) (sl ++ [[x, y]]) := SgOk.snoc (w := wr) (w1 := ((wr.alloc (.cells #[Value.int .i64 X, Value.int .i64 Y] 3)).alloc (.cells #[.slice (some ⟨wr.heap.size, 0, none⟩) 2 2] 26)).drew) ⟨xs, hown, hxs⟩ (fun k hk => (two_below wr _ _).block k hk) (by rw [hin]; show ((wr.alloc _).alloc _).heap[wr.heap.size]? = _; rw [heap_alloc_old _ _ (by simp)]; exact heap_alloc_new wr _) hbw.size (by simp; omega) hown hxs hown2 hgrow2
                  have hb2 := below_gen hbw (two_below wr _ _) hown hgrow2
                  clear hown2 hgrow2 hat2 hlt2 hown hxs
                  go_wp2
                  go_roundw
                  case rel => exact ⟨k + 2, sl ++ [[x, y]], by omega, by simp; omega, by simp; omega, by rw [List.append_assoc]; exact hsl, R, hb2⟩
                  case measure => simp [intOf]; omega
              · have hneg : signsL (us.drop k) = [x] :: signsL (us.drop (k + 1)) := by
                  rw [hdr]
                  refine signsL_one (fun y' hy' => ?_)
                  refine Bool.eq_false_iff.2 (fun hq => ?_)
                  unfold pairUp at hq
                  simp only [Bool.and_eq_true, Nat.ble_eq] at hq
                  rw [hdr2] at hy'; simp at hy'; omega
                rw [hneg] at hsl
                have hin : intsC [x] = #[Value.int .i64 X] := by rw [← hX]; rfl
                clear hux hdr hxe hX hneg hdr2 hye hY
                go_wp2_with (first | (at_builtin; refine wpList_append_lies _ rfl (.tmp 61) (.tmp 67) 35 rfl w.heap.size 26 i0 (.slice none 0 0) 1 24 Tryz.underlying35 hi hz0 hz1 hz2 rfl (by decide) u3 sl.length xs rfl (by exact (hown.alloc _).alloc _) ⟨wr.heap.size + 1, 0, none⟩ 1 1 [.slice (some ⟨wr.heap.size, 0, none⟩) 1 1] rfl rfl (by exact fun j u hj => by have := news1 (wr.alloc (.cells #[Value.int .i64 X] 3)) (.slice (some ⟨wr.heap.size, 0, none⟩) 1 1) 26 j u hj; simpa using this) (fun u hu => one_c rfl hu) (by decide) (by unfold maxLen; omega) (by omega) (by have := hbw.size; simp; omega) _ rfl ?_) | go_in)
                intro g1 cap1 wn hown2 hgrow2 hat2 hlt2
                have R : SgOk wn w.heap.size (.slice (some ⟨g1, 0, none⟩) (sl.length + 1) cap1) (sl ++ [[x]]) := SgOk.snoc (w := wr) (w1 := (wr.alloc (.cells #[Value.int .i64 X] 3)).alloc (.cells #[.slice (some ⟨wr.heap.size, 0, none⟩) 1 1] 26)) ⟨xs, hown, hxs⟩ (fun k hk => (two_below' wr _ _).block k hk) (by rw [hin]; show ((wr.alloc _).alloc _).heap[wr.heap.size]? = _; rw [heap_alloc_old _ _ (by simp)]; exact heap_alloc_new wr _) hbw.size (by simp; omega) hown hxs hown2 hgrow2
                have hb2 := below_gen hbw (two_below' wr _ _) hown hgrow2
                clear hown2 hgrow2 hat2 hlt2 hown hxs
                go_wp2
                go_roundw
                case rel => exact ⟨k + 1, sl ++ [[x]], by omega, by simp, by simp; omega, by rw [List.append_assoc]; exact hsl, R, hb2⟩
                case measure => simp [intOf]; omega
            · have hneg : signsL (us.drop k) = [x] :: signsL (us.drop (k + 1)) := by
                rw [hdr]
                refine signsL_one (fun y' hy' => ?_)
                refine Bool.eq_false_iff.2 (fun hq => ?_)
                unfold pairUp at hq
                simp only [Bool.and_eq_true, Nat.ble_eq] at hq
                rw [hdr2] at hy'; simp at hy'; omega
              rw [hneg] at hsl
              have hin : intsC [x] = #[Value.int .i64 X] := by rw [← hX]; rfl
              clear hux hdr hxe hX hneg hdr2 hye hY
              go_wp2_with (first | (at_builtin; refine wpList_append_lies _ rfl (.tmp 61) (.tmp 67) 35 rfl w.heap.size 26 i0 (.slice none 0 0) 1 24 Tryz.underlying35 hi hz0 hz1 hz2 rfl (by decide) u3 sl.length xs rfl (by exact (hown.alloc _).alloc _) ⟨wr.heap.size + 1, 0, none⟩ 1 1 [.slice (some ⟨wr.heap.size, 0, none⟩) 1 1] rfl rfl (by exact fun j u hj => by have := news1 (wr.alloc (.cells #[Value.int .i64 X] 3)) (.slice (some ⟨wr.heap.size, 0, none⟩) 1 1) 26 j u hj; simpa using this) (fun u hu => one_c rfl hu) (by decide) (by unfold maxLen; omega) (by omega) (by have := hbw.size; simp; omega) _ rfl ?_) | go_in)
              intro g1 cap1 wn hown2 hgrow2 hat2 hlt2
              have R : SgOk wn w.heap.size (.slice (some ⟨g1, 0, none⟩) (sl.length + 1) cap1) (sl ++ [[x]]) := SgOk.snoc (w := wr) (w1 := (wr.alloc (.cells #[Value.int .i64 X] 3)).alloc (.cells #[.slice (some ⟨wr.heap.size, 0, none⟩) 1 1] 26)) ⟨xs, hown, hxs⟩ (fun k hk => (two_below' wr _ _).block k hk) (by rw [hin]; show ((wr.alloc _).alloc _).heap[wr.heap.size]? = _; rw [heap_alloc_old _ _ (by simp)]; exact heap_alloc_new wr _) hbw.size (by simp; omega) hown hxs hown2 hgrow2
              have hb2 := below_gen hbw (two_below' wr _ _) hown hgrow2
              clear hown2 hgrow2 hat2 hlt2 hown hxs
              go_wp2
              go_roundw
              case rel => exact ⟨k + 1, sl ++ [[x]], by omega, by simp, by simp; omega, by rw [List.append_assoc]; exact hsl, R, hb2⟩
              case measure => simp [intOf]; omega
          · have hneg : signsL (us.drop k) = [x] :: signsL (us.drop (k + 1)) := by
              rw [hdr]
              refine signsL_one (fun y' hy' => ?_)
              refine Bool.eq_false_iff.2 (fun hq => ?_)
              unfold pairUp at hq
              simp only [Bool.and_eq_true, Nat.ble_eq] at hq
              rw [List.drop_eq_nil_of_le (by omega)] at hy'; simp at hy'
            rw [hneg] at hsl
            have hin : intsC [x] = #[Value.int .i64 X] := by rw [← hX]; rfl
            clear hux hdr hxe hX hneg
            go_wp2_with (first | (at_builtin; refine wpList_append_lies _ rfl (.tmp 61) (.tmp 67) 35 rfl w.heap.size 26 i0 (.slice none 0 0) 1 24 Tryz.underlying35 hi hz0 hz1 hz2 rfl (by decide) u3 sl.length xs rfl (by exact (hown.alloc _).alloc _) ⟨wr.heap.size + 1, 0, none⟩ 1 1 [.slice (some ⟨wr.heap.size, 0, none⟩) 1 1] rfl rfl (by exact fun j u hj => by have := news1 (wr.alloc (.cells #[Value.int .i64 X] 3)) (.slice (some ⟨wr.heap.size, 0, none⟩) 1 1) 26 j u hj; simpa using this) (fun u hu => one_c rfl hu) (by decide) (by unfold maxLen; omega) (by omega) (by have := hbw.size; simp; omega) _ rfl ?_) | go_in)
            intro g1 cap1 wn hown2 hgrow2 hat2 hlt2
            have R : SgOk wn w.heap.size (.slice (some ⟨g1, 0, none⟩) (sl.length + 1) cap1) (sl ++ [[x]]) := SgOk.snoc (w := wr) (w1 := (wr.alloc (.cells #[Value.int .i64 X] 3)).alloc (.cells #[.slice (some ⟨wr.heap.size, 0, none⟩) 1 1] 26)) ⟨xs, hown, hxs⟩ (fun k hk => (two_below' wr _ _).block k hk) (by rw [hin]; show ((wr.alloc _).alloc _).heap[wr.heap.size]? = _; rw [heap_alloc_old _ _ (by simp)]; exact heap_alloc_new wr _) hbw.size (by simp; omega) hown hxs hown2 hgrow2
            have hb2 := below_gen hbw (two_below' wr _ _) hown hgrow2
            clear hown2 hgrow2 hat2 hlt2 hown hxs
            go_wp2
            go_roundw
            case rel => exact ⟨k + 1, sl ++ [[x]], by omega, by simp, by simp; omega, by rw [List.append_assoc]; exact hsl, R, hb2⟩
            case measure => simp [intOf]; omega
        · have hneg : signsL (us.drop k) = [x] :: signsL (us.drop (k + 1)) := by
            rw [hdr]
            refine signsL_one (fun y' hy' => ?_)
            refine Bool.eq_false_iff.2 (fun hq => ?_)
            unfold pairUp at hq
            simp only [Bool.and_eq_true, Nat.ble_eq] at hq
            omega
          rw [hneg] at hsl
          have hin : intsC [x] = #[Value.int .i64 X] := by rw [← hX]; rfl
          clear hux hdr hxe hX hneg
          go_wp2_with (first | (at_builtin; refine wpList_append_lies _ rfl (.tmp 61) (.tmp 67) 35 rfl w.heap.size 26 i0 (.slice none 0 0) 1 24 Tryz.underlying35 hi hz0 hz1 hz2 rfl (by decide) u3 sl.length xs rfl (by exact (hown.alloc _).alloc _) ⟨wr.heap.size + 1, 0, none⟩ 1 1 [.slice (some ⟨wr.heap.size, 0, none⟩) 1 1] rfl rfl (by exact fun j u hj => by have := news1 (wr.alloc (.cells #[Value.int .i64 X] 3)) (.slice (some ⟨wr.heap.size, 0, none⟩) 1 1) 26 j u hj; simpa using this) (fun u hu => one_c rfl hu) (by decide) (by unfold maxLen; omega) (by omega) (by have := hbw.size; simp; omega) _ rfl ?_) | go_in)
          intro g1 cap1 wn hown2 hgrow2 hat2 hlt2
          have R : SgOk wn w.heap.size (.slice (some ⟨g1, 0, none⟩) (sl.length + 1) cap1) (sl ++ [[x]]) := SgOk.snoc (w := wr) (w1 := (wr.alloc (.cells #[Value.int .i64 X] 3)).alloc (.cells #[.slice (some ⟨wr.heap.size, 0, none⟩) 1 1] 26)) ⟨xs, hown, hxs⟩ (fun k hk => (two_below' wr _ _).block k hk) (by rw [hin]; show ((wr.alloc _).alloc _).heap[wr.heap.size]? = _; rw [heap_alloc_old _ _ (by simp)]; exact heap_alloc_new wr _) hbw.size (by simp; omega) hown hxs hown2 hgrow2
          have hb2 := below_gen hbw (two_below' wr _ _) hown hgrow2
          clear hown2 hgrow2 hat2 hlt2 hown hxs
          go_wp2
          go_roundw
          case rel => exact ⟨k + 1, sl ++ [[x]], by omega, by simp, by simp; omega, by rw [List.append_assoc]; exact hsl, R, hb2⟩
          case measure => simp [intOf]; omega
      · have hneg : signsL (us.drop k) = [x] :: signsL (us.drop (k + 1)) := by
          rw [hdr]
          refine signsL_one (fun y' hy' => ?_)
          refine Bool.eq_false_iff.2 (fun hq => ?_)
          unfold pairUp at hq
          simp only [Bool.and_eq_true, Nat.ble_eq] at hq
          omega
        rw [hneg] at hsl
        have hin : intsC [x] = #[Value.int .i64 X] := by rw [← hX]; rfl
        clear hux hdr hxe hX hneg
        go_wp2_with (first | (at_builtin; refine wpList_append_lies _ rfl (.tmp 61) (.tmp 67) 35 rfl w.heap.size 26 i0 (.slice none 0 0) 1 24 Tryz.underlying35 hi hz0 hz1 hz2 rfl (by decide) u3 sl.length xs rfl (by exact (hown.alloc _).alloc _) ⟨wr.heap.size + 1, 0, none⟩ 1 1 [.slice (some ⟨wr.heap.size, 0, none⟩) 1 1] rfl rfl (by exact fun j u hj => by have := news1 (wr.alloc (.cells #[Value.int .i64 X] 3)) (.slice (some ⟨wr.heap.size, 0, none⟩) 1 1) 26 j u hj; simpa using this) (fun u hu => one_c rfl hu) (by decide) (by unfold maxLen; omega) (by omega) (by have := hbw.size; simp; omega) _ rfl ?_) | go_in)
        intro g1 cap1 wn hown2 hgrow2 hat2 hlt2
        have R : SgOk wn w.heap.size (.slice (some ⟨g1, 0, none⟩) (sl.length + 1) cap1) (sl ++ [[x]]) := SgOk.snoc (w := wr) (w1 := (wr.alloc (.cells #[Value.int .i64 X] 3)).alloc (.cells #[.slice (some ⟨wr.heap.size, 0, none⟩) 1 1] 26)) ⟨xs, hown, hxs⟩ (fun k hk => (two_below' wr _ _).block k hk) (by rw [hin]; show ((wr.alloc _).alloc _).heap[wr.heap.size]? = _; rw [heap_alloc_old _ _ (by simp)]; exact heap_alloc_new wr _) hbw.size (by simp; omega) hown hxs hown2 hgrow2
        have hb2 := below_gen hbw (two_below' wr _ _) hown hgrow2
        clear hown2 hgrow2 hat2 hlt2 hown hxs
        go_wp2
        go_roundw
        case rel => exact ⟨k + 1, sl ++ [[x]], by omega, by simp, by simp; omega, by rw [List.append_assoc]; exact hsl, R, hb2⟩
        case measure => simp [intOf]; omega
    · have hkl : k = us.length := by omega
      subst hkl
      go_wp2
      go_ret
      refine ⟨_, rfl, ?_, hbw⟩
      rw [List.drop_length] at hsl
      rw [← hsl]
      simp only [signsL, List.append_nil]
      exact ⟨xs, hown, hxs⟩
end Go.Proofs.YtllgeddjlodliaaGreatDoor
