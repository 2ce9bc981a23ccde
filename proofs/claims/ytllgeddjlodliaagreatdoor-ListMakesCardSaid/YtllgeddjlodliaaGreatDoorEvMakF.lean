/- ListMakes is true for every argument: the statement, tied to the program's text. No condition of its own. -/
import Derived.Test.YtllgeddjlodliaaGreatDoorEvWorld
import Derived.Test.YtllgeddjlodliaaGreatDoorEvMakA
import Derived.Deep.Slices
import Derived.ReadAgain
import Derived.Below
import Derived.Test.YtllgeddjlodliaaGreatDoorEvMr0
import Derived.Test.YtllgeddjlodliaaGreatDoorEvMr1
import Derived.Test.YtllgeddjlodliaaGreatDoorEvMr2
import Derived.Test.YtllgeddjlodliaaGreatDoorEvMr3
import Derived.Test.YtllgeddjlodliaaGreatDoorEvMr4
import Derived.Test.YtllgeddjlodliaaGreatDoorEvMr5
import Derived.Test.YtllgeddjlodliaaGreatDoorEvMr6
import Derived.Test.YtllgeddjlodliaaGreatDoorEvMr7
namespace Go.Proofs.YtllgeddjlodliaaGreatDoor
open Go.Ev Go.ChangeShapes Go.WideShapes Go.ChangeAt Go.RowKit

/-! The runs, together. -/
theorem bl {a b : Bool} (h : (a && b) = true) : a = true := (Bool.and_eq_true_iff.1 h).1
theorem br {a b : Bool} (h : (a && b) = true) : b = true := (Bool.and_eq_true_iff.1 h).2
theorem runS_all (n : Nat) (h0 : 1 ≤ n) (h : n ≤ 60) : runS n = true :=
  match n, h0, h with
  | 0, h0, _ => by omega
  | 1, _, _ => bl (mr1)
  | 2, _, _ => bl (br (mr1))
  | 3, _, _ => bl (br (br (mr1)))
  | 4, _, _ => bl (br (br (br (mr1))))
  | 5, _, _ => bl (br (br (br (br (mr1)))))
  | 6, _, _ => br (br (br (br (br (mr1)))))
  | 7, _, _ => bl (mr2)
  | 8, _, _ => bl (br (mr2))
  | 9, _, _ => bl (br (br (mr2)))
  | 10, _, _ => bl (br (br (br (mr2))))
  | 11, _, _ => bl (br (br (br (br (mr2)))))
  | 12, _, _ => br (br (br (br (br (mr2)))))
  | 13, _, _ => bl (mr3)
  | 14, _, _ => bl (br (mr3))
  | 15, _, _ => bl (br (br (mr3)))
  | 16, _, _ => bl (br (br (br (mr3))))
  | 17, _, _ => bl (br (br (br (br (mr3)))))
  | 18, _, _ => br (br (br (br (br (mr3)))))
  | 19, _, _ => bl (mr4)
  | 20, _, _ => bl (br (mr4))
  | 21, _, _ => bl (br (br (mr4)))
  | 22, _, _ => bl (br (br (br (mr4))))
  | 23, _, _ => bl (br (br (br (br (mr4)))))
  | 24, _, _ => br (br (br (br (br (mr4)))))
  | 25, _, _ => bl (mr5)
  | 26, _, _ => bl (br (mr5))
  | 27, _, _ => bl (br (br (mr5)))
  | 28, _, _ => br (br (br (mr5)))
  | 29, _, _ => bl (mr6)
  | 30, _, _ => bl (br (mr6))
  | 31, _, _ => bl (br (br (mr6)))
  | 32, _, _ => br (br (br (mr6)))
  | 33, _, _ => bl (mr7)
  | 34, _, _ => bl (br (mr7))
  | 35, _, _ => bl (br (br (mr7)))
  | 36, _, _ => br (br (br (mr7)))
  | 37, _, _ => bl (mr8)
  | 38, _, _ => bl (br (mr8))
  | 39, _, _ => bl (br (br (mr8)))
  | 40, _, _ => br (br (br (mr8)))
  | 41, _, _ => bl (mr9)
  | 42, _, _ => bl (br (mr9))
  | 43, _, _ => bl (br (br (mr9)))
  | 44, _, _ => br (br (br (mr9)))
  | 45, _, _ => bl (mr10)
  | 46, _, _ => bl (br (mr10))
  | 47, _, _ => bl (br (br (mr10)))
  | 48, _, _ => br (br (br (mr10)))
  | 49, _, _ => bl (mr11)
  | 50, _, _ => bl (br (mr11))
  | 51, _, _ => bl (br (br (mr11)))
  | 52, _, _ => br (br (br (mr11)))
  | 53, _, _ => bl (mr12)
  | 54, _, _ => bl (br (mr12))
  | 55, _, _ => bl (br (br (mr12)))
  | 56, _, _ => br (br (br (mr12)))
  | 57, _, _ => bl (mr13)
  | 58, _, _ => bl (br (mr13))
  | 59, _, _ => bl (br (br (mr13)))
  | 60, _, _ => br (br (br (mr13)))
  | n + 61, _, h => by omega
theorem runJ_all (n : Nat) (h : n < 60) : runJ n = true :=
  match n, h with
  | 0, _ => bl (mr14)
  | 1, _ => bl (br (mr14))
  | 2, _ => bl (br (br (mr14)))
  | 3, _ => bl (br (br (br (mr14))))
  | 4, _ => bl (br (br (br (br (mr14)))))
  | 5, _ => br (br (br (br (br (mr14)))))
  | 6, _ => bl (mr15)
  | 7, _ => bl (br (mr15))
  | 8, _ => bl (br (br (mr15)))
  | 9, _ => bl (br (br (br (mr15))))
  | 10, _ => bl (br (br (br (br (mr15)))))
  | 11, _ => br (br (br (br (br (mr15)))))
  | 12, _ => bl (mr16)
  | 13, _ => bl (br (mr16))
  | 14, _ => bl (br (br (mr16)))
  | 15, _ => bl (br (br (br (mr16))))
  | 16, _ => bl (br (br (br (br (mr16)))))
  | 17, _ => br (br (br (br (br (mr16)))))
  | 18, _ => bl (mr17)
  | 19, _ => bl (br (mr17))
  | 20, _ => bl (br (br (mr17)))
  | 21, _ => bl (br (br (br (mr17))))
  | 22, _ => bl (br (br (br (br (mr17)))))
  | 23, _ => br (br (br (br (br (mr17)))))
  | 24, _ => bl (mr18)
  | 25, _ => bl (br (mr18))
  | 26, _ => bl (br (br (mr18)))
  | 27, _ => bl (br (br (br (mr18))))
  | 28, _ => bl (br (br (br (br (mr18)))))
  | 29, _ => br (br (br (br (br (mr18)))))
  | 30, _ => bl (mr19)
  | 31, _ => bl (br (mr19))
  | 32, _ => bl (br (br (mr19)))
  | 33, _ => bl (br (br (br (mr19))))
  | 34, _ => br (br (br (br (mr19))))
  | 35, _ => bl (mr20)
  | 36, _ => bl (br (mr20))
  | 37, _ => bl (br (br (mr20)))
  | 38, _ => bl (br (br (br (mr20))))
  | 39, _ => br (br (br (br (mr20))))
  | 40, _ => bl (mr21)
  | 41, _ => bl (br (mr21))
  | 42, _ => bl (br (br (mr21)))
  | 43, _ => bl (br (br (br (mr21))))
  | 44, _ => br (br (br (br (mr21))))
  | 45, _ => bl (mr22)
  | 46, _ => bl (br (mr22))
  | 47, _ => bl (br (br (mr22)))
  | 48, _ => bl (br (br (br (mr22))))
  | 49, _ => br (br (br (br (mr22))))
  | 50, _ => bl (mr23)
  | 51, _ => bl (br (mr23))
  | 52, _ => bl (br (br (mr23)))
  | 53, _ => bl (br (br (br (mr23))))
  | 54, _ => br (br (br (br (mr23))))
  | 55, _ => bl (mr24)
  | 56, _ => bl (br (mr24))
  | 57, _ => bl (br (br (mr24)))
  | 58, _ => bl (br (br (br (mr24))))
  | 59, _ => br (br (br (br (mr24))))
  | n + 60, h => by omega
theorem runNil : runOf .nils h0 = true := bl (mr0)
theorem runBig : runOf (.cl2 0 61) h0 = true := bl (br (mr0))
theorem runZero : runOf (.slice 8 0 0 0 3) h0 = true := br (br (mr0))

/-! What an argument is. -/
theorem range_flat {W : World} {b : Nat} : ∀ (ss : List SeedA) (off : Nat), (∀ i s, ss[i]? = some s → W.rangeAt b (off + 3 * i) s.cells) → W.rangeAt b off (ss.flatMap SeedA.cells) := by
  intro ss
  induction ss with
  | nil => intro off _ j v hj; simp at hj
  | cons s ss ih =>
    intro off h j v hj
    rw [List.flatMap_cons] at hj
    have hs := h 0 s rfl
    have hl : s.cells.length = 3 := rfl
    by_cases hjl : j < 3
    · rw [List.getElem?_append_left (by omega)] at hj
      have := hs j v hj
      simpa using this
    · rw [List.getElem?_append_right (by omega), hl] at hj
      have := ih (off + 3) (fun i t ht => by
        have := h (i + 1) t (by simpa using ht)
        rw [show off + 3 * (i + 1) = off + 3 + 3 * i by omega] at this
        exact this) (j - 3) v hj
      rw [show off + 3 + (j - 3) = off + j by omega] at this
      exact this
theorem cell_row {W : World} {b o : Nat} {v : Value} (h : W.cell? ⟨b, o, none⟩ = some v) : ∃ cs t fz, W.heap[b]? = some (.cells cs t fz) ∧ cs[o]? = some v := by
  obtain ⟨cs, t, fz, hc⟩ := cells_of h
  refine ⟨cs, t, fz, hc, ?_⟩
  simpa [World.cell?, hc] using h
theorem spot_none {W : World} {a : Addr} {v : Value} (h : W.cell? a = some v) : a = ⟨a.block, a.off, none⟩ := by
  obtain ⟨b, o, sp⟩ := a
  cases sp with
  | none => rfl
  | some x =>
    unfold World.cell? at h
    split at h
    · simp at h
    · cases h

/-- An argument, opened. -/
def SeedsAt (W : World) (v : Value) : Prop :=
  v = .slice none 0 0 ∨ ∃ b off len cap, v = .slice (some ⟨b, off, none⟩) len cap ∧ len ≤ cap ∧
    ∃ ss : List SeedA, ss.length = len ∧ (∀ s ∈ ss, s.Ok W) ∧ W.rangeAt b off (ss.flatMap SeedA.cells) ∧ (0 < cap → ∃ cs t fz, W.heap[b]? = some (.cells cs t fz) ∧ off + 3 * cap ≤ cs.size)

section
variable {H : Type} {enc : TypeId × Value → H}
theorem units_ok {W : World} {fuel : Nat} {cs : List Value} {x : DataW H × List MemPlace} (h : DataW.trod enc Tryz.prog W 0 (fun _ => true) true fuel 22 cs = some x) :
    ∃ a z cap, cs = [.slice a z cap] ∧ ∀ k n, (SeedA.mk k n a z cap).Ok W := by
  rcases open_ints Tryz.underlying22 Tryz.underlying27 cells27 h with ⟨rfl, _⟩ | ⟨a, len, cap, zs, rfl, _, hl, _, hz, _, hc, _⟩
  · exact ⟨none, 0, 0, rfl, fun _ _ => .inl ⟨rfl, rfl⟩⟩
  · refine ⟨some a, len, cap, rfl, fun k n => ?_⟩
    simp only [if_true] at hz
    by_cases h0 : cap = 0
    · exact .inl ⟨by show len = 0; omega, h0⟩
    · have c0 := hc 0 (by omega)
      have ea : a.add 0 = a := by simp [Addr.add]
      rw [ea] at c0
      have e := spot_none c0
      obtain ⟨b, y, sp⟩ := a
      cases e
      have hcell : ∀ i, i < zs.length → W.cell? ⟨b, y + i, none⟩ = some (.int .u16 (zs.getD i 0)) := fun i hi => by
        have := hc i hi
        rwa [add_plain] at this
      obtain ⟨ds, t, fz, hd, _⟩ := cell_row c0
      have hlast := hcell (zs.length - 1) (by omega)
      obtain ⟨ds', t', fz', hd', hg⟩ := cell_row hlast
      rw [hd] at hd'
      cases hd'
      have hsz := (Array.getElem?_eq_some_iff.1 hg).1
      refine .inr ⟨b, y, ds, t, fz, rfl, hl, hd, by show y + cap ≤ ds.size; omega, zs, hz, fun j v hj => ?_⟩
      have hjl : j < zs.length := by
        have := (List.getElem?_eq_some_iff.1 hj).1
        simpa using this
      rw [List.getElem?_map, List.getElem?_eq_getElem hjl] at hj
      simp only [Option.map_some, Option.some.injEq] at hj
      rw [hcell j hjl, ← hj]
      simp [List.getD, List.getElem?_eq_getElem hjl]
theorem three_of {α : Type} {l : List α} (h : l.length = 3) : ∃ a b c, l = [a, b, c] := by
  match l, h with
  | [a, b, c], _ => exact ⟨a, b, c, rfl⟩
set_option maxRecDepth 100000 in
theorem seed_ok {W : World} {fuel : Nat} {cs : List Value} {x : DataW H × List MemPlace} (h : DataW.trod enc Tryz.prog W 0 (fun _ => true) true fuel 70 cs = some x) : ∃ s : SeedA, cs = s.cells ∧ s.Ok W := by
  obtain ⟨xs, n, _, _, hl, hxl, hf⟩ := DataW.trod_struct Tryz.underlying70 h
  rw [cells70] at hl
  obtain ⟨v0, v1, v2, rfl⟩ := three_of hl
  obtain ⟨y0, y1, y2, rfl⟩ := three_of (show xs.length = 3 from hxl)
  have g0 : DataW.trod enc Tryz.prog W 0 (fun _ => true) true n 3 (List.take (Tryz.prog.cellsOf 3) (List.drop 0 [v0, v1, v2])) = some y0 := hf 0 _ rfl
  have g1 : DataW.trod enc Tryz.prog W 0 (fun _ => true) true n 2 (List.take (Tryz.prog.cellsOf 2) (List.drop 1 [v0, v1, v2])) = some y1 := hf 1 _ rfl
  have g2 : DataW.trod enc Tryz.prog W 0 (fun _ => true) true n 22 (List.take (Tryz.prog.cellsOf 22) (List.drop 2 [v0, v1, v2])) = some y2 := hf 2 _ rfl
  rw [cells3] at g0
  rw [cells2] at g1
  rw [cells22] at g2
  obtain ⟨k, e0, _, _⟩ := DataW.trod_int Tryz.underlying3 g0
  obtain ⟨n', e1, _, _⟩ := DataW.trod_int Tryz.underlying2 g1
  obtain ⟨a, z, cap, e2, hok⟩ := units_ok g2
  simp only [List.drop, List.take, List.cons.injEq, and_true] at e0 e1 e2
  subst e0
  subst e1
  subst e2
  exact ⟨⟨k, n', a, z, cap⟩, rfl, hok k n'⟩
set_option maxRecDepth 100000 in
theorem seeds_at {W : World} {b0 : Nat} {v : Value} {d : DataW H} {p : List MemPlace} (hval : Value.okWide Tryz.prog W .any b0 68 v) (h : DataW.Trod enc Tryz.prog W 0 (fun _ => true) true 68 v d p) : SeedsAt W v := by
  obtain ⟨a, len, cap, rfl⟩ := okWide_slice Tryz.underlying68 hval
  obtain ⟨fuel, h⟩ := h
  rcases Deep.open_slice Tryz.underlying68 h with ⟨h1, _⟩ | ⟨a', len', cap', m, n, D, Pl, h1, _, hl, _, hm, _, hx⟩
  · simp only [Value.cells, List.cons.injEq, and_true] at h1
    exact .inl h1
  · simp only [Value.cells, List.cons.injEq, and_true, Value.slice.injEq] at h1
    obtain ⟨rfl, rfl, rfl⟩ := h1
    simp only [if_true] at hm
    subst hm
    rw [cells70] at hx
    have each : ∀ i, i < m → ∃ s : SeedA, W.cells? 0 (a'.add (i * 3)) 3 = some s.cells ∧ s.Ok W := fun i hi => by
      obtain ⟨cs', h1, h2⟩ := hx i hi
      obtain ⟨s, rfl, hs⟩ := seed_ok h2
      exact ⟨s, h1, hs⟩
    obtain ⟨f, hf⟩ := @Deep.choose_lt SeedA ⟨⟨0, 0, none, 0, 0⟩⟩ m (fun i s => W.cells? 0 (a'.add (i * 3)) 3 = some s.cells ∧ s.Ok W) each
    by_cases h0 : m = 0
    · have hl0 : len = 0 := by omega
      subst hl0
      subst h0
      have hv : ∃ b off, a' = ⟨b, off, none⟩ := by
        unfold Value.okWide at hval
        rw [Tryz.underlying68] at hval
        unfold Cell.okWide at hval
        rw [Tryz.underlying68] at hval
        unfold Cell.ok at hval
        rw [Tryz.underlying68] at hval
        obtain ⟨_, _, _, hs, _⟩ := hval
        exact ⟨a'.block, a'.off, by obtain ⟨b, o, sp⟩ := a'; cases hs; rfl⟩
      obtain ⟨b, off, rfl⟩ := hv
      exact .inr ⟨b, off, 0, 0, rfl, Nat.le_refl _, [], rfl, fun s hs => by (cases hs), fun j v hj => by simp at hj, fun h => by omega⟩
    · have c0 := (World.cells?_some (hf 0 (by omega)).1).2.2 0 (by omega)
      have ea : (a'.add (0 * 3)).add 0 = a' := by simp [Addr.add]
      rw [ea] at c0
      have e := spot_none (show W.cell? a' = some (.int .i64 (f 0).k) from c0)
      obtain ⟨b, off, sp⟩ := a'
      cases e
      have hcell : ∀ i, i < m → W.rangeAt b (off + 3 * i) (f i).cells := fun i hi j v hj => by
        have hj3 : j < 3 := (List.getElem?_eq_some_iff.1 hj).1
        have := (World.cells?_some (hf i hi).1).2.2 j hj3
        rw [add_plain, add_plain, hj] at this
        rw [show off + 3 * i + j = off + i * 3 + j by omega]
        exact this
      obtain ⟨ds, t, fz, hd, _⟩ := cell_row (show W.cell? ⟨b, off, none⟩ = some (.int .i64 (f 0).k) from c0)
      have hlast := hcell (m - 1) (by omega) 2 (.slice (f (m - 1)).a (f (m - 1)).z (f (m - 1)).cap) rfl
      obtain ⟨ds', t', fz', hd', hg⟩ := cell_row hlast
      rw [hd] at hd'
      cases hd'
      have hsz := (Array.getElem?_eq_some_iff.1 hg).1
      refine .inr ⟨b, off, len, m, rfl, hl, (List.range len).map f, by simp, fun s hs => ?_, ?_, fun _ => ⟨ds, t, fz, hd, by omega⟩⟩
      · obtain ⟨i, hi, rfl⟩ := List.mem_map.1 hs
        have := List.mem_range.1 hi
        exact (hf i (by omega)).2
      · refine range_flat _ _ (fun i s hs => ?_)
        rw [List.getElem?_map] at hs
        obtain ⟨i', hi', rfl⟩ := Option.map_eq_some_iff.1 hs
        have hil := (List.getElem?_eq_some_iff.1 hi').1
        rw [List.length_range] at hil
        rw [List.getElem?_range hil] at hi'
        cases hi'
        exact hcell i (by omega)
end

/-! The call. -/
theorem run_closes {W : World} (hW : At W) {r : Emb} {h : H} (hq : Quiet r h W) (hg : GRel Tryz.prog r) {v : V} (hrun : runOf v h = true) {x : Value} (hx : VRel r v x) :
    Calls Tryz.prog 5 #[x] W fun e w' => e = .returned (.bool true) ∧ Below W.heap.size W w' := by
  unfold runOf at hrun
  split at hrun
  · rename_i b h' hc
    subst hrun
    have hcall := (ext2_sound hW 300 3000 5 _ _ _ h' hc).1 rfl
    refine (hcall r W #[x] hq.rel hg hq.base (.cons hx .nil)).mono ?_
    rintro e w' ⟨z, r', rfl, st, hz⟩
    cases hz
    exact ⟨rfl, st.os, st.tape, st.out, st.size, fun k hk => st.keep k hk (hq.none k)⟩
  · cases hrun

theorem first_long : ∀ (ss : List SeedA), (∀ s ∈ ss, s.z ≤ 50) ∨ ∃ pre s post, ss = pre ++ s :: post ∧ (∀ t ∈ pre, t.z ≤ 50) ∧ 50 < s.z := by
  intro ss
  induction ss with
  | nil => exact .inl (fun s hs => by cases hs)
  | cons s ss ih =>
    by_cases hs : s.z ≤ 50
    · rcases ih with h | ⟨pre, t, post, rfl, h1, h2⟩
      · exact .inl (fun t ht => by
          rcases List.mem_cons.1 ht with rfl | ht
          · exact hs
          · exact h t ht)
      · refine .inr ⟨s :: pre, t, post, rfl, fun u hu => ?_, h2⟩
        rcases List.mem_cons.1 hu with rfl | hu
        · exact hs
        · exact h1 u hu
    · exact .inr ⟨[], s, ss, rfl, fun t ht => by (cases ht), by omega⟩

theorem mak_walk {W : World} (hW : At W) {v : Value} (hv : SeedsAt W v) : Calls Tryz.prog 5 #[v] W fun e w' => e = .returned (.bool true) ∧ Below W.heap.size W w' := by
  have hq : Quiet (globEmb Tryz.prog W) h0 W := hW.begins.quiet
  have hg : GRel Tryz.prog (globEmb Tryz.prog W) := hW.begins.gl
  have hw : 0 < W.heap.size := by
    obtain ⟨cs, t, fz, hc⟩ := cells_of hW.len0
    have := (Array.getElem?_eq_some_iff.1 hc).1
    omega
  have hnone : ∀ i, 8 ≤ i → globEmb Tryz.prog W i = none := fun i hi => by
    have : Tryz.prog.globals.size = 8 := by kernel_rfl
    simp only [globEmb, this]
    rw [if_neg (by omega)]
  rcases hv with rfl | ⟨b, off, len, cap, rfl, hlc, ss, hlen, hok, hrow, hcap⟩
  · exact run_closes hW hq hg runNil .nils
  · by_cases h60 : 60 < len
    · exact run_closes hW hq hg runBig (.lbig h60)
    · by_cases hl0 : len = 0
      · subst hl0
        exact run_closes hW (hq.nam (id := 8) (by decide) (glob8 W) (b, off, off + cap * 3)) (GRel.up (Emb.le_put _ _ _ (glob8 W)) hg) runZero (.slice0 (Emb.put_same _ _ _) (Nat.le_refl _))
      · obtain ⟨cs, t, fz, hb, hsz⟩ := hcap (by omega)
        rcases first_long ss with hall | ⟨pre, s, post, rfl, hpre, hs⟩
        · obtain ⟨r', g1, g2, g3, g4, g5⟩ := lay_seeds hw ss 10 _ h0 hq (fun s hs => ⟨hok s hs, hall s hs⟩) (by rw [hlen]; show 10 + 3 * len ≤ 256; omega) (by decide) (fun i hi => hnone i (by omega))
          have h8 : r' 8 = none := (g3 8 (by omega)).trans (hnone 8 (by omega))
          have g5' := VsRel.up (Emb.le_put r' 8 (b, off, cs.size) h8) g5
          have hfit := fits_range g5' hb (by rw [seedCells_length, hlen]; omega) hrow (by rw [seedCells_length, hlen]; omega)
          rw [seedCells_length, hlen] at hfit
          have hq1 := g1.lab (id := 8) (by omega) (by rw [laySeeds_next]; decide) h8 rfl hfit
          rw [hlen] at hq1
          have hx : VRel (r'.put 8 (b, off, cs.size)) (.slice 8 0 len len 3) (.slice (some ⟨b, off, none⟩) len cap) := by
            have := VRel.slice (r := r'.put 8 (b, off, cs.size)) (id := 8) (o := 0) (len := len) (cap := len) (esz := 3) (cap' := cap) (Emb.put_same _ _ _) (Nat.le_refl _) hlc (by omega)
            rwa [Nat.zero_add] at this
          exact run_closes hW hq1 (GRel.up (Emb.le_trans g2 (Emb.le_put _ _ _ h8)) hg) (runS_all len (by omega) (by omega)) hx
        · have hlp : pre.length < 60 := by
            rw [List.length_append, List.length_cons] at hlen
            omega
          obtain ⟨r', g1, g2, g3, g4, g5⟩ := lay_seeds hw pre 10 _ h0 hq (fun s hs => ⟨hok s (List.mem_append_left _ hs), hpre s hs⟩) (by show 10 + 3 * pre.length ≤ 256; omega) (by decide) (fun i hi => hnone i (by omega))
          obtain ⟨r2, q1, q2, q3, q4⟩ := lay_long g1 s hs (10 + 3 * pre.length) (by rw [laySeeds_next]; show 10 + 3 * pre.length + 3 ≤ 256; omega) g4
          have h8 : r2 8 = none := (q3 8 (by omega)).trans ((g3 8 (by omega)).trans (hnone 8 (by omega)))
          have hrel : VsRel r2 (seedCells 10 pre.length ++ longCells (10 + 3 * pre.length)) (pre.flatMap SeedA.cells ++ s.cells) := (VsRel.up q2 g5).append q4
          have hl : (seedCells 10 pre.length ++ longCells (10 + 3 * pre.length)).length = 3 * (pre.length + 1) := by
            rw [List.length_append, seedCells_length]
            show 3 * pre.length + 3 = _
            omega
          have hrel' := VsRel.up (Emb.le_put r2 8 (b, off, cs.size) h8) hrel
          have hfit := fits_range hrel' hb (by rw [hl]; rw [List.length_append, List.length_cons] at hlen; omega) (fun j v hj => hrow j v (by
            rw [List.flatMap_append, List.flatMap_cons, ← List.append_assoc]
            have hjl := (List.getElem?_eq_some_iff.1 hj).1
            rw [List.getElem?_append_left hjl]
            exact hj)) (by rw [hl]; omega)
          rw [hl] at hfit
          have hq1 := q1.lab (id := 8) (by omega) (by rw [laySeeds_next]; decide) h8 rfl hfit
          exact run_closes hW hq1 (GRel.up (Emb.le_trans (Emb.le_trans g2 q2) (Emb.le_put _ _ _ h8)) hg) (runJ_all pre.length hlp) (.lslice (by omega) (Emb.put_same _ _ _) (by rw [List.length_append, List.length_cons] at hlen; omega) (by omega) hlp)

theorem kids : Kids Tryz.prog (· < Tryz.prog.types.size) := kids_rows (by kernel_rfl) (by kernel_rfl)
theorem slicesFull : ∀ t e, t < Tryz.prog.types.size → Tryz.prog.underlying t = some (.slice e) → 0 < Tryz.prog.cellsOf e := slices_full_of Tryz.prog (by kernel_rfl)
theorem inTypes : 68 < Tryz.prog.types.size := of_decide_eq_true (by kernel_rfl)

set_option maxRecDepth 100000 in
/-- What the walk gives, for every argument and every world that holds the tables. -/
theorem mak_contract (H : Type) (enc : TypeId × Value → H) (W : World) (base : Nat) (args : Array Value) (ds gs : List (DataW H)) (before : List MemPlace)
    (hval : ∀ (j : Nat) t v, Tryz.f5.params[j]? = some t → args[j]? = some v → Value.okWide Tryz.prog W .any base t v)
    (hW : DataW.Whole enc Tryz.prog Tryz.f5.params.toList Rows.listMakesSpec.vars false W args.toList ds gs before) (hA : At W) :
    Calls Tryz.prog 5 args W fun e W' => ∃ v, e = .returned v ∧ Rows.listMakesSpec.post enc Tryz.prog Tryz.f5 false true false false W args v W' := by
  have hW' := hW
  obtain ⟨p, q, hA0, hV, rfl, hfz, hnd⟩ := hW
  have hT : DataW.TrodAll enc Tryz.prog W 0 (fun _ => true) true Tryz.f5.params.toList args.toList ds p := hA0
  rw [Tryz.params5] at hT hval
  obtain ⟨v0, d0, rfl, rfl, t0⟩ := trodAll_one hT
  obtain ⟨rfl, rfl⟩ := trodVars_none hV
  refine (mak_walk hA (seeds_at (hval 0 68 v0 rfl rfl) t0)).mono ?_
  rintro e W' ⟨rfl, hk⟩
  have hlt : ∀ x ∈ p, x.block < W.heap.size := by
    obtain ⟨n, hn⟩ := t0
    exact DataW.trod_lt n _ _ _ hn
  have t1 : DataW.Trod enc Tryz.prog W' 0 (fun b => decide (b < W.heap.size)) true 68 v0 d0 p := by
    obtain ⟨n, hn⟩ := t0
    exact DataW.Trod.respare kids slicesFull inTypes ⟨n, DataW.trod_carry n _ _ _ hn (fun x hx => hk.same (hlt x hx))⟩ (fun x hx => decide_eq_true (hlt x hx))
  refine ⟨_, rfl, _, _, _, [], _, [], hW', trodAll_mk1 (shut_bool Tryz.underlying4 true), trodAll_mk1 t1, rfl, hk.frame _, fun h => by cases h⟩

theorem mak_laid_met (os : Os) (args : Array Value) : laidMet Tryz.prog Rows.listMakesRow.laid ((laidWorld os).forCall (fun _ _ => 0) ⟨#[], args, []⟩).memory :=
  laidMet_of_run' 8 (by kernel_rfl) (by kernel_rfl)
theorem mak_reads (os : Os) {H : Type} (enc : TypeId × Value → H) : ∃ places, DataW.whole enc Tryz.prog ((laidWorld os).forCall (fun _ _ => 0) ⟨#[], #[.slice none 0 0], []⟩).memory Tryz.f5.params.toList Rows.listMakesSpec.vars false #[Value.slice none 0 0].toList 8 = some ([.nil], [], places) :=
  ⟨[], by kernel_rfl⟩

set_option maxRecDepth 100000 in
theorem mak_lifted (os : Os) (started : os.Started) (H : Type) (enc : TypeId × Value → H) (F : Stop.Interp) :
    ReturnsInHanded {} Tryz.checked os 5 .any ((OpenSpec.ofChange Rows.listMakesSpec).preRow enc Tryz.prog Tryz.f5 Rows.listMakesRow.domain false Rows.listMakesRow.laid) (((OpenSpec.ofChange Rows.listMakesSpec).at F).post enc Tryz.prog Tryz.f5 false true false false) := by
  obtain ⟨places, hx⟩ := mak_reads os enc
  refine returnsInHanded_of_row (C := Tryz.checked) (s := OpenSpec.ofChange Rows.listMakesSpec) own started (by kernel_rfl) Tryz.func5
    (witness_row_atRef (enc := enc) (C := Tryz.checked) false (laidWorld os) #[.slice none 0 0] rfl (by kernel_rfl) (by kernel_rfl) (by kernel_rfl)
      (OpenSpec.preRow_of_cond 8 hx (by kernel_rfl) (fun k hk => by cases hk) (by kernel_rfl) (mak_laid_met os _))) ?_
  intro W base args ds gs before hval hW _ _ _ hL hsh _
  exact mak_contract H enc W base args ds gs before hval hW (at_of hL)

theorem mak_said : Rows.ListMakesSaid :=
  OpenClaim.holds_of_cond 5 Tryz.f5 rfl rfl rfl rfl rfl rfl rfl ⟨rfl, rfl, rfl, rfl, rfl⟩ rfl rfl rfl rfl rfl (by kernel_rfl) Tryz.func5 (by kernel_rfl)
    (of_decide_eq_true (by kernel_rfl)) (by unfold Func.isWrapper; first | (rw [if_pos (by decide +kernel)]; kernel_rfl) | (rw [if_neg (by decide +kernel)]; exact ⟨rfl, rfl⟩))
    (fun os started H enc _ F => by rw [OpenClaim.pre_eq_preRow]; exact mak_lifted os started H enc F)

/-- No parameter wants a stand-in; the program's own looks are off. -/
theorem mak_plain (f : FuncId) (fn : Func) (hf : Tryz.pinned.checked.prog.funcNamed "ossuary/ossuarylaw15.ListMakes" = some f) (hfn : Tryz.pinned.checked.prog.funcs[f]? = some fn) :
    true = Tryz.pinned.checked.prog.looks [] ∧ ∀ (j : Nat) t, fn.params[j]? = some t → Tryz.pinned.checked.prog.wantsStandIn t = false := by
  obtain rfl : f = 5 := Option.some.inj ((show Tryz.prog.funcNamed "ossuary/ossuarylaw15.ListMakes" = some 5 by kernel_rfl).symm.trans hf) |>.symm
  obtain rfl : fn = Tryz.f5 := (Option.some.inj (Tryz.func5.symm.trans hfn)).symm
  refine ⟨by kernel_rfl, fun j t ht => ?_⟩
  rw [Tryz.params5] at ht
  obtain rfl : t = 68 := by
    have := Array.mem_of_getElem? ht
    simpa using this
  exact (show Tryz.prog.wantsStandIn 68 = false by kernel_rfl)

/-- THE CARD. -/
theorem listMakes_holds : Rows.ListMakesCardSaid :=
  Claim7.holds_tied_plain_at .later [] _ _ _ _ mak_said (fun _ h => by cases h) (by kernel_rfl) (fun _ h => by cases h) listMakes_row_tie rfl ⟨rfl, rfl⟩ (by kernel_rfl) rfl mak_plain (by kernel_rfl)

end Go.Proofs.YtllgeddjlodliaaGreatDoor
