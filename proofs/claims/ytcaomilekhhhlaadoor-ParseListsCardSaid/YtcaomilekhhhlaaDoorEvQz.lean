/- ParseLists: a text parsed. No condition. -/
import Derived.Test.YtcaomilekhhhlaaDoorEvQy
namespace Go.Proofs.YtcaomilekhhhlaaDoor
open Go.Ev Go.RowKit
set_option maxHeartbeats 16000000
set_option maxRecDepth 1000000

/-- Behind the statement: at the end; or behind a fault. -/
structure EndAt (pb N : Nat) (E : World → Prop) (b : Bool) : Prop where
  o : Off pb N E
  ok : ∀ w, E w → Calls Tryd.prog 8 #[.pointer (some ⟨pb, 0, none⟩)] w fun e w' => e = .returned (.bool b) ∧ E w' ∧ Pk pb w w'
  tok : b = true → ∀ w, E w → Calls Tryd.prog 9 #[.pointer (some ⟨pb, 0, none⟩)] w fun e w' => (∃ (y1 : ByteArray) (y3 x : Int), e = .returned (.agg #[.int .i64 0, .string y1, .int .i64 x, .int .i64 y3])) ∧ E w' ∧ Pk pb w w'
  flt : b = false → ∀ w, E w → ∃ x : Int, w.cell? ⟨pb, 3, none⟩ = some (.int .i64 4) ∧ w.cell? ⟨pb, 4, none⟩ = some (.int .i64 x)
/-- Ahead of the statement. -/
structure BegAt (pb : Nat) (S : World → Prop) (kd : Int) : Prop where
  ok : ∀ w, S w → Calls Tryd.prog 8 #[.pointer (some ⟨pb, 0, none⟩)] w fun e w' => e = .returned (.bool true) ∧ S w' ∧ Pk pb w w'
  tok : ∀ w, S w → Calls Tryd.prog 9 #[.pointer (some ⟨pb, 0, none⟩)] w fun e w' => (∃ (y1 : ByteArray) (y3 x : Int), e = .returned (.agg #[.int .i64 kd, .string y1, .int .i64 x, .int .i64 y3])) ∧ S w' ∧ Pk pb w w'
theorem parse_walk {W : World} (hA : At W) (s : ByteArray) (ps : List (Bool × Tok)) (hps : s.data.toList = psB ps) (hsz : s.size ≤ 1000) (hok : okPs ps = true) (hn : ps.length ≤ 1000) {w : World} (hB : Below W.heap.size W w) {b : Bool} {kd : Int} {E : Nat → Nat → Nat → World → Prop} {Ψ : Nat → Nat → Addr → World → Prop} (hkd : kd ≠ 0) (hΨ : ∀ pb, Firm (Ψ pb) pb)
    (hbeg : ∀ pb tb cap, BegAt pb (fun w => Ps W w pb tb (ps.length + 1) cap 0 0 (ps.map (·.2) ++ [tEnd])) kd)
    (hend : ∀ pb tb cap, EndAt pb (nof W pb tb) (E pb tb cap) b)
    (hitem : ∀ pb tb cap w, Ps W w pb tb (ps.length + 1) cap 0 0 (ps.map (·.2) ++ [tEnd]) → Calls Tryd.prog 10 #[.pointer (some ⟨pb, 0, none⟩)] w (Res (E pb tb cap) (Ψ pb) pb w)) :
    Calls Tryd.prog 5 #[.string s] w fun e w' => Below w.heap.size w w' ∧ (b = true → ∃ pb np, e = .returned (.tuple #[.pointer (some ⟨np, 0, none⟩), .agg #[.int .i64 0, .int .i64 0]]) ∧ WrapAt pb (Ψ pb) w.heap.size w' np 1) ∧ (b = false → ∃ v : Int, e = .returned (.tuple #[.pointer none, .agg #[.int .i64 4, .int .i64 v]])) := by
  obtain ⟨i0, hi, hz0, hz1, hz2⟩ := info_at (P := Tryd.prog) (t := 24) (z := .pointer none) (s := 1) (b := 8) (by kernel_rfl) (by kernel_rfl) (by kernel_rfl)
  have al1 : Below w.heap.size w (w.alloc (.cells #[.int .i64 0, .int .i64 0] 27)) := (Below.refl _ w).alloc (Nat.le_refl _) _
  have hB1 : Below W.heap.size W (w.alloc (.cells #[.int .i64 0, .int .i64 0] 27)) := hB.trans (al1.mono hB.size)
  have hf1 := heap_alloc_new w (.cells #[.int .i64 0, .int .i64 0] 27)
  have hl1 : w.heap.size < (w.alloc (.cells #[.int .i64 0, .int .i64 0] 27)).heap.size := by simp
  go_enter Tryd.func5, Tryd.ntmps5
  go_wp2_with (go_at_call 6; refine (scan_walk hA s ps hps hsz hok hn hB1).mono ?_)
  generalize w.alloc (Obj.cells #[Value.int IntKind.i64 0, Value.int IntKind.i64 0] 27) = w1 at al1 hB1 hf1 hl1 ⊢
  rintro e w2 ⟨tb, cap, rfl, hg1, hg2, htoks, hb2⟩
  clear hps hsz hok
  go_wp2_with (go_at_call 7; refine (make_walk _ _ _ _ _ ⟨_, _, _, rfl⟩).mono ?_)
  rintro e w' ⟨rfl, rfl⟩
  go_wp2
  have h1 : (w2.alloc (Obj.cells #[.int .i64 0, .int .i64 0] 27)).heap.size = w2.heap.size + 1 := by simp
  have h2 : ((w2.alloc (Obj.cells #[.int .i64 0, .int .i64 0] 27)).alloc (Obj.cells #[.slice (some ⟨tb, 0, none⟩) (ps.length + 1) cap, .int .i64 0, .int .i64 0, .int .i64 0, .int .i64 0] 39)).heap.size = w2.heap.size + 2 := by simp
  have hs3 : (((w2.alloc (Obj.cells #[.int .i64 0, .int .i64 0] 27)).alloc (Obj.cells #[.slice (some ⟨tb, 0, none⟩) (ps.length + 1) cap, .int .i64 0, .int .i64 0, .int .i64 0, .int .i64 0] 39)).alloc (Obj.cells #[.int .i64 1, .int .i64 0, .string ⟨#[]⟩, .int .i64 0, .int .i64 0, .slice none 0 0] 32)).heap.size = w2.heap.size + 3 := by simp
  have b3 : Below w2.heap.size w2 (((w2.alloc (Obj.cells #[.int .i64 0, .int .i64 0] 27)).alloc (Obj.cells #[.slice (some ⟨tb, 0, none⟩) (ps.length + 1) cap, .int .i64 0, .int .i64 0, .int .i64 0, .int .i64 0] 39)).alloc (Obj.cells #[.int .i64 1, .int .i64 0, .string ⟨#[]⟩, .int .i64 0, .int .i64 0, .slice none 0 0] 32)) := (((Below.refl _ w2).alloc (Nat.le_refl _) _).alloc (by omega) _).alloc (by omega) _
  have hpB : (((w2.alloc (Obj.cells #[.int .i64 0, .int .i64 0] 27)).alloc (Obj.cells #[.slice (some ⟨tb, 0, none⟩) (ps.length + 1) cap, .int .i64 0, .int .i64 0, .int .i64 0, .int .i64 0] 39)).alloc (Obj.cells #[.int .i64 1, .int .i64 0, .string ⟨#[]⟩, .int .i64 0, .int .i64 0, .slice none 0 0] 32)).heap[w2.heap.size + 1]? = some (Obj.cells #[.slice (some ⟨tb, 0, none⟩) (ps.length + 1) cap, .int .i64 0, .int .i64 0, .int .i64 0, .int .i64 0] 39 (0, 0)) := by
    rw [heap_alloc_old _ _ (by omega), ← h1]
    exact heap_alloc_new _ _
  have hnode : ArrAt (((w2.alloc (Obj.cells #[.int .i64 0, .int .i64 0] 27)).alloc (Obj.cells #[.slice (some ⟨tb, 0, none⟩) (ps.length + 1) cap, .int .i64 0, .int .i64 0, .int .i64 0, .int .i64 0] 39)).alloc (Obj.cells #[.int .i64 1, .int .i64 0, .string ⟨#[]⟩, .int .i64 0, .int .i64 0, .slice none 0 0] 32)) (w2.heap.size + 1 + 1) 1 0 (.slice none 0 0) := by
    unfold ArrAt
    rw [show w2.heap.size + 1 + 1 = w2.heap.size + 2 by omega, ← h2]
    exact heap_alloc_new _ _
  clear h1 h2
  generalize (((w2.alloc (Obj.cells #[.int .i64 0, .int .i64 0] 27)).alloc (Obj.cells #[.slice (some ⟨tb, 0, none⟩) (ps.length + 1) cap, .int .i64 0, .int .i64 0, .int .i64 0, .int .i64 0] 39)).alloc (Obj.cells #[.int .i64 1, .int .i64 0, .string ⟨#[]⟩, .int .i64 0, .int .i64 0, .slice none 0 0] 32)) = w3 at hs3 b3 hpB hnode ⊢
  have hB2 : Below W.heap.size W w2 := hB1.trans (hb2.mono hB1.size)
  have hW2 := hB2.size
  have p3 : Ps W w3 (w2.heap.size + 1) tb (ps.length + 1) cap 0 0 (ps.map (·.2) ++ [tEnd]) :=
    ⟨hB2.trans (b3.mono hW2), by omega, ⟨hpB⟩, by omega, by omega, by omega, by simp, fun i t hi => (htoks i t hi).keep (b3.block tb hg2)⟩
  have hf3 : w3.heap[w.heap.size]? = some (.cells #[.int .i64 0, .int .i64 0] 27 (0, 0)) := (b3.block _ (by have := hb2.size; omega)).trans ((hb2.block _ hl1).trans hf1)
  have b03 : Below w.heap.size w w3 := (al1.trans (hb2.mono al1.size)).trans (b3.mono (by have := hb2.size; have := al1.size; omega))
  have hbw : w.heap.size < w2.heap.size := by have := hb2.size; omega
  have HB := hbeg (w2.heap.size + 1) tb cap
  have HI := hitem (w2.heap.size + 1) tb cap
  have HE := hend (w2.heap.size + 1) tb cap
  have HF := hΨ (w2.heap.size + 1)
  have hnof : nof W (w2.heap.size + 1) tb ≤ w2.heap.size + 2 := by unfold nof; omega
  clear hbeg hitem hend hΨ al1 hB1 hf1 hl1 hb2 hB2 b3 hpB htoks hB
  rw [show w2.heap.size + 3 = w2.heap.size + 1 + 2 by omega] at hs3
  rw [show w2.heap.size + 2 = w2.heap.size + 1 + 1 by omega] at hnof
  have hd3 : w2.heap.size + 1 < w3.heap.size := by omega
  have hwl : w.heap.size + 1 < w2.heap.size + 1 := by omega
  generalize w2.heap.size + 1 = pb at hs3 hd3 hwl hnode p3 HB HI HE HF hnof ⊢
  generalize hnn : pb + 1 = nn at hnode ⊢
  have hnl : nn < w3.heap.size := by omega
  refine wp_loop_rounds 2 ?_
  rw [rounds_succ]
  go_wp2_with (go_at_call 8; refine (HB.ok _ p3).mono ?_)
  rintro e w4 ⟨rfl, p4, k4⟩
  go_wp2_with (go_at_call 9; refine (HB.tok _ p4).mono ?_)
  rintro e w5 ⟨⟨y1, y3, x, rfl⟩, p5, k5⟩
  have hfd := field_0 w5 kd y1 x y3
  have k35 := k4.trans k5
  have hnode5 : ArrAt w5 nn 1 0 (.slice none 0 0) := by unfold ArrAt; rw [k35.block _ hnl (by omega)]; exact hnode
  have hl5 : nn < w5.heap.size := Nat.lt_of_lt_of_le hnl k35.size
  have hf5 : w5.heap[w.heap.size]? = some (.cells #[.int .i64 0, .int .i64 0] 27 (0, 0)) := (k35.block _ (by omega) (by omega)).trans hf3
  clear k4 p4 hnode hf3
  go_wp2
  clear hfd
  have p6 : Ps W w5.drew pb tb (ps.length + 1) cap 0 0 (ps.map (·.2) ++ [tEnd]) := p5.still (Below.refl _ w5).drew
  obtain ⟨s5, f5⟩ := arrS (w' := w5.drew) hnode5 rfl
  have hnode6 : ArrAt w5.drew nn 1 0 (.slice none 0 0) := hnode5
  have hf6 : w5.drew.heap[w.heap.size]? = some (.cells #[.int .i64 0, .int .i64 0] 27 (0, 0)) := hf5
  have hd5 : w5.drew.heap.size = w5.heap.size := rfl
  go_region_law (first
      | (refine step_append_lies _ rfl (.tmp 33) (.tmp 36) 30 rfl w.heap.size 24 i0 (.pointer none) 1 8 Tryd.underlying30 hi hz0 hz1 hz2 rfl (by decide) (.slice none 0 0) 0 [] rfl (World.ownsRow_nil _ _ _ _) ⟨w7.heap.size, 0, none⟩ 1 1 [.pointer (some a)] rfl rfl (by exact news1 w7 _ 24) (by intro u hu; simp at hu; subst hu; rfl) (by decide) (by decide) (by decide) (by have := k7.size; simp; omega) _ rfl ?_; intro g1 cap1 wn hown2 hgrow2 hat2 hlt2; obtain ⟨s9, f9⟩ := arrS hnode7 ((hgrow2.block nn (by simp; omega) (fun q => by cases q)).trans (heap_alloc_old w7 _ hl7)))
      | (go_simp; go_at_call 10; refine (HI _ p6).mono ?_; rintro e w7 ⟨a, rfl, p7, f7, k7⟩; have hnode7 : ArrAt w7 nn 1 0 (.slice none 0 0) := (by unfold ArrAt; rw [k7.block nn hl5 (by omega)]; exact hnode6); have hl7 : nn < w7.heap.size := Nat.lt_of_lt_of_le hl5 k7.size; obtain ⟨s7, q7⟩ := arrS hnode7 rfl; obtain ⟨s8, q8⟩ := arrS hnode7 (heap_alloc_old w7 (.cells #[.pointer (some a)] 24) hl7)))
  all_goals
    have hg1 : g1 = (w7.alloc (.cells #[.pointer (some a)] 24)).heap.size := hat2.resolve_left (fun q => by cases q)
    have bn : Below w7.heap.size w7 wn := ((Below.refl _ w7).alloc (Nat.le_refl _) _).grown hgrow2 (by simp) (fun k hk => by cases hk)
    have hgs : g1 = w7.heap.size + 1 := by rw [hg1]; simp
    have cg : wn.cell? ⟨g1, 0, none⟩ = some (.pointer (some a)) := row_cell hown2 rfl (j := 0) rfl
    have hlt3 : g1 < wn.heap.size := hlt2
    have hnode9 : ArrAt wn nn 1 0 (.slice none 0 0) := by unfold ArrAt; rw [bn.block nn hl7]; exact hnode7
    have f9' := (HF).keep _ _ _ _ f7 (Pk.below (pb := pb) bn |>.b w5.drew.heap.size)
    have s35 := k35.size
    have s57 := k7.size
    have hnN : nof W pb tb ≤ nn := by omega
    have p9 := HE.o.off _ _ _ p7 bn (by omega)
    have hf7 : w7.heap[w.heap.size]? = some (.cells #[.int .i64 0, .int .i64 0] 27 (0, 0)) := (k7.block _ (by omega) (by omega)).trans hf6
    have hf9 : wn.heap[w.heap.size]? = some (.cells #[.int .i64 0, .int .i64 0] 27 (0, 0)) := (bn.block _ (by omega)).trans hf7
    have bb : Below w.heap.size w wn := (((b03.trans (below_pk (w0 := w) k35 (by omega) (by omega))).trans (Below.refl _ w5).drew).trans (below_pk (w0 := w) k7 (by omega) (by omega))).trans (bn.mono (by omega))
    have hl9 : nn < wn.heap.size := Nat.lt_of_lt_of_le hl7 bn.size
    clear hown2 hgrow2 hat2 hlt2 s7 q7 s8 q8 s9 f9 hg1 bn p7 k7 f7 hnode7 hnode6 s5 f5 hnode5 hf7 hf6 hf5 p6 p5 p3 k35 k5 b03
    have bf : Below nn wn (wn.setCell ⟨nn, 5, none⟩ (.slice (some ⟨g1, 0, none⟩) 1 cap1)) := (Below.refl _ wn).setCell (p := ⟨nn, 5, none⟩) (Nat.le_refl _) _
    have pf := HE.o.off _ _ _ p9 bf hnN
    have nf : ArrAt (wn.setCell ⟨nn, 5, none⟩ (.slice (some ⟨g1, 0, none⟩) 1 cap1)) nn 1 0 (.slice (some ⟨g1, 0, none⟩) 1 cap1) := set_blk hnode9 5 _
    have ff := HF.mono _ _ _ _ (HF.keep _ _ _ _ f9' (Pkb.set (base := w5.drew.heap.size) wn nn 5 (.slice (some ⟨g1, 0, none⟩) 1 cap1) hl5)) (show w.heap.size + 1 ≤ _ by omega)
    have cf : (wn.setCell ⟨nn, 5, none⟩ (.slice (some ⟨g1, 0, none⟩) 1 cap1)).cell? ⟨g1, 0, none⟩ = some (.pointer (some a)) := by
      unfold World.cell?
      rw [Below.heap_setCell wn ⟨nn, 5, none⟩ _ g1 (by show g1 ≠ nn; omega)]
      exact cg
    have wr : WrapAt pb (Ψ pb) (w.heap.size + 1) (wn.setCell ⟨nn, 5, none⟩ (.slice (some ⟨g1, 0, none⟩) 1 cap1)) nn 1 := ⟨0, g1, 1, cap1, a, by omega, by simp [World.setCell]; exact hl9, by omega, nf, by omega, by simp [World.setCell]; exact hlt3, by omega, Nat.le_refl _, cf, ff⟩
    have hff : (wn.setCell ⟨nn, 5, none⟩ (.slice (some ⟨g1, 0, none⟩) 1 cap1)).heap[w.heap.size]? = some (.cells #[.int .i64 0, .int .i64 0] 27 (0, 0)) := (bf.block _ (by omega)).trans hf9
    have bF := bb.trans (bf.mono (show w.heap.size ≤ nn by omega))
    clear cf ff nf bf p9 f9' hnode9 cg bb hf9
    generalize wn.setCell ⟨nn, 5, none⟩ (.slice (some ⟨g1, 0, none⟩) 1 cap1) = w9 at pf wr hff bF ⊢
    go_wp2
    rw [rounds_succ]
    cases b with
    | true =>
      go_wp2_with (go_at_call 8; refine (HE.ok _ pf).mono ?_)
      rintro e q1 ⟨rfl, p1, k1⟩
      go_wp2_with (go_at_call 9; refine (HE.tok rfl _ p1).mono ?_)
      rintro e q2 ⟨⟨z1, z3, xz, rfl⟩, p2, k2⟩
      have hfd := field_0 q2 0 z1 xz z3
      go_wp2_with (go_at_call 8; refine (HE.ok _ p2).mono ?_)
      clear hfd
      rintro e q3 ⟨rfl, p3, k3⟩
      have k13 := (k1.trans k2).trans k3
      have hq : q3.heap[w.heap.size]? = some (.cells #[.int .i64 0, .int .i64 0] 27 (0, 0)) := (k13.block _ (by have := bF.size; obtain ⟨x, g, n, cap, a, t1, t2, t3⟩ := wr; omega) (by omega)).trans hff
      have bq : Below w.heap.size w q3 := bF.trans (below_pk (w0 := w) k13 (by omega) bF.size)
      have wq := wr.keep HF (k13.b _)
      obtain ⟨c0, c1, g0, g1'⟩ := two_at hq
      clear k1 k2 k3 p1 p2 pf wr hff bF k13
      go_wp2
      have wE := (wq.keep HF (Pkb.set _ w.heap.size 0 (.int .i64 0) (by omega))).keep HF (Pkb.set _ w.heap.size 1 (.int .i64 0) (by omega))
      exact scan_ret rfl rfl (set_blk (set_blk hq 0 _) 1 _) ⟨below_set (below_set bq 0 _) 1 _, pb, nn, rfl, wE.mono HF (by omega)⟩
    | false =>
      go_wp2_with (go_at_call 8; refine (HE.ok _ pf).mono ?_)
      rintro e q1 ⟨rfl, p1, k1⟩
      go_wp2_with (go_at_call 8; refine (HE.ok _ p1).mono ?_)
      rintro e q3 ⟨rfl, p3, k3⟩
      have k13 := k1.trans k3
      have hq : q3.heap[w.heap.size]? = some (.cells #[.int .i64 0, .int .i64 0] 27 (0, 0)) := (k13.block _ (by have := bF.size; obtain ⟨x, g, n, cap, a, t1, t2, t3⟩ := wr; omega) (by omega)).trans hff
      have bq : Below w.heap.size w q3 := bF.trans (below_pk (w0 := w) k13 (by omega) bF.size)
      obtain ⟨c0, c1, g0, g1'⟩ := two_at hq
      obtain ⟨x4, c3, c4⟩ := HE.flt rfl _ p3
      clear k1 k3 p1 pf wr hff bF k13
      have bd : Below w.heap.size w q3.drew := bq.drew
      have hqd : q3.drew.heap[w.heap.size]? = some (.cells #[.int .i64 0, .int .i64 0] 27 (0, 0)) := hq
      obtain ⟨d0, d1, e0, e1⟩ := two_at hqd
      have d3 : q3.drew.cell? ⟨pb, 3, none⟩ = some (.int .i64 4) := c3
      have d4 : q3.drew.cell? ⟨pb, 4, none⟩ = some (.int .i64 x4) := c4
      have hqs : (q3.setCell ⟨w.heap.size, 0, none⟩ (.int .i64 4)).drew.heap[w.heap.size]? = some (.cells #[.int .i64 4, .int .i64 0] 27 (0, 0)) := set_blk hq 0 _
      obtain ⟨s0, s1, t0, t1⟩ := two_at hqs
      clear c3 c4
      go_wp2
      go_region_law (go_simp)
      all_goals
        go_wp2
        exact scan_ret rfl rfl (set_blk (set_blk hq 0 (.int .i64 4)) 1 (.int .i64 x4)) ⟨(below_set (below_set bq 0 _) 1 _).drew, x4, rfl⟩
end Go.Proofs.YtcaomilekhhhlaaDoor
