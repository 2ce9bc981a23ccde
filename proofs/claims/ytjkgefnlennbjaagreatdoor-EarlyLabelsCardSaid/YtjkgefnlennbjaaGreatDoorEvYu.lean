/- EarlyLabels: a text of two statements parsed. No condition. -/
import Derived.Test.YtjkgefnlennbjaaGreatDoorEvMq
set_option linter.all false
namespace Go.Proofs.YtjkgefnlennbjaaGreatDoor
open Go.Ev Go.RowKit
set_option maxHeartbeats 16000000
set_option maxRecDepth 1000000

/-- Ahead of a statement, or at the end. -/
structure BegAt (pb : Nat) (S : World → Prop) (kd : Int) : Prop where
  ok : OkAt pb S
  tok : ∀ w, S w → Calls Tryz.prog 11 #[.pointer (some ⟨pb, 0, none⟩)] w fun e w' => (∃ (y1 : ByteArray) (y3 x : Int), e = .returned (.agg #[.int .i64 kd, .string y1, .int .i64 x, .int .i64 y3])) ∧ S w' ∧ Pk pb w w'
theorem below_pk {pb : Nat} {w0 w w' : World} (h : Pk pb w w') (hB : w0.heap.size ≤ pb) (hs : w0.heap.size ≤ w.heap.size) : Below w0.heap.size w w' := ⟨h.os, h.tape, h.output, h.size, fun k hk => h.block k (by omega) (by omega)⟩
/-- The tokens lie. -/
def ScanEnd (ps : List (Bool × Tok)) (w : World) (e : Ending) (w' : World) : Prop := ∃ g cap, e = .returned (.tuple #[.slice (some ⟨g, 0, none⟩) (ps.length + 1) cap, .agg #[.int .i64 0, .int .i64 0]]) ∧ w.heap.size ≤ g ∧ g < w'.heap.size ∧ (∀ (i : Nat) (t : Tok), (ps.map (·.2) ++ [tEnd])[i]? = some t → tokAt w' g i t) ∧ Below w.heap.size w w'
theorem scan_end {W : World} (hA : At W) (s : ByteArray) (ps : List (Bool × Tok)) (hps : s.data.toList = psB ps) (hs : s.size ≤ 1000) (hok : okPs ps = true) (hn : ps.length ≤ 1000) {w : World} (hB : Below W.heap.size W w) : Calls Tryz.prog 9 #[.string s] w (ScanEnd ps w) := scan_walk hA s ps hps hs hok hn hB
theorem parse2_walk {W : World} (hA : At W) (s : ByteArray) (ps : List (Bool × Tok)) (hps : s.data.toList = psB ps) (hsz : s.size ≤ 1000) (hok : okPs ps = true) (hn : ps.length ≤ 1000) {w : World} (hB : Below W.heap.size W w) {t1 t2 : Tr} {n1 n2 : Nat} {kd1 kd2 : Int} (hk1 : kd1 ≠ 0) (hk2 : kd2 ≠ 0)
    (hb0 : ∀ pb tb cap, BegAt pb (PsAt W pb tb (ps.length + 1) cap (ps.map (·.2) ++ [tEnd]) 0 0) kd1)
    (hi0 : ∀ pb tb cap w, PsAt W pb tb (ps.length + 1) cap (ps.map (·.2) ++ [tEnd]) 0 0 w → Calls Tryz.prog 12 #[.pointer (some ⟨pb, 0, none⟩)] w (ResT (PsAt W pb tb (ps.length + 1) cap (ps.map (·.2) ++ [tEnd]) n1 0) t1 pb w))
    (hb1 : ∀ pb tb cap, BegAt pb (PsAt W pb tb (ps.length + 1) cap (ps.map (·.2) ++ [tEnd]) n1 0) kd2)
    (hi1 : ∀ pb tb cap w, PsAt W pb tb (ps.length + 1) cap (ps.map (·.2) ++ [tEnd]) n1 0 w → Calls Tryz.prog 12 #[.pointer (some ⟨pb, 0, none⟩)] w (ResT (PsAt W pb tb (ps.length + 1) cap (ps.map (·.2) ++ [tEnd]) n2 0) t2 pb w))
    (hb2' : ∀ pb tb cap, BegAt pb (PsAt W pb tb (ps.length + 1) cap (ps.map (·.2) ++ [tEnd]) n2 0) 0) :
    Calls Tryz.prog 7 #[.string s] w fun e w' => Below w.heap.size w w' ∧ ∃ np pb, e = .returned (.tuple #[.pointer (some ⟨np, 0, none⟩), .agg #[.int .i64 0, .int .i64 0]]) ∧ TrAt w.heap.size pb w' (.mk 1 ⟨#[]⟩ [t1, t2]) ⟨np, 0, none⟩ := by
  obtain ⟨i0, hi, hz0, hz1, hz2⟩ := info_at (P := Tryz.prog) (t := 26) (z := .pointer none) (s := 1) (b := 8) (by kernel_rfl) (by kernel_rfl) (by kernel_rfl)
  have al1 : Below w.heap.size w (w.alloc (.cells #[.int .i64 0, .int .i64 0] 29)) := (Below.refl _ w).alloc (Nat.le_refl _) _
  have hB1 : Below W.heap.size W (w.alloc (.cells #[.int .i64 0, .int .i64 0] 29)) := hB.trans (al1.mono hB.size)
  have hf1 := heap_alloc_new w (.cells #[.int .i64 0, .int .i64 0] 29)
  have hl1 : w.heap.size < (w.alloc (.cells #[.int .i64 0, .int .i64 0] 29)).heap.size := by simp
  go_enter Tryz.func7, Tryz.ntmps7
  go_wp2_with (go_at_call 9; refine (scan_end hA s ps hps hsz hok hn hB1).mono ?_)
  generalize w.alloc (Obj.cells #[Value.int IntKind.i64 0, Value.int IntKind.i64 0] 29) = w1 at al1 hB1 hf1 hl1 ⊢
  rintro e w2 hS
  obtain ⟨tb, cap, rfl, hg1, hg2, htoks, hb2⟩ := hS
  clear hps hsz hok
  go_wp2_with (go_at_call 6; refine (make_walk _ _ _ _ _ ⟨_, _, _, rfl⟩).mono ?_)
  rintro e w' ⟨rfl, rfl⟩
  go_wp2
  have h1 : (w2.alloc (Obj.cells #[.int .i64 0, .int .i64 0] 29)).heap.size = w2.heap.size + 1 := by simp
  have h2 : ((w2.alloc (Obj.cells #[.int .i64 0, .int .i64 0] 29)).alloc (Obj.cells #[.slice (some ⟨tb, 0, none⟩) (ps.length + 1) cap, .int .i64 0, .int .i64 0, .int .i64 0, .int .i64 0] 43)).heap.size = w2.heap.size + 2 := by simp
  have hs3 : (((w2.alloc (Obj.cells #[.int .i64 0, .int .i64 0] 29)).alloc (Obj.cells #[.slice (some ⟨tb, 0, none⟩) (ps.length + 1) cap, .int .i64 0, .int .i64 0, .int .i64 0, .int .i64 0] 43)).alloc (Obj.cells #[.int .i64 1, .int .i64 0, .string ⟨#[]⟩, .int .i64 0, .int .i64 0, .slice none 0 0] 34)).heap.size = w2.heap.size + 3 := by simp
  have b3 : Below w2.heap.size w2 (((w2.alloc (Obj.cells #[.int .i64 0, .int .i64 0] 29)).alloc (Obj.cells #[.slice (some ⟨tb, 0, none⟩) (ps.length + 1) cap, .int .i64 0, .int .i64 0, .int .i64 0, .int .i64 0] 43)).alloc (Obj.cells #[.int .i64 1, .int .i64 0, .string ⟨#[]⟩, .int .i64 0, .int .i64 0, .slice none 0 0] 34)) := (((Below.refl _ w2).alloc (Nat.le_refl _) _).alloc (by omega) _).alloc (by omega) _
  have hpB : (((w2.alloc (Obj.cells #[.int .i64 0, .int .i64 0] 29)).alloc (Obj.cells #[.slice (some ⟨tb, 0, none⟩) (ps.length + 1) cap, .int .i64 0, .int .i64 0, .int .i64 0, .int .i64 0] 43)).alloc (Obj.cells #[.int .i64 1, .int .i64 0, .string ⟨#[]⟩, .int .i64 0, .int .i64 0, .slice none 0 0] 34)).heap[w2.heap.size + 1]? = some (Obj.cells #[.slice (some ⟨tb, 0, none⟩) (ps.length + 1) cap, .int .i64 0, .int .i64 0, .int .i64 0, .int .i64 0] 43 (0, 0)) := by
    rw [heap_alloc_old _ _ (by omega), ← h1]
    exact heap_alloc_new _ _
  have hnode : ArrW (((w2.alloc (Obj.cells #[.int .i64 0, .int .i64 0] 29)).alloc (Obj.cells #[.slice (some ⟨tb, 0, none⟩) (ps.length + 1) cap, .int .i64 0, .int .i64 0, .int .i64 0, .int .i64 0] 43)).alloc (Obj.cells #[.int .i64 1, .int .i64 0, .string ⟨#[]⟩, .int .i64 0, .int .i64 0, .slice none 0 0] 34)) (w2.heap.size + 1 + 1) 1 0 ⟨#[]⟩ (.slice none 0 0) := by
    unfold ArrW
    rw [show w2.heap.size + 1 + 1 = w2.heap.size + 2 by omega, ← h2]
    exact heap_alloc_new _ _
  clear h1 h2
  generalize (((w2.alloc (Obj.cells #[.int .i64 0, .int .i64 0] 29)).alloc (Obj.cells #[.slice (some ⟨tb, 0, none⟩) (ps.length + 1) cap, .int .i64 0, .int .i64 0, .int .i64 0, .int .i64 0] 43)).alloc (Obj.cells #[.int .i64 1, .int .i64 0, .string ⟨#[]⟩, .int .i64 0, .int .i64 0, .slice none 0 0] 34)) = w3 at hs3 b3 hpB hnode ⊢
  have hB2 : Below W.heap.size W w2 := hB1.trans (hb2.mono hB1.size)
  have hW2 := hB2.size
  have p3 : Ps W w3 (w2.heap.size + 1) tb (ps.length + 1) cap 0 0 (ps.map (·.2) ++ [tEnd]) :=
    ⟨hB2.trans (b3.mono hW2), by omega, ⟨hpB⟩, by omega, by omega, by omega, by simp, fun i t hi => (htoks i t hi).keep (b3.block tb hg2)⟩
  have hf3 : w3.heap[w.heap.size]? = some (.cells #[.int .i64 0, .int .i64 0] 29 (0, 0)) := (b3.block _ (by have := hb2.size; omega)).trans ((hb2.block _ hl1).trans hf1)
  have b03 : Below w.heap.size w w3 := (al1.trans (hb2.mono al1.size)).trans (b3.mono (by have := hb2.size; have := al1.size; omega))
  have hbw : w.heap.size < w2.heap.size := by have := hb2.size; omega
  have HB0 := hb0 (w2.heap.size + 1) tb cap
  have HI0 := hi0 (w2.heap.size + 1) tb cap
  have HB1 := hb1 (w2.heap.size + 1) tb cap
  have HI1 := hi1 (w2.heap.size + 1) tb cap
  have HB2 := hb2' (w2.heap.size + 1) tb cap
  have hnof : nof W (w2.heap.size + 1) tb ≤ w2.heap.size + 2 := by unfold nof; omega
  clear hb0 hi0 hb1 hi1 hb2' al1 hB1 hf1 hl1 hb2 hB2 b3 hpB htoks hB
  rw [show w2.heap.size + 3 = w2.heap.size + 1 + 2 by omega] at hs3
  rw [show w2.heap.size + 2 = w2.heap.size + 1 + 1 by omega] at hnof
  have hd3 : w2.heap.size + 1 < w3.heap.size := by omega
  have hwl : w.heap.size + 1 < w2.heap.size + 1 := by omega
  generalize w2.heap.size + 1 = pb at hs3 hd3 hwl hnode p3 HB0 HI0 HB1 HI1 HB2 hnof ⊢
  generalize hnn : pb + 1 = nn at hnode ⊢
  have hnl : nn < w3.heap.size := by omega
  refine wp_loop_rounds 3 ?_
  rw [rounds_succ]
  go_wp2_with (go_at_call 10; refine (HB0.ok _ p3).mono ?_)
  rintro e w4 ⟨rfl, p4, k4⟩
  go_wp2_with (go_at_call 11; refine (HB0.tok _ p4).mono ?_)
  rintro e w5 ⟨⟨y1, y3, x, rfl⟩, p5, k5⟩
  have hfd := field_0 w5 kd1 y1 x y3
  have k35 := k4.trans k5
  have hnode5 : ArrW w5 nn 1 0 ⟨#[]⟩ (.slice none 0 0) := by unfold ArrW; rw [k35.block _ hnl (by omega)]; exact hnode
  have hl5 : nn < w5.heap.size := Nat.lt_of_lt_of_le hnl k35.size
  have hf5 : w5.heap[w.heap.size]? = some (.cells #[.int .i64 0, .int .i64 0] 29 (0, 0)) := (k35.block _ (by omega) (by omega)).trans hf3
  clear k4 p4 hnode hf3
  go_wp2
  clear hfd
  have p6 : PsAt W pb tb (ps.length + 1) cap (ps.map (·.2) ++ [tEnd]) 0 0 w5.drew := p5.still (Below.refl _ w5).drew
  obtain ⟨s5, f5⟩ := arrS (w' := w5.drew) hnode5 rfl
  have hnode6 : ArrW w5.drew nn 1 0 ⟨#[]⟩ (.slice none 0 0) := hnode5
  have hf6 : w5.drew.heap[w.heap.size]? = some (.cells #[.int .i64 0, .int .i64 0] 29 (0, 0)) := hf5
  have hd5 : w5.drew.heap.size = w5.heap.size := rfl
  have o1 := off_P W pb tb (ps.length + 1) cap n1 0 (ps.map (·.2) ++ [tEnd])
  have o2 := off_P W pb tb (ps.length + 1) cap n2 0 (ps.map (·.2) ++ [tEnd])
  go_region_law (first
      | (refine step_append_lies _ rfl (.tmp 33) (.tmp 36) 32 rfl w.heap.size 26 i0 (.pointer none) 1 8 Tryz.underlying32 hi hz0 hz1 hz2 rfl (by decide) (.slice none 0 0) 0 [] rfl (World.ownsRow_nil _ _ _ _) ⟨w7.heap.size, 0, none⟩ 1 1 [.pointer (some a)] rfl rfl (by exact news1 w7 _ 26) (by intro u hu; simp at hu; subst hu; rfl) (by decide) (by decide) (by decide) (by have := k7.size; simp; omega) _ rfl ?_; intro g1 cap1 wn hown2 hgrow2 hat2 hlt2; obtain ⟨s9, f9⟩ := arrS hnode7 ((hgrow2.block nn (by simp; omega) (fun q => by cases q)).trans (heap_alloc_old w7 _ hl7)))
      | (go_simp; go_at_call 12; refine (HI0 _ p6).mono ?_; rintro e w7 ⟨a, rfl, p7, f7, k7⟩; have hnode7 : ArrW w7 nn 1 0 ⟨#[]⟩ (.slice none 0 0) := (by unfold ArrW; rw [k7.block nn hl5 (by omega)]; exact hnode6); have hl7 : nn < w7.heap.size := Nat.lt_of_lt_of_le hl5 k7.size; obtain ⟨s7, q7⟩ := arrS hnode7 rfl; obtain ⟨s8, q8⟩ := arrS hnode7 (heap_alloc_old w7 (.cells #[.pointer (some a)] 26) hl7)))
  all_goals
    have hg1 : g1 = (w7.alloc (.cells #[.pointer (some a)] 26)).heap.size := hat2.resolve_left (fun q => by cases q)
    have bn : Below w7.heap.size w7 wn := ((Below.refl _ w7).alloc (Nat.le_refl _) _).grown hgrow2 (by simp) (fun k hk => by cases hk)
    have hgs : g1 = w7.heap.size + 1 := by rw [hg1]; simp
    have hlt3 : g1 < wn.heap.size := hlt2
    have hnode9 : ArrW wn nn 1 0 ⟨#[]⟩ (.slice none 0 0) := by unfold ArrW; rw [bn.block nn hl7]; exact hnode7
    have s35 := k35.size
    have s57 := k7.size
    have hnN : nof W pb tb ≤ nn := by omega
    have p9 := o1.off _ _ _ p7 bn (by omega)
    have hf7 : w7.heap[w.heap.size]? = some (.cells #[.int .i64 0, .int .i64 0] 29 (0, 0)) := (k7.block _ (by omega) (by omega)).trans hf6
    have hf9 : wn.heap[w.heap.size]? = some (.cells #[.int .i64 0, .int .i64 0] 29 (0, 0)) := (bn.block _ (by omega)).trans hf7
    have bb : Below w.heap.size w wn := (((b03.trans (below_pk (w0 := w) k35 (by omega) (by omega))).trans (Below.refl _ w5).drew).trans (below_pk (w0 := w) k7 (by omega) (by omega))).trans (bn.mono (by omega))
    have hl9 : nn < wn.heap.size := Nat.lt_of_lt_of_le hl7 bn.size
    have f9' : Pkb w5.drew.heap.size pb w7 wn := (Pk.below (pb := pb) bn).b w5.drew.heap.size
    have hg77 : w7.heap.size ≤ g1 := by omega
    clear hgrow2 hat2 hlt2 s7 q7 s8 q8 s9 f9 hg1 bn p7 k7 hnode7 hnode6 s5 f5 hnode5 hf7 hf6 hf5 p6 p5 p3 k35 k5 b03
    have bf : Below nn wn (wn.setCell ⟨nn, 5, none⟩ (.slice (some ⟨g1, 0, none⟩) 1 cap1)) := (Below.refl _ wn).setCell (p := ⟨nn, 5, none⟩) (Nat.le_refl _) _
    have pf := o1.off _ _ _ p9 bf hnN
    have nf : ArrW (wn.setCell ⟨nn, 5, none⟩ (.slice (some ⟨g1, 0, none⟩) 1 cap1)) nn 1 0 ⟨#[]⟩ (.slice (some ⟨g1, 0, none⟩) 1 cap1) := set_blk hnode9 5 _
    have ff := f9'.trans (Pkb.set (base := w5.drew.heap.size) (pb := pb) wn nn 5 (.slice (some ⟨g1, 0, none⟩) 1 cap1) hl5)
    have rf : (wn.setCell ⟨nn, 5, none⟩ (.slice (some ⟨g1, 0, none⟩) 1 cap1)).ownsRow w.heap.size 26 1 (.slice (some ⟨g1, 0, none⟩) 1 cap1) 1 [.pointer (some a)] := ownsRow_at hown2 (fun g hg => by
      simp only [Value.ownBlock, Option.some.injEq] at hg
      exact Below.heap_setCell wn ⟨nn, 5, none⟩ _ g (by show g ≠ nn; omega))
    have hff : (wn.setCell ⟨nn, 5, none⟩ (.slice (some ⟨g1, 0, none⟩) 1 cap1)).heap[w.heap.size]? = some (.cells #[.int .i64 0, .int .i64 0] 29 (0, 0)) := (bf.block _ (by omega)).trans hf9
    have bF := bb.trans (bf.mono (show w.heap.size ≤ nn by omega))
    have hsz9 : (wn.setCell ⟨nn, 5, none⟩ (.slice (some ⟨g1, 0, none⟩) 1 cap1)).heap.size = wn.heap.size := by simp [World.setCell]
    clear bf p9 f9' hnode9 bb hf9 hown2
    have hg9 : g1 < (wn.setCell ⟨nn, 5, none⟩ (.slice (some ⟨g1, 0, none⟩) 1 cap1)).heap.size := by omega
    have hn9 : nn < (wn.setCell ⟨nn, 5, none⟩ (.slice (some ⟨g1, 0, none⟩) 1 cap1)).heap.size := by omega
    generalize wn.setCell ⟨nn, 5, none⟩ (.slice (some ⟨g1, 0, none⟩) 1 cap1) = v3 at pf nf ff rf hff bF hg9 hn9 ⊢
    have hgn : nn < g1 := by omega
    have hbs5 : nn < w5.drew.heap.size := hl5
    have hg7 : w5.drew.heap.size ≤ g1 := by omega
    clear hsz9 hl9 hlt3 hgs s57 s35
    have hwB : w.heap.size ≤ w5.drew.heap.size := by omega
    generalize w5.drew.heap.size = B1 at ff hbs5 hg7 f7 hwB
    go_wp2
    rw [rounds_succ]
    go_wp2_with (go_at_call 10; refine (HB1.ok _ pf).mono ?_)
    rintro e v4 ⟨rfl, p4, k4⟩
    go_wp2_with (go_at_call 11; refine (HB1.tok _ p4).mono ?_)
    rintro e v5 ⟨⟨y1, y3, x, rfl⟩, p5, k5⟩
    have hfd := field_0 v5 kd2 y1 x y3
    have k35 := k4.trans k5
    obtain ⟨n5, hl5⟩ := nf.far k35 hn9 (by omega)
    have hf5 : v5.heap[w.heap.size]? = some (.cells #[.int .i64 0, .int .i64 0] 29 (0, 0)) := (k35.block _ (by have := bF.size; omega) (by omega)).trans hff
    have r5 : v5.ownsRow w.heap.size 26 1 (.slice (some ⟨g1, 0, none⟩) 1 cap1) 1 [.pointer (some a)] := ownsRow_at rf (fun g hg => by
      simp only [Value.ownBlock, Option.some.injEq] at hg
      exact k35.block g (by omega) (by omega))
    have ff5 := ff.trans (k35.b B1)
    have hg5 : g1 < v5.heap.size := Nat.lt_of_lt_of_le hg9 k35.size
    have bF5 := bF.trans (below_pk (w0 := w) k35 (by omega) bF.size)
    clear k4 p4 k5 k35 nf hff rf ff hg9 hn9 bF pf
    go_wp2
    clear hfd
    have p6 : PsAt W pb tb (ps.length + 1) cap (ps.map (·.2) ++ [tEnd]) n1 0 v5.drew := p5.still (Below.refl _ v5).drew
    obtain ⟨s5, f5⟩ := arrS (w' := v5.drew) n5 rfl
    have n6 : ArrW v5.drew nn 1 0 ⟨#[]⟩ (.slice (some ⟨g1, 0, none⟩) 1 cap1) := n5
    have hf6 : v5.drew.heap[w.heap.size]? = some (.cells #[.int .i64 0, .int .i64 0] 29 (0, 0)) := hf5
    have r6 : v5.drew.ownsRow w.heap.size 26 1 (.slice (some ⟨g1, 0, none⟩) 1 cap1) 1 [.pointer (some a)] := ownsRow_at r5 (fun g hg => rfl)
    have hd6 : v5.drew.heap.size = v5.heap.size := rfl
    have ff6 : Pkb B1 pb w7 v5.drew := ff5
    have hbF := bF5.size
    go_region_law (first
      | (refine step_append_lies _ rfl (.tmp 33) (.tmp 36) 32 rfl w.heap.size 26 i0 (.pointer none) 1 8 Tryz.underlying32 hi hz0 hz1 hz2 rfl (by decide) (.slice (some ⟨g1, 0, none⟩) 1 cap1) 1 [.pointer (some a)] rfl (by exact r8) ⟨v7.heap.size, 0, none⟩ 1 1 [.pointer (some a2)] rfl rfl (by exact news1 v7 _ 26) (by intro u hu; simp at hu; subst hu; rfl) (by decide) (by decide) (by decide) (by have := k7.size; simp; omega) _ rfl ?_; intro g2 cap2 wn hown2 hgrow2 hat2 hlt2; obtain ⟨s9, f9⟩ := arrS hnode7 ((hgrow2.block nn (by simp; omega) (fun q => by simp only [Value.ownBlock, Option.some.injEq] at q; omega)).trans (heap_alloc_old v7 _ hl7)))
      | (go_simp; go_at_call 12; refine (HI1 _ p6).mono ?_; rintro e v7 ⟨a2, rfl, p7, f7_1, k7⟩; have hnode7 : ArrW v7 nn 1 0 ⟨#[]⟩ (.slice (some ⟨g1, 0, none⟩) 1 cap1) := (by unfold ArrW; rw [k7.block nn hl5 (by omega)]; exact n6); have hl7 : nn < v7.heap.size := Nat.lt_of_lt_of_le hl5 k7.size; have r7 : v7.ownsRow w.heap.size 26 1 (.slice (some ⟨g1, 0, none⟩) 1 cap1) 1 [.pointer (some a)] := ownsRow_at r6 (fun g hg => by simp only [Value.ownBlock, Option.some.injEq] at hg; exact k7.block g (by omega) (by omega)); have r8 := r7.alloc (.cells #[.pointer (some a2)] 26); obtain ⟨s7, q7⟩ := arrS hnode7 rfl; obtain ⟨s8, q8⟩ := arrS hnode7 (heap_alloc_old v7 (.cells #[.pointer (some a2)] 26) hl7)))
    all_goals
      have s57 := k7.size
      have hg2 : nn < g2 ∧ g2 ≠ pb ∧ w.heap.size ≤ g2 := by
        rcases hat2 with q | q
        · simp only [Value.ownBlock, Option.some.injEq] at q; omega
        · have : (v7.alloc (.cells #[.pointer (some a2)] 26)).heap.size = v7.heap.size + 1 := by simp
          omega
      have cg1 : wn.cell? ⟨g2, 0, none⟩ = some (.pointer (some a)) := row_cell hown2 rfl (j := 0) rfl
      have cg2 : wn.cell? ⟨g2, 1, none⟩ = some (.pointer (some a2)) := row_cell hown2 rfl (j := 1) rfl
      have gk : ∀ k, k < v7.heap.size → k ≠ g1 → wn.heap[k]? = v7.heap[k]? := fun k hk hne => (hgrow2.block k (by simp; omega) (fun q => by simp only [Value.ownBlock, Option.some.injEq] at q; omega)).trans (heap_alloc_old v7 _ hk)
      have hsn : v7.heap.size ≤ wn.heap.size := Nat.le_trans (by simp) hgrow2.size
      have hn7 : ArrW wn nn 1 0 ⟨#[]⟩ (.slice (some ⟨g1, 0, none⟩) 1 cap1) := by unfold ArrW; rw [gk nn hl7 (by omega)]; exact hnode7
      have T1 : Pkb B1 pb w7 wn := ⟨Nat.le_trans (Nat.le_trans ff6.1 k7.size) hsn, fun k h1 h2 h3 => by
        have hk5 : k < v5.drew.heap.size := Nat.lt_of_lt_of_le h2 ff6.1
        rw [gk k (Nat.lt_of_lt_of_le hk5 k7.size) (by omega), k7.block k hk5 h3]
        exact ff6.2 k h1 h2 h3⟩
      have T2 : Pkb v5.drew.heap.size pb v7 wn := ⟨hsn, fun k h1 h2 h3 => gk k h2 (by omega)⟩
      have hf9 : wn.heap[w.heap.size]? = some (.cells #[.int .i64 0, .int .i64 0] 29 (0, 0)) := by
        rw [gk _ (by omega) (by omega), k7.block _ (by omega) (by omega)]
        exact hf6
      have bb : Below w.heap.size w wn := (bF5.drew.trans (below_pk (w0 := w) k7 (by omega) (by omega))).trans (((Below.refl _ v7).alloc (by omega) (.cells #[.pointer (some a2)] 26)).grown hgrow2 (by simp; omega) (fun k hk => by simp only [Value.ownBlock, Option.some.injEq] at hk; omega))
      have p9 : PsAt W pb tb (ps.length + 1) cap (ps.map (·.2) ++ [tEnd]) n2 0 wn := o2.off _ _ (nn + 1) p7 (((Below.refl _ v7).alloc (by omega) (.cells #[.pointer (some a2)] 26)).grown hgrow2 (by simp; omega) (fun k hk => by simp only [Value.ownBlock, Option.some.injEq] at hk; omega)) (by omega)
      have hl9 : nn < wn.heap.size := Nat.lt_of_lt_of_le hl7 hsn
      have lg2 : g2 < wn.heap.size := hlt2
      clear hown2 hgrow2 hat2 hlt2 s7 q7 s8 q8 s9 f9 gk hnode7 n6 n5 s5 f5 r5 r6 r7 r8 hf5 hf6 p5 p6 ff5 ff6
      have bf : Below nn wn (wn.setCell ⟨nn, 5, none⟩ (.slice (some ⟨g2, 0, none⟩) 2 cap2)) := (Below.refl _ wn).setCell (p := ⟨nn, 5, none⟩) (Nat.le_refl _) _
      have pf := o2.off _ _ _ p9 bf hnN
      have nf : ArrW (wn.setCell ⟨nn, 5, none⟩ (.slice (some ⟨g2, 0, none⟩) 2 cap2)) nn 1 0 ⟨#[]⟩ (.slice (some ⟨g2, 0, none⟩) 2 cap2) := set_blk hn7 5 _
      have U1 := TrAt.keep (T1.trans (Pkb.set (base := B1) (pb := pb) wn nn 5 (.slice (some ⟨g2, 0, none⟩) 2 cap2) hbs5)) (show w.heap.size + 1 ≤ B1 by omega) t1 a f7
      have U2 := TrAt.keep (T2.trans (Pkb.set (base := v5.drew.heap.size) (pb := pb) wn nn 5 (.slice (some ⟨g2, 0, none⟩) 2 cap2) hl5)) (show w.heap.size + 1 ≤ v5.drew.heap.size by omega) t2 a2 f7_1
      have hgc : ∀ o, (wn.setCell ⟨nn, 5, none⟩ (.slice (some ⟨g2, 0, none⟩) 2 cap2)).cell? ⟨g2, o, none⟩ = wn.cell? ⟨g2, o, none⟩ := fun o => by
        unfold World.cell?
        rw [Below.heap_setCell wn ⟨nn, 5, none⟩ _ g2 (by show g2 ≠ nn; omega)]
      have hsF : (wn.setCell ⟨nn, 5, none⟩ (.slice (some ⟨g2, 0, none⟩) 2 cap2)).heap.size = wn.heap.size := by simp [World.setCell]
      have TT : TrAt (w.heap.size + 1) pb (wn.setCell ⟨nn, 5, none⟩ (.slice (some ⟨g2, 0, none⟩) 2 cap2)) (.mk 1 ⟨#[]⟩ [t1, t2]) ⟨nn, 0, none⟩ := by
        have nf' := nf
        unfold ArrW at nf'
        rw [TrAt]
        refine ⟨nn, 0, _, rfl, by omega, by omega, by omega, by simp [World.cell?, nf'], ⟨0, by simp [World.cell?, nf']⟩, by simp [World.cell?, nf'], by simp [World.cell?, nf'], .inr ⟨g2, 0, cap2, rfl, by omega, by omega, by omega, ?_⟩⟩
        rw [KsAt, KsAt, KsAt]
        exact ⟨⟨a, (hgc 0).trans cg1, U1⟩, ⟨a2, (hgc 1).trans cg2, U2⟩, trivial⟩
      have hff : (wn.setCell ⟨nn, 5, none⟩ (.slice (some ⟨g2, 0, none⟩) 2 cap2)).heap[w.heap.size]? = some (.cells #[.int .i64 0, .int .i64 0] 29 (0, 0)) := (bf.block _ (by omega)).trans hf9
      have bF := bb.trans (bf.mono (show w.heap.size ≤ nn by omega))
      clear U1 U2 hgc nf bf p9 hn7 bb hf9 T1 T2 cg1 cg2
      generalize wn.setCell ⟨nn, 5, none⟩ (.slice (some ⟨g2, 0, none⟩) 2 cap2) = w9 at pf TT hff bF ⊢
      go_wp2
      rw [rounds_succ]
      go_wp2_with (go_at_call 10; refine (HB2.ok _ pf).mono ?_)
      rintro e q1 ⟨rfl, p1, k1⟩
      go_wp2_with (go_at_call 11; refine (HB2.tok _ p1).mono ?_)
      rintro e q2 ⟨⟨z1, z3, xz, rfl⟩, p2, k2⟩
      have hfd := field_0 q2 0 z1 xz z3
      go_wp2_with (go_at_call 10; refine (HB2.ok _ p2).mono ?_)
      clear hfd
      rintro e q3 ⟨rfl, p3, k3⟩
      have k13 := (k1.trans k2).trans k3
      have hq : q3.heap[w.heap.size]? = some (.cells #[.int .i64 0, .int .i64 0] 29 (0, 0)) := (k13.block _ (by have := bF.size; have := (Array.getElem?_eq_some_iff.1 hff).1; omega) (by omega)).trans hff
      have bq : Below w.heap.size w q3 := bF.trans (below_pk (w0 := w) k13 (by omega) bF.size)
      have wq := TrAt.keep (k13.b _) (Nat.le_refl _) _ _ TT
      obtain ⟨c0, c1, g0, g1'⟩ := two_at hq
      clear k1 k2 k3 p1 p2 p3 pf TT hff bF k13
      go_wp2
      have wE := TrAt.keep ((Pkb.set (pb := pb) q3 w.heap.size 0 (.int .i64 0) (by omega)).trans (Pkb.set _ w.heap.size 1 (.int .i64 0) (by omega))) (show w.heap.size ≤ w.heap.size + 1 by omega) _ _ wq
      exact scan_ret rfl rfl (set_blk (set_blk hq 0 _) 1 _) ⟨below_set (below_set bq 0 _) 1 _, nn, pb, rfl, wE⟩
end Go.Proofs.YtjkgefnlennbjaaGreatDoor
