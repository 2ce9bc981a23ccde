/- EarlyLabels: what stands behind 'of'. No condition. -/
import Derived.Test.YtjkgefnlennbjaaGreatDoorEvYm
set_option linter.all false
namespace Go.Proofs.YtjkgefnlennbjaaGreatDoor
open Go.Ev Go.RowKit
set_option maxHeartbeats 16000000
set_option maxRecDepth 1000000

theorem news3 (w : World) (x y z : Value) (t : TypeId) : ∀ j u, [x, y, z][j]? = some u → (w.alloc (.cells #[x, y, z] t)).cell? ((⟨w.heap.size, 0, none⟩ : Addr).add j) = some u := by
  intro j u hj
  match j, hj with
  | 0, hj => simp at hj; subst hj; simp [Addr.add, World.cell?_alloc_at]
  | 1, hj => simp at hj; subst hj; simp [Addr.add, World.cell?_alloc_at]
  | 2, hj => simp at hj; subst hj; simp [Addr.add, World.cell?_alloc_at]
theorem of_walk {S0 S1 S2 S3 S4 : World → Prop} {pb N : Nat} {s : ByteArray} {t0 t1 t2 : Tr} (o0 : Off pb N S0) (o3 : Off pb N S3) (o4 : Off pb N S4) (hat : Next pb S0 S1) (hy : ∀ w, S1 w → Calls Tryz.prog 71 #[.pointer (some ⟨pb, 0, none⟩)] w (ResT S2 t1 pb w)) (hw1 : Want pb S2 S3 ⟨#[41]⟩)
    (hst : ∀ w, S3 w → Calls Tryz.prog 22 #[.pointer (some ⟨pb, 0, none⟩)] w (ResT S4 t2 pb w)) {w : World} {nn base baseT : Nat} {b0 : Addr} {kd x : Int} {s0 : ByteArray} (h : S0 w) (hN : N ≤ base) (hb : base ≤ nn) (hl : nn < w.heap.size) (hnode : ArrW w nn kd x s0 (.slice none 0 0)) (hT : TrAt baseT pb w t0 b0) (hbT : nn < baseT) (hbT2 : baseT ≤ w.heap.size) :
    Calls Tryz.prog 79 #[.pointer (some ⟨pb, 0, none⟩), .pointer (some ⟨nn, 0, none⟩), .string s, .pointer (some b0)] w fun e w' => e = .returned (.tuple #[]) ∧ S4 w' ∧ TrAt base pb w' (.mk 12 s [t0, t1, t2]) ⟨nn, 0, none⟩ ∧ Pl base pb w w' := by
  obtain ⟨i0, hi, hz0, hz1, hz2⟩ := info_at (P := Tryz.prog) (t := 26) (z := .pointer none) (s := 1) (b := 8) (by kernel_rfl) (by kernel_rfl) (by kernel_rfl)
  have hpn := o0.pn
  have hnp : nn ≠ pb := by omega
  obtain ⟨c0, q0, c2, q2⟩ := hnode.c0
  have b1 : Below nn w ((w.setCell ⟨nn, 0, none⟩ (.int .i64 12)).setCell ⟨nn, 2, none⟩ (.string s)) := ((Below.refl _ w).setCell (p := ⟨nn, 0, none⟩) (Nat.le_refl _) _).setCell (p := ⟨nn, 2, none⟩) (Nat.le_refl _) _
  have p1 := o0.off _ _ _ h b1 (by omega)
  have a1 : ArrW ((w.setCell ⟨nn, 0, none⟩ (.int .i64 12)).setCell ⟨nn, 2, none⟩ (.string s)) nn 12 x s (.slice none 0 0) := set_blk (set_blk hnode 0 _) 2 _
  have z1 : ((w.setCell ⟨nn, 0, none⟩ (.int .i64 12)).setCell ⟨nn, 2, none⟩ (.string s)).heap.size = w.heap.size := by simp [World.setCell]
  have T0 : TrAt baseT pb ((w.setCell ⟨nn, 0, none⟩ (.int .i64 12)).setCell ⟨nn, 2, none⟩ (.string s)) t0 b0 := TrAt.keep ((Pkb.set w nn 0 (.int .i64 12) hbT).trans (Pkb.set _ nn 2 (.string s) hbT)) (Nat.le_refl _) t0 b0 hT
  obtain ⟨j, j', cj, fj, hj, p2, k2⟩ := hat _ p1
  obtain ⟨a2, l2⟩ := a1.far k2 (by omega) hnp
  have T02 := TrAt.keep (k2.b baseT) (Nat.le_refl _) t0 b0 T0
  have k02 : Pl base pb w (((w.setCell ⟨nn, 0, none⟩ (.int .i64 12)).setCell ⟨nn, 2, none⟩ (.string s)).setCell ⟨pb, 1, none⟩ (.int .i64 j')) := (Below.l (pb := pb) (b1.mono hb)).trans (k2.l (base := base) (by omega))
  have hs2 : w.heap.size ≤ (((w.setCell ⟨nn, 0, none⟩ (.int .i64 12)).setCell ⟨nn, 2, none⟩ (.string s)).setCell ⟨pb, 1, none⟩ (.int .i64 j')).heap.size := by have := k2.size; omega
  clear hnode hT b1 p1 a1 T0 k2 z1 hl h
  go_enter Tryz.func79, Tryz.ntmps79
  go_wp2_with (go_at_call 71; refine (hy _ p2).mono ?_)
  clear c0 q0 c2 q2 cj fj hj hat
  generalize ((w.setCell ⟨nn, 0, none⟩ (.int .i64 12)).setCell ⟨nn, 2, none⟩ (.string s)).setCell ⟨pb, 1, none⟩ (.int .i64 j') = w2 at p2 a2 l2 T02 k02 hs2 ⊢
  rintro e w3 ⟨a, rfl, p3, t3, k3⟩
  obtain ⟨a3, l3⟩ := a2.far k3 l2 hnp
  go_wp2_with (go_at_call 19; refine (hw1 _ p3).mono ?_)
  rintro e w10 ⟨rfl, p10, k10⟩
  obtain ⟨a10, l10⟩ := a3.far k10 l3 hnp
  go_wp2
  have p10d : S3 w10.drew := o3.off _ _ _ p10 (Below.refl _ w10).drew (o3.lt _ p10)
  obtain ⟨s8, f8⟩ := arrS (w' := w10.drew) a10 rfl
  have a10d : ArrW w10.drew nn 12 x s (.slice none 0 0) := a10
  have l10d : nn < w10.drew.heap.size := l10
  have s3 := k3.size
  have s10 := k10.size
  have sd : w10.drew.heap.size = w10.heap.size := rfl
  go_region_law (first
      | (refine step_append_lies _ rfl (.tmp 31) (.tmp 36) 32 rfl base 26 i0 (.pointer none) 1 8 Tryz.underlying32 hi hz0 hz1 hz2 rfl (by decide) (.slice none 0 0) 0 [] rfl (World.ownsRow_nil _ _ _ _) ⟨w11.heap.size, 0, none⟩ 3 3 [.pointer (some b0), .pointer (some a), .pointer (some b)] rfl rfl (by exact news3 w11 _ _ _ 26) (by intro u hu; simp at hu; rcases hu with rfl | rfl | rfl <;> rfl) (by decide) (by decide) (by decide) (by have := k11.size; simp; omega) _ rfl ?_; intro g1 cap1 wn hown2 hgrow2 hat2 hlt2; obtain ⟨s12, f12⟩ := arrS hnode11 ((hgrow2.block nn (by simp; omega) (fun q => by cases q)).trans (heap_alloc_old w11 _ hl11)))
      | (go_simp; go_at_call 22; refine (hst _ p10d).mono ?_; rintro e w11 ⟨b, rfl, p11, t11, k11⟩; have hnode11 : ArrW w11 nn 12 x s (.slice none 0 0) := (by unfold ArrW; rw [k11.block nn l10d hnp]; exact a10d); have hl11 : nn < w11.heap.size := Nat.lt_of_lt_of_le l10d k11.size; obtain ⟨s11, q11⟩ := arrS hnode11 rfl; obtain ⟨s14, q14⟩ := arrS hnode11 (heap_alloc_old w11 (.cells #[.pointer (some b0), .pointer (some a), .pointer (some b)] 26) hl11)))
  all_goals
    have hg1 : g1 = (w11.alloc (.cells #[.pointer (some b0), .pointer (some a), .pointer (some b)] 26)).heap.size := hat2.resolve_left (fun q => by cases q)
    have bn : Below w11.heap.size w11 wn := ((Below.refl _ w11).alloc (Nat.le_refl _) _).grown hgrow2 (by simp) (fun k hk => by cases hk)
    have hgs : g1 = w11.heap.size + 1 := by rw [hg1]; simp
    have ct : wn.cell? ⟨g1, 0, none⟩ = some (.pointer (some b0)) := row_cell hown2 rfl (j := 0) rfl
    have ca : wn.cell? ⟨g1, 1, none⟩ = some (.pointer (some a)) := row_cell hown2 rfl (j := 1) rfl
    have cb : wn.cell? ⟨g1, 2, none⟩ = some (.pointer (some b)) := row_cell hown2 rfl (j := 2) rfl
    have hlt3 : g1 < wn.heap.size := hlt2
    have hnode12 : ArrW wn nn 12 x s (.slice none 0 0) := by unfold ArrW; rw [bn.block nn hl11]; exact hnode11
    have s1011 := k11.size
    have hl12 : nn < wn.heap.size := Nat.lt_of_lt_of_le hl11 bn.size
    have kk : Pk pb w3 wn := ((k10.trans (Pk.below (pb := pb) (Below.refl _ w10).drew)).trans k11).trans (Pk.below bn)
    have X0 := TrAt.keep (((k3.trans kk).b baseT).trans (Pkb.set (base := baseT) wn nn 5 (.slice (some ⟨g1, 0, none⟩) 3 cap1) hbT)) (show base ≤ baseT by omega) t0 b0 T02
    have X1 := TrAt.keep ((kk.b w2.heap.size).trans (Pkb.set (base := w2.heap.size) wn nn 5 (.slice (some ⟨g1, 0, none⟩) 3 cap1) l2)) (show base ≤ w2.heap.size by omega) t1 a t3
    have X2 := TrAt.keep (((Pk.below (pb := pb) bn).b w10.drew.heap.size).trans (Pkb.set (base := w10.drew.heap.size) wn nn 5 (.slice (some ⟨g1, 0, none⟩) 3 cap1) l10d)) (show base ≤ w10.drew.heap.size by omega) t2 b t11
    have bf : Below nn wn (wn.setCell ⟨nn, 5, none⟩ (.slice (some ⟨g1, 0, none⟩) 3 cap1)) := (Below.refl _ wn).setCell (p := ⟨nn, 5, none⟩) (Nat.le_refl _) _
    have pf := o4.off _ _ _ (o4.off _ _ _ p11 bn (by have := o4.lt _ p11; omega)) bf (by omega)
    have nf : ArrW (wn.setCell ⟨nn, 5, none⟩ (.slice (some ⟨g1, 0, none⟩) 3 cap1)) nn 12 x s (.slice (some ⟨g1, 0, none⟩) 3 cap1) := set_blk hnode12 5 _
    have hgc : ∀ o, (wn.setCell ⟨nn, 5, none⟩ (.slice (some ⟨g1, 0, none⟩) 3 cap1)).cell? ⟨g1, o, none⟩ = wn.cell? ⟨g1, o, none⟩ := fun o => by
      unfold World.cell?
      rw [Below.heap_setCell wn ⟨nn, 5, none⟩ _ g1 (by show g1 ≠ nn; omega)]
    have hsF : (wn.setCell ⟨nn, 5, none⟩ (.slice (some ⟨g1, 0, none⟩) 3 cap1)).heap.size = wn.heap.size := by simp [World.setCell]
    have TT : TrAt base pb (wn.setCell ⟨nn, 5, none⟩ (.slice (some ⟨g1, 0, none⟩) 3 cap1)) (.mk 12 s [t0, t1, t2]) ⟨nn, 0, none⟩ := by
      unfold ArrW at nf
      rw [TrAt]
      refine ⟨nn, 0, _, rfl, hb, by omega, by omega, by simp [World.cell?, nf], ⟨x, by simp [World.cell?, nf]⟩, by simp [World.cell?, nf], by simp [World.cell?, nf], .inr ⟨g1, 0, cap1, rfl, by omega, by omega, by omega, ?_⟩⟩
      rw [KsAt, KsAt, KsAt, KsAt]
      exact ⟨⟨b0, (hgc 0).trans ct, X0⟩, ⟨a, (hgc 1).trans ca, X1⟩, ⟨b, (hgc 2).trans cb, X2⟩, trivial⟩
    have kF : Pl base pb w (wn.setCell ⟨nn, 5, none⟩ (.slice (some ⟨g1, 0, none⟩) 3 cap1)) := (k02.trans ((k3.trans kk).l (base := base) (by omega))).trans (Below.l (pb := pb) (bf.mono hb))
    go_wp2
    go_end0
    exact ⟨rfl, pf, TT, kF⟩
end Go.Proofs.YtjkgefnlennbjaaGreatDoor
