/- EarlyLabels: a block of one statement. No condition. -/
import Derived.Test.YtjkgefnlennbjaaGreatDoorEvYg
set_option linter.all false
namespace Go.Proofs.YtjkgefnlennbjaaGreatDoor
open Go.Ev Go.RowKit
set_option maxHeartbeats 16000000
set_option maxRecDepth 1000000

theorem news1 (w : World) (x : Value) (t : TypeId) : ∀ j u, [x][j]? = some u → (w.alloc (.cells #[x] t)).cell? ((⟨w.heap.size, 0, none⟩ : Addr).add j) = some u := by
  intro j u hj
  match j, hj with
  | 0, hj => simp at hj; subst hj; simp [Addr.add, World.cell?_alloc_at]
/-- All is well. -/
def OkAt (pb : Nat) (S : World → Prop) : Prop := ∀ w, S w → Calls Tryz.prog 10 #[.pointer (some ⟨pb, 0, none⟩)] w fun e w' => e = .returned (.bool true) ∧ S w' ∧ Pk pb w w'
/-- A sign is wanted, and there. -/
def Want (pb : Nat) (S S' : World → Prop) (s : ByteArray) : Prop := ∀ w, S w → Calls Tryz.prog 19 #[.pointer (some ⟨pb, 0, none⟩), .string s] w fun e w' => e = .returned (.tuple #[]) ∧ S' w' ∧ Pk pb w w'
theorem block_walk {S0 S1 S2 S3 : World → Prop} {pb N : Nat} {t : Tr} (o0 : Off pb N S0) (o1 : Off pb N S1) (o2 : Off pb N S2) (htk : TokAny pb S0) (hw : Want pb S0 S1 ⟨#[123]⟩) (ok1 : OkAt pb S1) (hno : No pb S1 37 ⟨#[125]⟩)
    (hit : ∀ w, S1 w → Calls Tryz.prog 12 #[.pointer (some ⟨pb, 0, none⟩)] w (ResT S2 t pb w)) (ok2 : OkAt pb S2) (hye : Yes pb S2 S3 37 ⟨#[125]⟩) {w : World} (h : S0 w) :
    Calls Tryz.prog 46 #[.pointer (some ⟨pb, 0, none⟩)] w (ResT S3 (.mk 7 ⟨#[]⟩ [t]) pb w) := by
  obtain ⟨i0, hi, hz0, hz1, hz2⟩ := info_at (P := Tryz.prog) (t := 26) (z := .pointer none) (s := 1) (b := 8) (by kernel_rfl) (by kernel_rfl) (by kernel_rfl)
  have hN := o0.lt _ h
  have hpn := o0.pn
  go_enter Tryz.func46, Tryz.ntmps46
  go_wp2_with (go_at_call 11; refine (htk _ h).mono ?_)
  rintro e w1 ⟨⟨y0, y1, y3, x, rfl⟩, p1, k1⟩
  have hfd := field_at w1 y0 y1 x y3
  go_wp2_with (go_at_call 6; refine (make_walk _ _ _ _ _ ⟨_, _, _, rfl⟩).mono ?_)
  rintro e w' ⟨rfl, rfl⟩
  clear hfd
  have al : Below w1.heap.size w1 (w1.alloc (Obj.cells #[Value.int IntKind.i64 7, Value.int IntKind.i64 x, Value.string { data := #[] }, Value.int IntKind.i64 0, Value.int IntKind.i64 0, Value.slice none 0 0] 34)) := (Below.refl _ w1).alloc (Nat.le_refl _) _
  have p2 := o0.off _ _ _ p1 al (o0.lt _ p1)
  have k2 := k1.trans (Pk.below (pb := pb) al)
  have hnode : ArrW (w1.alloc (Obj.cells #[Value.int IntKind.i64 7, Value.int IntKind.i64 x, Value.string { data := #[] }, Value.int IntKind.i64 0, Value.int IntKind.i64 0, Value.slice none 0 0] 34)) w1.heap.size 7 x ⟨#[]⟩ (.slice none 0 0) := heap_alloc_new w1 _
  have hnl : w1.heap.size < (w1.alloc (Obj.cells #[Value.int IntKind.i64 7, Value.int IntKind.i64 x, Value.string { data := #[] }, Value.int IntKind.i64 0, Value.int IntKind.i64 0, Value.slice none 0 0] 34)).heap.size := by simp
  have hb := k1.size
  clear al p1 k1
  generalize w1.alloc (Obj.cells #[Value.int IntKind.i64 7, Value.int IntKind.i64 x, Value.string { data := #[] }, Value.int IntKind.i64 0, Value.int IntKind.i64 0, Value.slice none 0 0] 34) = w2 at p2 k2 hnode hnl ⊢
  generalize w1.heap.size = nn at hnode hnl hb ⊢
  go_wp2_with (go_at_call 19; refine (hw _ p2).mono ?_)
  rintro e w3 ⟨rfl, p3, k3⟩
  go_wp2
  refine wp_loop_rounds 2 ?_
  rw [rounds_succ]
  go_wp2_with (go_at_call 10; refine (ok1 _ p3).mono ?_)
  rintro e w4 ⟨rfl, p4, k4⟩
  go_wp2_with (go_at_call 37; refine (hno _ p4).mono ?_)
  rintro e w8 ⟨rfl, p8, k5⟩
  have k28 := (k3.trans k4).trans k5
  have hnode8 : ArrW w8 nn 7 x ⟨#[]⟩ (.slice none 0 0) := by unfold ArrW; rw [k28.block nn hnl (by omega)]; exact hnode
  have hl8 : nn < w8.heap.size := Nat.lt_of_lt_of_le hnl k28.size
  have k08 := k2.trans k28
  clear k2 k3 k4 k5 k28 p2 p3 p4 hnode hnl
  go_wp2
  have p8d : S1 w8.drew := o1.off _ _ _ p8 (Below.refl _ w8).drew (o1.lt _ p8)
  obtain ⟨s8, f8⟩ := arrS (w' := w8.drew) hnode8 rfl
  have hnode8d : ArrW w8.drew nn 7 x ⟨#[]⟩ (.slice none 0 0) := hnode8
  have hl8d : nn < w8.drew.heap.size := hl8
  have s08 := k08.size
  go_region_law (first
      | (refine step_append_lies _ rfl (.tmp 21) (.tmp 24) 32 rfl w.heap.size 26 i0 (.pointer none) 1 8 Tryz.underlying32 hi hz0 hz1 hz2 rfl (by decide) (.slice none 0 0) 0 [] rfl (World.ownsRow_nil _ _ _ _) ⟨w10.heap.size, 0, none⟩ 1 1 [.pointer (some a)] rfl rfl (by exact news1 w10 _ 26) (by intro u hu; simp at hu; subst hu; rfl) (by decide) (by decide) (by decide) (by have := k10.size; have e : w8.drew.heap.size = w8.heap.size := rfl; simp; omega) _ rfl ?_; intro g1 cap1 wn hown2 hgrow2 hat2 hlt2; obtain ⟨s12, f12⟩ := arrS hnode10 ((hgrow2.block nn (by simp; omega) (fun q => by cases q)).trans (heap_alloc_old w10 _ hl10)))
      | (go_simp; go_at_call 12; refine (hit _ p8d).mono ?_; rintro e w10 ⟨a, rfl, p10, t10, k10⟩; have hnode10 : ArrW w10 nn 7 x ⟨#[]⟩ (.slice none 0 0) := (by unfold ArrW; rw [k10.block nn hl8d (by omega)]; exact hnode8d); have hl10 : nn < w10.heap.size := Nat.lt_of_lt_of_le hl8d k10.size; obtain ⟨s10, q10⟩ := arrS hnode10 rfl; obtain ⟨s11, q11⟩ := arrS hnode10 (heap_alloc_old w10 (.cells #[.pointer (some a)] 26) hl10)))
  all_goals
    have hg1 : g1 = (w10.alloc (.cells #[.pointer (some a)] 26)).heap.size := hat2.resolve_left (fun q => by cases q)
    have bn : Below w10.heap.size w10 wn := ((Below.refl _ w10).alloc (Nat.le_refl _) _).grown hgrow2 (by simp) (fun k hk => by cases hk)
    have hgs : g1 = w10.heap.size + 1 := by rw [hg1]; simp
    have ca : wn.cell? ⟨g1, 0, none⟩ = some (.pointer (some a)) := row_cell hown2 rfl (j := 0) rfl
    have hlt3 : g1 < wn.heap.size := hlt2
    have hnode12 : ArrW wn nn 7 x ⟨#[]⟩ (.slice none 0 0) := by unfold ArrW; rw [bn.block nn hl10]; exact hnode10
    have sd8 : w8.drew.heap.size = w8.heap.size := rfl
    have s810 := k10.size
    have hl12 : nn < wn.heap.size := Nat.lt_of_lt_of_le hl10 bn.size
    have T1 := TrAt.keep (((Pk.below (pb := pb) bn).b w8.drew.heap.size).trans (Pkb.set (base := w8.drew.heap.size) wn nn 5 (.slice (some ⟨g1, 0, none⟩) 1 cap1) hl8d)) (show w.heap.size ≤ w8.drew.heap.size by omega) t a t10
    have bf : Below nn wn (wn.setCell ⟨nn, 5, none⟩ (.slice (some ⟨g1, 0, none⟩) 1 cap1)) := (Below.refl _ wn).setCell (p := ⟨nn, 5, none⟩) (Nat.le_refl _) _
    have hNN : N ≤ nn := by omega
    have pf := o2.off _ _ _ (o2.off _ _ _ p10 bn (by have := o2.lt _ p10; omega)) bf hNN
    have nf : ArrW (wn.setCell ⟨nn, 5, none⟩ (.slice (some ⟨g1, 0, none⟩) 1 cap1)) nn 7 x ⟨#[]⟩ (.slice (some ⟨g1, 0, none⟩) 1 cap1) := set_blk hnode12 5 _
    have hgc : ∀ o, (wn.setCell ⟨nn, 5, none⟩ (.slice (some ⟨g1, 0, none⟩) 1 cap1)).cell? ⟨g1, o, none⟩ = wn.cell? ⟨g1, o, none⟩ := fun o => by
      unfold World.cell?
      rw [Below.heap_setCell wn ⟨nn, 5, none⟩ _ g1 (by show g1 ≠ nn; omega)]
    have hsF : (wn.setCell ⟨nn, 5, none⟩ (.slice (some ⟨g1, 0, none⟩) 1 cap1)).heap.size = wn.heap.size := by simp [World.setCell]
    have TT : TrAt w.heap.size pb (wn.setCell ⟨nn, 5, none⟩ (.slice (some ⟨g1, 0, none⟩) 1 cap1)) (.mk 7 ⟨#[]⟩ [t]) ⟨nn, 0, none⟩ := by
      unfold ArrW at nf
      rw [TrAt]
      refine ⟨nn, 0, _, rfl, hb, by omega, by omega, by simp [World.cell?, nf], ⟨x, by simp [World.cell?, nf]⟩, by simp [World.cell?, nf], by simp [World.cell?, nf], .inr ⟨g1, 0, cap1, rfl, by omega, by omega, by omega, ?_⟩⟩
      rw [KsAt, KsAt]
      exact ⟨⟨a, (hgc 0).trans ca, T1⟩, trivial⟩
    have kF : Pk pb w (wn.setCell ⟨nn, 5, none⟩ (.slice (some ⟨g1, 0, none⟩) 1 cap1)) := ⟨(bf.os.trans (bn.os.trans k10.os)).trans k08.os, (bf.tape.trans (bn.tape.trans k10.tape)).trans k08.tape, (bf.output.trans (bn.output.trans k10.output)).trans k08.output, by omega, fun k hk hne => (bf.block k (by omega)).trans ((bn.block k (by omega)).trans ((k10.block k (by omega) hne).trans (k08.block k hk hne)))⟩
    clear hown2 hgrow2 hat2 hlt2 s8 f8 s10 q10 s11 q11 s12 f12 hg1 bn ca hnode12 hnode10 hnode8 hnode8d T1 bf nf hgc p10 t10 k10
    generalize wn.setCell ⟨nn, 5, none⟩ (.slice (some ⟨g1, 0, none⟩) 1 cap1) = wF at pf TT kF ⊢
    go_wp2
    rw [rounds_succ]
    go_wp2_with (go_at_call 10; refine (ok2 _ pf).mono ?_)
    rintro e w14 ⟨rfl, p14, k14⟩
    go_wp2_with (go_at_call 37; refine (hye _ p14).mono ?_)
    rintro e w15 ⟨rfl, p15, k15⟩
    go_wp2
    go_ret
    exact ⟨_, rfl, p15, TrAt.keep ((k14.trans k15).b _) (Nat.le_refl _) _ _ TT, (kF.trans k14).trans k15⟩
end Go.Proofs.YtjkgefnlennbjaaGreatDoor
