/- EarlyLabels: a statement with 'while'. No condition. -/
import Derived.Test.YtjkgefnlennbjaaGreatDoorEvYf
set_option linter.all false
namespace Go.Proofs.YtjkgefnlennbjaaGreatDoor
open Go.Ev Go.RowKit
set_option maxHeartbeats 16000000
set_option maxRecDepth 1000000

/-- One deeper, and back; a sign, a word is not at hand, or is, and gone over. -/
def Down (pb : Nat) (S0 S1 : World → Prop) : Prop := ∀ w, S0 w → Calls Tryz.prog 45 #[.pointer (some ⟨pb, 0, none⟩)] w fun e w' => e = .returned (.bool true) ∧ S1 w' ∧ Pk pb w w'
def Up (pb : Nat) (S S' : World → Prop) : Prop := ∀ w u, S w → CallsD Tryz.prog 44 #[.pointer (some ⟨pb, 0, none⟩)] u w fun e u' w' => u' = u ∧ (e = .returned (.tuple #[]) ∧ S' w' ∧ Pk pb w w')
def No (pb : Nat) (S : World → Prop) (g : FuncId) (s : ByteArray) : Prop := ∀ w, S w → Calls Tryz.prog g #[.pointer (some ⟨pb, 0, none⟩), .string s] w fun e w' => e = .returned (.bool false) ∧ S w' ∧ Pk pb w w'
def Yes (pb : Nat) (S S' : World → Prop) (g : FuncId) (s : ByteArray) : Prop := ∀ w, S w → Calls Tryz.prog g #[.pointer (some ⟨pb, 0, none⟩), .string s] w fun e w' => e = .returned (.bool true) ∧ S' w' ∧ Pk pb w w'
def TokAny (pb : Nat) (S : World → Prop) : Prop := ∀ w, S w → Calls Tryz.prog 11 #[.pointer (some ⟨pb, 0, none⟩)] w fun e w' => (∃ (y0 : Int) (y1 : ByteArray) (y3 x : Int), e = .returned (.agg #[.int .i64 y0, .string y1, .int .i64 x, .int .i64 y3])) ∧ S w' ∧ Pk pb w w'
/-- Where the parser is: what lies above does not matter. -/
structure Off (pb N : Nat) (S : World → Prop) : Prop where
  pn : pb < N
  lt : ∀ w, S w → N ≤ w.heap.size
  off : ∀ w w' B, S w → Below B w w' → N ≤ B → S w'
/-- A node that is being made. -/
def ArrW (w : World) (nb : Nat) (kd x : Int) (s : ByteArray) (v : Value) : Prop := w.heap[nb]? = some (.cells #[.int .i64 kd, .int .i64 x, .string s, .int .i64 0, .int .i64 0, v] 34 (0, 0))
theorem field_at (w : World) (y0 : Int) (y1 : ByteArray) (x y3 : Int) : Sem.run Tryz.prog (Instr.field 45 (.agg #[.int .i64 y0, .string y1, .int .i64 x, .int .i64 y3]) 2) w = .ok (.int .i64 x) w := by
  simp [Instr.field, run_underlying Tryz.underlying45, asAgg, part]
theorem arrS {w w' : World} {nb : Nat} {kd x : Int} {s : ByteArray} {v : Value} (h : ArrW w nb kd x s v) (hw : w'.heap[nb]? = w.heap[nb]?) : w'.cell? ⟨nb, 5, none⟩ = some v ∧ w'.frozen? ⟨nb, 5, none⟩ = false := by
  unfold ArrW at h
  rw [← hw] at h
  simp [World.cell?, World.frozen?, h]
theorem news2 (w : World) (x y : Value) (t : TypeId) : ∀ j u, [x, y][j]? = some u → (w.alloc (.cells #[x, y] t)).cell? ((⟨w.heap.size, 0, none⟩ : Addr).add j) = some u := by
  intro j u hj
  match j, hj with
  | 0, hj => simp at hj; subst hj; simp [Addr.add, World.cell?_alloc_at]
  | 1, hj => simp at hj; subst hj; simp [Addr.add, World.cell?_alloc_at]
/-- No word of a statement is at hand, up to 'while'. -/
structure WhileAt (pb : Nat) (S S' : World → Prop) : Prop where
  b1 : No pb S 17 ⟨#[123]⟩
  b2 : No pb S 37 ⟨#[59]⟩
  b3 : No pb S 37 ⟨#[105, 102]⟩
  b4 : Yes pb S S' 37 ⟨#[119, 104, 105, 108, 101]⟩
theorem while_walk {S0 S1 S2 S3 S4 S5 : World → Prop} {pb N : Nat} {t1 t2 : Tr} (o0 : Off pb N S0) (o2 : Off pb N S2) (o4 : Off pb N S4) (htk : TokAny pb S0) (hdn : Down pb S0 S1) (hs : WhileAt pb S1 S2)
    (hp : ∀ w, S2 w → Calls Tryz.prog 47 #[.pointer (some ⟨pb, 0, none⟩)] w (ResT S3 t1 pb w)) (hst : ∀ w, S3 w → Calls Tryz.prog 22 #[.pointer (some ⟨pb, 0, none⟩)] w (ResT S4 t2 pb w)) (hup : Up pb S4 S5) {w : World} (h : S0 w) :
    Calls Tryz.prog 22 #[.pointer (some ⟨pb, 0, none⟩)] w (ResT S5 (.mk 9 ⟨#[]⟩ [t1, t2]) pb w) := by
  obtain ⟨i0, hi, hz0, hz1, hz2⟩ := info_at (P := Tryz.prog) (t := 26) (z := .pointer none) (s := 1) (b := 8) (by kernel_rfl) (by kernel_rfl) (by kernel_rfl)
  have hN := o0.lt _ h
  have hpn := o0.pn
  go_enter_defers Tryz.func22, Tryz.ntmps22
  go_wp2_with (go_at_call 11; refine (htk _ h).mono ?_)
  rintro e w1 ⟨⟨y0, y1, y3, x, rfl⟩, p1, k1⟩
  have hfd := field_at w1 y0 y1 x y3
  go_wp2_with (go_at_call 6; refine (make_walk _ _ _ _ _ ⟨_, _, _, rfl⟩).mono ?_)
  rintro e w' ⟨rfl, rfl⟩
  clear hfd
  have al : Below w1.heap.size w1 (w1.alloc (Obj.cells #[Value.int IntKind.i64 20, Value.int IntKind.i64 x, Value.string { data := #[] }, Value.int IntKind.i64 0, Value.int IntKind.i64 0, Value.slice none 0 0] 34)) := (Below.refl _ w1).alloc (Nat.le_refl _) _
  have p2 := o0.off _ _ _ p1 al (o0.lt _ p1)
  have k2 := k1.trans (Pk.below (pb := pb) al)
  have hnode : ArrW (w1.alloc (Obj.cells #[Value.int IntKind.i64 20, Value.int IntKind.i64 x, Value.string { data := #[] }, Value.int IntKind.i64 0, Value.int IntKind.i64 0, Value.slice none 0 0] 34)) w1.heap.size 20 x ⟨#[]⟩ (.slice none 0 0) := heap_alloc_new w1 _
  have hnl : w1.heap.size < (w1.alloc (Obj.cells #[Value.int IntKind.i64 20, Value.int IntKind.i64 x, Value.string { data := #[] }, Value.int IntKind.i64 0, Value.int IntKind.i64 0, Value.slice none 0 0] 34)).heap.size := by simp
  have hb := k1.size
  clear al p1 k1
  generalize w1.alloc (Obj.cells #[Value.int IntKind.i64 20, Value.int IntKind.i64 x, Value.string { data := #[] }, Value.int IntKind.i64 0, Value.int IntKind.i64 0, Value.slice none 0 0] 34) = w2 at p2 k2 hnode hnl ⊢
  generalize w1.heap.size = nn at hnode hnl hb ⊢
  go_wp2_with (go_at_call 45; refine (hdn _ p2).mono ?_)
  rintro e w3 ⟨rfl, p3, k3⟩
  go_wp2_with (go_at_call 17; refine (hs.b1 _ p3).mono ?_)
  rintro e w4 ⟨rfl, p4, k4⟩
  go_wp2_with (go_at_call 37; refine (hs.b2 _ p4).mono ?_)
  rintro e w5 ⟨rfl, p5, k5⟩
  go_wp2_with (go_at_call 37; refine (hs.b3 _ p5).mono ?_)
  rintro e w6 ⟨rfl, p6, k6⟩
  go_wp2_with (go_at_call 37; refine (hs.b4 _ p6).mono ?_)
  rintro e w7 ⟨rfl, p7, k7⟩
  have k27 := (((k3.trans k4).trans k5).trans k6).trans k7
  have hnode7 : ArrW w7 nn 20 x ⟨#[]⟩ (.slice none 0 0) := by unfold ArrW; rw [k27.block nn hnl (by omega)]; exact hnode
  have hl7 : nn < w7.heap.size := Nat.lt_of_lt_of_le hnl k27.size
  have k07 := k2.trans k27
  clear k2 k3 k4 k5 k6 k7 k27 p2 p3 p4 p5 p6 hnode hnl hs
  have c0 : w7.cell? ⟨nn, 0, none⟩ = some (.int .i64 20) := by unfold ArrW at hnode7; simp [World.cell?, hnode7]
  have q0 : w7.frozen? ⟨nn, 0, none⟩ = false := by unfold ArrW at hnode7; simp [World.frozen?, hnode7]
  have b8 : Below nn w7 (w7.setCell ⟨nn, 0, none⟩ (.int .i64 9)) := (Below.refl _ w7).setCell (p := ⟨nn, 0, none⟩) (Nat.le_refl _) _
  have p8 := o2.off _ _ _ p7 b8 (by omega)
  have hnode8 : ArrW (w7.setCell ⟨nn, 0, none⟩ (.int .i64 9)) nn 9 x ⟨#[]⟩ (.slice none 0 0) := set_blk hnode7 0 _
  have hl8 : nn < (w7.setCell ⟨nn, 0, none⟩ (.int .i64 9)).heap.size := by simp [World.setCell]; exact hl7
  go_wp2
  have kset : Pkb w.heap.size pb w7 (w7.setCell ⟨nn, 0, none⟩ (.int .i64 9)) → True := fun _ => trivial
  have l8 : ∀ k, k < w.heap.size → k ≠ pb → (w7.setCell ⟨nn, 0, none⟩ (.int .i64 9)).heap[k]? = w.heap[k]? := fun k hk hne => (b8.block k (by omega)).trans (k07.block k hk hne)
  have e8 : (w7.setCell ⟨nn, 0, none⟩ (.int .i64 9)).os = w.os ∧ (w7.setCell ⟨nn, 0, none⟩ (.int .i64 9)).tape = w.tape ∧ (w7.setCell ⟨nn, 0, none⟩ (.int .i64 9)).output = w.output := ⟨k07.os, k07.tape, k07.output⟩
  clear kset b8 hnode7 p7 c0 q0
  have hs78 : w.heap.size ≤ (w7.setCell ⟨nn, 0, none⟩ (.int .i64 9)).heap.size := by have := k07.size; simp [World.setCell]; omega
  generalize w7.setCell ⟨nn, 0, none⟩ (.int .i64 9) = w8 at p8 hnode8 hl8 l8 e8 hs78 ⊢
  have p8d : S2 w8.drew := o2.off _ _ _ p8 (Below.refl _ w8).drew (by have := o2.lt _ p8; omega)
  obtain ⟨s8, f8⟩ := arrS (w' := w8.drew) hnode8 rfl
  have hnode8d : ArrW w8.drew nn 9 x ⟨#[]⟩ (.slice none 0 0) := hnode8
  have hl8d : nn < w8.drew.heap.size := hl8
  refine wp_region_noPanic ?_
  go_region_law (first
      | (refine step_append_lies _ rfl (.tmp 67) (.tmp 72) 32 rfl w.heap.size 26 i0 (.pointer none) 1 8 Tryz.underlying32 hi hz0 hz1 hz2 rfl (by decide) (.slice none 0 0) 0 [] rfl (World.ownsRow_nil _ _ _ _) ⟨w10.heap.size, 0, none⟩ 2 2 [.pointer (some a), .pointer (some b)] rfl rfl (by exact news2 w10 _ _ 26) (by intro u hu; simp at hu; rcases hu with rfl | rfl <;> rfl) (by decide) (by decide) (by decide) (by have := k9.size; have := k10.size; simp; omega) _ rfl ?_; intro g1 cap1 wn hown2 hgrow2 hat2 hlt2; obtain ⟨s12, f12⟩ := arrS hnode10 ((hgrow2.block nn (by simp; omega) (fun q => by cases q)).trans (heap_alloc_old w10 _ hl10)))
      | (go_simp; go_at_call 47; refine (hp _ p8d).mono ?_; rintro e w9 ⟨a, rfl, p9, t9, k9⟩; have hnode9 : ArrW w9 nn 9 x ⟨#[]⟩ (.slice none 0 0) := (by unfold ArrW; rw [k9.block nn hl8d (by omega)]; exact hnode8d); have hl9 : nn < w9.heap.size := Nat.lt_of_lt_of_le hl8d k9.size; obtain ⟨s9, q9⟩ := arrS hnode9 rfl)
      | (go_simp; go_at_call 22; refine (hst _ p9).mono ?_; rintro e w10 ⟨b, rfl, p10, t10, k10⟩; have hnode10 : ArrW w10 nn 9 x ⟨#[]⟩ (.slice none 0 0) := (by unfold ArrW; rw [k10.block nn hl9 (by omega)]; exact hnode9); have hl10 : nn < w10.heap.size := Nat.lt_of_lt_of_le hl9 k10.size; obtain ⟨s10, q10⟩ := arrS hnode10 rfl; obtain ⟨s11, q11⟩ := arrS hnode10 (heap_alloc_old w10 (.cells #[.pointer (some a), .pointer (some b)] 26) hl10)))
  all_goals
    refine NoPanic.normal ?_
    have hg1 : g1 = (w10.alloc (.cells #[.pointer (some a), .pointer (some b)] 26)).heap.size := hat2.resolve_left (fun q => by cases q)
    have bn : Below w10.heap.size w10 wn := ((Below.refl _ w10).alloc (Nat.le_refl _) _).grown hgrow2 (by simp) (fun k hk => by cases hk)
    have hgs : g1 = w10.heap.size + 1 := by rw [hg1]; simp
    have ca : wn.cell? ⟨g1, 0, none⟩ = some (.pointer (some a)) := row_cell hown2 rfl (j := 0) rfl
    have cb : wn.cell? ⟨g1, 1, none⟩ = some (.pointer (some b)) := row_cell hown2 rfl (j := 1) rfl
    have hlt3 : g1 < wn.heap.size := hlt2
    have hnode12 : ArrW wn nn 9 x ⟨#[]⟩ (.slice none 0 0) := by unfold ArrW; rw [bn.block nn hl10]; exact hnode10
    have sd8 : w8.drew.heap.size = w8.heap.size := rfl
    have s89 := k9.size
    have s910 := k10.size
    have hl12 : nn < wn.heap.size := Nat.lt_of_lt_of_le hl10 bn.size
    have pkn : Pkb w8.drew.heap.size pb w10 wn := (Pk.below (pb := pb) bn).b _
    have T1 := TrAt.keep (pkn.trans (Pkb.set (base := w8.drew.heap.size) wn nn 5 (.slice (some ⟨g1, 0, none⟩) 2 cap1) hl8d)) (show w.heap.size ≤ w8.drew.heap.size by omega) t1 a (TrAt.keep (k10.b _) (Nat.le_refl _) t1 a t9)
    have T2 := TrAt.keep (((Pk.below (pb := pb) bn).b w9.heap.size).trans (Pkb.set (base := w9.heap.size) wn nn 5 (.slice (some ⟨g1, 0, none⟩) 2 cap1) hl9)) (show w.heap.size ≤ w9.heap.size by omega) t2 b t10
    have bf : Below nn wn (wn.setCell ⟨nn, 5, none⟩ (.slice (some ⟨g1, 0, none⟩) 2 cap1)) := (Below.refl _ wn).setCell (p := ⟨nn, 5, none⟩) (Nat.le_refl _) _
    have hNN : N ≤ nn := by omega
    have pf := o4.off _ _ _ (o4.off _ _ _ p10 bn (by have := o4.lt _ p10; omega)) bf hNN
    have nf : ArrW (wn.setCell ⟨nn, 5, none⟩ (.slice (some ⟨g1, 0, none⟩) 2 cap1)) nn 9 x ⟨#[]⟩ (.slice (some ⟨g1, 0, none⟩) 2 cap1) := set_blk hnode12 5 _
    have hgc : ∀ o, (wn.setCell ⟨nn, 5, none⟩ (.slice (some ⟨g1, 0, none⟩) 2 cap1)).cell? ⟨g1, o, none⟩ = wn.cell? ⟨g1, o, none⟩ := fun o => by
      unfold World.cell?
      rw [Below.heap_setCell wn ⟨nn, 5, none⟩ _ g1 (by show g1 ≠ nn; omega)]
    have hsF : (wn.setCell ⟨nn, 5, none⟩ (.slice (some ⟨g1, 0, none⟩) 2 cap1)).heap.size = wn.heap.size := by simp [World.setCell]
    have TT : TrAt w.heap.size pb (wn.setCell ⟨nn, 5, none⟩ (.slice (some ⟨g1, 0, none⟩) 2 cap1)) (.mk 9 ⟨#[]⟩ [t1, t2]) ⟨nn, 0, none⟩ := by
      unfold ArrW at nf
      rw [TrAt]
      refine ⟨nn, 0, _, rfl, hb, by omega, by omega, by simp [World.cell?, nf], ⟨x, by simp [World.cell?, nf]⟩, by simp [World.cell?, nf], by simp [World.cell?, nf], .inr ⟨g1, 0, cap1, rfl, by omega, by omega, by omega, ?_⟩⟩
      rw [KsAt, KsAt, KsAt]
      exact ⟨⟨a, (hgc 0).trans ca, T1⟩, ⟨b, (hgc 1).trans cb, T2⟩, trivial⟩
    have kF : Pk pb w (wn.setCell ⟨nn, 5, none⟩ (.slice (some ⟨g1, 0, none⟩) 2 cap1)) := ⟨(bf.os.trans (bn.os.trans (k10.os.trans k9.os))).trans e8.1, (bf.tape.trans (bn.tape.trans (k10.tape.trans k9.tape))).trans e8.2.1, (bf.output.trans (bn.output.trans (k10.output.trans k9.output))).trans e8.2.2, by omega, fun k hk hne => (bf.block k (by omega)).trans ((bn.block k (by omega)).trans ((k10.block k (by omega) hne).trans ((k9.block k (by omega) hne).trans (l8 k hk hne))))⟩
    clear hown2 hgrow2 hat2 hlt2 s8 f8 s9 q9 s10 q10 s11 q11 s12 f12 hg1 bn ca cb hnode12 hnode10 hnode9 hnode8 hnode8d T1 T2 bf nf hgc p10 p9 t9 t10 k9 k10 pkn
    generalize wn.setCell ⟨nn, 5, none⟩ (.slice (some ⟨g1, 0, none⟩) 2 cap1) = wF at pf TT kF ⊢
    go_wp2
    refine leaves_cons (f := 44) (args := #[.pointer (some ⟨pb, 0, none⟩)]) (by simp) (by simp [go_sem]) ?_
    refine (hup _ .returning pf).mono ?_
    rintro e u' w18 ⟨rfl, rfl, p18, k18⟩
    exact ⟨_, results_tmp rfl _ _ _, _, rfl, p18, TrAt.keep (k18.b _) (Nat.le_refl _) _ _ TT, kF.trans k18⟩
end Go.Proofs.YtjkgefnlennbjaaGreatDoor
