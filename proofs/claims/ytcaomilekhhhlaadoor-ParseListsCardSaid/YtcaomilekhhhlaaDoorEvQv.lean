/- ParseLists: what stands in brackets. No condition. -/
import Derived.Test.YtcaomilekhhhlaaDoorEvQu
namespace Go.Proofs.YtcaomilekhhhlaaDoor
open Go.Ev Go.RowKit
set_option maxHeartbeats 16000000
set_option maxRecDepth 1000000

/-- A sign is at hand, and gone over. -/
def Yes (pb : Nat) (S S' : World → Prop) (g : FuncId) (s : ByteArray) : Prop := ∀ w, S w → Calls Tryd.prog g #[.pointer (some ⟨pb, 0, none⟩), .string s] w fun e w' => e = .returned (.bool true) ∧ S' w' ∧ Pk pb w w'
/-- Where an operand begins: at a sign. -/
structure Head (pb N : Nat) (S : World → Prop) : Prop where
  pn : pb < N
  lt : ∀ w, S w → N ≤ w.heap.size
  off : ∀ w w' B, S w → Below B w w' → N ≤ B → S w'
  ok : ∀ w, S w → Calls Tryd.prog 8 #[.pointer (some ⟨pb, 0, none⟩)] w fun e w' => e = .returned (.bool true) ∧ S w' ∧ Pk pb w w'
  tok : ∀ w, S w → Calls Tryd.prog 9 #[.pointer (some ⟨pb, 0, none⟩)] w fun e w' => (∃ (y1 : ByteArray) (y3 x : Int), e = .returned (.agg #[.int .i64 5, .string y1, .int .i64 x, .int .i64 y3])) ∧ S w' ∧ Pk pb w w'
  a1 : No pb S 31 ⟨#[116, 104, 105, 115]⟩
  a2 : No pb S 31 ⟨#[110, 117, 108, 108]⟩
  a3 : No pb S 31 ⟨#[116, 114, 117, 101]⟩
  a4 : No pb S 31 ⟨#[102, 97, 108, 115, 101]⟩
  a5 : No pb S 31 ⟨#[102, 117, 110, 99, 116, 105, 111, 110]⟩
  a6 : No pb S 31 ⟨#[99, 108, 97, 115, 115]⟩
theorem primary_paren {S1 S2 Sa Sb : World → Prop} {Φ : Nat → Addr → World → Prop} {pb N : Nat} (H : Head pb N S1) (hΦ : Firm Φ pb) (hp : Yes pb S1 S2 31 ⟨#[40]⟩) (ha : ∀ w, S2 w → Calls Tryd.prog 55 #[.pointer (some ⟨pb, 0, none⟩)] w (Res Sa Φ pb w))
    (hq : ∀ w, Sa w → Calls Tryd.prog 16 #[.pointer (some ⟨pb, 0, none⟩), .string ⟨#[41]⟩] w fun e w' => e = .returned (.tuple #[]) ∧ Sb w' ∧ Pk pb w w') {w : World} (h : S1 w) :
    Calls Tryd.prog 60 #[.pointer (some ⟨pb, 0, none⟩)] w (Res Sb Φ pb w) := by
  go_enter Tryd.func60, Tryd.ntmps60
  go_wp2_with (go_at_call 9; refine (H.tok _ h).mono ?_)
  rintro e w2 ⟨⟨y1, y3, x, rfl⟩, p2, k2⟩
  have al : Below w2.heap.size w2 (w2.alloc (.cells #[.int .i64 5, .string y1, .int .i64 x, .int .i64 y3] 42)) := (Below.refl _ w2).alloc (Nat.le_refl _) _
  have p3 := H.off _ _ _ p2 al (H.lt _ p2)
  have k03 := k2.trans (Pk.below (pb := pb) al)
  have hblk := heap_alloc_new w2 (.cells #[.int .i64 5, .string y1, .int .i64 x, .int .i64 y3] 42)
  have hsz : w2.heap.size < (w2.alloc (.cells #[.int .i64 5, .string y1, .int .i64 x, .int .i64 y3] 42)).heap.size := by simp
  have hpt : pb < w2.heap.size := Nat.lt_of_lt_of_le H.pn (H.lt _ p2)
  clear k2 p2 al
  go_wp2_with (go_at_call 8; refine (H.ok _ p3).mono ?_)
  generalize w2.alloc (Obj.cells #[.int .i64 5, .string y1, .int .i64 x, .int .i64 y3] 42) = w3 at p3 k03 hblk hsz ⊢
  generalize w2.heap.size = tk at hblk hsz hpt ⊢
  rintro e w4 ⟨rfl, p4, k4⟩
  have hblk4 := (k4.block tk hsz (by omega)).trans hblk
  have c0 : w4.cell? ⟨tk, 0, none⟩ = some (.int .i64 5) := by simp [World.cell?, hblk4]
  have k04 := k03.trans k4
  clear hblk4 hblk k4 k03
  go_wp2_with (go_at_call 31; refine (H.a1 _ p4).mono ?_)
  clear c0
  rintro e w5 ⟨rfl, p5, k5⟩
  go_wp2_with (go_at_call 31; refine (H.a2 _ p5).mono ?_)
  rintro e w6 ⟨rfl, p6, k6⟩
  go_wp2_with (go_at_call 31; refine (H.a3 _ p6).mono ?_)
  rintro e w7 ⟨rfl, p7, k7⟩
  go_wp2_with (go_at_call 31; refine (H.a4 _ p7).mono ?_)
  rintro e w8 ⟨rfl, p8, k8⟩
  go_wp2_with (go_at_call 31; refine (H.a5 _ p8).mono ?_)
  rintro e w9 ⟨rfl, p9, k9⟩
  go_wp2_with (go_at_call 31; refine (H.a6 _ p9).mono ?_)
  rintro e w10 ⟨rfl, p10, k10⟩
  have k010 := (((((k04.trans k5).trans k6).trans k7).trans k8).trans k9).trans k10
  clear p4 p5 p6 p7 p8 p9 k04 k5 k6 k7 k8 k9 k10
  go_wp2_with (go_at_call 31; refine (hp _ p10).mono ?_)
  rintro e w11 ⟨rfl, p11, k11⟩
  have k011 := k010.trans k11
  clear k010 k11 p10
  go_wp2_with (go_at_call 55; refine (ha _ p11).mono ?_)
  rintro e w12 ⟨a, rfl, p12, f12, k12⟩
  go_wp2_with (go_at_call 16; refine (hq _ p12).mono ?_)
  rintro e w13 ⟨rfl, p13, k13⟩
  go_wp2
  go_ret
  exact ⟨a, rfl, p13, hΦ.up f12 k011.size k13, (k011.trans k12).trans k13⟩
theorem primary_bracket {S1 S2 Sa : World → Prop} {Φ : Nat → Addr → World → Prop} {pb N : Nat} (H : Head pb N S1) (hΦ : Firm Φ pb) (hn : No pb S1 31 ⟨#[40]⟩) (hp : Yes pb S1 S2 31 ⟨#[91]⟩) (ha : ∀ w x, S2 w → Calls Tryd.prog 82 #[.pointer (some ⟨pb, 0, none⟩), .int .i64 x] w (Res Sa Φ pb w)) {w : World} (h : S1 w) :
    Calls Tryd.prog 60 #[.pointer (some ⟨pb, 0, none⟩)] w (Res Sa Φ pb w) := by
  go_enter Tryd.func60, Tryd.ntmps60
  go_wp2_with (go_at_call 9; refine (H.tok _ h).mono ?_)
  rintro e w2 ⟨⟨y1, y3, x, rfl⟩, p2, k2⟩
  have al : Below w2.heap.size w2 (w2.alloc (.cells #[.int .i64 5, .string y1, .int .i64 x, .int .i64 y3] 42)) := (Below.refl _ w2).alloc (Nat.le_refl _) _
  have p3 := H.off _ _ _ p2 al (H.lt _ p2)
  have k03 := k2.trans (Pk.below (pb := pb) al)
  have hblk := heap_alloc_new w2 (.cells #[.int .i64 5, .string y1, .int .i64 x, .int .i64 y3] 42)
  have hsz : w2.heap.size < (w2.alloc (.cells #[.int .i64 5, .string y1, .int .i64 x, .int .i64 y3] 42)).heap.size := by simp
  have hpt : pb < w2.heap.size := Nat.lt_of_lt_of_le H.pn (H.lt _ p2)
  clear k2 p2 al
  go_wp2_with (go_at_call 8; refine (H.ok _ p3).mono ?_)
  generalize w2.alloc (Obj.cells #[.int .i64 5, .string y1, .int .i64 x, .int .i64 y3] 42) = w3 at p3 k03 hblk hsz ⊢
  generalize w2.heap.size = tk at hblk hsz hpt ⊢
  rintro e w4 ⟨rfl, p4, k4⟩
  have hblk4 := (k4.block tk hsz (by omega)).trans hblk
  have c0 : w4.cell? ⟨tk, 0, none⟩ = some (.int .i64 5) := by simp [World.cell?, hblk4]
  have hs4 : tk < w4.heap.size := Nat.lt_of_lt_of_le hsz k4.size
  clear hblk hsz
  go_wp2_with (go_at_call 31; refine (H.a1 _ p4).mono ?_)
  clear c0
  rintro e w5 ⟨rfl, p5, k5⟩
  go_wp2_with (go_at_call 31; refine (H.a2 _ p5).mono ?_)
  rintro e w6 ⟨rfl, p6, k6⟩
  go_wp2_with (go_at_call 31; refine (H.a3 _ p6).mono ?_)
  rintro e w7 ⟨rfl, p7, k7⟩
  go_wp2_with (go_at_call 31; refine (H.a4 _ p7).mono ?_)
  rintro e w8 ⟨rfl, p8, k8⟩
  go_wp2_with (go_at_call 31; refine (H.a5 _ p8).mono ?_)
  rintro e w9 ⟨rfl, p9, k9⟩
  go_wp2_with (go_at_call 31; refine (H.a6 _ p9).mono ?_)
  rintro e w10 ⟨rfl, p10, k10⟩
  have k410 := ((((k5.trans k6).trans k7).trans k8).trans k9).trans k10
  clear p4 p5 p6 p7 p8 p9 k5 k6 k7 k8 k9 k10
  go_wp2_with (go_at_call 31; refine (hn _ p10).mono ?_)
  rintro e w11 ⟨rfl, p11, k11⟩
  go_wp2_with (go_at_call 31; refine (hp _ p11).mono ?_)
  rintro e w12 ⟨rfl, p12, k12⟩
  have k412 := (k410.trans k11).trans k12
  have hblk12 := (k412.block tk hs4 (by omega)).trans hblk4
  have c2 : w12.cell? ⟨tk, 2, none⟩ = some (.int .i64 x) := by simp [World.cell?, hblk12]
  have k012 := (k03.trans k4).trans k412
  clear hblk12 hblk4 k03 k4 k412 k410 k11 k12 p10 p11
  go_wp2_with (go_at_call 82; refine (ha _ x p12).mono ?_)
  rintro e w13 ⟨a, rfl, p13, f13, k13⟩
  go_wp2
  go_ret
  exact ⟨a, rfl, p13, hΦ.mono _ _ _ _ f13 k012.size, k012.trans k13⟩
end Go.Proofs.YtcaomilekhhhlaaDoor
