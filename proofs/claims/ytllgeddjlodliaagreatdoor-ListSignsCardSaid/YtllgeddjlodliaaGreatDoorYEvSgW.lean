/- ListSigns: the law, walked. Condition: the tables hold what their initialisers lay; what the rounds come to. -/
import Derived.Test.YtllgeddjlodliaaGreatDoorYEvSgV
namespace Go.Proofs.YtllgeddjlodliaaGreatDoor
open Go.Ev Go.RowKit
set_option maxHeartbeats 4000000
set_option maxRecDepth 100000

theorem quiet_next {r : Emb} {n m : Nat} {mem : Mem} {w : World} (h : Quiet r ⟨n, mem⟩ w) (hn : ∀ id, m ≤ id → r id = none) : Quiet r ⟨m, mem⟩ w :=
  ⟨⟨fun id hi hl => h.rel.fit id hi hl, fun id id' b sh k sh' k' hl hl' ho e e' => h.rel.inj id id' b sh k sh' k' hl hl' ho e e', hn⟩, fun id hl => h.ro id hl⟩
theorem glob_hi (W : World) {id : Nat} (h : 8 ≤ id) : globEmb Tryz.prog W id = none := by
  have : Tryz.prog.globals.size = 8 := by kernel_rfl
  simp only [globEmb, this]
  rw [if_neg (by omega)]
theorem fit_calls {W : World} (hA : At W) : Calls Tryz.prog 6 #[] W fun e w' => e = .returned (.bool true) ∧ ∃ r1, Step (globEmb Tryz.prog W) hE0 W r1 hE0 w' := by
  have hq0 : Quiet (globEmb Tryz.prog W) hE0 W := quiet_next (n := 256) hA.begins.quiet (fun id h => glob_hi W (by omega))
  refine (fit_ok hA hE0 (globEmb Tryz.prog W) W #[] hq0.rel hA.begins.gl hq0.base .nil).mono ?_
  rintro e w' ⟨z, r', rfl, st, hv⟩
  cases hv
  exact ⟨rfl, r', st⟩
theorem mac_calls {W : World} (hA : At W) (hM : fM = true) {r : Emb} {w : World} (hst : Step (globEmb Tryz.prog W) hE0 W r hE0 w) :
    Calls Tryz.prog 7 #[] w fun e w' => ∃ b sh c r2, e = .returned (.pointer (some ⟨b, sh, none⟩)) ∧ r2 22 = some (b, sh, c) ∧ Step (globEmb Tryz.prog W) hE0 W r2 Sg.macS.h w' ∧ ∀ id, isNam id = true → r2 id = none := by
  have hq0 : Quiet (globEmb Tryz.prog W) hE0 W := quiet_next (n := 256) hA.begins.quiet (fun id h => glob_hi W (by omega))
  unfold fM at hM
  split at hM
  · rename_i v h hc
    refine (call_turn (fun id h => glob_hi W (by omega)) hA.begins.gl hq0.base rfl hc hM hst (xs := #[]) .nil).mono ?_
    rintro e w' ⟨z, r2, rfl, hv, st, hn⟩
    rw [show fget Sg.macS.f 0 = .ptr 22 0 from rfl] at hv
    cases hv with
    | @ptr _ _ b sh c h22 => exact ⟨b, 0 + sh, c, r2, rfl, by rw [Nat.zero_add]; exact h22, st, hn⟩
  · cases hM
/-- What the walk gives of the walker. -/
theorem wlk_calls {W : World} (hA : At W) (hF : fW = true) {r : Emb} {w : World} (hst : Step (globEmb Tryz.prog W) hE0 W r Sg.macS.h w) (hn : ∀ id, isNam id = true → r id = none) {b sh c : Nat} (h22 : r 22 = some (b, sh, c)) {x y : Nat} (hxy : x < 256 ^ y) :
    Calls Tryz.prog 8 #[.pointer (some ⟨b, sh, none⟩), .int .i64 3, .agg #[.int .i64 7, .int .i64 0, .string (sval x y)]] w fun e w' => ∃ r2, e = .returned (.agg #[.int .i64 9, .int .i64 38, .string ByteArray.empty]) ∧ r2 10 = some (x, y, 0) ∧ r2 22 = some (b, sh, c) ∧ Step (globEmb Tryz.prog W) hE0 W r2 Sg.wlkS.h w' ∧
      ∀ w0 B, Kp w0 B r Sg.macS.h w → Kp w0 B r2 Sg.wlkS.h w' := by
  have hq0 : Quiet (globEmb Tryz.prog W) hE0 W := quiet_next (n := 256) hA.begins.quiet (fun id h => glob_hi W (by omega))
  have hle : r.le (r.put 10 (x, y, 0)) := Emb.le_put _ _ _ (hn 10 rfl)
  have hst' : Step (globEmb Tryz.prog W) hE0 W (r.put 10 (x, y, 0)) Sg.macS.h w :=
    ⟨Emb.le_trans hst.le hle, rel_same hst.rel hle (fun id hi => by rw [Emb.put_other _ _ _ _ (by have : 136 ≤ id := hi; omega)]; exact hst.rel.new id hi) (fun _ _ => rfl), hst.size, hst.keep,
      fun b hb ho => hst.own b hb (own_same hst.rel hle ho), fun b hb hh => hst.held b hb (held_same hst.rel hle hh), hst.os, hst.out, hst.tape⟩
  unfold fW at hF
  split at hF
  · rename_i v h hc
    have hvs : VsRel (r.put 10 (x, y, 0)) [.ptr 22 0, Sg.i 3, .agg [Sg.i 7, Sg.i 0, Sg.txV]] (#[.pointer (some ⟨b, sh, none⟩), .int .i64 3, .agg #[.int .i64 7, .int .i64 0, .string (sval x y)]] : Array Value).toList := by
      refine .cons ?_ (.cons (.int .i64 3) (.cons (.agg (.cons (.int .i64 7) (.cons (.int .i64 0) (.cons (.nstr (id := 10) (Emb.put_same _ _ _) hxy) .nil)))) .nil))
      have := VRel.ptr (r := r.put 10 (x, y, 0)) (id := 22) (o := 0) (hle _ _ h22)
      rw [Nat.zero_add] at this
      exact this
    refine (call_snap (Nat.le_refl 20) hq0.rel hA.begins.gl hq0.base rfl hc hF (by kernel_rfl) hst' hvs).mono ?_
    rintro e w' ⟨z, r2, rfl, hv, st, k1, k2, k3⟩
    rw [show fget Sg.wlkS.f 0 = Sg.wkV from rfl] at hv
    refine ⟨r2, ?_, k1 10 _ (by decide) (Emb.put_same _ _ _), k3 22 22 (Sg.eM (Sg.i 0)) (by
      have := mem_rows (old := Sg.oldWa) (l := Sg.seg0 ++ ((20, Sg.eAR 0 Sg.Z) :: (Sg.seg1 ++ ((22, Sg.eM (Sg.i 0)) :: (Sg.seg2 ++ [(130, Sg.tn), (131, Sg.c 65 (Sg.w1 ++ Sg.s 132 1 1 3 :: (Sg.w2 ++ [Sg.i 0, Sg.I]))), (132, Sg.c 29 [Sg.i 7,Sg.i 0,Sg.txV]), (135, Sg.eC 0)]))))) (k := 22) (e := Sg.eM (Sg.i 0)) (by simp)
      exact this) _ (hle _ _ h22), st, fun w0 B kp => k2 w0 B (kp.go (fun _ _ _ => rfl) (fun g _ hh => held_same hst.rel hle hh) (Nat.le_refl _))⟩
    cases hv with
    | @agg _ xs hx =>
      cases xs with | mk l =>
      cases hx with
      | cons g1 hx => cases hx with
        | cons g2 hx => cases hx with
          | cons g3 hx =>
            cases hx
            cases g1
            cases g2
            cases g3
            rfl
  · cases hF
end Go.Proofs.YtllgeddjlodliaaGreatDoor
