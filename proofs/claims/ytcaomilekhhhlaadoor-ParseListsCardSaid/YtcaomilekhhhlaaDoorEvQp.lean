/- ParseLists: one deeper, and back. No condition. -/
import Derived.Test.YtcaomilekhhhlaaDoorEvQo
import Derived.Defers
namespace Go.Proofs.YtcaomilekhhhlaaDoor
open Go.Ev Go.RowKit
set_option maxHeartbeats 8000000
set_option maxRecDepth 100000

theorem Ps.deep {W w : World} {pb tb len cap j d d' : Nat} {T : List Tok} (h : Ps W w pb tb len cap j d T) : Ps W (w.setCell ⟨pb, 2, none⟩ (.int .i64 (d' : Int))) pb tb len cap j d' T := by
  have hk := Pk.set (pb := pb) w 2 (.int .i64 (d' : Int))
  have hp := set_blk h.hp.blk 2 (.int .i64 (d' : Int))
  exact ⟨⟨hk.os.trans h.hB.os, hk.tape.trans h.hB.tape, hk.output.trans h.hB.output, Nat.le_trans h.hB.size hk.size, fun k hl => (hk.block k (Nat.lt_of_lt_of_le hl h.hB.size) (by have := h.hpb; omega)).trans (h.hB.block k hl)⟩, h.hpb, ⟨hp⟩, h.hne, Nat.lt_of_lt_of_le h.htb hk.size, h.hlen, h.hT, fun i t hi => (h.toks i t hi).keep (hk.block tb h.htb (Ne.symm h.hne))⟩
theorem down_walk {W w : World} {pb tb len cap j d : Nat} {T : List Tok} (h : Ps W w pb tb len cap j d T) (hd : d ≤ 50) : Calls Tryd.prog 39 #[.pointer (some ⟨pb, 0, none⟩)] w fun e w' => e = .returned (.bool true) ∧ Ps W w' pb tb len cap j (d + 1) T ∧ Pk pb w w' := by
  have pc := h.hp.blk
  have c2 : w.cell? ⟨pb, 2, none⟩ = some (.int .i64 d) := by simp [World.cell?, pc]
  have f2 : w.frozen? ⟨pb, 2, none⟩ = false := by simp [World.frozen?, pc]
  have hw : IntKind.i64.wrap ((d : Int) + 1) = (d : Int) + 1 := by have := Go.Ev.wrap_small IntKind.i64 (d + 1) (by show _ ≤ 9223372036854775807; omega); simpa using this
  have pE : Ps W (w.setCell ⟨pb, 2, none⟩ (.int .i64 ((d : Int) + 1))) pb tb len cap j (d + 1) T := h.deep (d' := d + 1)
  have pEc := pE.hp.blk
  have c3 : (w.setCell ⟨pb, 2, none⟩ (.int .i64 ((d : Int) + 1))).cell? ⟨pb, 3, none⟩ = some (.int .i64 0) := by simp only [World.cell?, pEc]; rfl
  have kE := Pk.set (pb := pb) w 2 (.int .i64 ((d : Int) + 1))
  clear pc pEc
  go_enter Tryd.func39, Tryd.ntmps39
  go_wp2_with (go_at_call 8; refine (ok_walk c3).mono ?_)
  try (rintro e w' ⟨rfl, rfl⟩)
  go_wp2
  go_ret
  exact ⟨rfl, pE, kE⟩
theorem up_deferred {W w : World} {pb tb len cap j d : Nat} {T : List Tok} (h : Ps W w pb tb len cap j (d + 1) T) (hd : d ≤ 50) (u : _) : CallsD Tryd.prog 38 #[.pointer (some ⟨pb, 0, none⟩)] u w fun e u' w' => u' = u ∧ (e = .returned (.tuple #[]) ∧ Ps W w' pb tb len cap j d T ∧ Pk pb w w') := by
  have pc := h.hp.blk
  have c2 : w.cell? ⟨pb, 2, none⟩ = some (.int .i64 ((d + 1 : Nat) : Int)) := by simp [World.cell?, pc]
  have f2 : w.frozen? ⟨pb, 2, none⟩ = false := by simp [World.frozen?, pc]
  have hw : IntKind.i64.wrap (((d + 1 : Nat) : Int) - 1) = (d : Int) := by
    rw [show (((d + 1 : Nat) : Int) - 1) = Int.ofNat d by simp only [Int.ofNat_eq_natCast]; omega]
    exact Go.Ev.wrap_small IntKind.i64 d (by show _ ≤ 9223372036854775807; omega)
  have pE := h.deep (d' := d)
  have kE := Pk.set (pb := pb) w 2 (.int .i64 (d : Int))
  generalize ((d + 1 : Nat) : Int) = q at c2 hw
  clear pc
  go_enter_d Tryd.func38, Tryd.ntmps38
  go_wp2
  go_end0
  exact ⟨rfl, pE, kE⟩
end Go.Proofs.YtcaomilekhhhlaaDoor
