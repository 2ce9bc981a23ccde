/- ParseLists: a call's arguments, by the parser. No condition. -/
import Derived.Test.YtcaomilekhhhlaaDoorEvQl
namespace Go.Proofs.YtcaomilekhhhlaaDoor
open Go.Ev Go.RowKit
set_option maxHeartbeats 16000000
set_option maxRecDepth 100000

section
variable {W w : World} {pb tb len cap j d cls : Nat} {T : List Tok}
theorem boolF1 {g f : Nat} {b0 : Bool} (hc : boolF g [.ptr 20 0] cls d f b0 = true) (hy : Nat.beq g yieldG = false) (hw0 : winOf cls ≠ []) (h : Pf W w pb tb len cap j d T) (hw : WinAt T j cls) (hj1 : j ≤ 1000) :
    Calls Tryd.prog g #[.pointer (some ⟨pb, 0, none⟩)] w fun e w' => e = .returned (.bool b0) ∧ Pf W w' pb tb len cap (j + f) d T ∧ Pk pb w w' := by
  obtain ⟨pre, rest, h1, h2⟩ := hw
  exact bool_F hc hy h h1 h2 rfl hw0 hj1 (.cons (rP_ptr W j tb len cap pb) .nil)
theorem boolF2 {g f n : Nat} {b0 : Bool} (hc : boolF g [.ptr 20 0, .str n 1] cls d f b0 = true) (hy : Nat.beq g yieldG = false) (hw0 : winOf cls ≠ []) (hn : n < 256) (h : Pf W w pb tb len cap j d T) (hw : WinAt T j cls) (hj1 : j ≤ 1000) :
    Calls Tryd.prog g #[.pointer (some ⟨pb, 0, none⟩), .string ⟨#[UInt8.ofNat n]⟩] w fun e w' => e = .returned (.bool b0) ∧ Pf W w' pb tb len cap (j + f) d T ∧ Pk pb w w' := by
  obtain ⟨pre, rest, h1, h2⟩ := hw
  exact bool_F hc hy h h1 h2 rfl hw0 hj1 (.cons (rP_ptr W j tb len cap pb) (.cons (str_one _ hn) .nil))
theorem unitF2 {g f n : Nat} (hc : unitF g [.ptr 20 0, .str n 1] cls d f = true) (hy : Nat.beq g yieldG = false) (hw0 : winOf cls ≠ []) (hn : n < 256) (h : Pf W w pb tb len cap j d T) (hw : WinAt T j cls) (hj1 : j ≤ 1000) :
    Calls Tryd.prog g #[.pointer (some ⟨pb, 0, none⟩), .string ⟨#[UInt8.ofNat n]⟩] w fun e w' => e = .returned (.tuple #[]) ∧ Pf W w' pb tb len cap (j + f) d T ∧ Pk pb w w' := by
  obtain ⟨pre, rest, h1, h2⟩ := hw
  exact unit_F hc hy h h1 h2 rfl hw0 hj1 (.cons (rP_ptr W j tb len cap pb) (.cons (str_one _ hn) .nil))
end
/-- A node, and a fault told. -/
noncomputable def faultC (g : FuncId) (vs : List V) (cls d f : Nat) : Bool := match callP g vs (SPh cls d) with | some (.ptr _ o, h) => Nat.beq o 0 && endF h f d | _ => false
theorem fault_P {W w : World} {pb tb len cap j d cls f : Nat} {T : List Tok} {g : FuncId} (hc : faultC g [.ptr 20 0] cls d f = true) (hy : Nat.beq g yieldG = false) (hw0 : winOf cls ≠ []) (h : Ps W w pb tb len cap j d T) (hw : WinAt T j cls) (hj1 : j ≤ 1000) :
    Calls Tryd.prog g #[.pointer (some ⟨pb, 0, none⟩)] w fun e w' => ∃ a, e = .returned (.pointer (some a)) ∧ Pf W w' pb tb len cap (j + f) d T ∧ Pk pb w w' := by
  unfold faultC at hc
  split at hc
  · rename_i id o h' he
    simp only [Bool.and_eq_true] at hc
    obtain ⟨pre, rest, h1, h2⟩ := hw
    have hwin := h.win h1 h2 rfl
    have h0 : 0 < len := by
      cases hq : winOf cls with
      | nil => exact (hw0 hq).elim
      | cons t _ => have := (hwin 0 t (by rw [hq]; rfl)).1; omega
    refine (evP h.hB h.hpb h.hp h.hne h.htb h.hlen hj1 h0 hwin hy he (.cons (rP_ptr W j tb len cap pb) .nil)).mono ?_
    rintro e w' ⟨z, r', rfl, hv, hr, hle, hk, -⟩
    cases hv with
    | ptr e2 =>
      have hF := endF_at hc.2 hr hle
      exact ⟨_, rfl, ⟨⟨hk.os.trans h.hB.os, hk.tape.trans h.hB.tape, hk.output.trans h.hB.output, Nat.le_trans h.hB.size hk.size, fun k hl => (hk.block k (Nat.lt_of_lt_of_le hl h.hB.size) (by have := h.hpb; omega)).trans (h.hB.block k hl)⟩, h.hpb, hF, h.hne, Nat.lt_of_lt_of_le h.htb hk.size, h.hlen, h.hT, fun i t hi => (h.toks i t hi).keep (hk.block tb h.htb (Ne.symm h.hne))⟩, hk⟩
  · cases hc
/-- Behind a call's bracket: at 'a', at a comma, at the bracket; behind the fault. -/
structure ChkF : Prop where
  tk3 : boolC 31 [.ptr 20 0, .str 41 1] 3 3 0 false = true
  tk5 : boolC 31 [.ptr 20 0, .str 41 1] 5 3 0 false = true
  tk6 : boolC 31 [.ptr 20 0, .str 41 1] 6 3 0 false = true
  tk11 : boolC 31 [.ptr 20 0, .str 41 1] 11 3 1 true = true
  br6 : boolC 14 [.ptr 20 0, .str 41 1] 6 3 0 false = true
  br11 : boolC 14 [.ptr 20 0, .str 41 1] 11 3 0 true = true
  sp3 : nodeC 90 [.ptr 20 0] 3 3 1 32 = true
  sp5 : nodeC 90 [.ptr 20 0] 5 3 1 32 = true
  wa6 : unitC 16 [.ptr 20 0, .str 44 1] 6 3 1 = true
  ok3 : boolC 8 [.ptr 20 0] 3 3 0 true = true
  ok5 : boolC 8 [.ptr 20 0] 5 3 0 true = true
  ok6 : boolC 8 [.ptr 20 0] 6 3 0 true = true
  ok11 : boolC 8 [.ptr 20 0] 11 3 0 true = true
theorem chkF_of : ChkF := by
  have h := chkF_true
  unfold chkF at h
  simp only [Bool.and_eq_true] at h
  obtain ⟨⟨a1, a2, a3, a4⟩, ⟨b1, b2⟩, ⟨c1, c2⟩, d1, e1, e2, e3, e4⟩ := h
  exact ⟨a1, a2, a3, a4, b1, b2, c1, c2, d1, e1, e2, e3, e4⟩
theorem spF : faultC 90 [.ptr 20 0] 6 3 0 = true := by decide +kernel
theorem brF : boolF 14 [.ptr 20 0, .str 41 1] 6 3 0 false = true := by decide +kernel
theorem waF : unitF 16 [.ptr 20 0, .str 44 1] 6 3 0 = true := by decide +kernel
theorem okF : boolF 8 [.ptr 20 0] 6 3 0 false = true := by decide +kernel
end Go.Proofs.YtcaomilekhhhlaaDoor
