/- EarlyLabels: closed parts of the texts, parsed by the evaluator. No condition. -/
import Derived.Test.YtjkgefnlennbjaaGreatDoorEvMn
set_option linter.all false
namespace Go.Proofs.YtjkgefnlennbjaaGreatDoor
open Go.Ev Go.RowKit
set_option maxHeartbeats 8000000
set_option maxRecDepth 1000000

noncomputable def treeC (g : FuncId) (vs : List V) (cls d f : Nat) (t : Trc) : Bool := match callP g vs (SPh cls d) with | some (v, h) => trV h t v && endP h f d | none => false
theorem tree_P {W w : World} {pb tb len cap j d cls f : Nat} {T : List Tok} {t : Trc} {g : FuncId} {vs : List V} (hc : treeC g vs cls d f t = true) (hy : Nat.beq g yieldG = false) (hw0 : winOf cls ≠ []) (h : Ps W w pb tb len cap j d T) (hw : WinAt T j cls) (hj1 : j ≤ 1000) {xs : Array Value} (hvs : VsRel (rP W j tb 0 len cap pb) vs xs.toList) :
    Calls Tryz.prog g xs w (ResT (fun w => Ps W w pb tb len cap (j + f) d T) t.tr pb w) := by
  unfold treeC at hc
  split at hc
  · rename_i v h' he
    simp only [Bool.and_eq_true] at hc
    obtain ⟨c1, c2⟩ := hc
    obtain ⟨pre, rest, h1, h2⟩ := hw
    have hwin := h.win h1 h2 rfl
    have h0 : 0 < len := by
      cases hq : winOf cls with
      | nil => exact (hw0 hq).elim
      | cons t _ => have := (hwin 0 t (by rw [hq]; rfl)).1; omega
    refine (evP h.hB h.hpb h.hp h.hne h.htb h.hlen hj1 h0 hwin hy he hvs).mono ?_
    rintro e w' ⟨z, r', rfl, hv, hr, hle, hk, ho⟩
    have l20 : Live h' 20 := by
      unfold endP at c2
      split at c2
      · rename_i hb20; exact live_of (by decide) hb20
      · cases c2
    obtain ⟨a, rfl, ht⟩ := trV_at (pb := pb) (base := w.heap.size) hr (hle _ _ rfl) l20 ho t v z c1 hv
    exact ⟨a, rfl, h.next (endP_at c2 hr hle) hk, ht, hk⟩
  · cases hc
def cY : Trc := .mk 32 121 1 []
def cX : Trc := .mk 32 120 1 []
def cOne : Trc := .mk 30 0 0 []
def cLetY : Trc := .mk 2 7628140 3 [.mk 3 0 0 [cY]]
def cConstX : Trc := .mk 2 500152823651 5 [.mk 3 0 0 [cX]]
theorem kLet : treeC 12 [.ptr 20 0] 40 0 3 cLetY = true := by decide +kernel
theorem kParen : ((List.range 31).all fun d => treeC 47 [.ptr 20 0] 47 d 3 cOne) = true := by decide +kernel
theorem kConst : ((List.range 31).all fun d => treeC 18 [.ptr 20 0] 43 d 2 cConstX) = true := by decide +kernel
theorem kY : ((List.range 31).all fun d => treeC 71 [.ptr 20 0] 45 d 1 cY) = true := by decide +kernel
end Go.Proofs.YtjkgefnlennbjaaGreatDoor
