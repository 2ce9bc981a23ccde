/- ListLive: its code, its calls by contract, its beginning. Condition: the tables hold what their initialisers lay. -/
import Derived.Test.YtllgeddjlodliaaGreatDoorXEvExt
import Derived.Test.YtllgeddjlodliaaGreatDoorXEvMj
namespace Go.Proofs.YtllgeddjlodliaaGreatDoor
open Go.Ev

def extL : CallFn := fun g vs h =>
  bif Nat.beq g 6 then (match vs with | [] => some (.bool true, h) | _ => none) else extA g vs h
def isExtL (g : FuncId) : Bool := Nat.beq g 6 || isExt0 g
noncomputable def callL : CallFn := callS Tryz.prog extL isExtL mask tab 3000 300
theorem extL_ok {W : World} (hW : At W) (g : FuncId) (hg : isExtL g = true) (vs : List V) (h : H) (v : V) (h' : H) (he : extL g vs h = some (v, h')) : CallOk Tryz.prog W g vs h v h' := by
  unfold extL at he
  cases hb : Nat.beq g 6
  · rw [hb] at he
    simp only [isExtL, hb, Bool.false_or] at hg
    exact ext_ok0 g hg vs h v h' he
  · rw [hb] at he
    obtain rfl := Nat.eq_of_beq_eq_true hb
    cases vs with
    | nil =>
      simp only [cond_true, Option.some.injEq, Prod.mk.injEq] at he
      obtain ⟨rfl, rfl⟩ := he
      exact fit_ok hW h
    | cons u us => simp at he
theorem callL_ok {W : World} (hW : At W) : CallFnOk Tryz.prog W callL := by
  unfold callL
  rw [callS_eq _ _ _ tabOk]
  exact callN_sound (by kernel_rfl) (extL_ok hW) noNum progOk (fun call hc => draws call hc) 300

/-! Its code. -/
def loopOf : Code → Option Code
  | .loop c => some c
  | .seq a b => (match loopOf a with | some c => some c | none => loopOf b)
  | .block _ c => loopOf c
  | _ => none
noncomputable def lawCode : Code := match Tryz.prog.funcs[4]? with | some fn => (match fn.body with | some c => c | none => .skip) | none => .skip
noncomputable def bodyCode : Code := match loopOf lawCode with | some c => c | none => .skip
noncomputable def bodyR : Fr → Ds → H → RC := den Tryz.prog callL (mask 4) 3000 bodyCode
theorem body_ok : codeOk Tryz.f4.ntmps bodyCode = true := by decide +kernel
theorem lives_kept : ∀ t, t ∈ Lv.lives ++ [38, 39] → kept (mask 4) t = true := by
  have h : ((Lv.lives ++ [38, 39]).all fun t => kept (mask 4) t) = true := by decide +kernel
  exact fun t ht => List.all_eq_true.1 h t ht

/-! The rounds. -/
noncomputable def fP (d : Bool) (l : Nat) : Bool := bodyB 20 bodyR (Lv.stP d l l 0) (Lv.enP d l)
noncomputable def fQ (d : Bool) (l : Nat) : Bool := bodyB 20 bodyR (Lv.stP d l (Lv.mx l) 1) (Lv.enQ d l)
noncomputable def fL (q j : Nat) : Bool := bodyB 20 bodyR (Lv.stL j q) (Lv.enL j)
noncomputable def fG (q j : Nat) : Bool := bodyB 20 bodyR (Lv.stG j q) (Lv.enG j)
noncomputable def fD (q j : Nat) : Bool := bodyB 20 bodyR (Lv.stD j q) (Lv.enD j)
noncomputable def fX (n : Nat) : Bool := match bodyR (Lv.stX n).f [] (Lv.stX n).h with | .ok (.exit 0) _ d _ => (match d with | [] => true | _ => false) | _ => false

end Go.Proofs.YtllgeddjlodliaaGreatDoor
