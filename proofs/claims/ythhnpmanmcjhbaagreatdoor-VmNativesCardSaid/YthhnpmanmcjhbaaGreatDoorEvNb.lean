/- VmNatives: the law's call, some of its calls by contract, in the evaluator's words. No condition. -/
import Derived.Test.YthhnpmanmcjhbaaGreatDoorEvNc
namespace Go.Proofs.YthhnpmanmcjhbaaGreatDoor
open Go.Ev Nc

def stepG (n : Nat) (vs : List V) (h : H) : List (Nat × Nat) → Option (V × H)
  | [] => none
  | (k, lo) :: l => bif Nat.beq h.next lo && Nat.ble k n then callE lo avS (sS k n) (sT k n) vs h else stepG n vs h l
/-- What is met by contract, at so many rounds. -/
def extN (n : Nat) : CallFn := fun g vs h =>
  bif Nat.beq g 5 then callE 14 (avX n) xS (xT n) vs h
  else bif Nat.beq g 47 then callE 210 avO (oS n) (oT n) vs h
  else bif Nat.beq g 49 then stepG n vs h stepL
  else ext2 g vs h
def isExtN (g : FuncId) : Bool := Nat.beq g 5 || (Nat.beq g 47 || (Nat.beq g 49 || isExt2 g))
noncomputable def headN (n s : Nat) (b : Bool) : Bool :=
  match callS Tryz.prog (extN n) isExtN mask tab 3000 300 3 [.cls 9 n, .cls 12 s, .bool b] h0 with
  | some (.bool b, _) => b
  | _ => false
noncomputable def headsB (n : Nat) (l : List (Nat × Bool)) : Bool := l.all fun p => headN n p.1 p.2

end Go.Proofs.YthhnpmanmcjhbaaGreatDoor
