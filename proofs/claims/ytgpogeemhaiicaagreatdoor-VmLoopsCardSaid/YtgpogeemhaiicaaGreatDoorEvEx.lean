/- VmLoops: the law's call from the text on: the scanner, the compiler and the run by contract. No condition. -/
import Derived.Test.YtgpogeemhaiicaaGreatDoorEvRr
import Derived.Test.YtgpogeemhaiicaaGreatDoorEvCo
set_option linter.all false
namespace Go.Proofs.YtgpogeemhaiicaaGreatDoor
open Go.Ev Go.Proofs.YtgpogeemhaiicaaGreatDoor.Hd Go.Proofs.YtgpogeemhaiicaaGreatDoor.Cm

/-- A token's cells; a number of the law's. -/
def tk (k s l n : Nat) : List V := [.int .i64 (.ofNat k), .str s l, .cl2 0 316, .int .i64 (.ofNat n)]
def tkN (j : Nat) : List V := [.int .i64 3, .cl2 0 63, .cl2 0 316, .cl1 0 (Nat.add 528 j)]
def tok0 : List (List V) := [tk 1 111 1 0, tk 5 46 1 0, tk 1 97 1 0, tk 5 61 1 0, tk 3 48 1 0, tk 5 59 1 0, tk 1 111 1 0, tk 5 46 1 0, tk 1 98 1 0, tk 5 61 1 0, tk 3 48 1 0, tk 5 59 1 0, tk 1 111 1 0, tk 5 46 1 0, tk 1 99 1 0, tk 5 61 1 0, tk 3 48 1 0, tk 5 59 1 0, tk 5 123 1 0, tk 2 7628140 3 0, tk 1 107 1 0, tk 5 61 1 0, tk 3 49 1 1, tk 5 59 1 0, tk 2 7499622 3 0, tk 5 40 1 0, tk 2 7628140 3 0, tk 1 105 1 0, tk 5 61 1 0, tk 3 48 1 0, tk 5 59 1 0, tk 1 105 1 0, tk 5 60 1 0, tkN 0, tk 5 59 1 0, tk 1 105 1 0, tk 5 11051 2 0, tk 5 41 1 0, tk 5 123 1 0, tk 2 26217 2 0, tk 5 40 1 0, tk 1 105 1 0, tk 5 4013373 3 0, tkN 1, tk 5 41 1 0, tk 2 461195539042 5 0, tk 5 59 1 0, tk 2 26217 2 0, tk 5 40 1 0, tk 1 105 1 0, tk 5 4013373 3 0, tkN 2]
def tok1 : List (List V) := [tk 5 41 1 0, tk 2 7310870969309884259 8 0, tk 5 59 1 0, tk 1 107 1 0, tk 5 61 1 0, tk 1 107 1 0, tk 5 42 1 0, tk 3 51 1 3, tk 5 43 1 0, tk 1 105 1 0, tk 5 59 1 0, tk 1 107 1 0, tk 5 61 1 0, tk 1 107 1 0, tk 5 37 1 0, tk 3 237031665713 5 10007, tk 5 59 1 0, tk 5 125 1 0, tk 1 111 1 0, tk 5 46 1 0, tk 1 97 1 0, tk 5 61 1 0, tk 1 107 1 0, tk 5 59 1 0, tk 5 125 1 0, tk 5 123 1 0, tk 2 7628140 3 0, tk 1 107 1 0, tk 5 61 1 0, tk 3 49 1 1, tk 5 44 1 0, tk 1 105 1 0, tk 5 61 1 0, tk 5 45 1 0, tk 3 49 1 1, tk 5 59 1 0, tk 2 435610544247 5 0, tk 5 40 1 0, tk 5 11051 2 0, tk 1 105 1 0, tk 5 60 1 0, tkN 0, tk 5 41 1 0, tk 5 123 1 0, tk 2 26217 2 0, tk 5 40 1 0, tk 1 105 1 0, tk 5 4013373 3 0, tkN 1, tk 5 41 1 0, tk 2 461195539042 5 0, tk 5 59 1 0]
def tok2 : List (List V) := [tk 2 26217 2 0, tk 5 40 1 0, tk 1 105 1 0, tk 5 4013373 3 0, tkN 2, tk 5 41 1 0, tk 2 7310870969309884259 8 0, tk 5 59 1 0, tk 1 107 1 0, tk 5 61 1 0, tk 1 107 1 0, tk 5 42 1 0, tk 3 51 1 3, tk 5 43 1 0, tk 1 105 1 0, tk 5 59 1 0, tk 1 107 1 0, tk 5 61 1 0, tk 1 107 1 0, tk 5 37 1 0, tk 3 237031665713 5 10007, tk 5 59 1 0, tk 5 125 1 0, tk 1 111 1 0, tk 5 46 1 0, tk 1 98 1 0, tk 5 61 1 0, tk 1 107 1 0, tk 5 59 1 0, tk 5 125 1 0, tk 5 123 1 0, tk 2 7628140 3 0, tk 1 107 1 0, tk 5 61 1 0, tk 3 49 1 1, tk 5 44 1 0, tk 1 105 1 0, tk 5 61 1 0, tk 3 48 1 0, tk 5 59 1 0, tk 2 26217 2 0, tk 5 40 1 0, tk 1 105 1 0, tk 5 60 1 0, tkN 0, tk 5 41 1 0, tk 1 108 1 0, tk 5 58 1 0, tk 2 28516 2 0, tk 5 123 1 0, tk 1 109 1 0, tk 5 58 1 0]
def tok3 : List (List V) := [tk 5 123 1 0, tk 2 26217 2 0, tk 5 40 1 0, tk 1 105 1 0, tk 5 4013373 3 0, tkN 1, tk 5 41 1 0, tk 2 461195539042 5 0, tk 1 108 1 0, tk 5 59 1 0, tk 2 26217 2 0, tk 5 40 1 0, tk 1 105 1 0, tk 5 4013373 3 0, tkN 2, tk 5 41 1 0, tk 2 461195539042 5 0, tk 1 109 1 0, tk 5 59 1 0, tk 1 107 1 0, tk 5 61 1 0, tk 1 107 1 0, tk 5 42 1 0, tk 3 51 1 3, tk 5 43 1 0, tk 1 105 1 0, tk 5 59 1 0, tk 1 107 1 0, tk 5 61 1 0, tk 1 107 1 0, tk 5 37 1 0, tk 3 237031665713 5 10007, tk 5 59 1 0, tk 5 125 1 0, tk 5 125 1 0, tk 2 435610544247 5 0, tk 5 40 1 0, tk 5 11051 2 0, tk 1 105 1 0, tk 5 60 1 0, tkN 0, tk 5 41 1 0, tk 5 59 1 0, tk 1 111 1 0, tk 5 46 1 0, tk 1 99 1 0, tk 5 61 1 0, tk 1 107 1 0, tk 5 59 1 0, tk 5 125 1 0, tk 0 0 0 0]
def tokC : List V := (tok0 ++ tok1 ++ tok2 ++ tok3).flatten
def scanE (vs : List V) (h : H) : Option (V × H) :=
  match vs with
  | [.cl1 m c] => bif (Nat.beq m 0 && Nat.beq c 531) && Nat.blt h.next 65536 then some (.tup [.slice h.next 0 207 207 4, .agg [.int .i64 0, .int .i64 0]], h.lay 828 151 true (cellsOf tokC)) else none
  | _ => none
noncomputable def ext3 : CallFn := fun g vs h =>
  bif Nat.beq g 40 then scanE vs h
  else bif Nat.beq g 18 then compE vs h
  else bif Nat.beq g 49 then runE vs h
  else ext g vs h
def isExt3 (g : FuncId) : Bool := Nat.beq g 40 || (Nat.beq g 18 || (Nat.beq g 49 || isExt1 g))
noncomputable def call3 : CallFn := callS Tryz.prog ext3 isExt3 mask tab 3000 300
/-- The law's code from where the text is there. -/
def dropTo (k : Nat) : Code → Option Code
  | .region id ops d => bif Nat.beq id k then some (.region id ops d) else none
  | .seq a b => match dropTo k a with | some a' => some (.seq a' b) | none => dropTo k b
  | _ => none
noncomputable def lawCode : Code := match Tryz.prog.funcs[3]? with | some fn => (match fn.body with | some c => c | none => .skip) | none => .skip
noncomputable def tailCode : Code := (dropTo 15 lawCode).getD .skip
noncomputable def tailRun : Fr → Ds → H → RC := (comp Tryz.prog (mask 3) (tab 3) 3000 tailCode).run call3
def tailF : Fr := fset (fset fr0 9 (.cl1 0 531)) 10 (.cl1 0 12)
def hT : H := ⟨15, h0.mem⟩
noncomputable def tailB : Bool :=
  match tailRun tailF [] hT with
  | .ok .ret f d _ => (match d with | [] => (match fget f 6 with | .bool b => b | _ => false) | _ => false)
  | _ => false
set_option maxRecDepth 10000000 in
theorem tailB_true : tailB = true := by decide +kernel
end Go.Proofs.YtgpogeemhaiicaaGreatDoor
