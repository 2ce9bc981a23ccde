/- What the evaluator is told of this program: the functions met by contract, the memory at the beginning. No condition. -/
import Derived.Test.YtboloofhmpfeiaaGreatDoorEvSD
import Derived.Test.YtboloofhmpfeiaaGreatDoorEvAE
import Derived.Test.YtboloofhmpfeiaaGreatDoorProg
namespace Go.Proofs.YtboloofhmpfeiaaGreatDoor
open Go.Ev

def mask (_ : FuncId) : Nat := 13407807929942597099574024998205846127479365820592393377723561443721764030073546976801874298166903427690031858186486050853753882811946569946433649006084095
def tab (_ : FuncId) (_ : Nat) : Option (List (Nat × Nat)) := none
def tabZ : List Int := [0, 0, 0, 0, 0, 0, 0, 0, 0, 1, 1, 1, 1, 1, 0, 0, 0, 0, 0, 0, 0, 0, 0, 0, 0, 0, 0, 0, 0, 0, 0, 0, 1, 0, 0, 0, 0, 0, 0, 0, 0, 0, 0, 0, 0, 0, 0, 0, 0, 0, 0, 0, 0, 0, 0, 0, 0, 0, 0, 0, 0, 0, 0, 0, 0, 0, 0, 0, 0, 0, 0, 0, 0, 0, 0, 0, 0, 0, 0, 0, 0, 0, 0, 0, 0, 0, 0, 0, 0, 0, 0, 0, 0, 0, 0, 0, 0, 0, 0, 0, 0, 0, 0, 0, 0, 0, 0, 0, 0, 0, 0, 0, 0, 0, 0, 0, 0, 0, 0, 0, 0, 0, 0, 0, 0, 0, 0, 0, 0, 0, 0, 0, 0, 0, 0, 0, 0, 0, 0, 0, 0, 0, 0, 0, 0, 0, 0, 0, 0, 0, 0, 0, 0, 0, 0, 0, 0, 0, 0, 0, 0, 0, 0, 0, 0, 0, 0, 0, 0, 0, 0, 0, 0, 0, 0, 0, 0, 0, 0, 0, 0, 0, 0, 0, 0, 0, 0, 0, 0, 0, 0, 0, 0, 0, 0, 0, 0, 0, 0, 0, 0, 0, 0, 0, 0, 0, 0, 0, 0, 0, 0, 0, 0, 0, 0, 0, 0, 0, 0, 0, 0, 0, 0, 0, 0, 0, 0, 0, 0, 0, 0, 0, 0, 0, 0, 0, 0, 0, 0, 0, 0, 0, 0, 0, 0, 0, 0, 0, 0, 0, 0, 0, 0, 0, 0, 0]
def tabL : List V := tabZ.map fun z => V.int .u8 z
def lenL : List V := [.int .i64 7, .int .i64 0, .str 32186988823353953160102177792 12]
def h0 : H := ⟨10, (m4.put 1 (.live 256 0 true false (cellsOf tabL))).put 0 (.live 3 0 true false (cellsOf lenL))⟩
def ext : CallFn := fun g vs h =>
  bif Nat.beq g 177 then (prefV vs).map fun v => (v, h)
  else bif Nat.beq g 317 then (contV vs).map fun v => (v, h)
  else bif Nat.beq g 47 then (ofV vs).map fun v => (v, h)
  else none
def isExt (g : FuncId) : Bool := Nat.beq g 177 || (Nat.beq g 317 || Nat.beq g 47)

noncomputable def callAll : CallFn := callS Tryz.prog ext isExt mask tab 3000 300
noncomputable def runAll (vs : List V) : Bool :=
  match callAll 3 vs h0 with
  | some (.bool b, _) => b
  | _ => false

end Go.Proofs.YtboloofhmpfeiaaGreatDoor
