/- VmLoops: short names, in which states are written down. No condition. -/
import Derived.Test.YtgpogeemhaiicaaGreatDoorEvBase
set_option linter.all false
namespace Go.Proofs.YtgpogeemhaiicaaGreatDoor.Sn
open Go.Ev
def i (n : Nat) : V := .int .i64 (.ofNat n)
def j (n : Nat) : V := .int .i64 (.negSucc n)
def ib (n : Nat) : V := .int .u8 (.ofNat n)
def iw (n : Nat) : V := .int .u32 (.ofNat n)
def p (a : Nat) : V := .ptr a 0
def E : V := .str 0 0
def N : V := .nilp
def Z : V := .nils
def I : V := .nilI
def T : V := .bool true
def F : V := .bool false
def A : V := .any
def c (t : Nat) (vs : List V) : Ent := .c t false true vs
def cr (t : Nat) (vs : List V) : Ent := .c t true true vs
def cf (t : Nat) (vs : List V) : Ent := .c t false false vs
def crf (t : Nat) (vs : List V) : Ent := .c t true false vs
def m (es : List (V × V)) : Ent := .m es
def gT : Ent := .c 0 true false tabL
def gL : Ent := .c 0 true false lenL
/-- Rows with the labels under which they stood: those below 40040 keep theirs. -/
def mkO : List (Nat × Ent) → List Nat → Rws
  | [], _ => []
  | (a, e) :: l, os => bif Nat.blt a 40040 then (a, a, e) :: mkO l os else
    match os with
    | o :: os => (a, o, e) :: mkO l os
    | [] => (a, a, e) :: mkO l []
/-- Rows whose labels go by steps. -/
def ab : Nat → List (Nat × Ent) → List (Nat × Ent)
  | _, [] => []
  | a, (d, e) :: l => (Nat.add a d, e) :: ab (Nat.add a d) l
end Go.Proofs.YtgpogeemhaiicaaGreatDoor.Sn
