/- Short names, in which states are written down. No condition. -/
import Derived.Test.YthhnpmanmcjhbaaGreatDoorEvBase
namespace Go.Proofs.YthhnpmanmcjhbaaGreatDoor.Sn
open Go.Ev
def i (n : Nat) : V := .int .i64 (.ofNat n)
def j (n : Nat) : V := .int .i64 (.negSucc n)
def ib (n : Nat) : V := .int .u8 (.ofNat n)
def iw (n : Nat) : V := .int .u32 (.ofNat n)
def p (a : Nat) : V := .ptr a 0
def s (a l c e : Nat) : V := .slice a 0 l c e
def E : V := .str 0 0
def N : V := .nilp
def Z : V := .nils
def I : V := .nilI
def T : V := .bool true
def F : V := .bool false
def c (t : Nat) (vs : List V) : Ent := .c t false true vs
def m (es : List (V × V)) : Ent := .m es
def gT : Ent := .c 0 true false tabL
def gL : Ent := .c 0 true false lenL
def tb (a : Nat) : Ent := .c 180 false true [.nils, .nils, i 0, .slice a 0 0 1 1]
def ob (a : Nat) : Ent := .c 49 false true [i 0, i 0, F, p a, Z, Z, N, N, N, Z, I, i 0, i 0, i 0, i 0, I]
def pp (a : Nat) : Ent := .c 43 false true [p a]
/-- New labels rise from lo on. -/
def mk (lo : Nat) : Nat → List (Nat × Ent) → Rws
  | _, [] => []
  | k, (o, e) :: l => bif Nat.blt o lo then (o, o, e) :: mk lo k l else (k, o, e) :: mk lo (Nat.succ k) l
/-- Labels told by their distances. -/
def ab : Nat → List (Nat × Ent) → List (Nat × Ent)
  | _, [] => []
  | k, (d, e) :: l => (Nat.add k d, e) :: ab (Nat.add k d) l
/-- Two lists, their labels rising, as one. -/
def mg : Nat → List (Nat × Ent) → List (Nat × Ent) → List (Nat × Ent)
  | 0, _, _ => []
  | _ + 1, [], l => l
  | _ + 1, x :: l, [] => x :: l
  | n + 1, x :: l, y :: m => bif Nat.blt x.1 y.1 then x :: mg n l (y :: m) else y :: mg n (x :: l) m
end Go.Proofs.YthhnpmanmcjhbaaGreatDoor.Sn
