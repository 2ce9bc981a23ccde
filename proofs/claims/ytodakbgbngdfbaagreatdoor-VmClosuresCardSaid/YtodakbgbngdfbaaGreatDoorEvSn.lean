/- Short names, in which states are written down. No condition. -/
import Derived.Test.YtodakbgbngdfbaaGreatDoorEvBase
namespace Go.Proofs.YtodakbgbngdfbaaGreatDoor.Sn
open Go.Ev
def i (n : Nat) : V := .int .i64 (.ofNat n)
def j (n : Nat) : V := .int .i64 (.negSucc n)
def ib (n : Nat) : V := .int .u8 (.ofNat n)
def iw (n : Nat) : V := .int .u32 (.ofNat n)
def p (a : Nat) : V := .ptr a 0
def s (a l c e : Nat) : V := .slice a 0 l c e
def E : V := .str 0 0
def N : V := .nilp
def Z : V := .nils
def I : V := .nilI
def T : V := .bool true
def F : V := .bool false
def c (t : Nat) (vs : List V) : Ent := .c t false true vs
def m (es : List (V × V)) : Ent := .m es
def gT : Ent := .c 0 true false tabL
def gL : Ent := .c 0 true false lenL
def q (n : Nat) : Ent := .c 358 false true [.nilp, i n]
def tb (a : Nat) : Ent := .c 134 false true [.nils, .nils, i 0, .slice a 0 0 1 1]
def ob (a : Nat) : Ent := .c 81 false true [i 0, i 0, F, p a, Z, Z, N, N, N, Z, I, i 0, i 0, i 0, i 0, I]
def pp (a : Nat) : Ent := .c 76 false true [p a]
/-- The machine, and a frame of its. -/
def mm (a b : Nat) (v : V) : Ent := .c 58 false true [p 3895, i 1, i 2, i 3, i 4, i 5, i 6, i 7, i 8, i 9, i 10, i 11, i 12, i 13, i 14, i 15, i 16, i 17, i 18, i 19, i 20, i 21, i 24, i 8, i 22, E, .iface 48 (.agg []), i 4194304, i 200, i 1048576, Z, T, Z, i 0, Z, i a, i b, Z, Z, Z, Z, v, i 0]
def fr (a b : Nat) (v : V) (e : Nat) (w x : V) : Ent := .c 106 false true [i 0, i 0, E, i 0, p a, i b, v, i e, i 0, i 0, E, i 0, i 0, E, Z, w, x, Z, i 0, i 0, i 0, E, i 0, i 0, i 0, E, i 0, i 0, E, F, F]
/-- New labels rise from lo on. -/
def mk (lo : Nat) : Nat → List (Nat × Ent) → Rws
  | _, [] => []
  | k, (o, e) :: l => bif Nat.blt o lo then (o, o, e) :: mk lo k l else (k, o, e) :: mk lo (Nat.succ k) l
/-- Labels told by their distances. -/
def ab : Nat → List (Nat × Ent) → List (Nat × Ent)
  | _, [] => []
  | k, (d, e) :: l => (Nat.add k d, e) :: ab (Nat.add k d) l
/-- Two lists, their labels rising, as one. -/
def mg : Nat → List (Nat × Ent) → List (Nat × Ent) → List (Nat × Ent)
  | 0, _, _ => []
  | _ + 1, [], l => l
  | _ + 1, x :: l, [] => x :: l
  | n + 1, x :: l, y :: m => bif Nat.blt x.1 y.1 then x :: mg n l (y :: m) else y :: mg n (x :: l) m
end Go.Proofs.YtodakbgbngdfbaaGreatDoor.Sn
