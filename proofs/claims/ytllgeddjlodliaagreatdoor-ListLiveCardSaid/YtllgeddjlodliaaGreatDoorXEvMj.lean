/- The evaluator: ListLive: the states at the head of its loop, written down. States that are written down, turned: names given anew, rows said otherwise. ListLive: from the loop's head to the states that are evaluated, and back. ListLive: each row from the loop's head to the states that are evaluated, and back. ListLive: the head of its loop; what stands there goes over into the states that are evaluated. ListLive: a push, a pop: from the head to the head. ListLive: a next: from the head to the head. ListLive: a next: back to the head. ListLive: the whole loop. Code as its pieces, one behind the other. No condition. -/
import Derived.Test.YtllgeddjlodliaaGreatDoorXEvMi
import Derived.KernelRfl
namespace Go.Proofs.YtllgeddjlodliaaGreatDoor.Lv
open Go.Ev
def i (n : Nat) : V := .int .i64 (.ofNat n)
def ib (n : Nat) : V := .int .u8 (.ofNat n)
def p (a : Nat) : V := .ptr a 0
def s (a l c e : Nat) : V := .slice a 0 l c e
def E : V := .str 0 0
def N : V := .nilp
def Z : V := .nils
def I : V := .nilI
def T : V := .bool true
def F : V := .bool false
def c (t : Nat) (vs : List V) : Ent := .c t false true vs
def tabZ0 : List Int := [0, 0, 0, 0, 0, 0, 0, 0, 0, 1, 1, 1, 1, 1, 0, 0, 0, 0, 0, 0, 0, 0, 0, 0, 0, 0, 0, 0, 0, 0, 0, 0, 1, 0, 0, 0, 0, 0, 0, 0, 0, 0, 0, 0, 0, 0, 0, 0, 0, 0, 0, 0, 0, 0, 0, 0, 0, 0, 0, 0, 0, 0, 0, 0, 0, 0, 0, 0, 0, 0, 0, 0, 0, 0, 0, 0, 0, 0, 0, 0, 0, 0, 0, 0, 0, 0, 0, 0, 0, 0, 0, 0, 0, 0, 0, 0, 0, 0, 0, 0, 0, 0, 0, 0, 0, 0, 0, 0, 0, 0, 0, 0, 0, 0, 0, 0, 0, 0, 0, 0, 0, 0, 0, 0, 0, 0, 0, 0, 0, 0, 0, 0, 0, 0, 0, 0, 0, 0, 0, 0, 0, 0, 0, 0, 0, 0, 0, 0, 0, 0, 0, 0, 0, 0, 0, 0, 0, 0, 0, 0, 0, 0, 0, 0, 0, 0, 0, 0, 0, 0, 0, 0, 0, 0, 0, 0, 0, 0, 0, 0, 0, 0, 0, 0, 0, 0, 0, 0, 0, 0, 0, 0, 0, 0, 0, 0, 0, 0, 0, 0, 0, 0, 0, 0, 0, 0, 0, 0, 0, 0, 0, 0, 0, 0, 0, 0, 0, 0, 0, 0, 0, 0, 0, 0, 0, 0, 0, 0, 0, 0, 0, 0, 0, 0, 0, 0, 0, 0, 0, 0, 0, 0, 0, 0, 0, 0, 0, 0, 0, 0, 0, 0, 0, 0, 0, 0]
def tabV : List V := (tabZ0).map fun z => V.int .u8 z
def gT : Ent := .c 0 true false tabV
def gL : Ent := .c 0 true false [.int .i64 7, .int .i64 0, .str 32186988823353953160102177792 12]
def tn : Ent := c 146 [Z,Z,i 0,Z]
def ob (a : Nat) : Ent := c 65 [i 0,i 0,F,p a,Z,Z,N,N,N,Z,I,i 0,i 0,i 0,i 0,I]
/-- A number: its name, its distance from the name's number, its bounds; a slice of such a length. -/
def sy (id a b lo hi : Nat) : V := .msk 0 (Nat.succ (Nat.mul 4 (sPack id (Nat.add 1073741824 a) (Nat.add 1073741824 b) lo hi)))
def ss (l e id lo hi : Nat) : V := .msk 0 (Nat.add (Nat.mul 4 (Nat.add l (Nat.mul 65536 (Nat.add e (Nat.mul 16 (sPack id 1073741824 1073741824 lo hi)))))) 2)
/-- The cells' row, the machine, the array, the walker. -/
def eAR (v x : V) : Ent := c 149 [v,Z,s 134 0 3 1,x]
def a1 : List V := [i 1,i 3,F,p 131]
def a2 : List V := [Z,N,N,N,Z,I,i 0,i 0,i 0,i 0,I]
def eA (v : V) : Ent := c 65 (a1 ++ v :: a2)
def w1 : List V := [i 5,i 12,F,p 135,Z]
def w2 : List V := [N,N,N,Z,I,i 0,i 0,i 2]
def eW (ws at' : V) : Ent := c 65 (w1 ++ ws :: (w2 ++ at' :: [I]))
def cells0 : List V := [.iface 42 (p 24),F,.iface 42 (p 26),F,.iface 42 (p 28),F,.iface 42 (p 30),F,.iface 42 (p 32),F,.iface 42 (p 34),F,.iface 42 (p 36),F,.iface 42 (p 38),F,.iface 42 (p 40),F,.iface 42 (p 42),F,.iface 42 (p 44),F,.iface 42 (p 46),F,.iface 42 (p 48),F,.iface 42 (p 50),F,.iface 42 (p 52),F,.iface 42 (p 54),F,.iface 42 (p 56),F,.iface 42 (p 58),F,.iface 42 (p 60),F,.iface 42 (p 62),F,.iface 42 (p 64),F,.iface 107 (p 65),F,.iface 42 (p 67),F,.iface 42 (p 69),F,.iface 42 (p 73),F,.iface 42 (p 78),F,.iface 42 (p 83),F,.iface 42 (p 87),F,.iface 42 (p 91),F,.iface 42 (p 95),F,.iface 42 (p 100),F,.iface 42 (p 104),F,.iface 42 (p 108),F,.iface 42 (p 112),F,.iface 42 (p 116),F,.iface 42 (p 120),F,.iface 42 (p 125),F,.iface 42 (p 132),F,.iface 42 (p 136),F]
def m1 : List V := [p 21,i 1,i 2,i 3,i 4,i 5,i 6,i 7,i 8,i 9,i 10,i 11,i 12,i 13,i 14,i 15,i 16,i 17,i 18,i 19,i 20,i 21,i 0,i 8,i 22,E,.iface 80 (.agg []),i 4194304,i 20,i 100000,Z,F,Z,i 0,Z]
def m2 : List V := [i 0,Z,Z,Z,Z,Z,i 0]
def anyL : Nat → List V
  | 0 => []
  | n + 1 => .any :: anyL n
def eM (v : V) : Ent := c 57 (m1 ++ v :: m2)
def eC (r : Nat) : Ent := c 151 (cells0 ++ anyL (Nat.mul 2 r))
def elL : Nat → List V
  | 0 => []
  | n + 1 => i 3 :: .cl2 0 316 :: E :: elL n
def eE (l : Nat) : Ent := c 29 (elL l)
/-- The first elements, of which the last has a name. -/
def eN (j : Nat) : Ent := .c 29 true false (anyL (Nat.mul 3 j) ++ [i 3, .cls 0 144, E])
/-- The elements, of which nothing is known. -/
def eZ : Ent := .c 29 true false []
def wsV (done : Bool) : V := bif done then Z else s 138 1 1 3
/-- What is the same in all states. -/
def seg0 : List (Nat × Ent) := [
  (0, gT),
  (1, gL)]
def seg1 : List (Nat × Ent) := [
  (21, c 102 [p 20,i 0])]
def seg2 : List (Nat × Ent) := [
  (23, tn),
  (24, ob 23),
  (25, tn),
  (26, ob 25),
  (27, c 146 [s 123 12 12 8,s 98 32 32 1,i 12,Z]),
  (28, c 65 [i 1,i 0,F,p 27,Z,Z,N,N,N,Z,I,i 0,i 0,i 0,i 0,I]),
  (29, tn),
  (30, ob 29),
  (31, tn),
  (32, ob 31),
  (33, tn),
  (34, ob 33),
  (35, tn),
  (36, ob 35),
  (37, tn),
  (38, ob 37),
  (39, tn),
  (40, ob 39),
  (41, tn),
  (42, ob 41),
  (43, tn),
  (44, ob 43),
  (45, c 146 [s 129 1 1 8,s 128 8 8 1,i 1,Z]),
  (46, ob 45),
  (47, tn),
  (48, ob 47),
  (49, tn),
  (50, ob 49),
  (51, tn),
  (52, ob 51),
  (53, tn),
  (54, ob 53),
  (55, tn),
  (56, ob 55),
  (57, tn),
  (58, ob 57),
  (59, tn),
  (60, ob 59),
  (61, tn),
  (62, ob 61),
  (63, tn),
  (64, ob 63),
  (65, c 109 [i 0,i 0,E]),
  (66, c 146 [s 81 6 6 8,s 76 32 32 1,i 6,Z]),
  (67, c 65 [i 2,i 2,F,p 66,Z,Z,N,N,N,Z,I,i 0,i 0,i 150,i 1,I]),
  (68, c 146 [s 71 2 2 8,s 70 8 8 1,i 2,Z]),
  (69, c 65 [i 2,i 2,F,p 68,Z,Z,N,N,N,Z,I,i 0,i 0,i 151,i 0,I]),
  (70, c 3 [i 0,i 0,i 1,i 0,i 0,i 0,i 0,i 2]),
  (71, c 161 [i 7,i 0,.str 32186988823353953160102177792 12,i 3,i 1,E,i 4,F,i 7,i 0,.str 7277936846225567232 8,i 7,i 0,.str 2454201582626162785453613772728576 14,i 4,F]),
  (72, c 146 [s 75 2 2 8,s 74 8 8 1,i 2,Z]),
  (73, c 65 [i 2,i 2,F,p 72,Z,Z,N,N,N,Z,I,i 0,i 0,i 152,i 0,I]),
  (74, c 3 [i 0,i 0,i 1,i 0,i 0,i 0,i 0,i 2]),
  (75, c 161 [i 7,i 0,.str 32186988823353953160102177792 12,i 3,i 1,E,i 4,F,i 7,i 0,.str 7277936846225567232 8,i 7,i 0,.str 7854399797837456896 8,i 4,F]),
  (76, c 3 [i 0,i 0,i 0,i 4,i 3,i 5,i 0,i 0,i 0,i 0,i 1,i 0,i 0,i 0,i 0,i 0,i 0,i 0,i 0,i 0,i 0,i 0,i 0,i 2,i 0,i 6,i 0,i 0,i 0,i 0,i 0,i 0]),
  (77, c 146 [s 80 2 2 8,s 79 8 8 1,i 2,Z]),
  (78, c 65 [i 2,i 2,F,p 77,Z,Z,N,N,N,Z,I,i 0,i 0,i 153,i 0,I]),
  (79, c 3 [i 0,i 0,i 1,i 0,i 0,i 0,i 0,i 2]),
  (80, c 161 [i 7,i 0,.str 32186988823353953160102177792 12,i 3,i 0,E,i 4,F,i 7,i 0,.str 7277936846225567232 8,i 7,i 0,.str 1711304448 4,i 4,F]),
  (81, c 161 [i 7,i 0,.str 32186988823353953160102177792 12,i 3,i 1,E,i 4,F,i 7,i 0,.str 7277936846225567232 8,i 7,i 0,.str 571413334139194988052736 10,i 4,F,i 7,i 0,.str 8798489755097520284713961511873626475884544 18,i 9,i 3,E,i 0,F,i 7,i 0,.str 2454201582626162785453613772728576 14,i 9,i 24,E,i 5,F,i 7,i 0,.str 7854399797837456896 8,i 9,i 25,E,i 5,F,i 7,i 0,.str 1711304448 4,i 9,i 26,E,i 5,F]),
  (82, c 146 [s 85 2 2 8,s 84 8 8 1,i 2,Z]),
  (83, c 65 [i 2,i 2,F,p 82,Z,Z,N,N,N,Z,I,i 0,i 0,i 154,i 0,I]),
  (84, c 3 [i 0,i 0,i 1,i 0,i 0,i 0,i 0,i 2]),
  (85, c 161 [i 7,i 0,.str 32186988823353953160102177792 12,i 3,i 1,E,i 4,F,i 7,i 0,.str 7277936846225567232 8,i 7,i 0,.str 7494116225744662528 8,i 4,F]),
  (86, c 146 [s 89 2 2 8,s 88 8 8 1,i 2,Z]),
  (87, c 65 [i 2,i 2,F,p 86,Z,Z,N,N,N,Z,I,i 0,i 0,i 155,i 0,I]),
  (88, c 3 [i 0,i 0,i 1,i 0,i 0,i 0,i 0,i 2]),
  (89, c 161 [i 7,i 0,.str 32186988823353953160102177792 12,i 3,i 0,E,i 4,F,i 7,i 0,.str 7277936846225567232 8,i 7,i 0,.str 123147164610560 6,i 4,F]),
  (90, c 146 [s 93 2 2 8,s 92 8 8 1,i 2,Z]),
  (91, c 65 [i 2,i 2,F,p 90,Z,Z,N,N,N,Z,I,i 0,i 0,i 156,i 0,I]),
  (92, c 3 [i 0,i 0,i 1,i 0,i 0,i 0,i 0,i 2]),
  (93, c 161 [i 7,i 0,.str 32186988823353953160102177792 12,i 3,i 0,E,i 4,F,i 7,i 0,.str 7277936846225567232 8,i 7,i 0,.str 35591253096900309988837193216 12,i 4,F]),
  (94, c 146 [s 97 2 2 8,s 96 8 8 1,i 2,Z]),
  (95, c 65 [i 2,i 2,F,p 94,Z,Z,N,N,N,Z,I,i 0,i 0,i 157,i 0,I]),
  (96, c 3 [i 0,i 0,i 1,i 0,i 0,i 0,i 0,i 2]),
  (97, c 161 [i 7,i 0,.str 32186988823353953160102177792 12,i 3,i 0,E,i 4,F,i 7,i 0,.str 7277936846225567232 8,i 7,i 0,.str 8286756356963199744 8,i 4,F]),
  (98, c 3 [i 0,i 12,i 5,i 8,i 0,i 0,i 0,i 0,i 6,i 10,i 7,i 0,i 2,i 0,i 1,i 3,i 9,i 11,i 0,i 0,i 0,i 0,i 4,i 0,i 0,i 0,i 0,i 0,i 0,i 0,i 0,i 0]),
  (99, c 146 [s 102 2 2 8,s 101 8 8 1,i 2,Z]),
  (100, c 65 [i 2,i 2,F,p 99,Z,Z,N,N,N,Z,I,i 0,i 0,i 158,i 0,I]),
  (101, c 3 [i 0,i 0,i 1,i 0,i 0,i 0,i 0,i 2]),
  (102, c 161 [i 7,i 0,.str 32186988823353953160102177792 12,i 3,i 0,E,i 4,F,i 7,i 0,.str 7277936846225567232 8,i 7,i 0,.str 2332508362901790750000453366342912 14,i 4,F]),
  (103, c 146 [s 106 2 2 8,s 105 8 8 1,i 2,Z]),
  (104, c 65 [i 2,i 2,F,p 103,Z,Z,N,N,N,Z,I,i 0,i 0,i 159,i 0,I]),
  (105, c 3 [i 0,i 0,i 1,i 0,i 0,i 0,i 0,i 2]),
  (106, c 161 [i 7,i 0,.str 32186988823353953160102177792 12,i 3,i 1,E,i 4,F,i 7,i 0,.str 7277936846225567232 8,i 7,i 0,.str 2109401238253820558190008277689856 14,i 4,F]),
  (107, c 146 [s 110 2 2 8,s 109 8 8 1,i 2,Z]),
  (108, c 65 [i 2,i 2,F,p 107,Z,Z,N,N,N,Z,I,i 0,i 0,i 160,i 0,I]),
  (109, c 3 [i 0,i 0,i 1,i 0,i 0,i 0,i 0,i 2]),
  (110, c 161 [i 7,i 0,.str 32186988823353953160102177792 12,i 3,i 1,E,i 4,F,i 7,i 0,.str 7277936846225567232 8,i 7,i 0,.str 123146929728768 6,i 4,F]),
  (111, c 146 [s 114 2 2 8,s 113 8 8 1,i 2,Z]),
  (112, c 65 [i 2,i 2,F,p 111,Z,Z,N,N,N,Z,I,i 0,i 0,i 161,i 0,I]),
  (113, c 3 [i 0,i 0,i 1,i 0,i 0,i 0,i 0,i 2]),
  (114, c 161 [i 7,i 0,.str 32186988823353953160102177792 12,i 3,i 1,E,i 4,F,i 7,i 0,.str 7277936846225567232 8,i 7,i 0,.str 2068830229454937525374357153540352 14,i 4,F]),
  (115, c 146 [s 118 2 2 8,s 117 8 8 1,i 2,Z]),
  (116, c 65 [i 2,i 2,F,p 115,Z,Z,N,N,N,Z,I,i 0,i 0,i 162,i 0,I]),
  (117, c 3 [i 0,i 0,i 1,i 0,i 0,i 0,i 0,i 2]),
  (118, c 161 [i 7,i 0,.str 32186988823353953160102177792 12,i 3,i 1,E,i 4,F,i 7,i 0,.str 7277936846225567232 8,i 7,i 0,.str 7926450794755287552 8,i 4,F]),
  (119, c 146 [s 122 2 2 8,s 121 8 8 1,i 2,Z]),
  (120, c 65 [i 2,i 2,F,p 119,Z,Z,N,N,N,Z,I,i 0,i 0,i 163,i 0,I]),
  (121, c 3 [i 0,i 0,i 1,i 0,i 0,i 0,i 0,i 2]),
  (122, c 161 [i 7,i 0,.str 32186988823353953160102177792 12,i 3,i 2,E,i 4,F,i 7,i 0,.str 7277936846225567232 8,i 7,i 0,.str 476966148587094454334208 10,i 4,F]),
  (123, c 161 [i 7,i 0,.str 42653097491945788975072376560108396912368850208580352 22,i 9,i 23,E,i 5,F,i 7,i 0,.str 7494116225744662528 8,i 9,i 27,E,i 5,F,i 7,i 0,.str 123147164610560 6,i 9,i 28,E,i 5,F,i 7,i 0,.str 35591253096900309988837193216 12,i 9,i 29,E,i 5,F,i 7,i 0,.str 8286756356963199744 8,i 9,i 30,E,i 5,F,i 7,i 0,.str 2332508362901790750000453366342912 14,i 9,i 31,E,i 5,F,i 7,i 0,.str 2109401238253820558190008277689856 14,i 9,i 32,E,i 5,F,i 7,i 0,.str 123146929728768 6,i 9,i 33,E,i 5,F,i 7,i 0,.str 2068830229454937525374357153540352 14,i 9,i 34,E,i 5,F,i 7,i 0,.str 7926450794755287552 8,i 9,i 35,E,i 5,F,i 7,i 0,.str 476966148587094454334208 10,i 9,i 36,E,i 5,F,i 8,i 22,E,i 9,i 29,E,i 5,F]),
  (124, c 146 [s 127 2 2 8,s 126 8 8 1,i 2,Z]),
  (125, c 65 [i 2,i 2,F,p 124,Z,Z,N,N,N,Z,I,i 0,i 0,i 164,i 0,I]),
  (126, c 3 [i 0,i 0,i 1,i 0,i 0,i 0,i 0,i 2]),
  (127, c 161 [i 7,i 0,.str 32186988823353953160102177792 12,i 3,i 0,E,i 4,F,i 7,i 0,.str 7277936846225567232 8,i 7,i 0,.str 8358812851489500672 8,i 4,F]),
  (128, c 3 [i 0,i 0,i 0,i 0,i 0,i 0,i 0,i 1]),
  (129, c 161 [i 7,i 0,.str 8358812851489500672 8,i 9,i 37,E,i 5,F])]
def seg3 : List (Nat × Ent) := [
  (131, tn)]
def seg4 : List (Nat × Ent) := [
  (133, c 29 [i 9,i 38,E]),
  (134, c 3 [.any,.any,.any]),
  (135, tn)]
def seg5 : List (Nat × Ent) := [
  (138, c 29 [i 9,i 38,E]),
  (139, c 29 [i 9,i 39,E])]
def base (ar m e a w cs : Ent) : List (Nat × Ent) := seg0 ++ ((20, ar) :: (seg1 ++ ((22, m) :: (seg2 ++ ((130, e) :: (seg3 ++ ((132, a) :: (seg4 ++ ((136, w) :: (137, cs) :: seg5)))))))))
def rowsOf (old : Nat → Nat) : List (Nat × Ent) → Rws
  | [] => []
  | (k, e) :: l => (k, old k, e) :: rowsOf old l
/-- A row with a label ahead. -/
def ins (k : Nat) (e : Ent) : Rws → Rws
  | [] => [(k, k, e)]
  | (a, o, x) :: l => bif Nat.blt k a then (k, k, e) :: (a, o, x) :: l else (a, o, x) :: ins k e l
def del (k : Nat) : Rws → Rws
  | [] => []
  | (a, o, x) :: l => bif Nat.beq k a then l else (a, o, x) :: del k l
def slotsOf (at' done : V) (x y z : V) : List (Nat × V) := [(3,p 22),(4,p 133),(5,p 139),(7,at'),(8,done),(9,.cl2 0 316),(37,x),(38,y),(39,z)]
/-- The list of acts: longer than the place; how long; the place. -/
def actX : V := .msk 0 (Nat.add (Nat.mul 4 (Nat.add 12 (Nat.mul 65536 (Nat.add 10 (Nat.mul 65536 11))))) 3)
def actN : V := .msk 0 (Nat.mul 4 (Nat.add 19 (Nat.mul 65536 10)))
def actI : V := sy 10 0 0 0 100
def idS (k : Nat) : Nat := k
/-- A capacity that is not 0. -/
def mx (l : Nat) : Nat := Nat.succ (Nat.pred l)
/-- Ahead of a push, a pop: so many elements. -/
def stP (done : Bool) (l cap q : Nat) : Snap :=
  ⟨140, ins 12 (.c 0 true false [.cls 4 q]) (rowsOf idS (base (eAR (ss 137 2 16 39 139) (sy 16 0 0 39 139)) (eM (sy 14 0 0 0 2000)) (eE l) (eA (s 130 l cap 3)) (eW (wsV done) (sy 15 0 0 0 100)) (c 151 cells0))),
   slotsOf (sy 17 0 0 0 100) (.bool done) actX actN actI⟩
/-- Ahead of a next: not done, the place below the length; at the length or above; done. -/
def stL (j q : Nat) : Snap :=
  ⟨140, ins 12 (.c 0 true false [.cls 4 q]) (rowsOf idS (base (eAR (s 137 (Nat.add 39 j) (Nat.add 39 j) 2) (i (Nat.add 39 j))) (eM (sy 14 0 0 0 2000)) (eN j) (eA (ss 130 3 13 (Nat.succ j) 103)) (eW (wsV false) (i j)) (eC j))),
   slotsOf (i j) F actX actN actI⟩
def stG (j q : Nat) : Snap :=
  ⟨140, ins 12 (.c 0 true false [.cls 4 q]) (rowsOf idS (base (eAR (s 137 (Nat.add 39 j) (Nat.add 39 j) 2) (i (Nat.add 39 j))) (eM (sy 14 0 0 0 2000)) eZ (eA (ss 130 3 13 0 j)) (eW (wsV false) (i j)) (eC j))),
   slotsOf (i j) F actX actN actI⟩
def stD (r q : Nat) : Snap :=
  ⟨140, ins 12 (.c 0 true false [.cls 4 q]) (rowsOf idS (base (eAR (s 137 (Nat.add 39 r) (Nat.add 39 r) 2) (i (Nat.add 39 r))) (eM (sy 14 0 0 0 2000)) eZ (eA (ss 130 3 13 0 103)) (eW (wsV true) (sy 15 0 0 0 100)) (eC r))),
   slotsOf (sy 17 0 0 0 100) T actX actN actI⟩
/-! Behind them. -/
def oldP (k : Nat) : Nat := bif Nat.beq k 130 then 211 else bif Nat.beq k 134 then 202 else k
def oldL (k : Nat) : Nat := bif Nat.beq k 137 then 225 else bif Nat.beq k 134 then 218 else k
def oldG (k : Nat) : Nat := bif Nat.beq k 137 then 215 else k
def oldD (k : Nat) : Nat := bif Nat.beq k 137 then 213 else k
def actJ : V := sy 10 1 1 0 200
def fuelV (k : Nat) : V := sy 14 k k 0 4000
def enP (done : Bool) (l : Nat) : Snap :=
  ⟨140, rowsOf oldP (base (eAR (ss 137 2 16 39 139) (sy 16 0 0 39 139)) (eM (fuelV (Nat.add 2 (Nat.div l 16)))) (eE (Nat.succ l)) (eA (s 130 (Nat.succ l) (Nat.succ l) 3)) (eW (wsV done) (sy 15 0 0 0 100)) (c 151 cells0)),
   slotsOf (sy 17 0 0 0 100) (.bool done) actX actN actJ⟩
def enQ (done : Bool) (l : Nat) : Snap :=
  ⟨140, rowsOf idS (base (eAR (ss 137 2 16 39 139) (sy 16 0 0 39 139)) (eM (fuelV (Nat.add 1 (Nat.div l 16)))) (eE (Nat.pred l)) (eA (s 130 (Nat.pred l) (mx l) 3)) (eW (wsV done) (sy 15 0 0 0 100)) (c 151 cells0)),
   slotsOf (sy 17 0 0 0 100) (.bool done) actX actN actJ⟩
def enL (j : Nat) : Snap :=
  ⟨140, (rowsOf oldL (base (eAR (s 137 (Nat.add 40 j) (Nat.add 40 j) 2) (i (Nat.add 40 j))) (eM (fuelV 1)) eZ (eA (ss 130 3 13 0 103)) (eW (wsV false) (i (Nat.succ j))) (eC (Nat.succ j)))),
   slotsOf (i (Nat.succ j)) F actX actN actJ⟩
def enG (j : Nat) : Snap :=
  ⟨140, (rowsOf oldG (base (eAR (s 137 (Nat.add 40 j) (Nat.add 40 j) 2) (i (Nat.add 40 j))) (eM (fuelV 1)) eZ (eA (ss 130 3 13 0 103)) (eW (wsV true) (i j)) (eC (Nat.succ j)))),
   slotsOf (i j) T actX actN actJ⟩
def enD (r : Nat) : Snap :=
  ⟨140, (rowsOf oldD (base (eAR (s 137 (Nat.add 40 r) (Nat.add 40 r) 2) (i (Nat.add 40 r))) (eM (fuelV 1)) eZ (eA (ss 130 3 13 0 103)) (eW (wsV true) (sy 15 0 0 0 100)) (eC (Nat.succ r)))),
   slotsOf (sy 17 0 0 0 100) T actX actN actJ⟩
/-- At the loop's head, as it is. -/
def stF (done : Bool) (j a r l f k : Nat) : Snap :=
  ⟨140, rowsOf idS (base (eAR (s 137 (Nat.add 39 r) (Nat.add 39 r) 2) (i (Nat.add 39 r))) (eM (i f)) (eE l) (eA (s 130 l (mx l) 3)) (eW (wsV done) (i j)) (eC r)),
   [(3,p 22),(4,p 133),(5,p 139),(7,i a),(8,.bool done),(9,.cl2 0 316),(39,i k)]⟩
end Go.Proofs.YtllgeddjlodliaaGreatDoor.Lv

namespace Go.Ev

variable {P : Program}

theorem ent_live (e : Ent) : liveB e.blk = true := by cases e <;> rfl
theorem rows_blk {nxt : Nat} {l : Rws} (hl : rises 0 0 l = true) {id old : Nat} {e : Ent} (hm : (id, old, e) ∈ l) : (hOf nxt l).mem.blk id = e.blk ∧ Live (hOf nxt l) id := by
  have e1 : (hOf nxt l).mem.blk id = e.blk := putEs_at l m4 0 0 hl id old e hm
  exact ⟨e1, (rises_mem hl hm).2.2.1, by rw [e1]; exact ent_live e⟩
theorem rows_fit {r : Emb} {nxt : Nat} {l : Rws} {w : World} (h : Rel r (hOf nxt l) w) (hl : rises 0 0 l = true) {id old : Nat} {e : Ent} (hm : (id, old, e) ∈ l) :
    ∃ b sh m, r id = some (b, sh, m) ∧ FitB r e.blk b sh m w := by
  obtain ⟨e1, e2⟩ := rows_blk (nxt := nxt) hl hm
  obtain ⟨b, sh, m, h1, h2⟩ := h.fit id e2.1 e2.2
  rw [e1] at h2
  exact ⟨b, sh, m, h1, h2⟩

/-- Rows said otherwise, names given anew. -/
theorem rel_turn {B C : Nat → Prop} {r r2 : Emb} {nxt nxt2 : Nat} {l l2 : Rws} {w : World} (h : Rel r (hOf nxt l) w) (hl : rises 0 0 l = true) (hl2 : rises 0 0 l2 = true)
    (hrow : ∀ id old e, (id, old, e) ∈ l2 → (∃ old' e', (id, old', e') ∈ l ∧ r2 id = r id ∧ (ownB e.blk = true → ownB e'.blk = true) ∧ ∀ b sh m, r id = some (b, sh, m) → FitB r e'.blk b sh m w → FitB r2 e.blk b sh m w) ∨
      (ownB e.blk = false ∧ ∃ b sh m, r2 id = some (b, sh, m) ∧ FitB r2 e.blk b sh m w ∧ ¬ Own r (hOf nxt l) b ∧ C b) ∨
      (∃ b sh m, r2 id = some (b, sh, m) ∧ FitB r2 e.blk b sh m w ∧ B b ∧ ¬ Own r (hOf nxt l) b ∧ C b ∧ ∀ id' old' e', (id', old', e') ∈ l2 → id' ≠ id → ∀ sh' m', r2 id' ≠ some (b, sh', m')))
    (hnew : ∀ id, nxt2 ≤ id → r2 id = none) : Rel r2 (hOf nxt2 l2) w ∧ (∀ b, Own r2 (hOf nxt2 l2) b → Own r (hOf nxt l) b ∨ B b) ∧ ∀ b, Held r2 (hOf nxt2 l2) b → Held r (hOf nxt l) b ∨ C b := by
  have live : ∀ id, Live (hOf nxt2 l2) id → ∃ old e, (id, old, e) ∈ l2 ∧ (hOf nxt2 l2).mem.blk id = e.blk := fun id hl' => hOf_live hl2 hl'.1 hl'.2
  have old : ∀ id, Live (hOf nxt2 l2) id → ownB ((hOf nxt2 l2).mem.blk id) = true → (Live (hOf nxt l) id ∧ ownB ((hOf nxt l).mem.blk id) = true ∧ r2 id = r id) ∨
      (∃ b sh m, r2 id = some (b, sh, m) ∧ B b ∧ ∀ id' old' e', (id', old', e') ∈ l2 → id' ≠ id → ∀ sh' m', r2 id' ≠ some (b, sh', m')) := fun id hl' ho => by
    obtain ⟨o, e, h1, h2⟩ := live id hl'
    rw [h2] at ho
    rcases hrow id o e h1 with ⟨o', e', g1, g2, g3, _⟩ | ⟨g1, _⟩ | ⟨b, sh, m, g1, _, g3, _, _, g4⟩
    · obtain ⟨k1, k2⟩ := rows_blk (nxt := nxt) hl g1
      exact .inl ⟨k2, by rw [k1]; exact g3 ho, g2⟩
    · rw [g1] at ho; cases ho
    · exact .inr ⟨b, sh, m, g1, g3, g4⟩
  refine ⟨⟨fun id hi hb => ?_, fun id id' b sh m sh' m' hl1 hl1' ho e1 e2 => ?_, hnew⟩, fun b ho => ?_, fun b hh => ?_⟩
  case refine_4 =>
    obtain ⟨id, sh, m, hl', e1⟩ := hh
    obtain ⟨o, e, h1, h2⟩ := live id hl'
    rcases hrow id o e h1 with ⟨o', e', g1, g2, _⟩ | ⟨_, b2, sh2, m2, g2, _, _, g3⟩ | ⟨b2, sh2, m2, g2, _, _, _, g3, _⟩
    · exact .inl ⟨id, sh, m, (rows_blk hl g1).2, by rw [← g2]; exact e1⟩
    · rw [g2] at e1
      cases e1
      exact .inr g3
    · rw [g2] at e1
      cases e1
      exact .inr g3
  · obtain ⟨o, e, h1, h2⟩ := live id ⟨hi, hb⟩
    rw [h2]
    rcases hrow id o e h1 with ⟨o', e', g1, g2, g3, g4⟩ | ⟨g1, b, sh, m, g2, g3, _⟩ | ⟨b, sh, m, g2, g3, _⟩
    · obtain ⟨b, sh, m, k1, k2⟩ := rows_fit h hl g1
      exact ⟨b, sh, m, by rw [g2]; exact k1, g4 b sh m k1 k2⟩
    · exact ⟨b, sh, m, g2, g3⟩
    · exact ⟨b, sh, m, g2, g3⟩
  · have key : ∀ i i' b sh m sh' m', Live (hOf nxt2 l2) i → Live (hOf nxt2 l2) i' → ownB ((hOf nxt2 l2).mem.blk i) = true → r2 i = some (b, sh, m) → r2 i' = some (b, sh', m') → i = i' := by
      intro i i' b sh m sh' m' q1 q2 q3 q4 q5
      obtain ⟨o, e, h1, h2⟩ := live i' q2
      rcases old i q1 q3 with ⟨k1, k2, k3⟩ | ⟨b2, sh2, m2, k1, k2, k3⟩
      · rw [k3] at q4
        rcases hrow i' o e h1 with ⟨o', e', g1, g2, g3, g4⟩ | ⟨g1, b2, sh2, m2, g2, g3, g4, _⟩ | ⟨b2, sh2, m2, g2, g3, g4, g5, _⟩
        · rw [g2] at q5
          exact h.inj i i' b sh m sh' m' k1 (rows_blk hl g1).2 (.inl k2) q4 q5
        · rw [g2] at q5
          cases q5
          exact (g4 ⟨i, sh, m, k1.1, k2, q4⟩).elim
        · rw [g2] at q5
          cases q5
          exact (g5 ⟨i, sh, m, k1.1, k2, q4⟩).elim
      · rw [k1] at q4
        cases q4
        refine Classical.byContradiction fun hne => k3 i' o e h1 (fun e => hne e.symm) sh' m' q5
    rcases ho with ho | ho
    · exact key id id' b sh m sh' m' hl1 hl1' ho e1 e2
    · exact (key id' id b sh' m' sh m hl1' hl1 ho e2 e1).symm
  · obtain ⟨id, sh, m, hi, hb, e1⟩ := ho
    rcases old id ⟨hi, live_of_own hb⟩ hb with ⟨k1, k2, k3⟩ | ⟨b2, sh2, m2, k1, k2, k3⟩
    · exact .inl ⟨id, sh, m, k1.1, k2, by rw [← k3]; exact e1⟩
    · rw [k1] at e1
      cases e1
      exact .inr k2

theorem st_turn {w0 : World} {nb n : Nat} {r r2 : Emb} {T T2 : Tm} {h h2 : H} {a : Act} {w : World} (hs : St P w0 nb n r T [] h a w) (hrel : Rel r2 h2 w) (hown : ∀ b, Own r2 h2 b → Own r h b ∨ w0.heap.size ≤ b) (hg : GRel P r2) (ht : TRel r2 T2 a.tmps) :
    St P w0 nb n r2 T2 [] h2 a w := by
  have hdef : a.defers = [] := by
    have := hs.ds
    cases hq : a.defers with
    | nil => rfl
    | cons _ _ => rw [hq] at this; cases this
  refine ⟨hrel, hg, ⟨hs.base.same, fun b ho => (hown b ho).elim (hs.base.own b) id, hs.base.size⟩, ht, ?_, ?_, hs.sz⟩
  · rw [hdef]; exact .nil
  · rw [hdef]; exact ⟨hs.mks.1, trivial⟩

theorem step_turn {r0 r r2 : Emb} {h0 h h2 : H} {W w : World} (st : Step r0 h0 W r h w) (hrel : Rel r2 h2 w) (hle : r0.le r2) (hown : ∀ b, Own r2 h2 b → Own r h b ∨ W.heap.size ≤ b) (hheld : ∀ b, Held r2 h2 b → Held r h b ∨ Held r0 h0 b ∨ W.heap.size ≤ b) :
    Step r0 h0 W r2 h2 w :=
  ⟨hle, hrel, st.size, st.keep, fun b hb ho => (hown b ho).elim (st.own b hb) (fun q => absurd hb (by omega)), fun b hb hh => (hheld b hh).elim (st.held b hb) (fun q => q.elim id (fun q => absurd hb (by omega))), st.os, st.out, st.tape⟩

/-- What is written down is so; where its labels lie. -/
theorem snap_sound3 {w0 : World} {nb n mask lo : Nat} {f' : Fr} {h h' : H} {S : Snap} (hb : snaple lo f' h' S = true) {r r' : Emb} {a : Act} {w w' : World} (hlo : h.next ≤ lo) (hrel : Rel r h w) (hg : GRel P r) (hbase : Base w0 r h w)
    (hd : Dim mask f') (hs : St P w0 nb n r' (fget f') [] h' a w') (st : Step r h w r' h' w') : Dim mask S.f ∧ ∃ r2, St P w0 nb n r2 (fget S.f) [] S.h a w' ∧ Step r h w r2 S.h w' ∧ (∀ id, id < lo → r2 id = r' id) ∧ (∀ id old e, (id, old, e) ∈ S.ents → r2 id = r' old ∧ Live h' old ∧ (ownB e.blk = true → ownB (h'.mem.blk old) = true)) := by
  unfold snaple at hb
  generalize hsg : sOf lo S.nxt (ntOf lo S.ents n4) = s at hb
  unfold snapleS at hb
  simp only [hsg, Bool.and_eq_true] at hb
  obtain ⟨b1, b2, b3, b4⟩ := hb
  have b1' := Nat.le_of_ble_eq_true b1
  have slow : ∀ id, id < lo → s id = some id := fun id hi => by
    rw [← hsg]
    unfold sOf
    have : Nat.blt id lo = true := by rw [Nat.blt_eq]; exact hi
    rw [this]; rfl
  have shigh : ∀ id, S.nxt ≤ id → s id = none := fun id hi => by
    rw [← hsg]
    unfold sOf
    have e1 : Nat.blt id lo = false := by rw [← Bool.not_eq_true, Nat.blt_eq]; omega
    have e2 : Nat.blt id S.nxt = false := by rw [← Bool.not_eq_true, Nat.blt_eq]; omega
    rw [e1, e2]; rfl
  have hle : r.le (ren s r') := fun id x e => by
    have hlt : id < lo := Nat.lt_of_lt_of_le (hrel.lt_next e) hlo
    show (s id).bind r' = some x
    rw [slow id hlt]
    exact st.le _ _ e
  have slots : ∀ t, vle s 4 (fget S.f t) (fget f' t) = true := frOf_le S.slots fr0 (fun t => by rw [fr0_any]; rfl) b4
  have live : ∀ id, Live S.h id → ∃ old e, (id, old, e) ∈ S.ents ∧ S.h.mem.blk id = e.blk ∧ ren s r' id = r' old ∧ entle s e (h'.mem.blk old) = true ∧ Live h' old := fun id hl => by
    obtain ⟨old, e, q1, q2⟩ := hOf_live b2 hl.1 hl.2
    obtain ⟨q3, q4⟩ := entsle_mem b3 q1
    obtain ⟨_, _, _, q5⟩ := rises_mem b2 q1
    refine ⟨old, e, q1, q2, ?_, q4, q5, (entle_live q4).1⟩
    unfold mapId at q3
    split at q3
    · rename_i c hc
      have := Nat.eq_of_beq_eq_true q3
      subst this
      show (s id).bind r' = r' c
      rw [hc]; rfl
    · cases q3
  have hrel2 : Rel (ren s r') S.h w' := by
    refine ⟨fun id hi hl => ?_, fun id id' b sh m sh' m' hl hl' ho e1 e2 => ?_, fun id hi => ?_⟩
    · obtain ⟨old, e, q1, q2, q3, q4, q5⟩ := live id ⟨hi, hl⟩
      obtain ⟨b, sh, m, g1, g2⟩ := hs.rel.fit old q5.1 q5.2
      exact ⟨b, sh, m, by rw [q3]; exact g1, by rw [q2]; exact entle_fit q4 g2⟩
    · obtain ⟨old, e, q1, q2, q3, q4, q5⟩ := live id hl
      obtain ⟨old', e', q1', q2', q3', q4', q5'⟩ := live id' hl'
      rw [q2, q2'] at ho
      rw [q3] at e1
      rw [q3'] at e2
      have := hs.rel.inj old old' b sh m sh' m' q5 q5' (ho.imp (entle_live q4).2 (entle_live q4').2) e1 e2
      subst this
      exact rises_inj b2 q1 q1'
    · show (s id).bind r' = none
      rw [shigh id hi]; rfl
  have st2 : Step r h w (ren s r') S.h w' := by
    refine ⟨hle, hrel2, st.size, st.keep, fun b hlt ho => ?_, fun b hlt hh => ?_, st.os, st.out, st.tape⟩
    · obtain ⟨id, sh, m, hi, hb', e1⟩ := ho
      obtain ⟨old, e, q1, q2, q3, q4, q5⟩ := live id ⟨hi, live_of_own hb'⟩
      rw [q2] at hb'
      exact st.own b hlt ⟨old, sh, m, q5.1, (entle_live q4).2 hb', by rw [← q3]; exact e1⟩
    · obtain ⟨id, sh, m, hl, e1⟩ := hh
      obtain ⟨old, e, q1, q2, q3, q4, q5⟩ := live id hl
      exact st.held b hlt ⟨old, sh, m, q5, by rw [← q3]; exact e1⟩
  have hdef : a.defers = [] := by
    have := hs.ds
    cases hq : a.defers with
    | nil => rfl
    | cons _ _ => rw [hq] at this; cases this
  refine ⟨fun t ht => ?_, ren s r', ⟨hrel2, GRel.up hle hg, hbase.step st2, fun t => vle_rel s r' 4 _ _ _ (slots t) (hs.tm t), ?_, ?_, hs.sz⟩, st2, fun id hi => ?_, fun id old e hl => ?_⟩
  · have h1 := slots t
    rw [hd t ht] at h1
    generalize fget S.f t = v at h1
    cases v <;> first | rfl | (simp [vle, unkle] at h1; done)
  · rw [hdef]; exact .nil
  · rw [hdef]; exact ⟨hs.mks.1, trivial⟩
  · show (s id).bind r' = r' id
    rw [slow id hi]; rfl
  · have q3 := entsle_mem b3 hl
    have q5 := rises_mem b2 hl
    have hm := q3.1
    unfold mapId at hm
    split at hm
    · rename_i c hc
      have := Nat.eq_of_beq_eq_true hm
      subst this
      refine ⟨?_, ⟨q5.2.2.2, (entle_live q3.2).1⟩, (entle_live q3.2).2⟩
      show (s id).bind r' = r' c
      rw [hc]; rfl
    · cases hm

/-! Slots. -/
theorem frOf_rel {r : Emb} {tmps : Array Value} : ∀ (l : List (Nat × V)) (f : Fr), TRel r (fget f) tmps → (∀ t v, (t, v) ∈ l → t < 4096 ∧ VRel r v (tmps.getD t undef)) → TRel r (fget (frOf l f)) tmps
  | [], f, hf, _ => hf
  | (t, v) :: l, f, hf, hl => by
    refine frOf_rel l (fset f t v) (fun u => ?_) (fun t' v' h => hl t' v' (.tail _ h))
    obtain ⟨h1, h2⟩ := hl t v (.head _)
    rw [fget_fset _ _ _ _ h1]
    by_cases e : u = t
    · rw [if_pos e, e]; exact h2
    · rw [if_neg e]; exact hf u
theorem slots_rel {r : Emb} {tmps : Array Value} {l : List (Nat × V)} (hl : ∀ t v, (t, v) ∈ l → t < 4096 ∧ VRel r v (tmps.getD t undef)) : TRel r (fget (frOf l fr0)) tmps :=
  frOf_rel l fr0 (fun t => by rw [fr0_any]; exact .any _) hl
theorem frOf_get : ∀ (l : List (Nat × V)) (f : Fr) (t : Nat), (∀ u v, (u, v) ∈ l → u ≠ t) → fget (frOf l f) t = fget f t
  | [], f, t, _ => rfl
  | (u, v) :: l, f, t, h => by
    rw [frOf, frOf_get l (fset f u v) t (fun u' v' h' => h u' v' (.tail _ h'))]
    by_cases hu : u < 4096
    · rw [fget_fset _ _ _ _ hu, if_neg (fun e => h u v (.head _) e.symm)]
    · have : Nat.blt u 4096 = false := by rw [← Bool.not_eq_true, Nat.blt_eq]; exact hu
      unfold fset
      rw [this]
      rfl
theorem frOf_dim {mask : Nat} {l : List (Nat × V)} (hl : ∀ t v, (t, v) ∈ l → kept mask t = true) : Dim mask (frOf l fr0) := fun t ht => by
  rw [frOf_get l fr0 t (fun u v h e => by
    have := hl u v h
    rw [e, ht] at this
    cases this), fr0_any]

/-- A loop's body, from a state that is written down to one that is. -/
def bodyB (lo : Nat) (body : Fr → Ds → H → RC) (S S' : Snap) : Bool :=
  match body S.f [] S.h with
  | .ok .norm f d h => (match d with | [] => snaple lo f h S' | _ => false)
  | _ => false
theorem body_sound {ro : Option Nat} {W : World} {nb n mask lo K : Nat} {c : Code} {body : Fr → Ds → H → RC} {Q : Exit → Act → World → Prop}
    (hbody : ∀ (f f' : Fr) (d d' : Ds) (h h' : H) (x : X) (r : Emb) (a : Act) (w : World), Dim mask f → St P W nb n r (fget f) d h a w → body f d h = .ok x f' d' h' → c.wpIn (wideR ro) 0 P (Post P W nb n mask r h w x f' d' h') a w)
    {S S' : Snap} (hb : bodyB lo body S S' = true) {r0 r : Emb} {h0 : H} {a : Act} {w : World} (hlo : h0.next ≤ lo) (hrel : Rel r0 h0 W) (hg : GRel P r0) (hbase : Base W r0 h0 W) (hd : Dim mask S.f) (hs : St P W nb n r (fget S.f) [] S.h a w) (st : Step r0 h0 W r S.h w)
    (hq : ∀ (r1 r2 : Emb) (h1 : H) (a' : Act) (w' : World), Step r S.h w r1 h1 w' → Dim mask S'.f → St P W nb n r2 (fget S'.f) [] S'.h a' w' → Step r0 h0 W r2 S'.h w' → (∀ id, id < lo → r2 id = r1 id) →
      (∀ id old e, (id, old, e) ∈ S'.ents → r2 id = r1 old ∧ Live h1 old ∧ (ownB e.blk = true → ownB (h1.mem.blk old) = true)) → Code.roundsIn (wideR ro) 0 P c Q K a' w') :
    Code.roundsIn (wideR ro) 0 P c Q (K + 1) a w := by
  unfold bodyB at hb
  split at hb
  · rename_i f d h1 he
    split at hb
    · rw [roundsIn_succ]
      refine wpIn_mono (hbody S.f f [] [] S.h h1 .norm r a w hd hs he) ?_
      rintro e a1 w1 ⟨hx, hd1, r1, hs1, st1⟩
      have e1 : e = .normal := hx
      subst e1
      obtain ⟨g1, r2, g2, g3, g4, g5⟩ := snap_sound3 hb hlo hrel hg hbase hd1 hs1 (st.trans st1)
      exact hq r1 r2 h1 a1 w1 st1 g1 g2 g3 g4 g5
    · cases hb
  · cases hb

/-! Names given anew: the labels 10 to 19. -/
def isNm (id : Nat) : Bool := Nat.ble 10 id && Nat.blt id 20
def reNm (nm : Nat → Option (Nat × Nat × Nat)) (r : Emb) : Emb := fun id => bif isNm id then nm id else r id
def s0 (id : Nat) : Option Nat := bif isNm id then none else some id
theorem s0_le (nm : Nat → Option (Nat × Nat × Nat)) (r : Emb) : (ren s0 r).le (reNm nm r) := fun id x h => by
  have h' : (s0 id).bind r = some x := h
  unfold s0 at h'
  unfold reNm
  cases hb : isNm id
  · rw [hb] at h'
    exact h'
  · rw [hb] at h'
    cases h'
theorem reNm_old {nm : Nat → Option (Nat × Nat × Nat)} {r : Emb} {id : Nat} (h : isNm id = false) : reNm nm r id = r id := by
  unfold reNm
  rw [h]
  rfl
theorem reNm_new {nm : Nat → Option (Nat × Nat × Nat)} {r : Emb} {id : Nat} (h : isNm id = true) : reNm nm r id = nm id := by
  unfold reNm
  rw [h]
  rfl
theorem fit_free {nm : Nat → Option (Nat × Nat × Nat)} {r : Emb} {e : Ent} {b sh m : Nat} {w : World} (hb : entle s0 e e.blk = true) (h : FitB r e.blk b sh m w) : FitB (reNm nm r) e.blk b sh m w :=
  (entle_fit hb h).keep (s0_le nm r) rfl

/-! Cells said otherwise. -/
def VI (r r2 : Emb) (vs us : List V) : Prop := ∀ (k : Nat) (u : V), us[k]? = some u → ∃ v, vs[k]? = some v ∧ ∀ x, VRel r v x → VRel r2 u x
theorem VI.nil {r r2 : Emb} {vs : List V} : VI r r2 vs [] := fun k u h => by simp at h
theorem VI.cons {r r2 : Emb} {v u : V} {vs us : List V} (h : ∀ x, VRel r v x → VRel r2 u x) (hs : VI r r2 vs us) : VI r r2 (v :: vs) (u :: us) := fun k u' hk => by
  cases k with
  | zero =>
    simp only [List.getElem?_cons_zero, Option.some.injEq] at hk
    subst hk
    exact ⟨v, rfl, h⟩
  | succ k => exact hs k u' (by simpa using hk)
theorem VI.free {nm : Nat → Option (Nat × Nat × Nat)} {r : Emb} : ∀ {vs : List V} {us vs' : List V}, vles (vle s0 4) vs vs = true → VI r (reNm nm r) vs' us → VI r (reNm nm r) (vs ++ vs') (vs ++ us)
  | [], _, _, _, h => h
  | v :: vs, us, vs', hb, h => by
    simp only [vles, Bool.and_eq_true] at hb
    exact VI.cons (fun x hx => (vle_rel s0 r 4 v v x hb.1 hx).up (s0_le nm r)) (VI.free hb.2 h)
theorem fit_turn {r r2 : Emb} {t : TypeId} {ro ro2 pl pl2 : Bool} {vs us : List V} {b sh m : Nat} {w : World} (h : FitB r (Ent.c t ro pl vs).blk b sh m w) (hro : ro2 = false → ro = false) (hpl : pl2 = true → pl = true) (hv : VI r r2 vs us)
    (hlen : vs.length ≤ 4096) (hex : ro2 = false → t = bldT → us.length = vs.length) : FitB r2 (Ent.c t ro2 pl2 us).blk b sh m w := by
  have hl : us.length ≤ vs.length := by
    by_cases h0 : us = []
    · rw [h0]; simp
    · have hp : us.length - 1 < us.length := by
        have := List.length_pos_iff.2 h0
        omega
      obtain ⟨v, h1, _⟩ := hv (us.length - 1) _ (List.getElem?_eq_getElem hp)
      have := (List.getElem?_eq_some_iff.1 h1).1
      omega
  obtain ⟨⟨cs, fz, ⟨ty, q1, q2⟩, q3, q4, q5, q6⟩, q7, q8, q9⟩ := h
  refine ⟨⟨cs, fz, ⟨ty, q1, fun e => q2 (hro e)⟩, q3, fun e => q4 (hro e), fun e => q5 (hpl e), fun o ho => ?_⟩, by omega, cellsOf_room us (by omega), fun e e2 => ?_⟩
  · obtain ⟨v, h1, h2⟩ := hv o _ (List.getElem?_eq_getElem ho)
    have hov : o < vs.length := (List.getElem?_eq_some_iff.1 h1).1
    obtain ⟨x, g1, g2⟩ := q6 o hov
    refine ⟨x, g1, ?_⟩
    rw [cellsOf_get us (by omega) o ho]
    rw [cellsOf_get vs hlen o hov] at g2
    rw [List.getElem?_eq_getElem hov] at h1
    cases h1
    exact h2 x g2
  · obtain ⟨k1, k2⟩ := q9 (hro e) e2
    exact ⟨k1, (hex e e2).trans k2⟩
/-- Cells behind those that are known. -/
theorem fit_more {r : Emb} {t : TypeId} {ro pl : Bool} {vs us : List V} {b sh m : Nat} {w : World} (h : FitB r (Ent.c t ro pl vs).blk b sh m w) (hu : ∀ u ∈ us, u = .any) (hm : vs.length + us.length + sh ≤ m) (hl : vs.length + us.length ≤ 4096) (hne : t ≠ bldT) :
    FitB r (Ent.c t ro pl (vs ++ us)).blk b sh m w := by
  obtain ⟨⟨cs, fz, q1, q3, q4, q5, q6⟩, q7, q8, q9⟩ := h
  have hlen : (vs ++ us).length = vs.length + us.length := List.length_append
  refine ⟨⟨cs, fz, q1, q3, q4, q5, fun o ho => ?_⟩, by rw [hlen]; exact hm, cellsOf_room _ (by rw [hlen]; exact hl), fun _ e => (hne e).elim⟩
  rw [hlen] at ho
  rw [cellsOf_get (vs ++ us) (by rw [hlen]; exact hl) o (by rw [hlen]; exact ho)]
  by_cases hov : o < vs.length
  · obtain ⟨x, g1, g2⟩ := q6 o hov
    rw [cellsOf_get vs (by omega) o hov] at g2
    refine ⟨x, g1, ?_⟩
    rw [List.getElem_append_left hov]
    exact g2
  · have hs : o + sh < cs.size := by omega
    refine ⟨cs[o + sh], Array.getElem?_eq_getElem hs, ?_⟩
    rw [List.getElem_append_right (by omega)]
    rw [hu _ (List.getElem_mem _)]
    exact .any _

end Go.Ev

namespace Go.Proofs.YtllgeddjlodliaaGreatDoor.Lv
open Go.Ev

theorem mem_rowsOf {old : Nat → Nat} : ∀ {l : List (Nat × Ent)} {k o : Nat} {e : Ent}, (k, o, e) ∈ rowsOf old l ↔ o = old k ∧ (k, e) ∈ l
  | [], k, o, e => by simp [rowsOf]
  | (k', e') :: l, k, o, e => by
    simp only [rowsOf, List.mem_cons, Prod.mk.injEq, mem_rowsOf (l := l)]
    constructor
    · rintro (⟨rfl, rfl, rfl⟩ | ⟨h1, h2⟩)
      · exact ⟨rfl, .inl ⟨rfl, rfl⟩⟩
      · exact ⟨h1, .inr h2⟩
    · rintro ⟨rfl, ⟨rfl, rfl⟩ | h⟩
      · exact .inl ⟨rfl, rfl, rfl⟩
      · exact .inr ⟨rfl, h⟩
theorem mem_ins {k : Nat} {x : Ent} : ∀ {l : Rws} {a o : Nat} {e : Ent}, (a, o, e) ∈ ins k x l → (a, o, e) = (k, k, x) ∨ (a, o, e) ∈ l
  | [], a, o, e, h => by simpa [ins] using h
  | (a', o', x') :: l, a, o, e, h => by
    unfold ins at h
    cases hb : Nat.blt k a'
    · rw [hb] at h
      simp only [cond_false, List.mem_cons] at h
      rcases h with h | h
      · exact .inr (by rw [h]; exact .head _)
      · rcases mem_ins h with q | q
        · exact .inl q
        · exact .inr (.tail _ q)
    · rw [hb] at h
      simp only [cond_true, List.mem_cons] at h
      rcases h with h | h | h
      · exact .inl h
      · exact .inr (by rw [h]; exact .head _)
      · exact .inr (.tail _ h)

/-- What differs from state to state. -/
structure Sp where
  ar : Ent
  m : Ent
  e : Ent
  a : Ent
  w : Ent
  c : Ent
def Sp.b (S : Sp) : List (Nat × Ent) := base S.ar S.m S.e S.a S.w S.c
def Sp.l (S : Sp) (old : Nat → Nat) : Rws := rowsOf old S.b
def segs : List (Nat × Ent) := seg0 ++ (seg1 ++ (seg2 ++ (seg3 ++ (seg4 ++ seg5))))
theorem mem_base {S : Sp} {k : Nat} {e : Ent} (h : (k, e) ∈ S.b) : (k, e) ∈ segs ∨ (k = 20 ∧ e = S.ar) ∨ (k = 22 ∧ e = S.m) ∨ (k = 130 ∧ e = S.e) ∨ (k = 132 ∧ e = S.a) ∨ (k = 136 ∧ e = S.w) ∨ (k = 137 ∧ e = S.c) := by
  simp only [Sp.b, base, segs, List.mem_append, List.mem_cons, Prod.mk.injEq] at h ⊢
  rcases h with h | h | h | h | h | h | h | h | h | h | h | h <;> simp [h]
theorem in_segs {S : Sp} {k : Nat} {e : Ent} (h : (k, e) ∈ segs) : (k, e) ∈ S.b := by
  simp only [Sp.b, base, segs, List.mem_append, List.mem_cons] at h ⊢
  rcases h with h | h | h | h | h | h <;> simp [h]
theorem in_sp (S : Sp) : (20, S.ar) ∈ S.b ∧ (22, S.m) ∈ S.b ∧ (130, S.e) ∈ S.b ∧ (132, S.a) ∈ S.b ∧ (136, S.w) ∈ S.b ∧ (137, S.c) ∈ S.b := by
  simp only [Sp.b, base, List.mem_append, List.mem_cons, true_or, or_true, and_self]
set_option maxRecDepth 100000 in
theorem segs_all : (segs.all fun p => !(isNm p.1) && entle s0 p.2 p.2.blk) = true := by decide +kernel
theorem segs_free {k : Nat} {e : Ent} (h : (k, e) ∈ segs) : isNm k = false ∧ entle s0 e e.blk = true := by
  have := List.all_eq_true.1 segs_all (k, e) h
  simpa using this

theorem segs_not {e : Ent} (h : (130, e) ∈ segs) : False := by
  have h1 : (segs.all fun p => !(Nat.beq p.1 130)) = true := by decide +kernel
  have := List.all_eq_true.1 h1 _ h
  simp at this
/-- A row said otherwise. -/
def Tn (nm : Nat → Option (Nat × Nat × Nat)) (r : Emb) (w : World) (id : Nat) (e e2 : Ent) : Prop :=
  (ownB e2.blk = true → ownB e.blk = true) ∧ ∀ b sh m, r id = some (b, sh, m) → FitB r e.blk b sh m w → FitB (reNm nm r) e2.blk b sh m w
structure Turns (nm : Nat → Option (Nat × Nat × Nat)) (r : Emb) (w : World) (S S2 : Sp) : Prop where
  t20 : Tn nm r w 20 S.ar S2.ar
  t22 : Tn nm r w 22 S.m S2.m
  t130 : Tn nm r w 130 S.e S2.e
  t132 : Tn nm r w 132 S.a S2.a
  t136 : Tn nm r w 136 S.w S2.w
  t137 : Tn nm r w 137 S.c S2.c

theorem turn_row {nm : Nat → Option (Nat × Nat × Nat)} {r : Emb} {w : World} {S S2 : Sp} {old old2 : Nat → Nat} (ht : Turns nm r w S S2) {id o : Nat} {e : Ent} (hm : (id, o, e) ∈ S2.l old2) :
    ∃ old' e', (id, old', e') ∈ S.l old ∧ reNm nm r id = r id ∧ (ownB e.blk = true → ownB e'.blk = true) ∧ ∀ b sh m, r id = some (b, sh, m) → FitB r e'.blk b sh m w → FitB (reNm nm r) e.blk b sh m w := by
  have hb := (mem_rowsOf.1 hm).2
  obtain ⟨i1, i2, i3, i4, i5, i6⟩ := in_sp S
  have go : ∀ (k : Nat) (e e2 : Ent), isNm k = false → (k, e) ∈ S.b → Tn nm r w k e e2 → ∃ old' e', (k, old', e') ∈ S.l old ∧ reNm nm r k = r k ∧ (ownB e2.blk = true → ownB e'.blk = true) ∧ ∀ b sh m, r k = some (b, sh, m) → FitB r e'.blk b sh m w → FitB (reNm nm r) e2.blk b sh m w :=
    fun k e e2 h1 h2 h3 => ⟨old k, e, mem_rowsOf.2 ⟨rfl, h2⟩, reNm_old h1, h3.1, h3.2⟩
  rcases mem_base hb with h | ⟨rfl, rfl⟩ | ⟨rfl, rfl⟩ | ⟨rfl, rfl⟩ | ⟨rfl, rfl⟩ | ⟨rfl, rfl⟩ | ⟨rfl, rfl⟩
  · obtain ⟨h1, h2⟩ := segs_free h
    exact ⟨old id, e, mem_rowsOf.2 ⟨rfl, in_segs h⟩, reNm_old h1, fun h => h, fun b sh m _ hf => fit_free h2 hf⟩
  · exact go 20 _ _ rfl i1 ht.t20
  · exact go 22 _ _ rfl i2 ht.t22
  · exact go 130 _ _ rfl i3 ht.t130
  · exact go 132 _ _ rfl i4 ht.t132
  · exact go 136 _ _ rfl i5 ht.t136
  · exact go 137 _ _ rfl i6 ht.t137
theorem reNm_high {nm : Nat → Option (Nat × Nat × Nat)} {r : Emb} {h : H} {w : World} (hr : Rel r h w) (hn : h.next ≤ 140) {id : Nat} (hi : 140 ≤ id) : reNm nm r id = none := by
  rw [reNm_old (by
    unfold isNm
    have : Nat.blt id 20 = false := by rw [← Bool.not_eq_true, Nat.blt_eq]; omega
    rw [this]; simp)]
  exact hr.new id (by omega)
theorem sp_turn {nm : Nat → Option (Nat × Nat × Nat)} {r : Emb} {w : World} {S S2 : Sp} {old old2 : Nat → Nat} (h : Rel r (hOf 140 (S.l old)) w) (hl : rises 0 0 (S.l old) = true) (hl2 : rises 0 0 (S2.l old2) = true) (ht : Turns nm r w S S2) :
    Rel (reNm nm r) (hOf 140 (S2.l old2)) w ∧ (∀ b, Own (reNm nm r) (hOf 140 (S2.l old2)) b → Own r (hOf 140 (S.l old)) b ∨ False) ∧ ∀ b, Held (reNm nm r) (hOf 140 (S2.l old2)) b → Held r (hOf 140 (S.l old)) b ∨ False :=
  rel_turn (B := fun _ => False) (C := fun _ => False) h hl hl2 (fun _ _ _ hm => .inl (turn_row ht hm)) (fun _ hi => reNm_high h (Nat.le_refl _) hi)
/-- The same, with the list's element ahead. -/
theorem sp_turn12 {nm : Nat → Option (Nat × Nat × Nat)} {r : Emb} {w : World} {S S2 : Sp} {old old2 : Nat → Nat} (h : Rel r (hOf 140 (S.l old)) w) (hl : rises 0 0 (S.l old) = true) {x : Ent} (hl2 : rises 0 0 (ins 12 x (S2.l old2)) = true) (ht : Turns nm r w S S2)
    (hx : ownB x.blk = false) {b sh m : Nat} (hn : nm 12 = some (b, sh, m)) (hf : FitB (reNm nm r) x.blk b sh m w) (ho : ¬ Own r (hOf 140 (S.l old)) b) :
    Rel (reNm nm r) (hOf 140 (ins 12 x (S2.l old2))) w ∧ (∀ b, Own (reNm nm r) (hOf 140 (ins 12 x (S2.l old2))) b → Own r (hOf 140 (S.l old)) b ∨ False) ∧
      ∀ b', Held (reNm nm r) (hOf 140 (ins 12 x (S2.l old2))) b' → Held r (hOf 140 (S.l old)) b' ∨ b' = b :=
  rel_turn (B := fun _ => False) (C := fun b' => b' = b) h hl hl2 (fun _ _ _ hm => by
    rcases mem_ins hm with q | q
    · simp only [Prod.mk.injEq] at q
      obtain ⟨rfl, rfl, rfl⟩ := q
      exact .inr (.inl ⟨hx, b, sh, m, by rw [reNm_new rfl]; exact hn, hf, ho, rfl⟩)
    · exact .inl (turn_row ht q)) (fun _ hi => reNm_high h (Nat.le_refl _) hi)

/-- The same, where the elements' row is written again. -/
theorem sp_turnE {nm : Nat → Option (Nat × Nat × Nat)} {r : Emb} {w : World} {S S2 : Sp} {old old2 : Nat → Nat} (h : Rel r (hOf 140 (S.l old)) w) (hl : rises 0 0 (S.l old) = true) (hl2 : rises 0 0 (S2.l old2) = true)
    (h20 : Tn nm r w 20 S.ar S2.ar) (h22 : Tn nm r w 22 S.m S2.m) (h132 : Tn nm r w 132 S.a S2.a) (h136 : Tn nm r w 136 S.w S2.w) (h137 : Tn nm r w 137 S.c S2.c)
    {b sh m : Nat} (hr : r 130 = some (b, sh, m)) (hf : FitB (reNm nm r) S2.e.blk b sh m w) (ho : ¬ Own r (hOf 140 (S.l old)) b)
    (hne : ∀ id o e, (id, o, e) ∈ S.l old → id ≠ 130 → ∀ sh' m', r id ≠ some (b, sh', m')) :
    Rel (reNm nm r) (hOf 140 (S2.l old2)) w ∧ (∀ b', Own (reNm nm r) (hOf 140 (S2.l old2)) b' → Own r (hOf 140 (S.l old)) b' ∨ b' = b) ∧ ∀ b', Held (reNm nm r) (hOf 140 (S2.l old2)) b' → Held r (hOf 140 (S.l old)) b' ∨ b' = b := by
  have row : ∀ id o e, (id, o, e) ∈ S2.l old2 → id ≠ 130 → ∃ old' e', (id, old', e') ∈ S.l old ∧ reNm nm r id = r id ∧ (ownB e.blk = true → ownB e'.blk = true) ∧ ∀ b sh m, r id = some (b, sh, m) → FitB r e'.blk b sh m w → FitB (reNm nm r) e.blk b sh m w := by
    intro id o e hm hid
    have hm' : (id, old2 id, e) ∈ (Sp.mk S2.ar S2.m S.e S2.a S2.w S2.c).l old2 := by
      have hb := (mem_rowsOf.1 hm).2
      refine mem_rowsOf.2 ⟨rfl, ?_⟩
      obtain ⟨i1, i2, i3, i4, i5, i6⟩ := in_sp (Sp.mk S2.ar S2.m S.e S2.a S2.w S2.c)
      rcases mem_base hb with q | ⟨rfl, rfl⟩ | ⟨rfl, rfl⟩ | ⟨rfl, rfl⟩ | ⟨rfl, rfl⟩ | ⟨rfl, rfl⟩ | ⟨rfl, rfl⟩
      · exact in_segs q
      · exact i1
      · exact i2
      · exact (hid rfl).elim
      · exact i4
      · exact i5
      · exact i6
    -- the elements' own row plays no part
    have hb := (mem_rowsOf.1 hm).2
    obtain ⟨i1, i2, i3, i4, i5, i6⟩ := in_sp S
    have go : ∀ (k : Nat) (e e2 : Ent), isNm k = false → (k, e) ∈ S.b → Tn nm r w k e e2 → ∃ old' e', (k, old', e') ∈ S.l old ∧ reNm nm r k = r k ∧ (ownB e2.blk = true → ownB e'.blk = true) ∧ ∀ b sh m, r k = some (b, sh, m) → FitB r e'.blk b sh m w → FitB (reNm nm r) e2.blk b sh m w :=
      fun k e e2 h1 h2 h3 => ⟨old k, e, mem_rowsOf.2 ⟨rfl, h2⟩, reNm_old h1, h3.1, h3.2⟩
    rcases mem_base hb with q | ⟨rfl, rfl⟩ | ⟨rfl, rfl⟩ | ⟨rfl, rfl⟩ | ⟨rfl, rfl⟩ | ⟨rfl, rfl⟩ | ⟨rfl, rfl⟩
    · obtain ⟨h1, h2⟩ := segs_free q
      exact ⟨old id, e, mem_rowsOf.2 ⟨rfl, in_segs q⟩, reNm_old h1, fun h => h, fun b sh m _ hf => fit_free h2 hf⟩
    · exact go 20 _ _ rfl i1 h20
    · exact go 22 _ _ rfl i2 h22
    · exact (hid rfl).elim
    · exact go 132 _ _ rfl i4 h132
    · exact go 136 _ _ rfl i5 h136
    · exact go 137 _ _ rfl i6 h137
  refine rel_turn (B := fun b' => b' = b) (C := fun b' => b' = b) h hl hl2 (fun id o e hm => ?_) (fun _ hi => reNm_high h (Nat.le_refl _) hi)
  by_cases hid : id = 130
  · subst hid
    refine .inr (.inr ⟨b, sh, m, by rw [reNm_old rfl]; exact hr, ?_, rfl, ho, rfl, fun id' o' e' hm' hne' sh' m' hq => ?_⟩)
    · have hb := (mem_rowsOf.1 hm).2
      rcases mem_base hb with q | ⟨q, _⟩ | ⟨q, _⟩ | ⟨_, rfl⟩ | ⟨q, _⟩ | ⟨q, _⟩ | ⟨q, _⟩
      · exact (segs_not q).elim
      all_goals first | exact hf | (exact absurd q (by decide))
    · obtain ⟨o2, e2, g1, g2, _⟩ := row id' o' e' hm' hne'
      rw [g2] at hq
      exact hne id' o2 e2 g1 hne' sh' m' hq
  · exact .inl (row id o e hm hid)

theorem rs_id (S : Sp) : rises 0 0 (S.l idS) = true := by kernel_rfl
theorem rs_P (S : Sp) : rises 0 0 (S.l oldP) = true := by kernel_rfl
theorem rs_L (S : Sp) : rises 0 0 (S.l oldL) = true := by kernel_rfl
theorem rs_G (S : Sp) : rises 0 0 (S.l oldG) = true := by kernel_rfl
theorem rs_D (S : Sp) : rises 0 0 (S.l oldD) = true := by kernel_rfl
theorem rs_12 (x : Ent) (S : Sp) : rises 0 0 (ins 12 x (S.l idS)) = true := by kernel_rfl

end Go.Proofs.YtllgeddjlodliaaGreatDoor.Lv

namespace Go.Proofs.YtllgeddjlodliaaGreatDoor.Lv
open Go.Ev

variable {nm : Nat → Option (Nat × Nat × Nat)} {r : Emb} {w : World}

/-! Single values. -/
theorem free {v : V} (hb : vle s0 4 v v = true) : ∀ x, VRel r v x → VRel (reNm nm r) v x := fun x hx => (vle_rel s0 r 4 v v x hb hx).up (s0_le nm r)
theorem inv_i {n : Nat} {x : Value} (h : VRel r (i n) x) : x = .int .i64 n := by
  unfold i at h
  cases h
  rfl
theorem mk_i (n : Nat) : VRel r (i n) (.int .i64 n) := .int _ _
theorem inv_s {l n c e : Nat} {x : Value} (hc : 0 < c) (h : VRel r (s l n c e) x) : ∃ b sh m cap, r l = some (b, sh, m) ∧ x = .slice (some ⟨b, sh, none⟩) n cap ∧ n ≤ c ∧ c ≤ cap ∧ sh + cap * e ≤ m := by
  unfold s at h
  cases h with
  | @slice _ _ _ _ _ b sh m cap hr h1 h2 h3 => exact ⟨b, sh, m, cap, hr, by rw [Nat.zero_add], h1, h2, by omega⟩
  | slice0 => omega
theorem mk_s {l n c e b sh m cap : Nat} (hr : r l = some (b, sh, m)) (h1 : n ≤ c) (h2 : c ≤ cap) (h3 : sh + cap * e ≤ m) : VRel r (s l n c e) (.slice (some ⟨b, sh, none⟩) n cap) := by
  have := VRel.slice (r := r) (id := l) (o := 0) (esz := e) hr h1 h2 (by omega)
  rw [Nat.zero_add] at this
  exact this
theorem sy_eq (id a b lo hi : Nat) : sy id a b lo hi = .msk 0 (4 * sPack id (1073741824 + a) (1073741824 + b) lo hi + 1) := rfl
theorem ss_eq (l e id lo hi : Nat) : ss l e id lo hi = .msk 0 (4 * (l + 65536 * (e + 16 * sPack id 1073741824 1073741824 lo hi)) + 2) := rfl
theorem snum_mk {id n lo hi : Nat} (_h0 : 0 < id) (hid : id < 65536) (hr : r id = some (n, 0, 0)) (h1 : lo ≤ n) (h2 : n ≤ hi) (h3 : lo < 4294967296) : SNum r (sPack id 1073741824 1073741824 lo hi) (n : Int) := by
  refine ⟨?_, ?_, .inr ⟨n, 0, 0, ?_, ?_, ?_⟩⟩
  · rw [sPack_lo hid (by omega) (by omega) h3]; omega
  · rw [sPack_hi hid (by omega) (by omega) h3]; omega
  · rw [sPack_id hid]; exact hr
  · rw [sPack_c hid (by omega)]; omega
  · rw [sPack_d hid (by omega) (by omega)]; omega
theorem snum_inv {id n a lo hi : Nat} {z : Int} (h0 : 0 < id) (hid : id < 65536) (hr : r id = some (n, 0, 0)) (ha : a < 1073741824) (h : SNum r (sPack id (1073741824 + a) (1073741824 + a) lo hi) z) : z = (n : Int) + a := by
  obtain ⟨_, _, h3⟩ := h
  rw [sPack_id hid, sPack_c hid (by omega), sPack_d hid (by omega) (by omega)] at h3
  rcases h3 with h3 | ⟨x, y, z', g1, g2, g3⟩
  · omega
  · rw [hr] at g1
    cases g1
    omega
theorem mk_sy {id n lo hi : Nat} (h0 : 0 < id) (hid : id < 65536) (hr : r id = some (n, 0, 0)) (h1 : lo ≤ n) (h2 : n ≤ hi) (h3 : lo < 4294967296) : VRel r (sy id 0 0 lo hi) (.int .i64 n) := by
  rw [sy_eq]
  exact .sym (snum_mk h0 hid hr h1 h2 h3)
theorem inv_sy {id n a lo hi : Nat} {x : Value} (h0 : 0 < id) (hid : id < 65536) (hr : r id = some (n, 0, 0)) (ha : a < 1073741824) (h : VRel r (sy id a a lo hi) x) : x = .int .i64 ((n + a : Nat) : Int) := by
  rw [sy_eq] at h
  obtain ⟨z, rfl, hz⟩ := sym_inv h (by omega)
  rw [show (4 * sPack id (1073741824 + a) (1073741824 + a) lo hi + 1) / 4 = sPack id (1073741824 + a) (1073741824 + a) lo hi by omega] at hz
  rw [snum_inv h0 hid hr ha hz]
  rfl
theorem mk_ss {l e id n lo hi b sh m cap : Nat} (hl : l < 65536) (he : e < 16) (h0 : 0 < id) (hid : id < 65536) (hr : r id = some (n, 0, 0)) (h1 : lo ≤ n) (h2 : n ≤ hi) (h3 : lo < 4294967296) (hl' : r l = some (b, sh, m)) (hc : n ≤ cap ∧ 0 < cap) (hm : sh + cap * e ≤ m) :
    VRel r (ss l e id lo hi) (.slice (some ⟨b, sh, none⟩) n cap) := by
  rw [ss_eq]
  exact .ssl hl he hl' (snum_mk h0 hid hr h1 h2 h3) hc hm
theorem inv_ss {l e id n lo hi : Nat} {x : Value} (hl : l < 65536) (he : e < 16) (h0 : 0 < id) (hid : id < 65536) (hr : r id = some (n, 0, 0)) (h : VRel r (ss l e id lo hi) x) :
    ∃ b sh m cap, r l = some (b, sh, m) ∧ x = .slice (some ⟨b, sh, none⟩) n cap ∧ (n ≤ cap ∧ 0 < cap) ∧ sh + cap * e ≤ m := by
  rw [ss_eq] at h
  obtain ⟨b, o, z, cap, m, rfl, g1, g2, g3, g4⟩ := ssl_inv h (by omega)
  generalize hq : sPack id 1073741824 1073741824 lo hi = q at *
  have e1 : (4 * (l + 65536 * (e + 16 * q)) + 2) / 4 = l + 65536 * (e + 16 * q) := by omega
  rw [e1] at g1 g2 g4
  rw [show (l + 65536 * (e + 16 * q)) % 65536 = l by omega] at g1
  rw [show (l + 65536 * (e + 16 * q)) / 65536 / 16 = q by omega] at g2
  rw [show (l + 65536 * (e + 16 * q)) / 65536 % 16 = e by omega] at g4
  rw [← hq] at g2
  have hz := snum_inv (a := 0) h0 hid hr (by omega) g2
  have hz' : z = n := by omega
  subst hz'
  exact ⟨b, o, m, cap, g1, rfl, g3, g4⟩

/-! Rows. -/
theorem tn_c {id t : Nat} {vs us : List V} (hv : VI r (reNm nm r) vs us) (hlen : vs.length ≤ 4096) (hul : us.length = vs.length) : Tn nm r w id (c t vs) (c t us) :=
  ⟨fun h => h, fun _ _ _ _ hf => fit_turn hf (fun h => h) (fun h => h) hv hlen (fun _ _ => hul)⟩
theorem tn_free {id : Nat} {e : Ent} (hb : entle s0 e e.blk = true) : Tn nm r w id e e := ⟨fun h => h, fun _ _ _ _ hf => fit_free hb hf⟩

theorem vf_Z : vle s0 4 Z Z = true := rfl
theorem tn_AR {v u x y : V} (h1 : ∀ z, VRel r v z → VRel (reNm nm r) u z) (h2 : ∀ z, VRel r x z → VRel (reNm nm r) y z) : Tn nm r w 20 (eAR v x) (eAR u y) :=
  tn_c (.cons h1 (.cons (free rfl) (.cons (free (by decide +kernel)) (.cons h2 .nil)))) (Nat.le_of_ble_eq_true rfl) rfl
theorem len_m1 : m1.length = 35 := rfl
theorem len_m2 : m2.length = 7 := rfl
theorem tn_M {v u : V} (h : ∀ z, VRel r v z → VRel (reNm nm r) u z) : Tn nm r w 22 (eM v) (eM u) :=
  tn_c (VI.free (by decide +kernel) (.cons h (by
    have := VI.free (nm := nm) (r := r) (vs := m2) (us := []) (vs' := []) (by decide +kernel) .nil
    simpa using this))) (Nat.le_of_ble_eq_true rfl) rfl
theorem tn_A {v u : V} (h : ∀ z, VRel r v z → VRel (reNm nm r) u z) : Tn nm r w 132 (eA v) (eA u) :=
  tn_c (VI.free (by decide +kernel) (.cons h (by
    have := VI.free (nm := nm) (r := r) (vs := a2) (us := []) (vs' := []) (by decide +kernel) .nil
    simpa using this))) (Nat.le_of_ble_eq_true rfl) rfl
theorem tn_W {d : Bool} {v u : V} (h : ∀ z, VRel r v z → VRel (reNm nm r) u z) : Tn nm r w 136 (eW (wsV d) v) (eW (wsV d) u) :=
  tn_c (VI.free (by decide +kernel) (.cons (free (by cases d <;> decide +kernel)) (VI.free (by decide +kernel) (.cons h (.cons (free rfl) .nil))))) (Nat.le_of_ble_eq_true rfl) rfl
theorem elL_len : ∀ n, (elL n).length = 3 * n
  | 0 => rfl
  | n + 1 => by rw [elL, List.length_cons, List.length_cons, List.length_cons, elL_len n]; omega
theorem elL_free : ∀ n, VI r (reNm nm r) (elL n) (elL n)
  | 0 => .nil
  | n + 1 => .cons (free rfl) (.cons (free (by decide +kernel)) (.cons (free rfl) (elL_free n)))
theorem tn_E {n : Nat} (hn : n ≤ 1000) : Tn nm r w 130 (eE n) (eE n) := tn_c (elL_free n) (by rw [elL_len]; omega) rfl
theorem tn_EZ {n : Nat} (hn : n ≤ 1000) : Tn nm r w 130 (eE n) eZ :=
  ⟨fun _ => rfl, fun b sh m _ hf => fit_turn (r := r) (ro := false) (ro2 := true) (pl2 := false) (us := []) hf (fun h => Bool.noConfusion h) (fun h => Bool.noConfusion h) .nil (by rw [elL_len]; omega) (fun h => Bool.noConfusion h)⟩
theorem anyL_len : ∀ n, (anyL n).length = n
  | 0 => rfl
  | n + 1 => by rw [anyL, List.length_cons, anyL_len n]
theorem anyL_any : ∀ n, ∀ u ∈ anyL n, u = .any
  | 0, u, h => by cases h
  | n + 1, u, h => by
    rcases List.mem_cons.1 h with h | h
    · exact h
    · exact anyL_any n u h
theorem vi_any {vs : List V} : ∀ {n : Nat}, n ≤ vs.length → VI r (reNm nm r) vs (anyL n) := fun {n} hn k u hu => by
  have hk : k < n := by
    have := (List.getElem?_eq_some_iff.1 hu).1
    rwa [anyL_len] at this
  have := anyL_any n u (List.mem_of_getElem? hu)
  subst this
  exact ⟨vs[k], List.getElem?_eq_getElem (by omega), fun x _ => .any x⟩
theorem cells0_len : cells0.length = 78 := by decide +kernel
set_option maxRecDepth 100000 in
theorem cells0_free : vles (vle s0 4) cells0 cells0 = true := by decide +kernel
theorem tn_C {n : Nat} (hn : n ≤ 1000) : Tn nm r w 137 (eC n) (eC n) :=
  tn_c (VI.free cells0_free (vi_any (by rw [anyL_len]; exact Nat.le_refl _))) (by rw [List.length_append, anyL_len, cells0_len]; show 78 + 2 * n ≤ 4096; omega) rfl
theorem tn_C0 {n : Nat} (hn : n ≤ 1000) : Tn nm r w 137 (eC n) (c 151 cells0) :=
  ⟨fun h => h, fun _ _ _ _ hf => fit_turn hf (fun h => h) (fun h => h) (by
    have := VI.free (nm := nm) (r := r) (us := []) (vs' := anyL (Nat.mul 2 n)) cells0_free .nil
    rw [List.append_nil] at this
    exact this) (by rw [List.length_append, anyL_len, cells0_len]; show 78 + 2 * n ≤ 4096; omega) (fun _ e => by cases e)⟩
/-- Back: the block has as many cells as it had. -/
theorem tn_C1 {n b sh m : Nat} (hr : r 137 = some (b, sh, m)) (hm : 78 + 2 * n + sh ≤ m) (hn : n ≤ 1000) : Tn nm r w 137 (c 151 cells0) (eC n) :=
  ⟨fun h => h, fun b' sh' m' hr' hf => by
    rw [hr] at hr'
    cases hr'
    have h1 : FitB (reNm nm r) (c 151 cells0).blk b sh m w := fit_turn hf (fun h => h) (fun h => h) (by
      have := VI.free (nm := nm) (r := r) (us := []) (vs' := []) cells0_free .nil
      rw [List.append_nil] at this
      exact this) (by rw [cells0_len]; decide) (fun _ e => by cases e)
    exact fit_more h1 (anyL_any _) (by rw [cells0_len, anyL_len]; exact hm) (by rw [cells0_len, anyL_len]; show 78 + 2 * n ≤ 4096; omega) (fun e => by cases e)⟩

end Go.Proofs.YtllgeddjlodliaaGreatDoor.Lv

namespace Go.Proofs.YtllgeddjlodliaaGreatDoor.Lv
open Go.Ev

variable {P : Program}

def spF (done : Bool) (j R L S : Nat) : Sp := ⟨eAR (s 137 (Nat.add 39 R) (Nat.add 39 R) 2) (i (Nat.add 39 R)), eM (i S), eE L, eA (s 130 L (mx L) 3), eW (wsV done) (i j), eC R⟩
def spP (done : Bool) (l cap : Nat) : Sp := ⟨eAR (ss 137 2 16 39 139) (sy 16 0 0 39 139), eM (sy 14 0 0 0 2000), eE l, eA (s 130 l cap 3), eW (wsV done) (sy 15 0 0 0 100), c 151 cells0⟩
def spN (e : Ent) (done : Bool) (R : Nat) (ev av : V) : Sp := ⟨eAR (s 137 (Nat.add 39 R) (Nat.add 39 R) 2) (i (Nat.add 39 R)), eM (sy 14 0 0 0 2000), e, eA ev, eW (wsV done) av, eC R⟩
def spX (f : Nat) (done : Bool) (l cap : Nat) : Sp := ⟨eAR (ss 137 2 16 39 139) (sy 16 0 0 39 139), eM (fuelV f), eE l, eA (s 130 l cap 3), eW (wsV done) (sy 15 0 0 0 100), c 151 cells0⟩
def spY (done : Bool) (R : Nat) (av : V) : Sp := ⟨eAR (s 137 (Nat.add 40 R) (Nat.add 40 R) 2) (i (Nat.add 40 R)), eM (fuelV 1), eZ, eA (ss 130 3 13 0 103), eW (wsV done) av, eC (Nat.succ R)⟩

theorem stF_h (done : Bool) (j a R L S k : Nat) : (stF done j a R L S k).h = hOf 140 ((spF done j R L S).l idS) := by simp only [stF, Snap.h, spF, Sp.l, Sp.b]
theorem stP_h (done : Bool) (l cap q : Nat) : (stP done l cap q).h = hOf 140 (ins 12 (.c 0 true false [.cls 4 q]) ((spP done l cap).l idS)) := by simp only [stP, Snap.h, spP, Sp.l, Sp.b]
theorem stL_h (j q : Nat) : (stL j q).h = hOf 140 (ins 12 (.c 0 true false [.cls 4 q]) ((spN (eN j) false j (ss 130 3 13 (Nat.succ j) 103) (i j)).l idS)) := by simp only [stL, Snap.h, spN, Sp.l, Sp.b]
theorem stG_h (j q : Nat) : (stG j q).h = hOf 140 (ins 12 (.c 0 true false [.cls 4 q]) ((spN eZ false j (ss 130 3 13 0 j) (i j)).l idS)) := by simp only [stG, Snap.h, spN, Sp.l, Sp.b]
theorem stD_h (R q : Nat) : (stD R q).h = hOf 140 (ins 12 (.c 0 true false [.cls 4 q]) ((spN eZ true R (ss 130 3 13 0 103) (sy 15 0 0 0 100)).l idS)) := by simp only [stD, Snap.h, spN, Sp.l, Sp.b]
theorem enP_h (done : Bool) (l : Nat) : (enP done l).h = hOf 140 ((spX (Nat.add 2 (Nat.div l 16)) done (Nat.succ l) (Nat.succ l)).l oldP) := by simp only [enP, Snap.h, spX, Sp.l, Sp.b]
theorem enQ_h (done : Bool) (l : Nat) : (enQ done l).h = hOf 140 ((spX (Nat.add 1 (Nat.div l 16)) done (Nat.pred l) (mx l)).l idS) := by simp only [enQ, Snap.h, spX, Sp.l, Sp.b]
theorem enL_h (j : Nat) : (enL j).h = hOf 140 ((spY false j (i (Nat.succ j))).l oldL) := by simp only [enL, Snap.h, spY, Sp.l, Sp.b]
theorem enG_h (j : Nat) : (enG j).h = hOf 140 ((spY true j (i j)).l oldG) := by simp only [enG, Snap.h, spY, Sp.l, Sp.b]
theorem enD_h (j : Nat) : (enD j).h = hOf 140 ((spY true j (sy 15 0 0 0 100)).l oldD) := by simp only [enD, Snap.h, spY, Sp.l, Sp.b]

/-- The world at the call's beginning, the list of acts. -/
structure Ctx (P : Program) (W : World) (r0 : Emb) (h0 : H) (vb vo n cap : Nat) : Prop where
  rel : Rel r0 h0 W
  gl : GRel P r0
  base : Base W r0 h0 W
  next : h0.next ≤ 20
  glob : P.globals.size ≤ 10
  low : ∀ id, 10 ≤ id → r0 id = none
  held : Held r0 h0 vb
  lt : vb < W.heap.size
  acts : ∀ k, k < n → ∃ x : Int, W.cell? ⟨vb, vo + k, none⟩ = some (.int .i64 x)

/-- The slots that live. -/
def lives : List Nat := [3, 4, 5, 7, 8, 9, 37, 38, 39]

/-- At the loop's head. -/
structure Head (P : Program) (W : World) (nb nt : Nat) (r0 : Emb) (h0 : H) (v0 : Value) (n k : Nat) (done : Bool) (j a0 R L S : Nat) (r : Emb) (a : Act) (w : World) : Prop where
  st : St P W nb nt r (fget (stF done j a0 R L S k).f) [] (hOf 140 ((spF done j R L S).l idS)) a w
  step : Step r0 h0 W r (hOf 140 ((spF done j R L S).l idS)) w
  nonm : ∀ id, isNm id = true → r id = none
  s37 : a.tmps.getD 37 undef = v0
  s38 : a.tmps.getD 38 undef = .int .i64 n

/-- The names' values. -/
def nmK (k n cap vb vp vm S j a0 R L : Nat) (N : Nat × Nat × Nat) : Nat → Option (Nat × Nat × Nat)
  | 10 => some (k, 0, 0)
  | 11 => some (n, cap, 0)
  | 12 => some (vb, vp, vm)
  | 13 => some (L, 0, 0)
  | 14 => some (S, 0, 0)
  | 15 => some (j, 0, 0)
  | 16 => some (39 + R, 0, 0)
  | 17 => some (a0, 0, 0)
  | 18 => some N
  | 19 => some (n, 0, 0)
  | _ => none

section
variable {W : World} {nb nt : Nat} {r0 : Emb} {h0 : H} {vb vo n cap k : Nat} {done : Bool} {j a0 R L S : Nat} {r : Emb} {a : Act} {w : World}

theorem Head.low {v0 : Value} (C : Ctx P W r0 h0 vb vo n cap) (H : Head P W nb nt r0 h0 v0 n k done j a0 R L S r a w) (nm : Nat → Option (Nat × Nat × Nat)) : r0.le (reNm nm r) := fun id x e => by
  have hid : id < 10 := by
    by_cases q : id < 10
    · exact q
    · rw [C.low id (by omega)] at e; cases e
  rw [reNm_old (by unfold isNm; have : Nat.ble 10 id = false := by rw [← Bool.not_eq_true]; intro q; have := Nat.le_of_ble_eq_true q; omega
                   rw [this]; rfl)]
  exact H.step.le _ _ e

/-- The list's element, of which a remainder is known. -/
theorem act_row {v0 : Value} (C : Ctx P W r0 h0 vb vo n cap) (H : Head P W nb nt r0 h0 v0 n k done j a0 R L S r a w) (hk : k < n) :
    ∃ (x : Int) (vm : Nat), W.cell? ⟨vb, vo + k, none⟩ = some (.int .i64 x) ∧ ∀ q r1, VRel r1 (.cls 4 q) (.int .i64 x) → FitB r1 (Ent.c 0 true false [.cls 4 q]).blk vb (vo + k) vm w := by
  obtain ⟨x, hx⟩ := C.acts k hk
  unfold World.cell? at hx
  split at hx
  · rename_i cs t fz hc
    simp only [Option.isSome_none, Bool.false_eq_true, if_false] at hx
    refine ⟨x, cs.size, by unfold World.cell?; rw [hc]; simpa using hx, fun q r1 hq => ?_⟩
    have hw : w.heap[vb]? = some (.cells cs t fz) := by rw [H.st.base.same vb C.lt]; exact hc
    have hlt := (Array.getElem?_eq_some_iff.1 hx).1
    have := fits_range (r := r1) (vs := [.cls 4 q]) (xs := [.int .i64 x]) (.cons hq .nil) hw (off := vo + k) (by show vo + k + 1 ≤ cs.size; omega) (fun o v hv => by
      cases o with
      | zero =>
        simp only [List.getElem?_cons_zero, Option.some.injEq] at hv
        subst hv
        unfold World.cell?
        simp only [hw, Option.isSome_none, Bool.false_eq_true, if_false, Nat.add_zero]
        exact hx
      | succ o => simp at hv) (Nat.le_of_ble_eq_true rfl)
    exact this
  · cases hx

theorem fF {t : Nat} {v : V} (he : fget (stF done j a0 R L S k).f t = v) {v0 : Value} (H : Head P W nb nt r0 h0 v0 n k done j a0 R L S r a w) : VRel r v (a.tmps.getD t undef) := by
  have := H.st.tm t
  rw [he] at this
  exact this

/-- From the head to a state that is evaluated. -/
theorem to_state {nm : Nat → Option (Nat × Nat × Nat)} {v0 : Value} (C : Ctx P W r0 h0 vb vo n cap) (H : Head P W nb nt r0 h0 v0 n k done j a0 R L S r a w) {S2 : Sp} {q vm : Nat} (hn : nm 12 = some (vb, vo + k, vm)) (hf : FitB (reNm nm r) (Ent.c 0 true false [.cls 4 q]).blk vb (vo + k) vm w)
    (ht : Turns nm r w (spF done j R L S) S2) {l : List (Nat × V)} (hl : ∀ t v, (t, v) ∈ l → t < 4096 ∧ VRel (reNm nm r) v (a.tmps.getD t undef)) :
    St P W nb nt (reNm nm r) (fget (frOf l fr0)) [] (hOf 140 (ins 12 (.c 0 true false [.cls 4 q]) (S2.l idS))) a w ∧ Step r0 h0 W (reNm nm r) (hOf 140 (ins 12 (.c 0 true false [.cls 4 q]) (S2.l idS))) w := by
  have hno : ¬ Own r (hOf 140 ((spF done j R L S).l idS)) vb := fun ho => by
    have := H.st.base.own vb ho
    have := C.lt
    omega
  obtain ⟨g1, g2, g3⟩ := sp_turn12 H.st.rel (rs_id _) (rs_12 _ S2) ht rfl hn hf hno
  have hg : GRel P (reNm nm r) := GRel.up (H.low C nm) C.gl
  refine ⟨st_turn H.st g1 (fun b ho => (g2 b ho).elim .inl (fun q => q.elim)) hg (slots_rel hl), step_turn H.step g1 (H.low C nm) (fun b ho => (g2 b ho).elim .inl (fun q => q.elim)) (fun b hh => (g3 b hh).elim .inl (fun q => .inr (.inl ?_)))⟩
  rw [q]
  exact C.held

end
end Go.Proofs.YtllgeddjlodliaaGreatDoor.Lv

namespace Go.Proofs.YtllgeddjlodliaaGreatDoor.Lv
open Go.Ev

variable {P : Program}

theorem free_i {nm : Nat → Option (Nat × Nat × Nat)} {r : Emb} {n : Nat} : ∀ z, VRel r (i n) z → VRel (reNm nm r) (i n) z := fun z h => by
  rw [inv_i h]
  exact mk_i n
theorem free_s {nm : Nat → Option (Nat × Nat × Nat)} {r : Emb} {l n c e : Nat} (hl : isNm l = false) : ∀ z, VRel r (s l n c e) z → VRel (reNm nm r) (s l n c e) z := fun z h => by
  unfold s at h ⊢
  cases h with
  | slice hr h1 h2 h3 => exact .slice (by rw [reNm_old hl]; exact hr) h1 h2 h3
  | slice0 hr h3 => exact .slice0 (by rw [reNm_old hl]; exact hr) h3
theorem to_sy {nm : Nat → Option (Nat × Nat × Nat)} {r : Emb} {id n lo hi : Nat} (h0 : 0 < id) (hid : id < 65536) (hi' : isNm id = true) (hn : nm id = some (n, 0, 0)) (h1 : lo ≤ n) (h2 : n ≤ hi) (h3 : lo < 4294967296) : ∀ z, VRel r (i n) z → VRel (reNm nm r) (sy id 0 0 lo hi) z := fun z h => by
  rw [inv_i h]
  exact mk_sy h0 hid (by rw [reNm_new hi']; exact hn) h1 h2 h3
theorem from_sy {nm : Nat → Option (Nat × Nat × Nat)} {r : Emb} {id n f lo hi : Nat} (h0 : 0 < id) (hid : id < 65536) (hr : r id = some (n, 0, 0)) (hf : f < 1073741824) : ∀ z, VRel r (sy id f f lo hi) z → VRel (reNm nm r) (i (n + f)) z := fun z h => by
  rw [inv_sy h0 hid hr hf h]
  exact mk_i (n + f)
theorem to_ss {nm : Nat → Option (Nat × Nat × Nat)} {r : Emb} {l e id n c lo hi : Nat} (hl : l < 65536) (hln : isNm l = false) (he : e < 16) (h0 : 0 < id) (hid : id < 65536) (hi' : isNm id = true) (hn : nm id = some (n, 0, 0)) (hc : 0 < c) (h1 : lo ≤ n) (h2 : n ≤ hi) (h3 : lo < 4294967296) :
    ∀ z, VRel r (s l n c e) z → VRel (reNm nm r) (ss l e id lo hi) z := fun z h => by
  obtain ⟨b, sh, m, cap, g1, rfl, g2, g3, g4⟩ := inv_s hc h
  exact mk_ss hl he h0 hid (by rw [reNm_new hi']; exact hn) h1 h2 h3 (by rw [reNm_old hln]; exact g1) ⟨by omega, by omega⟩ g4
theorem from_ss {nm : Nat → Option (Nat × Nat × Nat)} {r : Emb} {l e id n c lo hi : Nat} (hl : l < 65536) (hln : isNm l = false) (he : e < 16) (h0 : 0 < id) (hid : id < 65536) (hr : r id = some (n, 0, 0)) (hc : n ≤ c) (hc2 : c ≤ n ∨ c ≤ 1) :
    ∀ z, VRel r (ss l e id lo hi) z → VRel (reNm nm r) (s l n c e) z := fun z h => by
  obtain ⟨b, sh, m, cap, g1, rfl, ⟨g2, g3⟩, g4⟩ := inv_ss hl he h0 hid hr h
  exact mk_s (by rw [reNm_old hln]; exact g1) hc (by omega) g4
theorem cap_s {nm : Nat → Option (Nat × Nat × Nat)} {r : Emb} {l n c c' e : Nat} (hln : isNm l = false) (hc : 0 < c) (h1 : n ≤ c') (h2 : c' ≤ c) : ∀ z, VRel r (s l n c e) z → VRel (reNm nm r) (s l n c' e) z := fun z h => by
  obtain ⟨b, sh, m, cap, g1, rfl, g2, g3, g4⟩ := inv_s hc h
  exact mk_s (by rw [reNm_old hln]; exact g1) h1 (by omega) g4

section
variable {W : World} {nb nt : Nat} {r0 : Emb} {h0 : H} {vb vo n cap k : Nat} {done : Bool} {j a0 R L S : Nat} {r : Emb} {a : Act} {w : World}

/-- The slots ahead. -/
theorem slots_to {nm : Nat → Option (Nat × Nat × Nat)} (H : Head P W nb nt r0 h0 (.slice (some ⟨vb, vo, none⟩) n cap) n k done j a0 R L S r a w) (hk : k < n) (hn : n ≤ 100) {vm : Nat}
    (n10 : nm 10 = some (k, 0, 0)) (n11 : nm 11 = some (n, cap, 0)) (n12 : nm 12 = some (vb, vo + k, vm)) (n19 : nm 19 = some (n, 0, 0)) {av dv : V} (h7 : ∀ z, VRel r (i a0) z → VRel (reNm nm r) av z) (h8 : ∀ z, VRel r (.bool done) z → VRel (reNm nm r) dv z) :
    ∀ t v, (t, v) ∈ slotsOf av dv actX actN actI → t < 4096 ∧ VRel (reNm nm r) v (a.tmps.getD t undef) := by
  intro t v h
  simp only [slotsOf, List.mem_cons, Prod.mk.injEq, List.not_mem_nil, or_false] at h
  rcases h with ⟨rfl, rfl⟩ | ⟨rfl, rfl⟩ | ⟨rfl, rfl⟩ | ⟨rfl, rfl⟩ | ⟨rfl, rfl⟩ | ⟨rfl, rfl⟩ | ⟨rfl, rfl⟩ | ⟨rfl, rfl⟩ | ⟨rfl, rfl⟩
  · exact ⟨by decide, free (by decide +kernel) _ (fF (by kernel_rfl) H)⟩
  · exact ⟨by decide, free (by decide +kernel) _ (fF (by kernel_rfl) H)⟩
  · exact ⟨by decide, free (by decide +kernel) _ (fF (by kernel_rfl) H)⟩
  · exact ⟨by decide, h7 _ (fF (by kernel_rfl) H)⟩
  · exact ⟨by decide, h8 _ (fF (by kernel_rfl) H)⟩
  · exact ⟨by decide, free (by decide +kernel) _ (fF (v := .cl2 0 316) (by kernel_rfl) H)⟩
  · refine ⟨by decide, ?_⟩
    rw [H.s37]
    exact VRel.sat (r := reNm nm r) (L := 12) (id := 10) (iz := 11) (by decide) (by decide) (by rw [reNm_new rfl]; exact n12) (by rw [reNm_new rfl]; exact n10) (by rw [reNm_new rfl]; exact n11) hk
  · refine ⟨by decide, ?_⟩
    rw [H.s38]
    exact VRel.snx (r := reNm nm r) (id := 19) (id2 := 10) (by decide) (by rw [reNm_new rfl]; exact n19) (by rw [reNm_new rfl]; exact n10) hk
  · exact ⟨by decide, to_sy (by decide) (by decide) rfl n10 (Nat.zero_le _) (by omega) (by decide) _ (fF (by kernel_rfl) H)⟩

/-- A push, a pop are at hand. -/
theorem to_P (C : Ctx P W r0 h0 vb vo n cap) (H : Head P W nb nt r0 h0 (.slice (some ⟨vb, vo, none⟩) n cap) n k done j a0 R L S r a w) (hk : k < n) (hn : n ≤ 100) (hj : j ≤ 100) (ha : a0 ≤ 100) (hR : R ≤ 100) (hL : L ≤ 103) (hS : S ≤ 2000)
    {vm q cp : Nat} (hf : ∀ r1, FitB r1 (Ent.c 0 true false [.cls 4 q]).blk vb (vo + k) vm w) (hc1 : L ≤ cp) (hc2 : cp ≤ mx L) (N : Nat × Nat × Nat) :
    let r1 := reNm (nmK k n cap vb (vo + k) vm S j a0 R L N) r
    St P W nb nt r1 (fget (stP done L cp q).f) [] (stP done L cp q).h a w ∧ Step r0 h0 W r1 (stP done L cp q).h w := by
  have hmx : 0 < mx L := Nat.succ_pos _
  have ht : Turns (nmK k n cap vb (vo + k) vm S j a0 R L N) r w (spF done j R L S) (spP done L cp) :=
    { t20 := tn_AR (to_ss (by decide) rfl (by decide) (by decide) (by decide) rfl rfl (by show 0 < 39 + R; omega) (by show 39 ≤ 39 + R; omega) (by show 39 + R ≤ 139; omega) (by decide))
        (to_sy (by decide) (by decide) rfl rfl (by show 39 ≤ 39 + R; omega) (by show 39 + R ≤ 139; omega) (by decide))
      t22 := tn_M (to_sy (by decide) (by decide) rfl rfl (Nat.zero_le _) hS (by decide))
      t130 := tn_E (by omega)
      t132 := tn_A (cap_s rfl hmx hc1 hc2)
      t136 := tn_W (to_sy (by decide) (by decide) rfl rfl (Nat.zero_le _) hj (by decide))
      t137 := tn_C0 (by omega) }
  intro r1
  have := to_state C H (S2 := spP done L cp) (q := q) (vm := vm) rfl (hf _) ht (slots_to H hk hn rfl rfl rfl rfl (av := sy 17 0 0 0 100) (dv := .bool done) (to_sy (by decide) (by decide) rfl rfl (Nat.zero_le _) ha (by decide)) (free (by cases done <;> decide +kernel)))
  rw [stP_h]
  exact this

/-- The slots behind. -/
theorem slots_back {r2 : Emb} {tm : Tm} {act : Act} {v0 : Value} {vm : Nat} (hv : v0 = .slice (some ⟨vb, vo, none⟩) n cap) (n10 : r2 10 = some (k, 0, 0)) (n11 : r2 11 = some (n, cap, 0)) (n12 : r2 12 = some (vb, vo + k, vm)) (n19 : r2 19 = some (n, 0, 0))
    (h : TRel r2 tm act.tmps) (e37 : tm 37 = actX) (e38 : tm 38 = actN) : act.tmps.getD 37 undef = v0 ∧ act.tmps.getD 38 undef = .int .i64 n := by
  have h37 := h 37
  have h38 := h 38
  rw [e37] at h37
  rw [e38] at h38
  obtain ⟨b, o, x, z, c, m, g1, g2, g3, g4, _⟩ := sat_inv (q := 4 * (12 + 65536 * (10 + 65536 * 11)) + 3) h37 (by decide)
  have f2 : r2 12 = some (b, o + x, m) := g2
  have f3 : r2 10 = some (x, 0, 0) := g3
  have f4 : r2 11 = some (z, c, 0) := g4
  rw [n12] at f2
  rw [n10] at f3
  rw [n11] at f4
  cases f3
  cases f4
  simp only [Option.some.injEq, Prod.mk.injEq] at f2
  obtain ⟨rfl, f5, _⟩ := f2
  have : o = vo := by omega
  subst this
  obtain ⟨x, y, k1, k2, _, _⟩ := snx_inv (q := 4 * (19 + 65536 * 10)) h38 (by decide)
  have f6 : r2 19 = some (x, 0, 0) := k2
  rw [n19] at f6
  cases f6
  exact ⟨by rw [g1, hv], k1⟩

/-- Behind a push, a pop. -/
theorem back_P (C : Ctx P W r0 h0 vb vo n cap) {old : Nat → Nat} {f l cp : Nat} {r2 : Emb} {act : Act} {w' : World} (hl : rises 0 0 ((spX f done l cp).l old) = true)
    (hs : St P W nb nt r2 (fget (frOf (slotsOf (sy 17 0 0 0 100) (.bool done) actX actN actJ) fr0)) [] (hOf 140 ((spX f done l cp).l old)) act w') (st : Step r0 h0 W r2 (hOf 140 ((spX f done l cp).l old)) w')
    {vm b sh m : Nat} (n10 : r2 10 = some (k, 0, 0)) (n11 : r2 11 = some (n, cap, 0)) (n12 : r2 12 = some (vb, vo + k, vm)) (n14 : r2 14 = some (S, 0, 0)) (n15 : r2 15 = some (j, 0, 0)) (n16 : r2 16 = some (39 + R, 0, 0)) (n17 : r2 17 = some (a0, 0, 0)) (n19 : r2 19 = some (n, 0, 0))
    (h137 : r2 137 = some (b, sh, m)) (hm : 78 + 2 * R + sh ≤ m) (hR : R ≤ 100) (hlc : l ≤ cp) (hcp : 0 < cp) (hmx : mx l ≤ cp) (hl2 : l ≤ 1000) (hf : f < 1000) :
    Head P W nb nt r0 h0 (.slice (some ⟨vb, vo, none⟩) n cap) n (k + 1) done j a0 R l (S + f) (reNm (fun _ => none) r2) act w' := by
  have ht : Turns (fun _ => none) r2 w' (spX f done l cp) (spF done j R l (S + f)) :=
    { t20 := tn_AR (from_ss (by decide) rfl (by decide) (by decide) (by decide) n16 (Nat.le_refl _) (.inl (Nat.le_refl _))) (by
        have := from_sy (nm := fun _ => none) (r := r2) (id := 16) (n := 39 + R) (f := 0) (lo := 39) (hi := 139) (by decide) (by decide) n16 (by decide)
        exact this)
      t22 := tn_M (from_sy (by decide) (by decide) n14 (by omega))
      t130 := tn_E hl2
      t132 := tn_A (cap_s rfl hcp (by show l ≤ Nat.succ (Nat.pred l); cases l <;> simp) hmx)
      t136 := tn_W (by
        have := from_sy (nm := fun _ => none) (r := r2) (id := 15) (n := j) (f := 0) (lo := 0) (hi := 100) (by decide) (by decide) n15 (by decide)
        exact this)
      t137 := tn_C1 h137 hm (by omega) }
  obtain ⟨g1, g2, g3⟩ := sp_turn hs.rel hl (rs_id _) ht
  have hle : r0.le (reNm (fun _ => none) r2) := fun id x e => by
    have hid : id < 10 := by
      by_cases q : id < 10
      · exact q
      · rw [C.low id (by omega)] at e; cases e
    rw [reNm_old (by unfold isNm; have : Nat.ble 10 id = false := by rw [← Bool.not_eq_true]; intro q; have := Nat.le_of_ble_eq_true q; omega
                     rw [this]; rfl)]
    exact st.le _ _ e
  have tm := hs.tm
  obtain ⟨k37, k38⟩ := slots_back rfl n10 n11 n12 n19 tm (by kernel_rfl) (by kernel_rfl)
  refine ⟨st_turn hs g1 (fun b ho => (g2 b ho).elim .inl (fun q => q.elim)) (GRel.up hle C.gl) (slots_rel (fun t v h => ?_)), step_turn st g1 hle (fun b ho => (g2 b ho).elim .inl (fun q => q.elim)) (fun b hh => (g3 b hh).elim .inl (fun q => q.elim)), fun id hid => by rw [reNm_new hid], k37, k38⟩
  have sl : ∀ (t : Nat) (v : V), fget (frOf (slotsOf (sy 17 0 0 0 100) (.bool done) actX actN actJ) fr0) t = v → VRel r2 v (act.tmps.getD t undef) := fun t v e => by
    have := tm t
    rw [e] at this
    exact this
  simp only [stF, List.mem_cons, Prod.mk.injEq, List.not_mem_nil, or_false] at h
  rcases h with ⟨rfl, rfl⟩ | ⟨rfl, rfl⟩ | ⟨rfl, rfl⟩ | ⟨rfl, rfl⟩ | ⟨rfl, rfl⟩ | ⟨rfl, rfl⟩ | ⟨rfl, rfl⟩
  · exact ⟨by decide, free (by decide +kernel) _ (sl 3 _ (by kernel_rfl))⟩
  · exact ⟨by decide, free (by decide +kernel) _ (sl 4 _ (by kernel_rfl))⟩
  · exact ⟨by decide, free (by decide +kernel) _ (sl 5 _ (by kernel_rfl))⟩
  · refine ⟨by decide, ?_⟩
    have := from_sy (nm := fun _ => none) (r := r2) (id := 17) (n := a0) (f := 0) (lo := 0) (hi := 100) (by decide) (by decide) n17 (by decide) _ (sl 7 _ (by kernel_rfl))
    exact this
  · exact ⟨by decide, free (by cases done <;> decide +kernel) _ (sl 8 (.bool done) (by kernel_rfl))⟩
  · exact ⟨by decide, free (by decide +kernel) _ (sl 9 (.cl2 0 316) (by kernel_rfl))⟩
  · refine ⟨by decide, ?_⟩
    have := from_sy (nm := fun _ => none) (r := r2) (id := 10) (n := k) (f := 1) (lo := 0) (hi := 200) (by decide) (by decide) n10 (by decide) _ (sl 39 _ (by kernel_rfl))
    exact this

end
end Go.Proofs.YtllgeddjlodliaaGreatDoor.Lv

namespace Go.Proofs.YtllgeddjlodliaaGreatDoor.Lv
open Go.Ev

variable {P : Program}

theorem elL_get : ∀ (n t : Nat), t < n → (elL n)[3 * t]? = some (i 3) ∧ (elL n)[3 * t + 1]? = some (.cl2 0 316) ∧ (elL n)[3 * t + 2]? = some E
  | 0, t, h => by omega
  | n + 1, 0, _ => ⟨rfl, rfl, rfl⟩
  | n + 1, t + 1, h => by
    obtain ⟨h1, h2, h3⟩ := elL_get n t (by omega)
    have e : 3 * (t + 1) = 3 * t + 1 + 1 + 1 := by omega
    rw [e, elL]
    exact ⟨h1, h2, h3⟩
theorem unk_inv {r : Emb} {x : Value} (h : VRel r (.cl2 0 316) x) : ∃ n : Int, x = .int .i64 n := by
  obtain ⟨k, n, hk, rfl, _⟩ := uint_some h (by decide) (by decide)
  have e : kq .i64 = kq k := hk
  have := kq_inj e
  subst this
  exact ⟨n, rfl⟩
theorem elL_any {r r' : Emb} : ∀ n, VI r r' (elL n) (elL n)
  | 0 => .nil
  | n + 1 => .cons (fun z h => by rw [inv_i h]; exact mk_i 3) (.cons (fun z h => by obtain ⟨m, rfl⟩ := unk_inv h; exact .uint (k := .i64) (fun h => by cases h)) (.cons (fun z h => by
      unfold E at h ⊢
      cases h with
      | str q => exact .str q) (elL_any n)))
/-- The number of an element. -/
theorem elem_num {r : Emb} {w : World} {L j b sh m : Nat} (hj : j < L) (hL : L ≤ 1000) (h : FitB r (eE L).blk b sh m w) : ∃ N : Int, w.cell? ⟨b, 3 * j + 1 + sh, none⟩ = some (.int .i64 N) := by
  obtain ⟨⟨cs, fz, ⟨ty, q1, _⟩, _, _, _, q6⟩, _⟩ := h
  have ho : 3 * j + 1 < (elL L).length := by rw [elL_len]; omega
  obtain ⟨x, h1, h2⟩ := q6 _ ho
  rw [cellsOf_get (elL L) (by rw [elL_len]; omega) _ ho] at h2
  have h3 := (elL_get L j hj).2.1
  rw [List.getElem?_eq_getElem ho] at h3
  rw [Option.some.inj h3] at h2
  obtain ⟨N, rfl⟩ := unk_inv h2
  exact ⟨N, by unfold World.cell?; rw [q1]; simpa using h1⟩
theorem tn_EN {nm : Nat → Option (Nat × Nat × Nat)} {r : Emb} {w : World} {L j : Nat} {N : Int} (hj : j < L) (hL : L ≤ 1000) (hN : ∀ b sh m, r 130 = some (b, sh, m) → w.cell? ⟨b, 3 * j + 1 + sh, none⟩ = some (.int .i64 N)) (h18 : nm 18 = some (nameI N)) :
    Tn nm r w 130 (eE L) (eN j) := by
  refine ⟨fun h => Bool.noConfusion h, fun b sh m hr hf => ?_⟩
  have hc := hN b sh m hr
  obtain ⟨⟨cs, fz, ⟨ty, q1, _⟩, q3, q4, q5, q6⟩, q7, q8, q9⟩ := hf
  have hlen : (anyL (Nat.mul 3 j) ++ [i 3, .cls 0 144, E]).length = 3 * j + 3 := by
    rw [List.length_append, anyL_len]; rfl
  have q7' : (elL L).length + sh ≤ m := q7
  rw [elL_len] at q7'
  refine ⟨⟨cs, fz, ⟨ty, q1, fun h => Bool.noConfusion h⟩, q3, fun h => Bool.noConfusion h, fun h => Bool.noConfusion h, fun o ho => ?_⟩, by rw [hlen]; omega, cellsOf_room _ (by rw [hlen]; omega), fun h => Bool.noConfusion h⟩
  rw [hlen] at ho
  have hoL : o < (elL L).length := by rw [elL_len]; omega
  obtain ⟨x, h1, h2⟩ := q6 o hoL
  rw [cellsOf_get (elL L) (by rw [elL_len]; omega) o hoL] at h2
  refine ⟨x, h1, ?_⟩
  rw [cellsOf_get _ (by rw [hlen]; omega) o (by rw [hlen]; exact ho)]
  obtain ⟨e1, e2, e3⟩ := elL_get L j hj
  by_cases g1 : o < 3 * j
  · rw [List.getElem_append_left (by rw [anyL_len]; exact g1)]
    rw [anyL_any _ _ (List.getElem_mem _)]
    exact .any x
  · rw [List.getElem_append_right (by rw [anyL_len]; show 3 * j ≤ o; omega)]
    have hidx : o - (anyL (Nat.mul 3 j)).length = o - 3 * j := by rw [anyL_len]; rfl
    have cases3 : o = 3 * j ∨ o = 3 * j + 1 ∨ o = 3 * j + 2 := by omega
    rcases cases3 with rfl | rfl | rfl
    · rw [List.getElem?_eq_getElem hoL] at e1
      rw [Option.some.inj e1] at h2
      have : [i 3, V.cls 0 144, E][3 * j - (anyL (Nat.mul 3 j)).length]? = some (i 3) := by rw [hidx, show 3 * j - 3 * j = 0 by omega]; rfl
      rw [(List.getElem?_eq_some_iff.1 this).2]
      rw [inv_i h2]
      exact mk_i 3
    · have : [i 3, V.cls 0 144, E][3 * j + 1 - (anyL (Nat.mul 3 j)).length]? = some (.cls 0 144) := by rw [hidx, show 3 * j + 1 - 3 * j = 1 by omega]; rfl
      rw [(List.getElem?_eq_some_iff.1 this).2]
      have hx : x = .int .i64 N := by
        unfold World.cell? at hc
        rw [q1] at hc
        simp only [Option.isSome_none, Bool.false_eq_true, if_false] at hc
        rw [h1] at hc
        exact Option.some.inj hc
      rw [hx]
      exact rel_nameI (id := 18) (by rw [reNm_new rfl]; exact h18)
    · rw [List.getElem?_eq_getElem hoL] at e3
      rw [Option.some.inj e3] at h2
      have : [i 3, V.cls 0 144, E][3 * j + 2 - (anyL (Nat.mul 3 j)).length]? = some E := by rw [hidx, show 3 * j + 2 - 3 * j = 2 by omega]; rfl
      rw [(List.getElem?_eq_some_iff.1 this).2]
      exact free rfl x h2

section
variable {W : World} {nb nt : Nat} {r0 : Emb} {h0 : H} {vb vo n cap k : Nat} {done : Bool} {j a0 R L S : Nat} {r : Emb} {a : Act} {w : World}

/-- A next is at hand: not done, below the length. -/
theorem to_L (C : Ctx P W r0 h0 vb vo n cap) (H : Head P W nb nt r0 h0 (.slice (some ⟨vb, vo, none⟩) n cap) n k false j j j L S r a w) (hk : k < n) (hn : n ≤ 100) (hj : j ≤ 100) (hL : L ≤ 103) (hS : S ≤ 2000) (hjL : j < L)
    {vm q : Nat} (hf : ∀ r1, FitB r1 (Ent.c 0 true false [.cls 4 q]).blk vb (vo + k) vm w) : ∃ N : Nat × Nat × Nat,
    let r1 := reNm (nmK k n cap vb (vo + k) vm S j j j L N) r
    St P W nb nt r1 (fget (stL j q).f) [] (stL j q).h a w ∧ Step r0 h0 W r1 (stL j q).h w := by
  obtain ⟨b, sh, m, h1, h2⟩ := rows_fit H.st.rel (rs_id _) (id := 130) (old := 130) (e := eE L) (mem_rowsOf.2 ⟨rfl, (in_sp (spF false j j L S)).2.2.1⟩)
  obtain ⟨N, hN⟩ := elem_num hjL (by omega) h2
  refine ⟨nameI N, ?_⟩
  have ht : Turns (nmK k n cap vb (vo + k) vm S j j j L (nameI N)) r w (spF false j j L S) (spN (eN j) false j (ss 130 3 13 (Nat.succ j) 103) (i j)) :=
    { t20 := tn_AR (free_s rfl) free_i
      t22 := tn_M (to_sy (by decide) (by decide) rfl rfl (Nat.zero_le _) hS (by decide))
      t130 := tn_EN hjL (by omega) (fun b' sh' m' e => by rw [h1] at e; cases e; exact hN) rfl
      t132 := tn_A (to_ss (by decide) rfl (by decide) (by decide) (by decide) rfl rfl (Nat.succ_pos _) hjL hL (by show Nat.succ j < _; omega))
      t136 := tn_W free_i
      t137 := tn_C (by omega) }
  intro r1
  have := to_state C H (q := q) (vm := vm) rfl (hf _) ht (slots_to H hk hn rfl rfl rfl rfl (av := i j) (dv := F) free_i (free (by decide +kernel)))
  rw [stL_h]
  exact this
/-- At the length, or above. -/
theorem to_G (C : Ctx P W r0 h0 vb vo n cap) (H : Head P W nb nt r0 h0 (.slice (some ⟨vb, vo, none⟩) n cap) n k false j j j L S r a w) (hk : k < n) (hn : n ≤ 100) (hj : j ≤ 100) (hL : L ≤ 103) (hS : S ≤ 2000) (hjL : L ≤ j)
    {vm q : Nat} (hf : ∀ r1, FitB r1 (Ent.c 0 true false [.cls 4 q]).blk vb (vo + k) vm w) (N : Nat × Nat × Nat) :
    let r1 := reNm (nmK k n cap vb (vo + k) vm S j j j L N) r
    St P W nb nt r1 (fget (stG j q).f) [] (stG j q).h a w ∧ Step r0 h0 W r1 (stG j q).h w := by
  have ht : Turns (nmK k n cap vb (vo + k) vm S j j j L N) r w (spF false j j L S) (spN eZ false j (ss 130 3 13 0 j) (i j)) :=
    { t20 := tn_AR (free_s rfl) free_i
      t22 := tn_M (to_sy (by decide) (by decide) rfl rfl (Nat.zero_le _) hS (by decide))
      t130 := tn_EZ (by omega)
      t132 := tn_A (to_ss (by decide) rfl (by decide) (by decide) (by decide) rfl rfl (Nat.succ_pos _) (Nat.zero_le _) hjL (by decide))
      t136 := tn_W free_i
      t137 := tn_C (by omega) }
  intro r1
  have := to_state C H (q := q) (vm := vm) rfl (hf _) ht (slots_to H hk hn rfl rfl rfl rfl (av := i j) (dv := F) free_i (free (by decide +kernel)))
  rw [stG_h]
  exact this
/-- Done. -/
theorem to_D (C : Ctx P W r0 h0 vb vo n cap) (H : Head P W nb nt r0 h0 (.slice (some ⟨vb, vo, none⟩) n cap) n k true j a0 R L S r a w) (hk : k < n) (hn : n ≤ 100) (hj : j ≤ 100) (ha : a0 ≤ 100) (hR : R ≤ 100) (hL : L ≤ 103) (hS : S ≤ 2000)
    {vm q : Nat} (hf : ∀ r1, FitB r1 (Ent.c 0 true false [.cls 4 q]).blk vb (vo + k) vm w) (N : Nat × Nat × Nat) :
    let r1 := reNm (nmK k n cap vb (vo + k) vm S j a0 R L N) r
    St P W nb nt r1 (fget (stD R q).f) [] (stD R q).h a w ∧ Step r0 h0 W r1 (stD R q).h w := by
  have ht : Turns (nmK k n cap vb (vo + k) vm S j a0 R L N) r w (spF true j R L S) (spN eZ true R (ss 130 3 13 0 103) (sy 15 0 0 0 100)) :=
    { t20 := tn_AR (free_s rfl) free_i
      t22 := tn_M (to_sy (by decide) (by decide) rfl rfl (Nat.zero_le _) hS (by decide))
      t130 := tn_EZ (by omega)
      t132 := tn_A (to_ss (by decide) rfl (by decide) (by decide) (by decide) rfl rfl (Nat.succ_pos _) (Nat.zero_le _) hL (by decide))
      t136 := tn_W (to_sy (by decide) (by decide) rfl rfl (Nat.zero_le _) hj (by decide))
      t137 := tn_C (by omega) }
  intro r1
  have := to_state C H (q := q) (vm := vm) rfl (hf _) ht (slots_to H hk hn rfl rfl rfl rfl (av := sy 17 0 0 0 100) (dv := T) (to_sy (by decide) (by decide) rfl rfl (Nat.zero_le _) ha (by decide)) (free (by decide +kernel)))
  rw [stD_h]
  exact this

end
end Go.Proofs.YtllgeddjlodliaaGreatDoor.Lv

namespace Go.Proofs.YtllgeddjlodliaaGreatDoor.Lv
open Go.Ev

variable {P : Program}

theorem segs_own {k : Nat} {e : Ent} (h : (k, e) ∈ segs) : ownB e.blk = true ∨ k < 10 := by
  have h1 : (segs.all fun p => ownB p.2.blk || Nat.blt p.1 10) = true := by decide +kernel
  have := List.all_eq_true.1 h1 _ h
  simp only [Bool.or_eq_true, Nat.blt_eq] at this
  exact this
/-- All states have the same labels. -/
theorem same_labels {S S2 : Sp} {old old2 : Nat → Nat} {id o : Nat} {e : Ent} (h : (id, o, e) ∈ S.l old) : ∃ o' e', (id, o', e') ∈ S2.l old2 := by
  have hb := (mem_rowsOf.1 h).2
  obtain ⟨i1, i2, i3, i4, i5, i6⟩ := in_sp S2
  have go : ∀ e, (id, e) ∈ S2.b → ∃ o' e', (id, o', e') ∈ S2.l old2 := fun e q => ⟨_, e, mem_rowsOf.2 ⟨rfl, q⟩⟩
  rcases mem_base hb with q | ⟨rfl, rfl⟩ | ⟨rfl, rfl⟩ | ⟨rfl, rfl⟩ | ⟨rfl, rfl⟩ | ⟨rfl, rfl⟩ | ⟨rfl, rfl⟩
  · exact go _ (in_segs q)
  · exact go _ i1
  · exact go _ i2
  · exact go _ i3
  · exact go _ i4
  · exact go _ i5
  · exact go _ i6
theorem label_nonm {S : Sp} {old : Nat → Nat} {id o : Nat} {e : Ent} (h : (id, o, e) ∈ S.l old) : isNm id = false := by
  have hb := (mem_rowsOf.1 h).2
  rcases mem_base hb with q | ⟨rfl, rfl⟩ | ⟨rfl, rfl⟩ | ⟨rfl, rfl⟩ | ⟨rfl, rfl⟩ | ⟨rfl, rfl⟩ | ⟨rfl, rfl⟩
  · exact (segs_free q).1
  all_goals rfl
theorem label_e {S : Sp} {old : Nat → Nat} {o : Nat} {e : Ent} (h : (130, o, e) ∈ S.l old) : e = S.e := by
  have hb := (mem_rowsOf.1 h).2
  rcases mem_base hb with q | ⟨q, _⟩ | ⟨q, _⟩ | ⟨_, rfl⟩ | ⟨q, _⟩ | ⟨q, _⟩ | ⟨q, _⟩
  · exact (segs_not q).elim
  all_goals first | rfl | (exact absurd q (by decide))

section
variable {W : World} {nb nt : Nat} {r0 : Emb} {h0 : H} {vb vo n cap k : Nat} {done : Bool} {j a0 R L S : Nat} {r : Emb} {a : Act} {w : World} {v0 : Value}

/-- At the head no other label speaks of the elements' block. -/
theorem head_inj (H : Head P W nb nt r0 h0 v0 n k done j a0 R L S r a w) {b sh m : Nat} (h130 : r 130 = some (b, sh, m)) {id o : Nat} {e : Ent} (hm : (id, o, e) ∈ (spF done j R L S).l idS) {sh' m' : Nat} (hr : r id = some (b, sh', m')) : id = 130 := by
  have h1 : (130, 130, eE L) ∈ (spF done j R L S).l idS := mem_rowsOf.2 ⟨rfl, (in_sp (spF done j R L S)).2.2.1⟩
  obtain ⟨k1, k2⟩ := rows_blk (nxt := 140) (rs_id _) h1
  obtain ⟨_, k3⟩ := rows_blk (nxt := 140) (rs_id _) hm
  exact (H.st.rel.inj 130 id b sh m sh' m' k2 k3 (.inl (by rw [k1]; rfl)) h130 hr).symm

/-- Where the elements are but read, nobody may write them. -/
theorem notown_E (H : Head P W nb nt r0 h0 v0 n k done j a0 R L S r a w) {S2 : Sp} (he : ownB S2.e.blk = false) {x : Ent} (hx : ownB x.blk = false) {nm : Nat → Option (Nat × Nat × Nat)} {b sh m : Nat} (h130 : r 130 = some (b, sh, m)) :
    ¬ Own (reNm nm r) (hOf 140 (ins 12 x (S2.l idS))) b := by
  rintro ⟨id, sh', m', hi, ho, hr⟩
  obtain ⟨o, e, g1, g2⟩ := hOf_live (rs_12 x S2) hi (live_of_own ho)
  rw [g2] at ho
  rcases mem_ins g1 with q | q
  · simp only [Prod.mk.injEq] at q
    obtain ⟨_, _, rfl⟩ := q
    rw [hx] at ho
    cases ho
  · obtain ⟨o', e', q'⟩ := same_labels (S2 := spF done j R L S) (old2 := idS) q
    rw [reNm_old (label_nonm q)] at hr
    have := head_inj H h130 q' hr
    subst this
    have := label_e q
    subst this
    rw [he] at ho
    cases ho

/-- Behind a next. -/
theorem back_N (C : Ctx P W r0 h0 vb vo n cap) (H : Head P W nb nt r0 h0 (.slice (some ⟨vb, vo, none⟩) n cap) n k done j a0 R L S r a w) {old : Nat → Nat} {done' : Bool} {av av' : V} {j' a0' : Nat} {r2 : Emb} {act : Act} {w' : World} (hl : rises 0 0 ((spY done' R av).l old) = true)
    (hs : St P W nb nt r2 (fget (frOf (slotsOf av' (.bool done') actX actN actJ) fr0)) [] (hOf 140 ((spY done' R av).l old)) act w') (st : Step r0 h0 W r2 (hOf 140 ((spY done' R av).l old)) w')
    {vm b sh m : Nat} (n10 : r2 10 = some (k, 0, 0)) (n11 : r2 11 = some (n, cap, 0)) (n12 : r2 12 = some (vb, vo + k, vm)) (n13 : r2 13 = some (L, 0, 0)) (n14 : r2 14 = some (S, 0, 0)) (n19 : r2 19 = some (n, 0, 0))
    (h130 : r 130 = some (b, sh, m)) (k130 : r2 130 = some (b, sh, m)) (hheap : w'.heap[b]? = w.heap[b]?) (hno : ¬ Own r2 (hOf 140 ((spY done' R av).l old)) b) (hlow : ∀ id y, id < 10 → r id = some y → r2 id = some y) (hR : R < 100) (hL : L ≤ 1000)
    (hav : ∀ z, VRel r2 av z → VRel (reNm (fun _ => none) r2) (i j') z) (hav' : ∀ z, VRel r2 av' z → VRel (reNm (fun _ => none) r2) (i a0') z)
    (e7 : fget (frOf (slotsOf av' (.bool done') actX actN actJ) fr0) 7 = av') :
    Head P W nb nt r0 h0 (.slice (some ⟨vb, vo, none⟩) n cap) n (k + 1) done' j' a0' (R + 1) L (S + 1) (reNm (fun _ => none) r2) act w' := by
  have hm130 : (130, 130, eE L) ∈ (spF done j R L S).l idS := mem_rowsOf.2 ⟨rfl, (in_sp (spF done j R L S)).2.2.1⟩
  obtain ⟨b', sh', m', q1, q2⟩ := rows_fit H.st.rel (rs_id _) hm130
  rw [h130] at q1
  cases q1
  have hfE : FitB (reNm (fun _ => none) r2) (eE L).blk b sh m w' := by
    have h1 : FitB (reNm (fun _ => none) r2) (eE L).blk b sh m w := fit_turn q2 (fun h => h) (fun h => h) (elL_any L) (by rw [elL_len]; omega) (fun _ _ => rfl)
    exact h1.keep (Emb.le_refl _) hheap
  have hbW : W.heap.size ≤ b := by
    obtain ⟨k1, k2⟩ := rows_blk (nxt := 140) (rs_id _) hm130
    exact H.st.base.own b ⟨130, sh, m, k2.1, by rw [k1]; rfl, h130⟩
  have e40 : Nat.add 39 (R + 1) = Nat.add 40 R := by show 39 + (R + 1) = 40 + R; omega
  obtain ⟨g1, g2, g3⟩ := sp_turnE (nm := fun _ => none) (S2 := spF done' j' (R + 1) L (S + 1)) (old2 := idS) hs.rel hl (rs_id _)
    (by
      show Tn _ _ _ 20 (eAR (s 137 (Nat.add 40 R) (Nat.add 40 R) 2) (i (Nat.add 40 R))) (eAR (s 137 (Nat.add 39 (R + 1)) (Nat.add 39 (R + 1)) 2) (i (Nat.add 39 (R + 1))))
      rw [e40]
      exact tn_AR (free_s rfl) free_i)
    (tn_M (from_sy (by decide) (by decide) n14 (by decide)))
    (tn_A (from_ss (by decide) rfl (by decide) (by decide) (by decide) n13 (by show L ≤ Nat.succ (Nat.pred L); cases L <;> simp) (by show Nat.succ (Nat.pred L) ≤ L ∨ Nat.succ (Nat.pred L) ≤ 1; cases L <;> simp)))
    (tn_W hav) (tn_C (by omega)) k130 hfE hno (fun id o e hm hid sh' m' hq => by
      have own_or : ownB e.blk = true ∨ id < 10 := by
        have hb := (mem_rowsOf.1 hm).2
        rcases mem_base hb with q | ⟨rfl, rfl⟩ | ⟨rfl, rfl⟩ | ⟨rfl, rfl⟩ | ⟨rfl, rfl⟩ | ⟨rfl, rfl⟩ | ⟨rfl, rfl⟩
        · exact segs_own q
        · exact .inl rfl
        · exact .inl rfl
        · exact (hid rfl).elim
        · exact .inl rfl
        · exact .inl rfl
        · exact .inl rfl
      rcases own_or with ho | ho
      · obtain ⟨k1, k2⟩ := rows_blk (nxt := 140) hl hm
        exact hno ⟨id, sh', m', k2.1, by rw [k1]; exact ho, hq⟩
      · obtain ⟨o', e', q'⟩ := same_labels (S2 := spF done j R L S) (old2 := idS) hm
        obtain ⟨b2, s2, m2, u1, _⟩ := rows_fit H.st.rel (rs_id _) q'
        rw [hlow id _ ho u1] at hq
        cases hq
        exact hid (head_inj H h130 q' u1))
  have hle : r0.le (reNm (fun _ => none) r2) := fun id x e => by
    have hid : id < 10 := by
      by_cases q : id < 10
      · exact q
      · rw [C.low id (by omega)] at e; cases e
    rw [reNm_old (by unfold isNm; have : Nat.ble 10 id = false := by rw [← Bool.not_eq_true]; intro q; have := Nat.le_of_ble_eq_true q; omega
                     rw [this]; rfl)]
    exact st.le _ _ e
  have tm := hs.tm
  obtain ⟨k37, k38⟩ := slots_back rfl n10 n11 n12 n19 tm (by kernel_rfl) (by kernel_rfl)
  refine ⟨st_turn hs g1 (fun b' ho => (g2 b' ho).elim .inl (fun q => .inr (by rw [q]; exact hbW))) (GRel.up hle C.gl) (slots_rel (fun t v h => ?_)), step_turn st g1 hle (fun b' ho => (g2 b' ho).elim .inl (fun q => .inr (by rw [q]; exact hbW))) (fun b' hh => (g3 b' hh).elim .inl (fun q => .inr (.inr (by rw [q]; exact hbW)))), fun id hid => by rw [reNm_new hid], k37, k38⟩
  have sl : ∀ (t : Nat) (v : V), fget (frOf (slotsOf av' (.bool done') actX actN actJ) fr0) t = v → VRel r2 v (act.tmps.getD t undef) := fun t v e => by
    have := tm t
    rw [e] at this
    exact this
  simp only [stF, List.mem_cons, Prod.mk.injEq, List.not_mem_nil, or_false] at h
  rcases h with ⟨rfl, rfl⟩ | ⟨rfl, rfl⟩ | ⟨rfl, rfl⟩ | ⟨rfl, rfl⟩ | ⟨rfl, rfl⟩ | ⟨rfl, rfl⟩ | ⟨rfl, rfl⟩
  · exact ⟨by decide, free (by decide +kernel) _ (sl 3 _ (by kernel_rfl))⟩
  · exact ⟨by decide, free (by decide +kernel) _ (sl 4 _ (by kernel_rfl))⟩
  · exact ⟨by decide, free (by decide +kernel) _ (sl 5 _ (by kernel_rfl))⟩
  · exact ⟨by decide, hav' _ (sl 7 _ e7)⟩
  · exact ⟨by decide, free (by cases done' <;> decide +kernel) _ (sl 8 (.bool done') (by kernel_rfl))⟩
  · exact ⟨by decide, free (by decide +kernel) _ (sl 9 (.cl2 0 316) (by kernel_rfl))⟩
  · refine ⟨by decide, ?_⟩
    have := from_sy (nm := fun _ => none) (r := r2) (id := 10) (n := k) (f := 1) (lo := 0) (hi := 200) (by decide) (by decide) n10 (by decide) _ (sl 39 _ (by kernel_rfl))
    exact this

end
end Go.Proofs.YtllgeddjlodliaaGreatDoor.Lv

namespace Go.Proofs.YtllgeddjlodliaaGreatDoor.Lv
open Go.Ev

variable {P : Program}

/-- All acts are gone through. -/
def stX (n : Nat) : Snap := ⟨140, [], [(38, i n), (39, i n)]⟩

/-- What a round of the loop comes to, in each state. -/
structure Facts (body : Fr → Ds → H → RC) : Prop where
  push : ∀ d L, L ≤ 102 → bodyB 20 body (stP d L L 0) (enP d L) = true
  pop : ∀ d L, L ≤ 102 → bodyB 20 body (stP d L (mx L) 1) (enQ d L) = true
  below : ∀ j q, j ≤ 99 → q = 2 ∨ q = 3 → bodyB 20 body (stL j q) (enL j) = true
  above : ∀ j q, j ≤ 99 → q = 2 ∨ q = 3 → bodyB 20 body (stG j q) (enG j) = true
  gone : ∀ j q, j ≤ 99 → q = 2 ∨ q = 3 → bodyB 20 body (stD j q) (enD j) = true

section
variable {W : World} {nb nt mask : Nat} {r0 : Emb} {h0 : H} {vb vo n cap : Nat}

/-- The loop's end. -/
def Ends (P : Program) (W : World) (nb nt mask : Nat) (r0 : Emb) (h0 : H) (body : Fr → Ds → H → RC) (n : Nat) : Exit → Act → World → Prop := fun e a w =>
  ∃ x f h r, body (stX n).f [] (stX n).h = .ok x f [] h ∧ XRel x e ∧ Dim mask f ∧ St P W nb nt r (fget f) [] h a w ∧ Step r0 h0 W r h w

theorem to_X {j a0 R L S : Nat} {done : Bool} {r : Emb} {a : Act} {w : World} {v0 : Value} (_C : Ctx P W r0 h0 vb vo n cap) (H : Head P W nb nt r0 h0 v0 n n done j a0 R L S r a w) :
    St P W nb nt r (fget (stX n).f) [] (stX n).h a w ∧ Step r0 h0 W r (stX n).h w := by
  obtain ⟨g1, g2, g3⟩ := rel_turn (B := fun _ => False) (C := fun _ => False) (nxt2 := 140) (l2 := []) (r2 := r) H.st.rel (rs_id _) rfl (fun _ _ _ h => by cases h) (fun id hi => H.st.rel.new id hi)
  refine ⟨st_turn H.st g1 (fun b ho => (g2 b ho).elim .inl (fun q => q.elim)) H.st.gl (slots_rel (fun t v h => ?_)), step_turn H.step g1 H.step.le (fun b ho => (g2 b ho).elim .inl (fun q => q.elim)) (fun b hh => (g3 b hh).elim .inl (fun q => q.elim))⟩
  simp only [stX, List.mem_cons, Prod.mk.injEq, List.not_mem_nil, or_false] at h
  rcases h with ⟨rfl, rfl⟩ | ⟨rfl, rfl⟩
  · exact ⟨by decide, by rw [H.s38]; exact mk_i n⟩
  · exact ⟨by decide, fF (by kernel_rfl) H⟩

theorem cls4 (x : Int) : ∃ q, q < 4 ∧ ∀ r, VRel r (.cls 4 q) (.int .i64 x) := by
  have h1 : x.tmod 4 < 4 := Int.tmod_lt_of_pos x (by omega)
  have h2 : -(4 : Int) < x.tmod 4 := Int.lt_tmod_of_pos x (by omega)
  obtain ⟨k, hk⟩ : ∃ k : Nat, x.tmod 4 + 4 = Int.ofNat k := ⟨(x.tmod 4 + 4).toNat, by simp only [Int.ofNat_eq_natCast]; omega⟩
  refine ⟨k % 4, Nat.mod_lt _ (by omega), fun r => .cls (m := 4) (by omega) ?_⟩
  show (x.tmod 4 + 4).tmod 4 = _
  rw [hk]
  rfl

theorem lives_dim {S : Snap} {l : List (Nat × V)} (he : S.slots = l) (hm : ∀ t, t ∈ lives ++ [38, 39] → kept mask t = true) (hl : ∀ t v, (t, v) ∈ l → t ∈ lives ++ [38, 39]) : Dim mask S.f :=
  frOf_dim (fun t v h => hm t (hl t v (by rw [← he]; exact h)))
theorem slotsOf_lives {av dv x y z : V} : ∀ t v, (t, v) ∈ slotsOf av dv x y z → t ∈ lives ++ [38, 39] := fun t v h => by
  simp only [slotsOf, List.mem_cons, Prod.mk.injEq, List.not_mem_nil, or_false] at h
  rcases h with ⟨rfl, _⟩ | ⟨rfl, _⟩ | ⟨rfl, _⟩ | ⟨rfl, _⟩ | ⟨rfl, _⟩ | ⟨rfl, _⟩ | ⟨rfl, _⟩ | ⟨rfl, _⟩ | ⟨rfl, _⟩ <;> decide

theorem loop_all {ro : Option Nat} {cd : Code} {body : Fr → Ds → H → RC}
    (hbody : ∀ (f f' : Fr) (d d' : Ds) (h h' : H) (x : X) (r : Emb) (a : Act) (w : World), Dim mask f → St P W nb nt r (fget f) d h a w → body f d h = .ok x f' d' h' → cd.wpIn (wideR ro) 0 P (Post P W nb nt mask r h w x f' d' h') a w)
    (hm : ∀ t, t ∈ lives ++ [38, 39] → kept mask t = true) (Fs : Facts body) (C : Ctx P W r0 h0 vb vo n cap) (hn : n ≤ 100) {fx : Fr} {hx : H} (hX : body (stX n).f [] (stX n).h = .ok (.exit 0) fx [] hx) :
    ∀ (d k : Nat), k + d = n → ∀ (done : Bool) (j a0 R L S : Nat) (r : Emb) (a : Act) (w : World), (done = false → j = R ∧ a0 = R) → j ≤ k → a0 ≤ k → R ≤ k → L ≤ 3 + k → S ≤ 1 + 10 * k →
      Head P W nb nt r0 h0 (.slice (some ⟨vb, vo, none⟩) n cap) n k done j a0 R L S r a w → Code.roundsIn (wideR ro) 0 P cd (Ends P W nb nt mask r0 h0 body n) (d + 1) a w := by
  intro d
  induction d with
  | zero =>
    intro k hk done j a0 R L S r a w _ _ _ _ _ _ H
    have : k = n := by omega
    subst this
    obtain ⟨g1, g2⟩ := to_X C H
    rw [roundsIn_succ]
    have hd : Dim mask (stX k).f := lives_dim rfl hm (fun t v h => by
      simp only [stX, List.mem_cons, Prod.mk.injEq, List.not_mem_nil, or_false] at h
      rcases h with ⟨rfl, _⟩ | ⟨rfl, _⟩ <;> decide)
    refine wpIn_mono (hbody _ _ [] [] _ _ _ r a w hd g1 hX) ?_
    rintro e a1 w1 ⟨hx1, hd1, r1, hs1, st1⟩
    have he : e = .exit 0 := hx1
    subst he
    exact ⟨.exit 0, fx, hx, r1, hX, rfl, hd1, hs1, g2.trans st1⟩
  | succ d ih =>
    intro k hk done j a0 R L S r a w hnd hj ha hR hL hS H
    have hkn : k < n := by omega
    obtain ⟨x, vm, hx, hfx⟩ := act_row C H hkn
    obtain ⟨q, hq, hqx⟩ := cls4 x
    have hf : ∀ r1, FitB r1 (Ent.c 0 true false [.cls 4 q]).blk vb (vo + k) vm w := fun r1 => hfx q r1 (hqx r1)
    have low : ∀ {nm : Nat → Option (Nat × Nat × Nat)} {id : Nat} {y : Nat × Nat × Nat}, isNm id = true → nm id = some y → reNm nm r id = some y := fun h1 h2 => by rw [reNm_new h1]; exact h2
    -- behind a push, a pop
    have PQ : ∀ (cp q' f l cp' : Nat) (old : Nat → Nat) (S' : Snap), q = q' → L ≤ cp → cp ≤ mx L → bodyB 20 body (stP done L cp q') S' = true → S'.slots = slotsOf (sy 17 0 0 0 100) (.bool done) actX actN actJ → S'.h = hOf 140 ((spX f done l cp').l old) →
        S'.ents = (spX f done l cp').l old → old 137 = 137 → rises 0 0 ((spX f done l cp').l old) = true → l ≤ cp' → 0 < cp' → mx l ≤ cp' → l ≤ 3 + (k + 1) → f ≤ 10 → Code.roundsIn (wideR ro) 0 P cd (Ends P W nb nt mask r0 h0 body n) (d + 1 + 1) a w := by
      intro cp q' f l cp' old S' hqq hc1 hc2 hB hsl hh hen hold hrs i1 i2 i3 i4 i5
      subst hqq
      obtain ⟨g1, g2⟩ := to_P C H hkn hn (by omega) (by omega) (by omega) (by omega) (by omega) hf hc1 hc2 (0, 0, 0)
      refine body_sound hbody hB C.next C.rel C.gl C.base (lives_dim rfl hm slotsOf_lives) g1 g2 (fun r1 r2 h1 a' w' st1 hd2 hs2 st2 hlow hrow => ?_)
      have hF : S'.f = frOf (slotsOf (sy 17 0 0 0 100) (.bool done) actX actN actJ) fr0 := by unfold Snap.f; rw [hsl]
      rw [hF, hh] at hs2
      rw [hh] at st2
      obtain ⟨b, sh, m, k1, k2⟩ := rows_fit H.st.rel (rs_id _) (id := 137) (old := 137) (e := eC R) (mem_rowsOf.2 ⟨rfl, (in_sp (spF done j R L S)).2.2.2.2.2⟩)
      have hfit : (cells0 ++ anyL (Nat.mul 2 R)).length + sh ≤ m := k2.2
      rw [List.length_append, anyL_len, cells0_len] at hfit
      have k137 : r2 137 = some (b, sh, m) := by
        obtain ⟨q1, _⟩ := hrow 137 137 (c 151 cells0) (by rw [hen]; exact mem_rowsOf.2 ⟨hold.symm, (in_sp (spX f done l cp')).2.2.2.2.2⟩)
        rw [q1]
        exact st1.le _ _ (by rw [reNm_old rfl]; exact k1)
      have nmv : ∀ (id : Nat) (y : Nat × Nat × Nat), isNm id = true → nmK k n cap vb (vo + k) vm S j a0 R L (0, 0, 0) id = some y → r2 id = some y := fun id y e1 e2 => by
        have hid : id < 20 := by
          unfold isNm at e1
          simp only [Bool.and_eq_true, Nat.blt_eq] at e1
          exact e1.2
        rw [hlow id hid]
        exact st1.le _ _ (low e1 e2)
      have H' := back_P C hrs hs2 st2 (nmv 10 _ rfl rfl) (nmv 11 _ rfl rfl) (nmv 12 _ rfl rfl) (nmv 14 _ rfl rfl) (nmv 15 _ rfl rfl) (nmv 16 _ rfl rfl) (nmv 17 _ rfl rfl) (nmv 19 _ rfl rfl) k137 (by
        have : Nat.mul 2 R = 2 * R := rfl
        omega) (by omega) i1 i2 i3 (by omega) (by omega)
      exact ih (k + 1) (by omega) done j a0 R l (S + f) _ a' w' hnd (by omega) (by omega) (by omega) (by omega) (by omega) H'
    -- behind a next
    have NX : ∀ (S1 S' : Snap) (S2 : Sp) (old : Nat → Nat) (N : Nat × Nat × Nat) (done' : Bool) (av av' : V) (j' a0' : Nat), S1.h = hOf 140 (ins 12 (Ent.c 0 true false [.cls 4 q]) (S2.l idS)) → ownB S2.e.blk = false → bodyB 20 body S1 S' = true →
        (∃ u v, S1.slots = slotsOf u v actX actN actI) → S'.slots = slotsOf av' (.bool done') actX actN actJ → S'.h = hOf 140 ((spY done' R av).l old) → S'.ents = (spY done' R av).l old → old 130 = 130 → (∀ id, id < 10 → old id = id) → rises 0 0 ((spY done' R av).l old) = true →
        St P W nb nt (reNm (nmK k n cap vb (vo + k) vm S j a0 R L N) r) (fget S1.f) [] S1.h a w → Step r0 h0 W (reNm (nmK k n cap vb (vo + k) vm S j a0 R L N) r) S1.h w →
        (∀ r2 : Emb, r2 15 = some (j, 0, 0) → ∀ z, VRel r2 av z → VRel (reNm (fun _ => none) r2) (i j') z) → (∀ r2 : Emb, r2 17 = some (a0, 0, 0) → ∀ z, VRel r2 av' z → VRel (reNm (fun _ => none) r2) (i a0') z) →
        fget (frOf (slotsOf av' (.bool done') actX actN actJ) fr0) 7 = av' → (done' = false → j' = R + 1 ∧ a0' = R + 1) → j' ≤ k + 1 → a0' ≤ k + 1 → Code.roundsIn (wideR ro) 0 P cd (Ends P W nb nt mask r0 h0 body n) (d + 1 + 1) a w := by
      intro S1 S' S2 old N done' av av' j' a0' hS1 heo hB hsl1 hsl hh hen hold holdl hrs g1 g2 hav hav' e7 hnd' hj' ha'
      obtain ⟨u, v, hsl1⟩ := hsl1
      refine body_sound hbody hB C.next C.rel C.gl C.base (lives_dim hsl1 hm slotsOf_lives) g1 g2 (fun r1 r2 h1 a' w' st1 hd2 hs2 st2 hlow hrow => ?_)
      have hF : S'.f = frOf (slotsOf av' (.bool done') actX actN actJ) fr0 := by unfold Snap.f; rw [hsl]
      rw [hF, hh] at hs2
      rw [hh] at st2
      obtain ⟨b, sh, m, k1, k2⟩ := rows_fit H.st.rel (rs_id _) (id := 130) (old := 130) (e := eE L) (mem_rowsOf.2 ⟨rfl, (in_sp (spF done j R L S)).2.2.1⟩)
      have hnoE := notown_E H heo (x := Ent.c 0 true false [.cls 4 q]) rfl (nm := nmK k n cap vb (vo + k) vm S j a0 R L N) k1
      rw [hS1] at st1
      have hblt : b < w.heap.size := H.st.rel.lt (rows_blk (rs_id _) (mem_rowsOf.2 ⟨rfl, (in_sp (spF done j R L S)).2.2.1⟩)).2 k1
      have k130 : r2 130 = some (b, sh, m) := by
        obtain ⟨q1, _⟩ := hrow 130 130 eZ (by rw [hen]; exact mem_rowsOf.2 ⟨hold.symm, (in_sp (spY done' R av)).2.2.1⟩)
        rw [q1]
        exact st1.le _ _ (by rw [reNm_old rfl]; exact k1)
      have hno : ¬ Own r2 (hOf 140 ((spY done' R av).l old)) b := by
        rintro ⟨id, sh', m', hi, ho, hr⟩
        obtain ⟨o, e, f1, f2⟩ := hOf_live hrs hi (live_of_own ho)
        rw [f2] at ho
        obtain ⟨q1, q2, q3⟩ := hrow id o e (by rw [hen]; exact f1)
        rw [q1] at hr
        exact hnoE (st1.own b hblt ⟨o, sh', m', q2.1, q3 ho, hr⟩)
      have nmv : ∀ (id : Nat) (y : Nat × Nat × Nat), isNm id = true → nmK k n cap vb (vo + k) vm S j a0 R L N id = some y → r2 id = some y := fun id y e1 e2 => by
        have hid : id < 20 := by
          unfold isNm at e1
          simp only [Bool.and_eq_true, Nat.blt_eq] at e1
          exact e1.2
        rw [hlow id hid]
        exact st1.le _ _ (low e1 e2)
      have hlow' : ∀ id y, id < 10 → r id = some y → r2 id = some y := fun id y hid hr => by
        rw [hlow id (by omega)]
        have hnm : isNm id = false := by
          unfold isNm
          have : Nat.ble 10 id = false := by rw [← Bool.not_eq_true]; intro q; have := Nat.le_of_ble_eq_true q; omega
          rw [this]; rfl
        exact st1.le _ _ (by rw [reNm_old hnm]; exact hr)
      have H' := back_N C H hrs hs2 st2 (nmv 10 _ rfl rfl) (nmv 11 _ rfl rfl) (nmv 12 _ rfl rfl) (nmv 13 _ rfl rfl) (nmv 14 _ rfl rfl) (nmv 19 _ rfl rfl) k1 k130 (st1.keep b hblt hnoE) hno hlow' (by omega) (by omega) (hav r2 (nmv 15 _ rfl rfl)) (hav' r2 (nmv 17 _ rfl rfl)) e7
      exact ih (k + 1) (by omega) done' j' a0' (R + 1) L (S + 1) _ a' w' hnd' (by omega) (by omega) (by omega) (by omega) (by omega) H'
    have hq4 : q = 0 ∨ q = 1 ∨ (q = 2 ∨ q = 3) := by omega
    rcases hq4 with e | e | e
    · exact PQ L 0 (Nat.add 2 (Nat.div L 16)) (Nat.succ L) (Nat.succ L) oldP (enP done L) e (Nat.le_refl _) (by show L ≤ Nat.succ (Nat.pred L); cases L <;> simp) (Fs.push done L (by omega)) rfl (enP_h done L) (by simp only [enP, spX, Sp.l, Sp.b]) rfl (rs_P _) (Nat.le_refl _) (Nat.succ_pos _) (Nat.le_refl _) (by show L + 1 ≤ _; omega) (by show 2 + L / 16 ≤ 10; omega)
    · exact PQ (mx L) 1 (Nat.add 1 (Nat.div L 16)) (Nat.pred L) (mx L) idS (enQ done L) e (by show L ≤ Nat.succ (Nat.pred L); cases L <;> simp) (Nat.le_refl _) (Fs.pop done L (by omega)) rfl (enQ_h done L) (by simp only [enQ, spX, Sp.l, Sp.b]) rfl (rs_id _) (by show Nat.pred L ≤ Nat.succ (Nat.pred L); omega) (Nat.succ_pos _) (by show Nat.succ (Nat.pred (Nat.pred L)) ≤ Nat.succ (Nat.pred L); cases L with | zero => simp | succ m => cases m <;> simp) (by show Nat.pred L ≤ _; have := Nat.pred_le L; omega) (by show 1 + L / 16 ≤ 10; omega)
    · cases done with
      | false =>
        obtain ⟨rfl, rfl⟩ := hnd rfl
        by_cases hjL : a0 < L
        · obtain ⟨N, g1, g2⟩ := to_L C H hkn hn (by omega) (by omega) (by omega) hjL hf
          exact NX (stL a0 q) (enL a0) _ oldL N false (i (Nat.succ a0)) (i (Nat.succ a0)) (a0 + 1) (a0 + 1) (stL_h a0 q) rfl (Fs.below a0 q (by omega) e) ⟨_, _, rfl⟩ rfl (enL_h a0) (by simp only [enL, spY, Sp.l, Sp.b]) rfl (fun id h => by
            unfold oldL
            have h1 : Nat.beq id 137 = false := beq_false (by omega)
            have h2 : Nat.beq id 134 = false := beq_false (by omega)
            rw [h1, h2]; rfl) (rs_L _) g1 g2 (fun _ _ => free_i) (fun _ _ => free_i) (by kernel_rfl) (fun _ => ⟨rfl, rfl⟩) (by omega) (by omega)
        · obtain ⟨g1, g2⟩ := to_G C H hkn hn (by omega) (by omega) (by omega) (by omega) hf (0, 0, 0)
          exact NX (stG a0 q) (enG a0) _ oldG (0, 0, 0) true (i a0) (i a0) a0 a0 (stG_h a0 q) rfl (Fs.above a0 q (by omega) e) ⟨_, _, rfl⟩ rfl (enG_h a0) (by simp only [enG, spY, Sp.l, Sp.b]) rfl (fun id h => by
            unfold oldG
            have h1 : Nat.beq id 137 = false := beq_false (by omega)
            rw [h1]; rfl) (rs_G _) g1 g2 (fun _ _ => free_i) (fun _ _ => free_i) (by kernel_rfl) (fun h => by cases h) (by omega) (by omega)
      | true =>
        obtain ⟨g1, g2⟩ := to_D C H hkn hn (by omega) (by omega) (by omega) (by omega) (by omega) hf (0, 0, 0)
        exact NX (stD R q) (enD R) _ oldD (0, 0, 0) true (sy 15 0 0 0 100) (sy 17 0 0 0 100) j a0 (stD_h R q) rfl (Fs.gone R q (by omega) e) ⟨_, _, rfl⟩ rfl (enD_h R) (by simp only [enD, spY, Sp.l, Sp.b]) rfl (fun id h => by
          unfold oldD
          have h1 : Nat.beq id 137 = false := beq_false (by omega)
          rw [h1]; rfl) (rs_D _) g1 g2 (fun r2 h => by
            have := from_sy (nm := fun _ => none) (r := r2) (id := 15) (n := j) (f := 0) (lo := 0) (hi := 100) (by decide) (by decide) h (by decide)
            exact this) (fun r2 h => by
            have := from_sy (nm := fun _ => none) (r := r2) (id := 17) (n := a0) (f := 0) (lo := 0) (hi := 100) (by decide) (by decide) h (by decide)
            exact this) (by kernel_rfl) (fun h => by cases h) (by omega) (by omega)

end
end Go.Proofs.YtllgeddjlodliaaGreatDoor.Lv

namespace Go.Ev

variable {P : Program}

def flatC : Code → List Code
  | .seq a b => flatC a ++ flatC b
  | c => [c]
def wpL (P : Program) (Q : Exit → Act → World → Prop) : List Code → Act → World → Prop
  | [], a, w => Q .normal a w
  | c :: cs, a, w => c.wp P (Exit.then (wpL P Q cs) Q) a w
theorem wp_flat {Q : Exit → Act → World → Prop} (c : Code) : ∀ (rest : List Code) (a : Act) (w : World), wpL P Q (flatC c ++ rest) a w → c.wp P (Exit.then (wpL P Q rest) Q) a w := by
  induction c with
  | seq x y ihx ihy =>
    intro rest a w h
    rw [flatC, List.append_assoc] at h
    refine wp_seq (wp_mono (ihx _ a w h) ?_)
    intro e a w hh
    cases e with
    | normal => exact ihy rest a w hh
    | _ => exact hh
  | _ =>
    intro rest a w h
    exact h
theorem wp_pieces {Q : Exit → Act → World → Prop} {c : Code} {a : Act} {w : World} (h : wpL P Q (flatC c) a w) : c.wp P Q a w := by
  refine wp_mono (wp_flat c [] a w (by rw [List.append_nil]; exact h)) ?_
  intro e a w hh
  cases e <;> exact hh

/-- The pieces, evaluated. -/
noncomputable def denL (P : Program) (call : CallFn) (mask fuel : Nat) : List Code → Fr → Ds → H → RC
  | [], f, d, h => .ok .norm f d h
  | c :: cs, f, d, h => RC.casesOn (den P call mask fuel c f d h) .fail fun x f d h => X.casesOn x (denL P call mask fuel cs f d h) (fun id => .ok (.exit id) f d h) (.ok .ret f d h)
theorem denL_sound {W : World} {nb n mask fuel : Nat} {call : CallFn} (hcall : CallFnOk P W call) (hnn : NoNum P) (hdraw : DrawSound P W call) {Q : Exit → Act → World → Prop} {rest : List Code} :
    ∀ (cs : List Code) (f f' : Fr) (d d' : Ds) (h h' : H) (x : X) (r : Emb) (a : Act) (w : World), (cs.all (codeOk n)) = true → Dim mask f → St P W nb n r (fget f) d h a w → denL P call mask fuel cs f d h = .ok x f' d' h' →
      (∀ e r' a' w', XRel x e → Dim mask f' → St P W nb n r' (fget f') d' h' a' w' → Step r h w r' h' w' → Exit.then (wpL P Q rest) Q e a' w') → wpL P Q (cs ++ rest) a w := by
  intro cs
  induction cs with
  | nil =>
    intro f f' d d' h h' x r a w _ hd hs he hq
    simp only [denL, RC.ok.injEq] at he
    obtain ⟨rfl, rfl, rfl, rfl⟩ := he
    exact hq .normal r a w rfl hd hs (Step.refl hs.rel)
  | cons c cs ih =>
    intro f f' d d' h h' x r a w hok hd hs he hq
    simp only [List.all_cons, Bool.and_eq_true] at hok
    simp only [denL] at he
    cases hb : den P call mask fuel c f d h with
    | fail => rw [hb] at he; simp at he
    | ok x1 f1 d1 h1 =>
      rw [hb] at he
      simp only at he
      show c.wp P (Exit.then (wpL P Q (cs ++ rest)) Q) a w
      refine wp_mono (wpIn_wide.1 (den_sound (ro := none) hcall hnn hdraw c f f1 d d1 h h1 x1 r a w hok.1 (.inl rfl) hd hs hb)) ?_
      rintro e a1 w1 ⟨hx, hd1, r1, hs1, st1⟩
      cases x1 with
      | norm =>
        have e1 : e = .normal := hx
        subst e1
        simp only at he
        exact ih f1 f' d1 d' h1 h' x r1 a1 w1 hok.2 hd1 hs1 he (fun e r' a' w' q1 q2 q3 q4 => hq e r' a' w' q1 q2 q3 (st1.trans q4))
      | exit id =>
        have e1 : e = .exit id := hx
        subst e1
        simp only [RC.ok.injEq] at he
        obtain ⟨rfl, rfl, rfl, rfl⟩ := he
        exact hq _ r1 a1 w1 rfl hd1 hs1 st1
      | ret =>
        have e1 : e = .ret := hx
        subst e1
        simp only [RC.ok.injEq] at he
        obtain ⟨rfl, rfl, rfl, rfl⟩ := he
        exact hq _ r1 a1 w1 rfl hd1 hs1 st1

end Go.Ev
