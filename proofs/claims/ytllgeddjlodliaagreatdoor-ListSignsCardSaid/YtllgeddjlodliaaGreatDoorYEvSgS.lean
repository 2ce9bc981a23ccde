/- ListSigns: the states of its loop, written down. No condition. -/
import Derived.Test.YtllgeddjlodliaaGreatDoorYEvMj
namespace Go.Proofs.YtllgeddjlodliaaGreatDoor.Sg
open Go.Ev
def i (n : Nat) : V := .int .i64 (.ofNat n)
def p (a : Nat) : V := .ptr a 0
def s (a l c e : Nat) : V := .slice a 0 l c e
def E : V := .str 0 0
def N : V := .nilp
def Z : V := .nils
def I : V := .nilI
def T : V := .bool true
def F : V := .bool false
def c (t : Nat) (vs : List V) : Ent := .c t false true vs
def tabZ0 : List Int := [0, 0, 0, 0, 0, 0, 0, 0, 0, 1, 1, 1, 1, 1, 0, 0, 0, 0, 0, 0, 0, 0, 0, 0, 0, 0, 0, 0, 0, 0, 0, 0, 1, 0, 0, 0, 0, 0, 0, 0, 0, 0, 0, 0, 0, 0, 0, 0, 0, 0, 0, 0, 0, 0, 0, 0, 0, 0, 0, 0, 0, 0, 0, 0, 0, 0, 0, 0, 0, 0, 0, 0, 0, 0, 0, 0, 0, 0, 0, 0, 0, 0, 0, 0, 0, 0, 0, 0, 0, 0, 0, 0, 0, 0, 0, 0, 0, 0, 0, 0, 0, 0, 0, 0, 0, 0, 0, 0, 0, 0, 0, 0, 0, 0, 0, 0, 0, 0, 0, 0, 0, 0, 0, 0, 0, 0, 0, 0, 0, 0, 0, 0, 0, 0, 0, 0, 0, 0, 0, 0, 0, 0, 0, 0, 0, 0, 0, 0, 0, 0, 0, 0, 0, 0, 0, 0, 0, 0, 0, 0, 0, 0, 0, 0, 0, 0, 0, 0, 0, 0, 0, 0, 0, 0, 0, 0, 0, 0, 0, 0, 0, 0, 0, 0, 0, 0, 0, 0, 0, 0, 0, 0, 0, 0, 0, 0, 0, 0, 0, 0, 0, 0, 0, 0, 0, 0, 0, 0, 0, 0, 0, 0, 0, 0, 0, 0, 0, 0, 0, 0, 0, 0, 0, 0, 0, 0, 0, 0, 0, 0, 0, 0, 0, 0, 0, 0, 0, 0, 0, 0, 0, 0, 0, 0, 0, 0, 0, 0, 0, 0, 0, 0, 0, 0, 0, 0]
def tabV : List V := tabZ0.map fun z => V.int .u8 z
def gT : Ent := .c 0 true false tabV
def gL : Ent := .c 0 true false [.int .i64 7, .int .i64 0, .str 32186988823353953160102177792 12]
def tn : Ent := c 146 [Z,Z,i 0,Z]
def ob (a : Nat) : Ent := c 65 [i 0,i 0,F,p a,Z,Z,N,N,N,Z,I,i 0,i 0,i 0,i 0,I]
/-- A number: its name, its distance from the name's number, its bounds. -/
def sy (id a b lo hi : Nat) : V := .msk 0 (Nat.succ (Nat.mul 4 (sPack id (Nat.add 1073741824 a) (Nat.add 1073741824 b) lo hi)))
def atV : V := sy 11 0 0 0 1000
/-- The list of signs: not empty; its place and length are names. -/
def satV : V := .msk 0 (Nat.add (Nat.mul 4 (Nat.add 15 (Nat.mul 65536 (Nat.add 16 (Nat.mul 65536 19))))) 3)
def txV : V := .cls 0 81
def sgV : V := .cls 0 97
def wkV : V := .agg [i 9,i 38,E]
def cells0 : List V := [.iface 42 (p 24),F,.iface 42 (p 26),F,.iface 42 (p 28),F,.iface 42 (p 30),F,.iface 42 (p 32),F,.iface 42 (p 34),F,.iface 42 (p 36),F,.iface 42 (p 38),F,.iface 42 (p 40),F,.iface 42 (p 42),F,.iface 42 (p 44),F,.iface 42 (p 46),F,.iface 42 (p 48),F,.iface 42 (p 50),F,.iface 42 (p 52),F,.iface 42 (p 54),F,.iface 42 (p 56),F,.iface 42 (p 58),F,.iface 42 (p 60),F,.iface 42 (p 62),F,.iface 42 (p 64),F,.iface 107 (p 65),F,.iface 42 (p 67),F,.iface 42 (p 69),F,.iface 42 (p 73),F,.iface 42 (p 78),F,.iface 42 (p 83),F,.iface 42 (p 87),F,.iface 42 (p 91),F,.iface 42 (p 95),F,.iface 42 (p 100),F,.iface 42 (p 104),F,.iface 42 (p 108),F,.iface 42 (p 112),F,.iface 42 (p 116),F,.iface 42 (p 120),F,.iface 42 (p 125),F,.iface 42 (p 131),F]
def m1 : List V := [p 21,i 1,i 2,i 3,i 4,i 5,i 6,i 7,i 8,i 9,i 10,i 11,i 12,i 13,i 14,i 15,i 16,i 17,i 18,i 19,i 20,i 21,i 0,i 8,i 22,E,.iface 80 (.agg []),i 4194304,i 20,i 100000,Z,F,Z,i 0,Z]
def m2 : List V := [i 0,Z,Z,Z,Z,Z,i 0]
def w1 : List V := [i 5,i 12,F,p 130,Z]
def w2 : List V := [N,N,N,Z,I,i 0,i 0,i 3]
def anyL : Nat → List V
  | 0 => []
  | n + 1 => .any :: anyL n
def eM (v : V) : Ent := c 57 (m1 ++ v :: m2)
def eC (r : Nat) : Ent := c 151 (cells0 ++ anyL (Nat.mul 2 r))
def eW (ws : V) : Ent := c 65 (w1 ++ ws :: (w2 ++ [atV, I]))
def eAR (r : Nat) (v : V) : Ent := c 149 [s 135 (Nat.add 38 r) (Nat.add 38 r) 2,Z,v,i (Nat.add 38 r)]
def heldE : Ent := c 3 [i 37,i 38,i 0,i 0]
/-- What is the same in all states. -/
def seg0 : List (Nat × Ent) := [
  (0, gT),
  (1, gL)]
def seg1 : List (Nat × Ent) := [
  (21, c 102 [p 20,i 0])]
def seg2 : List (Nat × Ent) := [
  (23, tn),
  (24, ob 23),
  (25, tn),
  (26, ob 25),
  (27, c 146 [s 123 12 12 8,s 98 32 32 1,i 12,Z]),
  (28, c 65 [i 1,i 0,F,p 27,Z,Z,N,N,N,Z,I,i 0,i 0,i 0,i 0,I]),
  (29, tn),
  (30, ob 29),
  (31, tn),
  (32, ob 31),
  (33, tn),
  (34, ob 33),
  (35, tn),
  (36, ob 35),
  (37, tn),
  (38, ob 37),
  (39, tn),
  (40, ob 39),
  (41, tn),
  (42, ob 41),
  (43, tn),
  (44, ob 43),
  (45, c 146 [s 129 1 1 8,s 128 8 8 1,i 1,Z]),
  (46, ob 45),
  (47, tn),
  (48, ob 47),
  (49, tn),
  (50, ob 49),
  (51, tn),
  (52, ob 51),
  (53, tn),
  (54, ob 53),
  (55, tn),
  (56, ob 55),
  (57, tn),
  (58, ob 57),
  (59, tn),
  (60, ob 59),
  (61, tn),
  (62, ob 61),
  (63, tn),
  (64, ob 63),
  (65, c 109 [i 0,i 0,E]),
  (66, c 146 [s 81 6 6 8,s 76 32 32 1,i 6,Z]),
  (67, c 65 [i 2,i 2,F,p 66,Z,Z,N,N,N,Z,I,i 0,i 0,i 150,i 1,I]),
  (68, c 146 [s 71 2 2 8,s 70 8 8 1,i 2,Z]),
  (69, c 65 [i 2,i 2,F,p 68,Z,Z,N,N,N,Z,I,i 0,i 0,i 151,i 0,I]),
  (70, c 3 [i 0,i 0,i 1,i 0,i 0,i 0,i 0,i 2]),
  (71, c 161 [i 7,i 0,.str 32186988823353953160102177792 12,i 3,i 1,E,i 4,F,i 7,i 0,.str 7277936846225567232 8,i 7,i 0,.str 2454201582626162785453613772728576 14,i 4,F]),
  (72, c 146 [s 75 2 2 8,s 74 8 8 1,i 2,Z]),
  (73, c 65 [i 2,i 2,F,p 72,Z,Z,N,N,N,Z,I,i 0,i 0,i 152,i 0,I]),
  (74, c 3 [i 0,i 0,i 1,i 0,i 0,i 0,i 0,i 2]),
  (75, c 161 [i 7,i 0,.str 32186988823353953160102177792 12,i 3,i 1,E,i 4,F,i 7,i 0,.str 7277936846225567232 8,i 7,i 0,.str 7854399797837456896 8,i 4,F]),
  (76, c 3 [i 0,i 0,i 0,i 4,i 3,i 5,i 0,i 0,i 0,i 0,i 1,i 0,i 0,i 0,i 0,i 0,i 0,i 0,i 0,i 0,i 0,i 0,i 0,i 2,i 0,i 6,i 0,i 0,i 0,i 0,i 0,i 0]),
  (77, c 146 [s 80 2 2 8,s 79 8 8 1,i 2,Z]),
  (78, c 65 [i 2,i 2,F,p 77,Z,Z,N,N,N,Z,I,i 0,i 0,i 153,i 0,I]),
  (79, c 3 [i 0,i 0,i 1,i 0,i 0,i 0,i 0,i 2]),
  (80, c 161 [i 7,i 0,.str 32186988823353953160102177792 12,i 3,i 0,E,i 4,F,i 7,i 0,.str 7277936846225567232 8,i 7,i 0,.str 1711304448 4,i 4,F]),
  (81, c 161 [i 7,i 0,.str 32186988823353953160102177792 12,i 3,i 1,E,i 4,F,i 7,i 0,.str 7277936846225567232 8,i 7,i 0,.str 571413334139194988052736 10,i 4,F,i 7,i 0,.str 8798489755097520284713961511873626475884544 18,i 9,i 3,E,i 0,F,i 7,i 0,.str 2454201582626162785453613772728576 14,i 9,i 24,E,i 5,F,i 7,i 0,.str 7854399797837456896 8,i 9,i 25,E,i 5,F,i 7,i 0,.str 1711304448 4,i 9,i 26,E,i 5,F]),
  (82, c 146 [s 85 2 2 8,s 84 8 8 1,i 2,Z]),
  (83, c 65 [i 2,i 2,F,p 82,Z,Z,N,N,N,Z,I,i 0,i 0,i 154,i 0,I]),
  (84, c 3 [i 0,i 0,i 1,i 0,i 0,i 0,i 0,i 2]),
  (85, c 161 [i 7,i 0,.str 32186988823353953160102177792 12,i 3,i 1,E,i 4,F,i 7,i 0,.str 7277936846225567232 8,i 7,i 0,.str 7494116225744662528 8,i 4,F]),
  (86, c 146 [s 89 2 2 8,s 88 8 8 1,i 2,Z]),
  (87, c 65 [i 2,i 2,F,p 86,Z,Z,N,N,N,Z,I,i 0,i 0,i 155,i 0,I]),
  (88, c 3 [i 0,i 0,i 1,i 0,i 0,i 0,i 0,i 2]),
  (89, c 161 [i 7,i 0,.str 32186988823353953160102177792 12,i 3,i 0,E,i 4,F,i 7,i 0,.str 7277936846225567232 8,i 7,i 0,.str 123147164610560 6,i 4,F]),
  (90, c 146 [s 93 2 2 8,s 92 8 8 1,i 2,Z]),
  (91, c 65 [i 2,i 2,F,p 90,Z,Z,N,N,N,Z,I,i 0,i 0,i 156,i 0,I]),
  (92, c 3 [i 0,i 0,i 1,i 0,i 0,i 0,i 0,i 2]),
  (93, c 161 [i 7,i 0,.str 32186988823353953160102177792 12,i 3,i 0,E,i 4,F,i 7,i 0,.str 7277936846225567232 8,i 7,i 0,.str 35591253096900309988837193216 12,i 4,F]),
  (94, c 146 [s 97 2 2 8,s 96 8 8 1,i 2,Z]),
  (95, c 65 [i 2,i 2,F,p 94,Z,Z,N,N,N,Z,I,i 0,i 0,i 157,i 0,I]),
  (96, c 3 [i 0,i 0,i 1,i 0,i 0,i 0,i 0,i 2]),
  (97, c 161 [i 7,i 0,.str 32186988823353953160102177792 12,i 3,i 0,E,i 4,F,i 7,i 0,.str 7277936846225567232 8,i 7,i 0,.str 8286756356963199744 8,i 4,F]),
  (98, c 3 [i 0,i 12,i 5,i 8,i 0,i 0,i 0,i 0,i 6,i 10,i 7,i 0,i 2,i 0,i 1,i 3,i 9,i 11,i 0,i 0,i 0,i 0,i 4,i 0,i 0,i 0,i 0,i 0,i 0,i 0,i 0,i 0]),
  (99, c 146 [s 102 2 2 8,s 101 8 8 1,i 2,Z]),
  (100, c 65 [i 2,i 2,F,p 99,Z,Z,N,N,N,Z,I,i 0,i 0,i 158,i 0,I]),
  (101, c 3 [i 0,i 0,i 1,i 0,i 0,i 0,i 0,i 2]),
  (102, c 161 [i 7,i 0,.str 32186988823353953160102177792 12,i 3,i 0,E,i 4,F,i 7,i 0,.str 7277936846225567232 8,i 7,i 0,.str 2332508362901790750000453366342912 14,i 4,F]),
  (103, c 146 [s 106 2 2 8,s 105 8 8 1,i 2,Z]),
  (104, c 65 [i 2,i 2,F,p 103,Z,Z,N,N,N,Z,I,i 0,i 0,i 159,i 0,I]),
  (105, c 3 [i 0,i 0,i 1,i 0,i 0,i 0,i 0,i 2]),
  (106, c 161 [i 7,i 0,.str 32186988823353953160102177792 12,i 3,i 1,E,i 4,F,i 7,i 0,.str 7277936846225567232 8,i 7,i 0,.str 2109401238253820558190008277689856 14,i 4,F]),
  (107, c 146 [s 110 2 2 8,s 109 8 8 1,i 2,Z]),
  (108, c 65 [i 2,i 2,F,p 107,Z,Z,N,N,N,Z,I,i 0,i 0,i 160,i 0,I]),
  (109, c 3 [i 0,i 0,i 1,i 0,i 0,i 0,i 0,i 2]),
  (110, c 161 [i 7,i 0,.str 32186988823353953160102177792 12,i 3,i 1,E,i 4,F,i 7,i 0,.str 7277936846225567232 8,i 7,i 0,.str 123146929728768 6,i 4,F]),
  (111, c 146 [s 114 2 2 8,s 113 8 8 1,i 2,Z]),
  (112, c 65 [i 2,i 2,F,p 111,Z,Z,N,N,N,Z,I,i 0,i 0,i 161,i 0,I]),
  (113, c 3 [i 0,i 0,i 1,i 0,i 0,i 0,i 0,i 2]),
  (114, c 161 [i 7,i 0,.str 32186988823353953160102177792 12,i 3,i 1,E,i 4,F,i 7,i 0,.str 7277936846225567232 8,i 7,i 0,.str 2068830229454937525374357153540352 14,i 4,F]),
  (115, c 146 [s 118 2 2 8,s 117 8 8 1,i 2,Z]),
  (116, c 65 [i 2,i 2,F,p 115,Z,Z,N,N,N,Z,I,i 0,i 0,i 162,i 0,I]),
  (117, c 3 [i 0,i 0,i 1,i 0,i 0,i 0,i 0,i 2]),
  (118, c 161 [i 7,i 0,.str 32186988823353953160102177792 12,i 3,i 1,E,i 4,F,i 7,i 0,.str 7277936846225567232 8,i 7,i 0,.str 7926450794755287552 8,i 4,F]),
  (119, c 146 [s 122 2 2 8,s 121 8 8 1,i 2,Z]),
  (120, c 65 [i 2,i 2,F,p 119,Z,Z,N,N,N,Z,I,i 0,i 0,i 163,i 0,I]),
  (121, c 3 [i 0,i 0,i 1,i 0,i 0,i 0,i 0,i 2]),
  (122, c 161 [i 7,i 0,.str 32186988823353953160102177792 12,i 3,i 2,E,i 4,F,i 7,i 0,.str 7277936846225567232 8,i 7,i 0,.str 476966148587094454334208 10,i 4,F]),
  (123, c 161 [i 7,i 0,.str 42653097491945788975072376560108396912368850208580352 22,i 9,i 23,E,i 5,F,i 7,i 0,.str 7494116225744662528 8,i 9,i 27,E,i 5,F,i 7,i 0,.str 123147164610560 6,i 9,i 28,E,i 5,F,i 7,i 0,.str 35591253096900309988837193216 12,i 9,i 29,E,i 5,F,i 7,i 0,.str 8286756356963199744 8,i 9,i 30,E,i 5,F,i 7,i 0,.str 2332508362901790750000453366342912 14,i 9,i 31,E,i 5,F,i 7,i 0,.str 2109401238253820558190008277689856 14,i 9,i 32,E,i 5,F,i 7,i 0,.str 123146929728768 6,i 9,i 33,E,i 5,F,i 7,i 0,.str 2068830229454937525374357153540352 14,i 9,i 34,E,i 5,F,i 7,i 0,.str 7926450794755287552 8,i 9,i 35,E,i 5,F,i 7,i 0,.str 476966148587094454334208 10,i 9,i 36,E,i 5,F,i 8,i 22,E,i 9,i 29,E,i 5,F]),
  (124, c 146 [s 127 2 2 8,s 126 8 8 1,i 2,Z]),
  (125, c 65 [i 2,i 2,F,p 124,Z,Z,N,N,N,Z,I,i 0,i 0,i 164,i 0,I]),
  (126, c 3 [i 0,i 0,i 1,i 0,i 0,i 0,i 0,i 2]),
  (127, c 161 [i 7,i 0,.str 32186988823353953160102177792 12,i 3,i 0,E,i 4,F,i 7,i 0,.str 7277936846225567232 8,i 7,i 0,.str 8358812851489500672 8,i 4,F]),
  (128, c 3 [i 0,i 0,i 0,i 0,i 0,i 0,i 0,i 1]),
  (129, c 161 [i 7,i 0,.str 8358812851489500672 8,i 9,i 37,E,i 5,F])]
/-- So many rounds are through; is anything held; the walker's slots; what lies above. -/
def base (r : Nat) (hd : V) (ws : V) (l : List (Nat × Ent)) : List (Nat × Ent) := seg0 ++ ((20, eAR r hd) :: (seg1 ++ ((22, eM (i r)) :: (seg2 ++ ((130, tn) :: (131, eW ws) :: l)))))
def rowsOf (old : Nat → Nat) : List (Nat × Ent) → Rws
  | [] => []
  | (k, e) :: l => (k, old k, e) :: rowsOf old l
def idS (k : Nat) : Nat := k
def heldV : V := s 134 0 4 1
def hdV (r : Nat) : V := bif Nat.beq r 0 then Z else heldV
def six (r : Nat) : V := bif Nat.beq r 0 then Z else satV
def up (r : Nat) : List (Nat × Ent) := bif Nat.beq r 0 then [(132, c 29 [i 7,i 0,txV]),(133, c 29 [i 9,i 38,E]),(135, eC 0)] else [(132, c 29 [i 7,i 0,txV]),(133, c 29 [i 9,i 38,E]),(134, heldE),(135, eC r)]
/-- At the loop's head. -/
def headS (r : Nat) : Snap := ⟨136, rowsOf idS (base r (hdV r) (s 132 1 1 3) (up r)), [(0,p 22),(1,wkV),(3,p 133),(6,six r),(13,i r)]⟩
/-- The sign that is to come is pinned. -/
def headH (r n : Nat) : H := H.setB 13 (.u16b (Nat.succ n)) (headS r).h
/-- Ahead of the append. -/
def oldM (r k : Nat) : Nat := bif Nat.beq k 134 then (bif Nat.beq r 0 then 210 else 134) else bif Nat.beq k 135 then (bif Nat.beq r 0 then 217 else 213) else bif Nat.beq k 136 then (bif Nat.beq r 0 then 307 else 303) else k
def upM (r : Nat) : List (Nat × Ent) := [(132, c 29 [i 7,i 0,txV]),(133, c 29 [i 9,i 38,E]),(134, heldE),(135, eC (Nat.succ r)),(136, c 29 [i 7,i 0,sgV])]
def midS (r : Nat) : Snap := ⟨137, rowsOf (oldM r) (base (Nat.succ r) heldV (s 132 1 1 3) (upM r)), [(0,p 22),(1,wkV),(3,p 133),(11,p 136),(13,i r)]⟩
/-- Behind the append. -/
def newH (r : Nat) : H := (midS r).h.lay 3 29 true (cellsOf [i 7,i 0,sgV])
def newF (r : Nat) : Fr := frOf [(0,p 22),(1,wkV),(3,p 133),(6,satV),(13,i r)] fr0
/-- Done. -/
def oldD (r k : Nat) : Nat := bif Nat.beq k 134 then (bif Nat.beq r 0 then 194 else 134) else bif Nat.beq k 135 then (bif Nat.beq r 0 then 212 else 209) else k
def hdD (r : Nat) : V := bif Nat.beq r 0 then s 134 0 3 1 else heldV
def heldD (r : Nat) : Ent := bif Nat.beq r 0 then c 3 [i 37,i 38,i 0] else heldE
def doneS (r : Nat) : Snap := ⟨136, rowsOf (oldD r) (base (Nat.succ r) (hdD r) Z [(134, heldD r),(135, eC (Nat.succ r))]), [(5,T)]⟩
/-- Behind the machine's making; behind the walker's; at the first head. -/
def oldsM : List Nat := [22,23,24,25,26,29,30,33,34,37,38,41,42,45,46,49,50,53,54,57,58,61,62,65,66,69,70,73,74,77,78,81,82,85,86,89,90,93,94,97,98,101,102,105,106,111,117,118,191,192,200,224,245,246,254,278,307,341,342,350,374,391,394,395,403,427,446,447,455,479,498,499,507,531,574,575,583,607,630,656,657,665,689,708,709,717,741,760,761,769,793,824,825,833,857,888,889,897,921,952,953,961,985,1069,1071,1072,1080,1104,1112,1120,0,0,0,0,0,1074]
def oldMa (k : Nat) : Nat := bif Nat.blt k 20 then k else oldsM.getD (Nat.sub k 20) 0
def macS : Snap := ⟨136, rowsOf oldMa (seg0 ++ ((20, c 149 [s 135 37 37 2,Z,Z,i 37]) :: (seg1 ++ ((22, eM (i 0)) :: (seg2 ++ [(135, c 151 (cells0.take 74))]))))), [(0,p 22)]⟩
def oldWa (k : Nat) : Nat := bif Nat.blt k 130 then k else bif Nat.beq k 130 then 138 else bif Nat.beq k 131 then 139 else bif Nat.beq k 132 then 142 else bif Nat.beq k 135 then 141 else k
def wlkS : Snap := ⟨136, rowsOf oldWa (seg0 ++ ((20, eAR 0 Z) :: (seg1 ++ ((22, eM (i 0)) :: (seg2 ++ [(130, tn), (131, c 65 (w1 ++ s 132 1 1 3 :: (w2 ++ [i 0, I]))), (132, c 29 [i 7,i 0,txV]), (135, eC 0)]))))), [(0,wkV)]⟩
def oldEn (k : Nat) : Nat := bif Nat.beq k 133 then 136 else k
def entS : Snap := ⟨136, rowsOf oldEn (base 0 Z (s 132 1 1 3) (up 0)), [(0,p 22),(1,wkV),(3,p 133),(6,Z),(13,i 0)]⟩
end Go.Proofs.YtllgeddjlodliaaGreatDoor.Sg
