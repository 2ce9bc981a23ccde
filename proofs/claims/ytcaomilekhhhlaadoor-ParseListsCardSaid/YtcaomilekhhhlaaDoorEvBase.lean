/- What the evaluator is told of this program: the slots that live, the functions met by contract, the memory at the beginning. No condition. -/
import Derived.Test.YtcaomilekhhhlaaDoorEvMh
import Derived.Test.YtcaomilekhhhlaaDoorEvMi
import Derived.Test.YtcaomilekhhhlaaDoorProg
namespace Go.Proofs.YtcaomilekhhhlaaDoor
open Go.Ev

def maskL : List Nat := [0x0, 0x0, 0x0, 0x78040000000f8000000000000040000008000027cadff73, 0x7, 0x400100080fd, 0x800104013fd, 0x10f, 0x5, 0x5, 0x20010011d, 0x400810040000028f3, 0x40f000804022f3, 0x13, 0x13, 0x20008000d, 0x83, 0x20008c7, 0x2400040801c7, 0x40001041000001000020020000242101d, 0x13, 0x13, 0x13, 0x5, 0x8020001f3, 0x5, 0x4002003f3, 0x4000400020040003ff3, 0x4080000041020002000011ffd, 0xc7, 0x100d, 0x2013, 0x3, 0x200d, 0x83, 0x1, 0x20000000000100000000447d, 0x400000000000400000801f3, 0x1, 0x4005, 0x1000d, 0xd, 0x10200008000000008080100003f3, 0x400000020000a0003, 0x1001010400103, 0x20003, 0x13, 0x13, 0x81000040800200002010800001081013ff3, 0x5, 0x13ad, 0xa0f20010b7d, 0x7801200a1cff3, 0xe5, 0x44000000100000300281d, 0x400852000891d, 0x87, 0x8000001400d, 0xc43, 0x10010085c7, 0x4400020408081020820820008001000643d, 0x13, 0x4000400001013d, 0x10f, 0x1000000000040001e02000000000100010001e030027f3, 0x0, 0x0, 0x5, 0x200000001080001007f3, 0x13, 0x3, 0x5, 0x400001000000f3, 0xd, 0x81d, 0x10000000000040000000020002807f3, 0x2000000001000d, 0x1020c002000200211d, 0x80000000201d, 0x203d, 0x4000d, 0x4040d, 0x4000000014033, 0x10004033, 0x1000000033, 0x420011fd, 0x13, 0x40000020000040000020803a07f3, 0x80004000040000020803a7f3, 0xac008000405f3, 0x10d, 0x2000000800000200002000023fd, 0x80041, 0x90255d, 0x0, 0x0, 0x0, 0x0, 0x0, 0x0, 0x0, 0x0, 0x0, 0x0, 0x0, 0x0, 0x0, 0x0, 0x0, 0x0, 0x0, 0x0, 0x0, 0x0, 0x0, 0x0, 0x0, 0x0, 0x0, 0x0, 0x0, 0x0]
noncomputable def maskAt (g : Nat) (l : List Nat) : Nat := List.rec (motive := fun _ => Nat → Nat) (fun _ => 0) (fun m _ ih g => Nat.rec (motive := fun _ => Nat) m (fun k _ => ih k) g) l g
/-- The slots that live across regions. -/
noncomputable def mask (g : FuncId) : Nat := maskAt g maskL
def tabL2 : List (Nat × List (Nat × List (Nat × Nat))) := [(3, [(20, [])]), (5, [(3, []), (7, [(4, 6), (4, 7)]), (9, [])]), (13, [(1, [])]), (15, [(4, [(4, 6), (4, 7)])]), (18, [(6, [(3, 5)]), (11, [(4, 7), (4, 8)])]), (19, [(11, [(4, 6), (4, 8), (4, 9)]), (13, [(4, 6), (4, 7)]), (16, [(4, 6), (4, 8), (4, 9)]), (21, [(4, 7), (4, 8)]), (32, [(4, 6), (4, 7)])]), (26, [(4, []), (10, [(0, 13)])]), (30, [(3, [(4, 6), (4, 7)])]), (34, [(3, [(4, 6), (4, 8), (4, 9)])]), (36, [(7, [(1, 5), (1, 6), (3, 5), (3, 6)])]), (37, [(11, [(24, 25)])]), (40, [(4, [(4, 6), (4, 7)])]), (42, [(13, []), (21, [(4, 9), (4, 10)])]), (43, [(4, [(3, 5)]), (6, [(3, 5)]), (8, [(3, 5)])]), (44, [(9, [(4, 6), (4, 7)]), (12, [(4, 6), (4, 7)])]), (45, [(3, [(4, 6), (4, 7)])]), (54, [(9, [(4, 6), (4, 8), (4, 9)]), (12, [(4, 6), (4, 7)]), (15, [(4, 6), (4, 7)])]), (55, [(25, [(1, 11), (1, 12), (3, 11), (3, 12), (5, 11), (5, 12), (6, 11), (6, 12)])]), (57, [(4, [(4, 6), (4, 7)]), (6, [(4, 6), (4, 7)])]), (60, [(40, [(1, 3)]), (42, [(1, 3)])]), (62, [(8, [(1, 4)])]), (63, [(4, [(4, 8), (4, 9)])]), (64, [(14, [(4, 16), (4, 17), (4, 18), (4, 19), (8, 16), (8, 17)]), (10, [(4, 7), (4, 8)]), (24, [(4, 15), (4, 16), (4, 17), (8, 15)]), (28, [(3, 17), (3, 18), (7, 17), (9, 17)])]), (71, [(1, [])]), (75, [(13, [(2, 5)])]), (76, [(6, [(4, 6), (4, 7)])]), (77, [(7, []), (9, []), (10, [])]), (78, [(4, [(4, 6), (4, 7)]), (6, [(4, 8), (4, 9), (4, 10), (4, 11), (4, 12)]), (9, [(4, 6), (4, 7)]), (12, [(4, 6), (4, 7)])]), (82, [(4, [(4, 6), (4, 8), (4, 9)]), (6, [(4, 6), (4, 7)])]), (83, [(3, [(4, 6), (4, 7)])]), (84, [(2, [(3, 16)])]), (87, [(9, []), (18, [])]), (88, [(9, [])]), (89, [(9, []), (17, [(2, 8), (2, 9)])]), (91, [(12, [(2, 5)])])]
def tabRow (g : Nat) : List (Nat × List (Nat × List (Nat × Nat))) → List (Nat × List (Nat × Nat))
  | [] => []
  | (g', l) :: rest => bif Nat.beq g g' then l else tabRow g rest
def tabAt (r : Nat) : List (Nat × List (Nat × Nat)) → Option (List (Nat × Nat))
  | [] => none
  | (r', ps) :: rest => bif Nat.beq r r' then some ps else tabAt r rest
/-- What is known of the regions that draw their order. -/
def tab (g : FuncId) (r : Nat) : Option (List (Nat × Nat)) := tabAt r (tabRow g tabL2)
def tabZ : List Int := [0, 0, 0, 0, 0, 0, 0, 0, 0, 1, 1, 1, 1, 1, 0, 0, 0, 0, 0, 0, 0, 0, 0, 0, 0, 0, 0, 0, 0, 0, 0, 0, 1, 0, 0, 0, 0, 0, 0, 0, 0, 0, 0, 0, 0, 0, 0, 0, 0, 0, 0, 0, 0, 0, 0, 0, 0, 0, 0, 0, 0, 0, 0, 0, 0, 0, 0, 0, 0, 0, 0, 0, 0, 0, 0, 0, 0, 0, 0, 0, 0, 0, 0, 0, 0, 0, 0, 0, 0, 0, 0, 0, 0, 0, 0, 0, 0, 0, 0, 0, 0, 0, 0, 0, 0, 0, 0, 0, 0, 0, 0, 0, 0, 0, 0, 0, 0, 0, 0, 0, 0, 0, 0, 0, 0, 0, 0, 0, 0, 0, 0, 0, 0, 0, 0, 0, 0, 0, 0, 0, 0, 0, 0, 0, 0, 0, 0, 0, 0, 0, 0, 0, 0, 0, 0, 0, 0, 0, 0, 0, 0, 0, 0, 0, 0, 0, 0, 0, 0, 0, 0, 0, 0, 0, 0, 0, 0, 0, 0, 0, 0, 0, 0, 0, 0, 0, 0, 0, 0, 0, 0, 0, 0, 0, 0, 0, 0, 0, 0, 0, 0, 0, 0, 0, 0, 0, 0, 0, 0, 0, 0, 0, 0, 0, 0, 0, 0, 0, 0, 0, 0, 0, 0, 0, 0, 0, 0, 0, 0, 0, 0, 0, 0, 0, 0, 0, 0, 0, 0, 0, 0, 0, 0, 0, 0, 0, 0, 0, 0, 0, 0, 0, 0, 0, 0, 0]
def tabL : List V := tabZ.map fun z => V.int .u8 z
def h0 : H := ⟨600, m4.put 0 (.live 256 0 true false (cellsOf tabL))⟩
def signsN : Nat := 1338534988842287408566605852637421440820494225392860628387399747447448665171434744079479137516980325684540566930379189255159603697614280747590455023972756650277178504761623198595204983305728637839075368467120595545646
def signsL : List V := [.str 3026478 3, .str 4013373 3, .str 4013345 3, .str 9766 2, .str 31868 2, .str 16191 2, .str 15933 2, .str 11051 2, .str 11565 2, .str 15659 2, .str 15661 2, .str 15658 2, .str 15663 2, .str 15653 2, .str 15676 2, .str 15678 2, .str 40 1, .str 41 1, .str 91 1, .str 93 1, .str 123 1, .str 125 1, .str 46 1, .str 44 1, .str 59 1, .str 58 1, .str 63 1, .str 33 1, .str 61 1, .str 43 1, .str 45 1, .str 42 1, .str 47 1, .str 37 1, .str 60 1, .str 62 1]
def fieldsV (vs : List V) (h : H) : Option (V × H) :=
  match vs with
  | [.str n l] => bif Nat.beq n signsN && Nat.beq l 90 && Nat.blt h.next 65536 then some (.slice h.next 0 36 36 1, h.lay 36 9 true (cellsOf signsL)) else none
  | _ => none
def ext : CallFn := fun g vs h =>
  bif Nat.beq g 20 then (prefV vs).map fun v => (v, h)
  else bif Nat.beq g 28 then fieldsV vs h
  else bif Nat.beq g 69 then (contV vs).map fun v => (v, h)
  else bif Nat.beq g 4 then (match vs with | [] => some (.bool true, h) | _ => none)
  else none
def isExt0 (_ : FuncId) : Bool := false
def isExt1 (g : FuncId) : Bool := Nat.beq g 20 || (Nat.beq g 28 || Nat.beq g 69)
noncomputable def call0 : CallFn := callS Tryd.prog ext isExt0 mask tab 1000 60
noncomputable def call1 : CallFn := callS Tryd.prog ext isExt1 mask tab 1000 60

end Go.Proofs.YtcaomilekhhhlaaDoor
