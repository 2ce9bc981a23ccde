/- The evaluator: code, functions. No condition. -/
import Derived.Test.YtboloofhmpfeiaaGreatDoorEvP
namespace Go.Ev

variable {P : Program}

inductive X where
  | norm
  | exit (id : Nat)
  | ret
inductive RC where
  | fail
  | ok (x : X) (f : Fr) (d : Ds) (h : H)

def afterOps (mask : Nat) (f : Fr) (r : RO) : RC := RO.casesOn r .fail (fun e d h => .ok .norm (flush mask e f) d h)

def loopN (body : Fr → Ds → H → RC) : Nat → Fr → Ds → H → RC
  | 0, _, _, _ => .fail
  | n + 1, f, d, h => RC.casesOn (body f d h) .fail fun x f d h => X.casesOn x (loopN body n f d h) (fun id => .ok (.exit id) f d h) (.ok .ret f d h)

/-- A range over a function. -/
def rangeV (P : Program) (call : CallFn) (mask : Nat) (g : Operand) (ps : Array Tmp) (assign body : Code) (f : Fr) (d : Ds) (h : H) : RC :=
  match evO P (fget f) g with
  | .fn (.func gf) first cap =>
    bif hasBody P gf && (noDef assign && (noDef body && Nat.blt h.next 65536)) then
      (match call gf (first ++ [.fn (.yield h.next) [] []] ++ cap) (h.layB (.loopb 0 mask f ps.toList assign body)) with
      | some (_, h') => match h'.mem.blk h.next with
        | .loopb st _ _ _ _ _ => (match st with
          | 0 => .ok .norm f ((markG, []) :: d) (h'.kill h.next)
          | 1 => .ok .ret f ((markG, []) :: d) (h'.kill h.next)
          | id + 2 => .ok (.exit id) f ((markG, []) :: d) (h'.kill h.next))
        | _ => .fail
      | none => .fail)
    else .fail
  | _ => .fail

/-- A round's arguments. -/
def putPs (mask : Nat) : List Tmp → List V → Fr → Fr
  | t :: ps, v :: vs, f => putPs mask ps vs (bif kept mask t then fset f t v else f)
  | _, _, f => f
/-- What is kept of how a round was left. -/
def stOf (x : X) : Nat := match x with | .norm => 0 | .ret => 1 | .exit id => id + 2

/-- What code does. -/
def den (P : Program) (call : CallFn) (mask fuel : Nat) : Code → Fr → Ds → H → RC
  | .skip, f, d, h => .ok .norm f d h
  | .label _, f, d, h => .ok .norm f d h
  | .region _ ops draw, f, d, h =>
    bif draw then (match drawList ops.toList with | some L => afterOps mask f (evDraw P call f (pairs L) L d h) | none => .fail)
    else afterOps mask f (evOps P call f ops.toList ops.toList [] d h)
  | .seq a b, f, d, h => RC.casesOn (den P call mask fuel a f d h) .fail fun x f d h => X.casesOn x (den P call mask fuel b f d h) (fun id => .ok (.exit id) f d h) (.ok .ret f d h)
  | .cond c a b, f, d, h =>
    match evO P (fget f) c with
    | .bool t => bif t then den P call mask fuel a f d h else den P call mask fuel b f d h
    | _ => .fail
  | .block id c, f, d, h => RC.casesOn (den P call mask fuel c f d h) .fail fun x f d h => X.casesOn x (.ok .norm f d h) (fun id' => bif Nat.beq id' id then .ok .norm f d h else .ok (.exit id') f d h) (.ok .ret f d h)
  | .loop c, f, d, h => loopN (den P call mask fuel c) fuel f d h
  | .exit id, f, d, h => .ok (.exit id) f d h
  | .ret, f, d, h => .ok .ret f d h
  | .rangeFunc g ps assign body, f, d, h => rangeV P call mask g ps assign body f d h
  | .scope c, f, d, h => den P call mask fuel c f d h
  | _, _, _, _ => .fail

def fr0 : Fr := T16.all (T16.all (T16.all .any))
/-- The first slots: the arguments. -/
def args0 (mask : Nat) : Nat → List V → Fr → Fr
  | _, [], f => f
  | i, v :: vs, f => args0 mask (i + 1) vs (bif kept mask i then fset f i v else f)

def resV (P : Program) (f : Fr) (h : H) : List ResultVar → Option (List V)
  | [] => some []
  | .tmp t :: rest => (resV P f h rest).map fun l => fget f t :: l
  | .cell a t :: rest => (loadV P h t (fget f a)).bind fun v => (resV P f h rest).map fun l => v :: l

def oneRes (l : List V) : V := match l with | [v] => v | l => .tup l

/-- The deferred calls. -/
def runDs (callD : CallFn) : Ds → H → Option H
  | [], h => some h
  | (g, vs) :: ds, h => bif Nat.beq g markG then runDs callD ds h else match callD g vs h with
    | some (_, h') => runDs callD ds h'
    | none => none

/-- A function's body, its results read. -/
def runFn (P : Program) (call callD : CallFn) (mask fuel : Nat) (fn : Func) (c : Code) (vs : List V) (h : H) : Option (V × H) :=
  RC.casesOn (den P call mask fuel c (args0 mask 0 vs fr0) [] h) none fun x f d h =>
    X.casesOn x
      ((runDs callD d h).bind fun h => (resV P f h fn.results.toList).map fun l => (oneRes l, h)) (fun _ => none)
      ((runDs callD d h).bind fun h => (resV P f h fn.results.toList).map fun l => (oneRes l, h))

/-- A function that is called behind a defer: it defers nothing itself. -/
def runFnD (P : Program) (call : CallFn) (mask fuel : Nat) (fn : Func) (c : Code) (vs : List V) (h : H) : Option (V × H) :=
  RC.casesOn (den P call mask fuel c (args0 mask 0 vs fr0) [] h) none fun x f d h =>
    match d with
    | [] => X.casesOn x ((resV P f h fn.results.toList).map fun l => (oneRes l, h)) (fun _ => none) ((resV P f h fn.results.toList).map fun l => (oneRes l, h))
    | _ => none

def callDof (P : Program) (mask : FuncId → Nat) (fuel : Nat) (call : CallFn) : CallFn := fun g vs h =>
  match P.funcs[g]? with
  | some fn => match fn.body with
    | some c => runFnD P call (mask g) fuel fn c vs h
    | none => none
  | none => none

/-- A round of a range over a function. -/
def roundV (P : Program) (call : CallFn) (fuel : Nat) (vs : List V) (h : H) : Option (V × H) :=
  match vs with
  | .ptr id 0 :: args =>
    match h.mem.blk id with
    | .loopb 0 mask f ps assign body =>
      bif Nat.blt id 65536 && Nat.beq args.length ps.length then
        RC.casesOn (den P call mask fuel assign (putPs mask ps args f) [] (h.kill id)) none fun x1 f1 d1 h1 =>
          match x1, d1 with
          | .norm, [] => RC.casesOn (den P call mask fuel body f1 [] h1) none fun x2 _ d2 h2 =>
            match d2 with
            | [] => some (.bool (Nat.beq (stOf x2) 0), h2.setB id (.loopb (stOf x2) mask f ps assign body))
            | _ => none
          | _, _ => none
      else none
    | _ => none
  | _ => none

/-- The functions, so many calls deep. -/
def callN (P : Program) (ext : CallFn) (isExt : FuncId → Bool) (mask : FuncId → Nat) (fuel : Nat) : Nat → CallFn
  | 0, _, _, _ => none
  | n + 1, g, vs, h =>
    bif isExt g then ext g vs h else
    match P.funcs[g]? with
    | some fn => match fn.body with
      | some c => runFn P (callN P ext isExt mask fuel n) (callDof P mask fuel (callN P ext isExt mask fuel n)) (mask g) fuel fn c vs h
      | none => none
    | none => bif Nat.beq g yieldG then roundV P (callN P ext isExt mask fuel n) fuel vs h else none

end Go.Ev
