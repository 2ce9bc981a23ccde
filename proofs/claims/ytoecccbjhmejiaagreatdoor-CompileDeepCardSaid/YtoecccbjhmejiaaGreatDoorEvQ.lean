/- The evaluator: code, functions. No condition. -/
import Derived.Test.YtoecccbjhmejiaaGreatDoorEvP
namespace Go.Ev

variable {P : Program}

inductive X where
  | norm
  | exit (id : Nat)
  | ret
inductive RC where
  | fail
  | ok (x : X) (f : Fr) (d : Ds) (h : H)

def afterOps (mask : Nat) (f : Fr) (r : RO) : RC := RO.casesOn r .fail (fun e d h => .ok .norm (flush mask e f) d h)

def loopN (body : Fr → Ds → H → RC) : Nat → Fr → Ds → H → RC
  | 0, _, _, _ => .fail
  | n + 1, f, d, h => RC.casesOn (body f d h) .fail fun x f d h => X.casesOn x (loopN body n f d h) (fun id => .ok (.exit id) f d h) (.ok .ret f d h)

/-- A range over a function that calls its yield never. -/
def rangeV (P : Program) (call : CallFn) (g : Operand) (f : Fr) (d : Ds) (h : H) : RC :=
  match evO P (fget f) g with
  | .fn (.func gf) first cap => bif hasBody P gf then (match call gf (first ++ [.any] ++ cap) h with | some (_, h') => .ok .norm f ((markG, []) :: d) h' | none => .fail) else .fail
  | _ => .fail

/-- What code does. -/
def den (P : Program) (call : CallFn) (mask fuel : Nat) : Code → Fr → Ds → H → RC
  | .skip, f, d, h => .ok .norm f d h
  | .label _, f, d, h => .ok .norm f d h
  | .region _ ops draw, f, d, h =>
    bif draw then (match drawList ops.toList with | some L => afterOps mask f (evDraw P call f (pairs L) L d h) | none => .fail)
    else afterOps mask f (evOps P call f ops.toList ops.toList [] d h)
  | .seq a b, f, d, h => RC.casesOn (den P call mask fuel a f d h) .fail fun x f d h => X.casesOn x (den P call mask fuel b f d h) (fun id => .ok (.exit id) f d h) (.ok .ret f d h)
  | .cond c a b, f, d, h =>
    match evO P (fget f) c with
    | .bool t => bif t then den P call mask fuel a f d h else den P call mask fuel b f d h
    | _ => .fail
  | .block id c, f, d, h => RC.casesOn (den P call mask fuel c f d h) .fail fun x f d h => X.casesOn x (.ok .norm f d h) (fun id' => bif Nat.beq id' id then .ok .norm f d h else .ok (.exit id') f d h) (.ok .ret f d h)
  | .loop c, f, d, h => loopN (den P call mask fuel c) fuel f d h
  | .exit id, f, d, h => .ok (.exit id) f d h
  | .ret, f, d, h => .ok .ret f d h
  | .rangeFunc g _ _ _, f, d, h => rangeV P call g f d h
  | _, _, _, _ => .fail

def fr0 : Fr := T16.all (T16.all .any)
/-- The first slots: the arguments. -/
def args0 (mask : Nat) : Nat → List V → Fr → Fr
  | _, [], f => f
  | i, v :: vs, f => args0 mask (i + 1) vs (bif kept mask i then fset f i v else f)

def resV (P : Program) (f : Fr) (h : H) : List ResultVar → Option (List V)
  | [] => some []
  | .tmp t :: rest => (resV P f h rest).map fun l => fget f t :: l
  | .cell a t :: rest => (loadV P h t (fget f a)).bind fun v => (resV P f h rest).map fun l => v :: l

def oneRes (l : List V) : V := match l with | [v] => v | l => .tup l

/-- The deferred calls. -/
def runDs (callD : CallFn) : Ds → H → Option H
  | [], h => some h
  | (g, vs) :: ds, h => bif Nat.beq g markG then runDs callD ds h else match callD g vs h with
    | some (_, h') => runDs callD ds h'
    | none => none

/-- A function's body, its results read. -/
def runFn (P : Program) (call callD : CallFn) (mask fuel : Nat) (fn : Func) (c : Code) (vs : List V) (h : H) : Option (V × H) :=
  RC.casesOn (den P call mask fuel c (args0 mask 0 vs fr0) [] h) none fun x f d h =>
    X.casesOn x
      ((runDs callD d h).bind fun h => (resV P f h fn.results.toList).map fun l => (oneRes l, h)) (fun _ => none)
      ((runDs callD d h).bind fun h => (resV P f h fn.results.toList).map fun l => (oneRes l, h))

/-- A function that is called behind a defer: it defers nothing itself. -/
def runFnD (P : Program) (call : CallFn) (mask fuel : Nat) (fn : Func) (c : Code) (vs : List V) (h : H) : Option (V × H) :=
  RC.casesOn (den P call mask fuel c (args0 mask 0 vs fr0) [] h) none fun x f d h =>
    match d with
    | [] => X.casesOn x ((resV P f h fn.results.toList).map fun l => (oneRes l, h)) (fun _ => none) ((resV P f h fn.results.toList).map fun l => (oneRes l, h))
    | _ => none

def callDof (P : Program) (mask : FuncId → Nat) (fuel : Nat) (call : CallFn) : CallFn := fun g vs h =>
  match P.funcs[g]? with
  | some fn => match fn.body with
    | some c => runFnD P call (mask g) fuel fn c vs h
    | none => none
  | none => none

/-- The functions, so many calls deep. -/
def callN (P : Program) (ext : CallFn) (isExt : FuncId → Bool) (mask : FuncId → Nat) (fuel : Nat) : Nat → CallFn
  | 0, _, _, _ => none
  | n + 1, g, vs, h =>
    bif isExt g then ext g vs h else
    match P.funcs[g]? with
    | some fn => match fn.body with
      | some c => runFn P (callN P ext isExt mask fuel n) (callDof P mask fuel (callN P ext isExt mask fuel n)) (mask g) fuel fn c vs h
      | none => none
    | none => none

end Go.Ev
