/- The evaluator in stages: operations. No condition. -/
import Derived.Test.YtpjgdllpljmacaaGreatDoorEwSB
namespace Go.Ev
noncomputable section
variable {P : Program}

inductive OpC where
  | pure (c : Cl)
  | val (g : H → List V → Fr → Option V)
  | mem (g : CallFn → List V → Fr → H → Option (V × H))
  | any (g : CallFn → List V → Fr → Ds → H → Option (V × Ds × H))
def OpC.sem (c : OpC) (call : CallFn) (vs : List V) (f : Fr) (d : Ds) (h : H) : Option (V × Ds × H) :=
  match c with
  | .pure c => some (c.run vs f, d, h)
  | .val g => (g h vs f).map fun v => (v, d, h)
  | .mem g => (g call vs f h).map fun (v, h') => (v, d, h')
  | .any g => g call vs f d h

/-- The slots, as the stages see them. -/
def tmS (ns : List Tmp) (vs : List V) (f : Fr) : Tm := fun t => (resolve ns t).run vs f
theorem opdC_tm (ns : List Tmp) (vs : List V) (f : Fr) (o : Operand) : (opdC P ns o).run vs f = evO P (tmS ns vs f) o := opdC_run (fun _ => rfl) o

/-- Arguments. -/
inductive AC where
  | mk (g : List V → Fr → List V)
def AC.run (c : AC) (vs : List V) (f : Fr) : List V := AC.rec (motive := fun _ => List V) (fun g => g vs f) c
def argsC (P : Program) (ns : List Tmp) (os : List Operand) : AC := List.rec (motive := fun _ => AC) (.mk fun _ _ => []) (fun o _ ih => .mk fun vs f => (opdC P ns o).run vs f :: ih.run vs f) os
theorem argsC_run (ns : List Tmp) (vs : List V) (f : Fr) (os : List Operand) : (argsC P ns os).run vs f = os.map (evO P (tmS ns vs f)) := by
  induction os with
  | nil => rfl
  | cons o os ih => rw [List.map_cons, ← ih, ← opdC_tm]; rfl

def indexAddrC (P : Program) (t : TypeId) (x i : Cl) : OpC :=
  match P.underlying t with
  | some (.slice e) => match P.info? e with
    | some inf => .val fun _ vs f => sliceOf (x.run vs f) (fun id o len _ _ => natOf (i.run vs f) (fun n => (Bool.rec (motive := fun _ => Option V) none (some (.ptr id (Nat.add o (Nat.mul n inf.size)))) (Nat.ble (Nat.succ n) len))) none) none
    | none => .val fun _ vs f => indexAddrV P t (x.run vs f) (i.run vs f)
  | _ => .val fun _ vs f => indexAddrV P t (x.run vs f) (i.run vs f)
theorem natOf_eq {α : Type} (v : V) (k : Nat → α) (e : α) : natOf v k e = (match natV v with | some n => k n | none => e) := by
  cases v <;> first | rfl | (rename_i t n; cases n <;> rfl)
theorem indexAddrC_sem (t : TypeId) (x i : Cl) (call : CallFn) (vs : List V) (f : Fr) (d : Ds) (h : H) :
    (indexAddrC P t x i).sem call vs f d h = (indexAddrV P t (x.run vs f) (i.run vs f)).map fun v => (v, d, h) := by
  unfold indexAddrC
  split
  · rename_i e he
    split
    · rename_i inf hinf
      show Option.map _ (sliceOf (x.run vs f) _ none) = _
      congr 1
      generalize x.run vs f = u
      generalize i.run vs f = j
      unfold indexAddrV
      rw [he]
      cases u <;> first
        | rfl
        | (simp only [sliceOf, natOf_eq]
           cases natV j with
           | none => rfl
           | some n =>
             simp only [hinf]
             show _ = (bif Nat.ble (Nat.succ n) _ then _ else _)
             cases Nat.ble (Nat.succ n) _ <;> rfl)
    · rfl
  · rfl

def indexC (P : Program) (t : TypeId) (x i : Cl) : OpC :=
  match P.underlying t with
  | some .string => .val fun _ vs f => strOf (x.run vs f) (fun n l => natOf (i.run vs f) (fun j => (Bool.rec (motive := fun _ => Option V) none (some (.int .u8 (.ofNat (Nat.mod (Nat.div n (Nat.pow 256 j)) 256)))) (Nat.ble (Nat.succ j) l))) none) none
  | _ => .val fun _ vs f => indexV P t (x.run vs f) (i.run vs f)
theorem indexC_sem (t : TypeId) (x i : Cl) (call : CallFn) (vs : List V) (f : Fr) (d : Ds) (h : H) :
    (indexC P t x i).sem call vs f d h = (indexV P t (x.run vs f) (i.run vs f)).map fun v => (v, d, h) := by
  unfold indexC
  split
  · rename_i he
    show Option.map _ (strOf (x.run vs f) _ none) = _
    congr 1
    generalize x.run vs f = u
    generalize i.run vs f = j
    unfold indexV
    rw [he]
    cases u <;> first
      | rfl
      | (simp only [strOf, natOf_eq]
         cases natV j with
         | none => rfl
         | some n =>
           rename_i l0
           show (Bool.rec (motive := fun _ => Option V) _ _ (Nat.ble (Nat.succ n) l0)) = (bif Nat.ble (Nat.succ n) l0 then _ else _)
           cases Nat.ble (Nat.succ n) l0 <;> rfl)
  · rfl

def sliceC (P : Program) (t : TypeId) (x : Cl) (lo hi : Option Cl) : OpC :=
  match P.underlying t, lo, hi with
  | some .string, some l, none => .val fun _ vs f => strOf (x.run vs f) (fun n len => natOf (l.run vs f) (fun l => (Bool.rec (motive := fun _ => Option V) none (some (.str (Nat.mod (Nat.div n (Nat.pow 256 l)) (Nat.pow 256 (Nat.sub len l))) (Nat.sub len l))) (Nat.ble l len))) none) none
  | _, _, _ => .val fun _ vs f => sliceV P t (x.run vs f) (lo.map fun c => c.run vs f) (hi.map fun c => c.run vs f)
theorem sliceC_sem (t : TypeId) (x : Cl) (lo hi : Option Cl) (call : CallFn) (vs : List V) (f : Fr) (d : Ds) (h : H) :
    (sliceC P t x lo hi).sem call vs f d h = (sliceV P t (x.run vs f) (lo.map fun c => c.run vs f) (hi.map fun c => c.run vs f)).map fun v => (v, d, h) := by
  unfold sliceC
  split
  · rename_i l he
    show Option.map _ (strOf (x.run vs f) _ none) = _
    congr 1
    simp only [Option.map_some, Option.map_none]
    generalize x.run vs f = u
    generalize l.run vs f = j
    unfold sliceV
    rw [he]
    cases u <;> first
      | rfl
      | (simp only [strOf, natOf_eq, hiV, loV, Option.bind_some]
         cases natV j with
         | none => rfl
         | some n =>
           simp only [Option.bind_some]
           cases Nat.ble n _ <;> rfl)
  · rfl

def fieldAddrC (P : Program) (s : TypeId) (x : Cl) (n : Nat) : OpC :=
  match fieldOff P s n with
  | some k => .val fun _ vs f => ptrOf (x.run vs f) (fun id o => some (.ptr id (Nat.add o k))) none
  | none => .val fun _ _ _ => none
theorem fieldAddrC_sem (s : TypeId) (x : Cl) (n : Nat) (call : CallFn) (vs : List V) (f : Fr) (d : Ds) (h : H) :
    (fieldAddrC P s x n).sem call vs f d h = (fieldAddrV P s (x.run vs f) n).map fun v => (v, d, h) := by
  unfold fieldAddrC
  split
  · rename_i k hk
    show Option.map _ (ptrOf (x.run vs f) _ none) = _
    congr 1
    unfold fieldAddrV
    cases x.run vs f <;> first | rfl | (rw [hk]; rfl)
  · rename_i hk
    show none = Option.map _ _
    have : fieldAddrV P s (x.run vs f) n = none := by
      unfold fieldAddrV
      cases x.run vs f <;> first | rfl | (rw [hk]; rfl)
    rw [this]; rfl

def lenC (P : Program) (t : TypeId) (x : Cl) : OpC :=
  match P.underlying t with
  | some .string => .val fun _ vs f => strOf (x.run vs f) (fun _ l => some (.int .i64 (.ofNat l))) none
  | some (.slice _) => .val fun _ vs f => sliceOf (x.run vs f) (fun _ _ l _ _ => some (.int .i64 (.ofNat l))) (lenV P t (x.run vs f))
  | _ => .val fun _ vs f => lenV P t (x.run vs f)
theorem lenC_sem (t : TypeId) (x : Cl) (call : CallFn) (vs : List V) (f : Fr) (d : Ds) (h : H) :
    (lenC P t x).sem call vs f d h = (lenV P t (x.run vs f)).map fun v => (v, d, h) := by
  unfold lenC
  split
  · rename_i he
    show Option.map _ (strOf (x.run vs f) _ none) = _
    congr 1
    unfold lenV
    rw [he]
    cases x.run vs f <;> rfl
  · rename_i e he
    show Option.map _ (sliceOf (x.run vs f) _ _) = _
    congr 1
    unfold lenV
    rw [he]
    cases x.run vs f <;> rfl
  · rfl

def convC (P : Program) (s t : TypeId) (x : Cl) : OpC :=
  match P.underlying s, P.underlying t with
  | some _, some (.int k) => .val fun _ vs f => intOf (x.run vs f) (fun _ n => some (.int k (convI k n))) none
  | _, _ => .val fun h vs f => convA P h s t (x.run vs f)
theorem convC_sem (s t : TypeId) (x : Cl) (call : CallFn) (vs : List V) (f : Fr) (d : Ds) (h : H) :
    (convC P s t x).sem call vs f d h = (convA P h s t (x.run vs f)).map fun v => (v, d, h) := by
  unfold convC
  split
  · rename_i a k h1 h2
    show Option.map _ (intOf (x.run vs f) _ _) = _
    congr 1
    unfold convA
    cases x.run vs f <;> first
      | (simp only [convV, h1, h2]; rfl)
      | (simp only [bytesStr, h1, h2]; cases a <;> rfl)
  · rfl

/-- A place of a list. -/
def nthS (n : Nat) (vs : List V) : Option V := Nat.rec (motive := fun _ => List V → Option V) (fun vs => List.rec (motive := fun _ => Option V) none (fun v _ _ => some v) vs) (fun _ ih vs => List.rec (motive := fun _ => Option V) none (fun _ vs _ => ih vs) vs) n vs
theorem nthS_eq (n : Nat) : ∀ vs, nthS n vs = vs[n]? := by
  induction n with
  | zero => intro vs; cases vs <;> rfl
  | succ n ih => intro vs; cases vs with | nil => rfl | cons v vs => rw [List.getElem?_cons_succ, ← ih]; rfl
def tupOf {α : Type} (v : V) (k : List V → α) (e : α) : α :=
  V.rec (motive_1 := fun _ => α) (motive_2 := fun _ => Unit) (fun _ => e) (fun _ _ => e) (fun _ _ => e) e (fun _ _ => e) e (fun _ _ _ _ _ => e) (fun _ _ _ _ _ => e) e (fun _ _ _ => e) e (fun _ => e) e (fun _ _ => e) (fun _ _ => e) (fun _ _ => e) (fun _ _ => e) (fun _ _ => e) (fun vs _ => k vs) e () (fun _ _ _ _ => ()) v

def opC (P : Program) (ns : List Tmp) (op : Op) : OpC :=
  match op with
  | .move x => .pure (opdC P ns x)
  | .assign x => .pure (opdC P ns x)
  | .pick c a b => .val fun _ vs f => boolOf ((opdC P ns c).run vs f) (fun t => some (Bool.rec (motive := fun _ => V) ((opdC P ns b).run vs f) ((opdC P ns a).run vs f) (t))) none
  | .nilCheck x => .val fun _ vs f => ptrOf ((opdC P ns x).run vs f) (fun i o => some (.ptr i o)) (nilV ((opdC P ns x).run vs f))
  | .binOp o t x y _ => .val fun h vs f => (binC P o t).run h ((opdC P ns x).run vs f) ((opdC P ns y).run vs f)
  | .unOp .not _ x => .val fun _ vs f => boolOf ((opdC P ns x).run vs f) (fun b => some (.bool (notS b))) none
  | .convert s t x => convC P s t (opdC P ns x)
  | .slice t x lo hi none => sliceC P t (opdC P ns x) (lo.map (opdC P ns)) (hi.map (opdC P ns))
  | .fieldAddr s x n => fieldAddrC P s (opdC P ns x) n
  | .indexAddr t x i => indexAddrC P t (opdC P ns x) (opdC P ns i)
  | .index t x i => indexC P t (opdC P ns x) (opdC P ns i)
  | .extract x i => .val fun _ vs f => tupOf ((opdC P ns x).run vs f) (fun l => nthS i l) none
  | .load t x => .val fun h vs f => (loadC P t).run h ((opdC P ns x).run vs f)
  | .field t x n => .val fun _ vs f => fieldV P t ((opdC P ns x).run vs f) n
  | .call { callee := .builtin .len, args, argTypes } =>
    match args.toList, argTypes.toList with
    | [x], t :: _ => lenC P t (opdC P ns x)
    | _, _ => .any fun call vs f d h => oneOp P call op (tmS ns vs f) d h
  | .alloc t => .mem fun _ _ _ h => allocV P h t
  | .store t x y => .mem fun _ vs f h => (storeC P t).run h ((opdC P ns x).run vs f) ((opdC P ns y).run vs f)
  | .call { callee := .value (.func g), args, .. } =>
    bif hasBody P g then .mem (fun call vs f h => call g ((argsC P ns args.toList).run vs f) h) else .any fun _ _ _ _ _ => none
  | op => .any fun call vs f d h => oneOp P call op (tmS ns vs f) d h

theorem opC_sem (ns : List Tmp) (op : Op) (call : CallFn) (vs : List V) (f : Fr) (d : Ds) (h : H) : (opC P ns op).sem call vs f d h = oneOp P call op (tmS ns vs f) d h := by
  have val : ∀ (g : H → List V → Fr → Option V) (op : Op), (∀ h', oneOp P call op (tmS ns vs f) d h' = (plainOp P h' (evO P (tmS ns vs f)) op).map fun (v, h') => (v, d, h')) → isMem op = false → g h vs f = valOp P h (evO P (tmS ns vs f)) op →
      (OpC.val g).sem call vs f d h = oneOp P call op (tmS ns vs f) d h := by
    intro g op h1 h2 h3
    rw [h1, plainOp, h2]
    show (g h vs f).map _ = _
    rw [h3]
    cases valOp P h (evO P (tmS ns vs f)) op <;> rfl
  have val' : ∀ (v : Option V) (op : Op), (∀ h', oneOp P call op (tmS ns vs f) d h' = (plainOp P h' (evO P (tmS ns vs f)) op).map fun (v, h') => (v, d, h')) → isMem op = false → v = valOp P h (evO P (tmS ns vs f)) op →
      (v.map fun v => (v, d, h)) = oneOp P call op (tmS ns vs f) d h := by
    intro v op h1 h2 h3
    rw [h1, plainOp, h2, h3]
    cases valOp P h (evO P (tmS ns vs f)) op <;> rfl
  have B1 : ∀ (t : Bool) (a b : V), (Bool.rec (motive := fun _ => V) b a t) = (bif t then a else b) := fun t a b => by cases t <;> rfl
  unfold opC
  split
  · simp only [OpC.sem, opdC_tm]; rfl
  · simp only [OpC.sem, opdC_tm]; rfl
  · refine val _ _ (fun _ => rfl) rfl ?_
    simp only [opdC_tm, valOp, B1]
    cases evO P (tmS ns vs f) _ <;> rfl
  · refine val _ _ (fun _ => rfl) rfl ?_
    simp only [opdC_tm, valOp]
    cases evO P (tmS ns vs f) _ <;> rfl
  · refine val _ _ (fun _ => rfl) rfl ?_
    simp only [opdC_tm, valOp, binC_run]
  · refine val _ _ (fun _ => rfl) rfl ?_
    simp only [opdC_tm, valOp, notS_eq]
    cases evO P (tmS ns vs f) _ <;> rfl
  · rw [convC_sem, opdC_tm]; exact val' _ _ (fun _ => rfl) rfl rfl
  · rename_i t x lo hi
    rw [sliceC_sem, opdC_tm]
    refine val' _ _ (fun _ => rfl) rfl ?_
    simp only [Option.map_map, valOp]
    congr 1
    · cases lo with
      | none => rfl
      | some o => exact congrArg some (opdC_tm ns vs f o)
    · cases hi with
      | none => rfl
      | some o => exact congrArg some (opdC_tm ns vs f o)
  · rw [fieldAddrC_sem, opdC_tm]; exact val' _ _ (fun _ => rfl) rfl rfl
  · rw [indexAddrC_sem, opdC_tm, opdC_tm]; exact val' _ _ (fun _ => rfl) rfl rfl
  · rw [indexC_sem, opdC_tm, opdC_tm]; exact val' _ _ (fun _ => rfl) rfl rfl
  · refine val _ _ (fun _ => rfl) rfl ?_
    simp only [opdC_tm, valOp, nthS_eq]
    cases evO P (tmS ns vs f) _ <;> rfl
  · refine val _ _ (fun _ => rfl) rfl ?_
    simp only [opdC_tm, valOp, loadC_run]
  · refine val _ _ (fun _ => rfl) rfl ?_
    simp only [opdC_tm, valOp]
  · rename_i args argTypes
    split
    · rename_i x t ts ha ht
      rw [lenC_sem, opdC_tm]
      refine val' _ _ (fun _ => rfl) rfl ?_
      simp only [valOp, ha, ht, List.map_cons, List.map_nil, builtinV]
    · rfl
  · rfl
  · show ((storeC P _).run h _ _).map _ = _
    rw [storeC_run, opdC_tm, opdC_tm]
    rfl
  · rename_i g args targs
    cases hb : hasBody P g
    · simp only [cond_false, OpC.sem, oneOp, callOp, calleeV, evO, hb]; rfl
    · simp only [cond_true, OpC.sem, oneOp, callOp, calleeV, evO, hb, argsC_run, List.nil_append, List.append_nil]
  · rfl

end
end Go.Ev
