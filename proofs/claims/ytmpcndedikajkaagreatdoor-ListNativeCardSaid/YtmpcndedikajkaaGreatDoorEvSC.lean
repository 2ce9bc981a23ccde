/- The evaluator in stages: operations. No condition. -/
import Derived.Test.YtmpcndedikajkaaGreatDoorEvSB
namespace Go.Ev
noncomputable section
variable {P : Program}

inductive OpC where
  | pure (c : Cl)
  | val (g : H → List V → Fr → Option V)
  | mem (g : CallFn → List V → Fr → H → Option (V × H))
  | any (g : CallFn → List V → Fr → Ds → H → Option (V × Ds × H))
def OpC.sem (c : OpC) (call : CallFn) (vs : List V) (f : Fr) (d : Ds) (h : H) : Option (V × Ds × H) :=
  match c with
  | .pure c => some (c.run vs f, d, h)
  | .val g => (g h vs f).map fun v => (v, d, h)
  | .mem g => (g call vs f h).map fun (v, h') => (v, d, h')
  | .any g => g call vs f d h

/-- The slots, as the stages see them. -/
def tmS (ns : List Tmp) (vs : List V) (f : Fr) : Tm := fun t => (resolve ns t).run vs f
theorem opdC_tm (ns : List Tmp) (vs : List V) (f : Fr) (o : Operand) : (opdC P ns o).run vs f = evO P (tmS ns vs f) o := opdC_run (fun _ => rfl) o

/-- Arguments. -/
inductive AC where
  | mk (g : List V → Fr → List V)
def AC.run (c : AC) (vs : List V) (f : Fr) : List V := AC.rec (motive := fun _ => List V) (fun g => g vs f) c
def argsC (P : Program) (ns : List Tmp) (os : List Operand) : AC := List.rec (motive := fun _ => AC) (.mk fun _ _ => []) (fun o _ ih => .mk fun vs f => (opdC P ns o).run vs f :: ih.run vs f) os
theorem argsC_run (ns : List Tmp) (vs : List V) (f : Fr) (os : List Operand) : (argsC P ns os).run vs f = os.map (evO P (tmS ns vs f)) := by
  induction os with
  | nil => rfl
  | cons o os ih => rw [List.map_cons, ← ih, ← opdC_tm]; rfl

def indexAddrC (P : Program) (t : TypeId) (x i : Cl) : OpC :=
  match P.underlying t with
  | some (.slice e) => match P.info? e with
    | some inf => .val fun _ vs f => sliceOf (x.run vs f) (fun id o len _ _ => natOf (i.run vs f) (fun n => (Bool.rec (motive := fun _ => Option V) none (some (.ptr id (Nat.add o (Nat.mul n inf.size)))) (Nat.ble (Nat.succ n) len))) none) none
    | none => .val fun _ vs f => indexAddrV P t (x.run vs f) (i.run vs f)
  | _ => .val fun _ vs f => indexAddrV P t (x.run vs f) (i.run vs f)
theorem natOf_eq {α : Type} (v : V) (k : Nat → α) (e : α) : natOf v k e = (match natV v with | some n => k n | none => e) := by
  cases v <;> first | rfl | (rename_i t n; cases n <;> rfl)
theorem indexAddrC_sem (t : TypeId) (x i : Cl) (call : CallFn) (vs : List V) (f : Fr) (d : Ds) (h : H) :
    (indexAddrC P t x i).sem call vs f d h = (indexAddrV P t (x.run vs f) (i.run vs f)).map fun v => (v, d, h) := by
  unfold indexAddrC
  split
  · rename_i e he
    split
    · rename_i inf hinf
      show Option.map _ (sliceOf (x.run vs f) _ none) = _
      congr 1
      generalize x.run vs f = u
      generalize i.run vs f = j
      unfold indexAddrV
      rw [he]
      cases u <;> first
        | rfl
        | (simp only [sliceOf, natOf_eq]
           cases natV j with
           | none => rfl
           | some n =>
             simp only [hinf]
             show _ = (bif Nat.ble (Nat.succ n) _ then _ else _)
             cases Nat.ble (Nat.succ n) _ <;> rfl)
    · rfl
  · rfl

def indexC (P : Program) (t : TypeId) (x i : Cl) : OpC :=
  match P.underlying t with
  | some .string => .val fun _ vs f => strOf (x.run vs f) (fun n l => natOf (i.run vs f) (fun j => (Bool.rec (motive := fun _ => Option V) none (some (.int .u8 (.ofNat (Nat.mod (Nat.div n (Nat.pow 256 j)) 256)))) (Nat.ble (Nat.succ j) l))) none) none
  | _ => .val fun _ vs f => indexV P t (x.run vs f) (i.run vs f)
theorem indexC_sem (t : TypeId) (x i : Cl) (call : CallFn) (vs : List V) (f : Fr) (d : Ds) (h : H) :
    (indexC P t x i).sem call vs f d h = (indexV P t (x.run vs f) (i.run vs f)).map fun v => (v, d, h) := by
  unfold indexC
  split
  · rename_i he
    show Option.map _ (strOf (x.run vs f) _ none) = _
    congr 1
    generalize x.run vs f = u
    generalize i.run vs f = j
    unfold indexV
    rw [he]
    cases u <;> first
      | rfl
      | (simp only [strOf, natOf_eq]
         cases natV j with
         | none => rfl
         | some n =>
           rename_i l0
           show (Bool.rec (motive := fun _ => Option V) _ _ (Nat.ble (Nat.succ n) l0)) = (bif Nat.ble (Nat.succ n) l0 then _ else _)
           cases Nat.ble (Nat.succ n) l0 <;> rfl)
  · rfl

def sliceC (P : Program) (t : TypeId) (x : Cl) (lo hi : Option Cl) : OpC :=
  match P.underlying t, lo, hi with
  | some .string, some l, none => .val fun _ vs f => strOf (x.run vs f) (fun n len => natOf (l.run vs f) (fun l => (Bool.rec (motive := fun _ => Option V) none (some (.str (Nat.mod (Nat.div n (Nat.pow 256 l)) (Nat.pow 256 (Nat.sub len l))) (Nat.sub len l))) (Nat.ble l len))) none) none
  | _, _, _ => .val fun _ vs f => sliceV P t (x.run vs f) (lo.map fun c => c.run vs f) (hi.map fun c => c.run vs f)
theorem sliceC_sem (t : TypeId) (x : Cl) (lo hi : Option Cl) (call : CallFn) (vs : List V) (f : Fr) (d : Ds) (h : H) :
    (sliceC P t x lo hi).sem call vs f d h = (sliceV P t (x.run vs f) (lo.map fun c => c.run vs f) (hi.map fun c => c.run vs f)).map fun v => (v, d, h) := by
  unfold sliceC
  split
  · rename_i l he
    show Option.map _ (strOf (x.run vs f) _ none) = _
    congr 1
    simp only [Option.map_some, Option.map_none]
    generalize x.run vs f = u
    generalize l.run vs f = j
    unfold sliceV
    rw [he]
    cases u <;> first
      | rfl
      | (simp only [strOf, natOf_eq, hiV, loV, Option.bind_some]
         cases natV j with
         | none => rfl
         | some n =>
           simp only [Option.bind_some]
           cases Nat.ble n _ <;> rfl)
  · rfl

def fieldAddrC (P : Program) (s : TypeId) (x : Cl) (n : Nat) : OpC :=
  match fieldOff P s n with
  | some k => .val fun _ vs f => ptrOf (x.run vs f) (fun id o => some (.ptr id (Nat.add o k))) none
  | none => .val fun _ _ _ => none
theorem fieldAddrC_sem (s : TypeId) (x : Cl) (n : Nat) (call : CallFn) (vs : List V) (f : Fr) (d : Ds) (h : H) :
    (fieldAddrC P s x n).sem call vs f d h = (fieldAddrV P s (x.run vs f) n).map fun v => (v, d, h) := by
  unfold fieldAddrC
  split
  · rename_i k hk
    show Option.map _ (ptrOf (x.run vs f) _ none) = _
    congr 1
    unfold fieldAddrV
    cases x.run vs f <;> first | rfl | (rw [hk]; rfl)
  · rename_i hk
    show none = Option.map _ _
    have : fieldAddrV P s (x.run vs f) n = none := by
      unfold fieldAddrV
      cases x.run vs f <;> first | rfl | (rw [hk]; rfl)
    rw [this]; rfl

def lenC (P : Program) (t : TypeId) (x : Cl) : OpC :=
  match P.underlying t with
  | some .string => .val fun _ vs f => strOf (x.run vs f) (fun _ l => some (.int .i64 (.ofNat l))) none
  | some (.slice _) => .val fun _ vs f => sliceOf (x.run vs f) (fun _ _ l _ _ => some (.int .i64 (.ofNat l))) (lenV P t (x.run vs f))
  | _ => .val fun _ vs f => lenV P t (x.run vs f)
theorem lenC_sem (t : TypeId) (x : Cl) (call : CallFn) (vs : List V) (f : Fr) (d : Ds) (h : H) :
    (lenC P t x).sem call vs f d h = (lenV P t (x.run vs f)).map fun v => (v, d, h) := by
  unfold lenC
  split
  · rename_i he
    show Option.map _ (strOf (x.run vs f) _ none) = _
    congr 1
    unfold lenV
    rw [he]
    cases x.run vs f <;> rfl
  · rename_i e he
    show Option.map _ (sliceOf (x.run vs f) _ _) = _
    congr 1
    unfold lenV
    rw [he]
    cases x.run vs f <;> rfl
  · rfl

def convC (P : Program) (s t : TypeId) (x : Cl) : OpC :=
  match P.underlying s, P.underlying t with
  | some _, some (.int k) => .val fun _ vs f => intOf (x.run vs f) (fun _ n => some (.int k (convI k n))) none
  | _, _ => .val fun h vs f => convA P h s t (x.run vs f)
theorem convC_sem (s t : TypeId) (x : Cl) (call : CallFn) (vs : List V) (f : Fr) (d : Ds) (h : H) :
    (convC P s t x).sem call vs f d h = (convA P h s t (x.run vs f)).map fun v => (v, d, h) := by
  unfold convC
  split
  · rename_i a k h1 h2
    show Option.map _ (intOf (x.run vs f) _ _) = _
    congr 1
    unfold convA
    cases x.run vs f <;> first
      | (simp only [convV, h1, h2]; rfl)
      | (simp only [bytesStr, h1, h2]; cases a <;> rfl)
  · rfl

/-- A place of a list. -/
def nthS (n : Nat) (vs : List V) : Option V := Nat.rec (motive := fun _ => List V → Option V) (fun vs => List.rec (motive := fun _ => Option V) none (fun v _ _ => some v) vs) (fun _ ih vs => List.rec (motive := fun _ => Option V) none (fun _ vs _ => ih vs) vs) n vs
theorem nthS_eq (n : Nat) : ∀ vs, nthS n vs = vs[n]? := by
  induction n with
  | zero => intro vs; cases vs <;> rfl
  | succ n ih => intro vs; cases vs with | nil => rfl | cons v vs => rw [List.getElem?_cons_succ, ← ih]; rfl
def tupOf {α : Type} (v : V) (k : List V → α) (e : α) : α :=
  V.rec (motive_1 := fun _ => α) (motive_2 := fun _ => Unit) (fun _ => e) (fun _ _ => e) (fun _ _ => e) e (fun _ _ => e) e (fun _ _ _ _ _ => e) (fun _ _ _ _ _ => e) e (fun _ _ _ => e) e (fun _ => e) e (fun _ _ => e) (fun _ _ => e) (fun _ _ => e) (fun _ _ => e) (fun _ _ => e) (fun vs _ => k vs) e () (fun _ _ _ _ => ()) v

/-- Is a type an interface's? -/
def isIfaceT (P : Program) (t : TypeId) : Bool := match P.underlying t with | some (.interface _) => true | _ => false
theorem binX_plain {t : TypeId} (hi : isIfaceT P t = false) {h : H} {E : Operand → V} {o : BinOp} {x y : Operand} : binX P h E o t x y = binV P h o t (E x) (E y) := by
  unfold binX
  unfold isIfaceT at hi
  split
  · rename_i ms hu; rw [hu] at hi; simp at hi
  · rfl

/-- Parts of a composite. -/
inductive PC where
  | mk (g : List V → Fr → List (Nat × V))
def PC.run (c : PC) (vs : List V) (f : Fr) : List (Nat × V) := PC.rec (motive := fun _ => List (Nat × V)) (fun g => g vs f) c
def partsC (P : Program) (ns : List Tmp) (os : List (Nat × Operand)) : PC :=
  List.rec (motive := fun _ => PC) (.mk fun _ _ => []) (fun o _ ih => Prod.rec (motive := fun _ => PC) (fun i x => .mk fun vs f => (i, (opdC P ns x).run vs f) :: ih.run vs f) o) os
theorem partsC_run (ns : List Tmp) (vs : List V) (f : Fr) (os : List (Nat × Operand)) : (partsC P ns os).run vs f = os.map fun (i, x) => (i, evO P (tmS ns vs f) x) := by
  induction os with
  | nil => rfl
  | cons o os ih =>
    obtain ⟨i, x⟩ := o
    rw [List.map_cons, ← ih]
    show (i, (opdC P ns x).run vs f) :: (partsC P ns os).run vs f = _
    rw [opdC_tm]

/-- A new block of known size. -/
def newS (n : Nat) (t : TypeId) (c : Cells) (h : H) : Option (V × H) :=
  H.rec (motive := fun _ => Option (V × H)) (fun nx m => Bool.rec (motive := fun _ => Option (V × H)) none (some (.ptr nx 0, ⟨Nat.succ nx, putMS nx (.live n t false true c) m⟩)) (Nat.ble (Nat.succ nx) 65536)) h
theorem newS_eq {vs : List V} (n : Nat) (t : TypeId) (c : Cells) (h : H) (hn : Nat.ble n 4096 = true) (hc : c = cellsOf vs) : newS n t c h = (newV h n t vs).map fun h' => (.ptr h.next 0, h') := by
  subst hc
  obtain ⟨nx, m⟩ := h
  unfold newS newV
  rw [hn]
  simp only [putMS_eq, Bool.and_true]
  show (Bool.rec (motive := fun _ => Option (V × H)) none _ (Nat.ble (Nat.succ nx) 65536)) = (bif Nat.ble (Nat.succ nx) 65536 then _ else _ : Option H).map _
  cases Nat.ble (Nat.succ nx) 65536 <;> rfl
def allocC (P : Program) (t : TypeId) : OpC :=
  match zeroV P t with
  | some zs => bif Nat.ble zs.length 4096 then .mem fun _ _ _ h => newS zs.length t (cellsOf zs) h else .mem fun _ _ _ h => allocV P h t
  | none => .mem fun _ _ _ h => allocV P h t
theorem allocC_sem (t : TypeId) (call : CallFn) (vs : List V) (f : Fr) (d : Ds) (h : H) : (allocC P t).sem call vs f d h = (allocV P h t).map fun (v, h') => (v, d, h') := by
  unfold allocC
  split
  · rename_i zs hz
    cases hn : Nat.ble zs.length 4096
    · rfl
    · simp only [cond_true, OpC.sem]
      rw [newS_eq (vs := zs) _ _ _ _ hn rfl]
      unfold allocV
      rw [hz]
  · rfl
/-- One cell. -/
def cell1 (v : V) : Cells := .c1 (T16.mk v .any .any .any .any .any .any .any .any .any .any .any .any .any .any .any)
theorem cell1_eq (v : V) : cell1 v = cellsOf [v] := rfl
def boxS (h : H) (t : TypeId) (v : V) : Option (V × H) := oneOf v (newS 1 t (cell1 v) h) (boxV h t v)
theorem boxS_eq (h : H) (t : TypeId) (v : V) : boxS h t v = boxV h t v := by
  have key : cellsV v = some [v] → newS 1 t (cell1 v) h = boxV h t v := by
    intro hc
    rw [newS_eq (vs := [v]) 1 t _ h rfl (cell1_eq v)]
    unfold boxV
    rw [hc]
    rfl
  cases v <;> first | exact key rfl | rfl
def buildC (P : Program) (t : TypeId) (ps : PC) : OpC :=
  match zeroV P t, P.underlying t with
  | some zs, some (.struct fs) =>
    match structPlaces P fs.toList with
    | some pl => .val fun _ vs f => (fillV (pl[·]?) zs (ps.run vs f)).map V.agg
    | none => .val fun _ vs f => buildV P t (ps.run vs f)
  | _, _ => .val fun _ vs f => buildV P t (ps.run vs f)
theorem buildC_sem (t : TypeId) (ps : PC) (call : CallFn) (vs : List V) (f : Fr) (d : Ds) (h : H) : (buildC P t ps).sem call vs f d h = (buildV P t (ps.run vs f)).map fun v => (v, d, h) := by
  unfold buildC
  split
  · rename_i zs fs hz hu
    split
    · rename_i pl hp
      show Option.map _ _ = Option.map _ _
      unfold buildV
      rw [hz, hu]
      simp only [hp]
    · rfl
  · rfl

def opC (P : Program) (ns : List Tmp) (op : Op) : OpC :=
  match op with
  | .move x => .pure (opdC P ns x)
  | .assign x => .pure (opdC P ns x)
  | .pick c a b => .val fun _ vs f => boolOf ((opdC P ns c).run vs f) (fun t => some (Bool.rec (motive := fun _ => V) ((opdC P ns b).run vs f) ((opdC P ns a).run vs f) (t))) none
  | .nilCheck x => .val fun _ vs f => ptrOf ((opdC P ns x).run vs f) (fun i o => some (.ptr i o)) (nilV ((opdC P ns x).run vs f))
  | .binOp o t x y _ => bif isIfaceT P t then .any fun call vs f d h => oneOp P call op (tmS ns vs f) d h else .val fun h vs f => (binC P o t).run h ((opdC P ns x).run vs f) ((opdC P ns y).run vs f)
  | .unOp .not _ x => .val fun _ vs f => boolOf ((opdC P ns x).run vs f) (fun b => some (.bool (notS b))) none
  | .convert s t x => convC P s t (opdC P ns x)
  | .slice t x lo hi none => sliceC P t (opdC P ns x) (lo.map (opdC P ns)) (hi.map (opdC P ns))
  | .fieldAddr s x n => fieldAddrC P s (opdC P ns x) n
  | .indexAddr t x i => indexAddrC P t (opdC P ns x) (opdC P ns i)
  | .index t x i => indexC P t (opdC P ns x) (opdC P ns i)
  | .extract x i => .val fun _ vs f => tupOf ((opdC P ns x).run vs f) (fun l => nthS i l) none
  | .load t x => .val fun h vs f => (loadC P t).run h ((opdC P ns x).run vs f)
  | .field t x n => .val fun _ vs f => fieldV P t ((opdC P ns x).run vs f) n
  | .call { callee := .builtin .len, args, argTypes } =>
    match args.toList, argTypes.toList with
    | [x], t :: _ => lenC P t (opdC P ns x)
    | _, _ => .any fun call vs f d h => oneOp P call op (tmS ns vs f) d h
  | .alloc t => allocC P t
  | .box t x => .mem fun _ vs f h => boxS h t ((opdC P ns x).run vs f)
  | .build t parts => buildC P t (partsC P ns parts.toList)
  | .buildSlice t len parts => .mem fun _ vs f h => buildSliceV P h t len ((partsC P ns parts.toList).run vs f)
  | .makeSlice t x y => .mem fun _ vs f h => makeSliceV P h t ((opdC P ns x).run vs f) ((opdC P ns y).run vs f)
  | .makeInterface t x => .val fun _ vs f => ifaceV P t ((opdC P ns x).run vs f)
  | .typeAssert x _ t ok => .val fun _ vs f => assertV P t ok ((opdC P ns x).run vs f)
  | .call { callee := .builtin .append, args, argTypes } =>
    match args.toList, argTypes.toList with
    | [x, y], [t, tx] => .mem fun _ vs f h => appendV P h t tx ((opdC P ns x).run vs f) ((opdC P ns y).run vs f)
    | _, _ => .any fun call vs f d h => oneOp P call op (tmS ns vs f) d h
  | .store t x y => .mem fun _ vs f h => (storeC P t).run h ((opdC P ns x).run vs f) ((opdC P ns y).run vs f)
  | .call { callee := .value (.func g), args, .. } =>
    bif hasBody P g then .mem (fun call vs f h => call g ((argsC P ns args.toList).run vs f) h) else .any fun _ _ _ _ _ => none
  | op => .any fun call vs f d h => oneOp P call op (tmS ns vs f) d h

theorem opC_sem (ns : List Tmp) (op : Op) (call : CallFn) (vs : List V) (f : Fr) (d : Ds) (h : H) : (opC P ns op).sem call vs f d h = oneOp P call op (tmS ns vs f) d h := by
  have val : ∀ (g : H → List V → Fr → Option V) (op : Op), (∀ h', oneOp P call op (tmS ns vs f) d h' = (plainOp P h' (evO P (tmS ns vs f)) op).map fun (v, h') => (v, d, h')) → isMem op = false → g h vs f = valOp P h (evO P (tmS ns vs f)) op →
      (OpC.val g).sem call vs f d h = oneOp P call op (tmS ns vs f) d h := by
    intro g op h1 h2 h3
    rw [h1, plainOp, h2]
    show (g h vs f).map _ = _
    rw [h3]
    cases valOp P h (evO P (tmS ns vs f)) op <;> rfl
  have val' : ∀ (v : Option V) (op : Op), (∀ h', oneOp P call op (tmS ns vs f) d h' = (plainOp P h' (evO P (tmS ns vs f)) op).map fun (v, h') => (v, d, h')) → isMem op = false → v = valOp P h (evO P (tmS ns vs f)) op →
      (v.map fun v => (v, d, h)) = oneOp P call op (tmS ns vs f) d h := by
    intro v op h1 h2 h3
    rw [h1, plainOp, h2, h3]
    cases valOp P h (evO P (tmS ns vs f)) op <;> rfl
  have B1 : ∀ (t : Bool) (a b : V), (Bool.rec (motive := fun _ => V) b a t) = (bif t then a else b) := fun t a b => by cases t <;> rfl
  unfold opC
  split
  · simp only [OpC.sem, opdC_tm]; rfl
  · simp only [OpC.sem, opdC_tm]; rfl
  · refine val _ _ (fun _ => rfl) rfl ?_
    simp only [opdC_tm, valOp, B1]
    cases evO P (tmS ns vs f) _ <;> rfl
  · refine val _ _ (fun _ => rfl) rfl ?_
    simp only [opdC_tm, valOp]
    cases evO P (tmS ns vs f) _ <;> rfl
  · rename_i o t x y yt
    cases hi : isIfaceT P t
    · refine val _ _ (fun _ => rfl) rfl ?_
      simp only [opdC_tm, valOp, binC_run, binX_plain hi]
    · rfl
  · refine val _ _ (fun _ => rfl) rfl ?_
    simp only [opdC_tm, valOp, notS_eq]
    cases evO P (tmS ns vs f) _ <;> rfl
  · rw [convC_sem, opdC_tm]; exact val' _ _ (fun _ => rfl) rfl rfl
  · rename_i t x lo hi
    rw [sliceC_sem, opdC_tm]
    refine val' _ _ (fun _ => rfl) rfl ?_
    simp only [Option.map_map, valOp]
    congr 1
    · cases lo with
      | none => rfl
      | some o => exact congrArg some (opdC_tm ns vs f o)
    · cases hi with
      | none => rfl
      | some o => exact congrArg some (opdC_tm ns vs f o)
  · rw [fieldAddrC_sem, opdC_tm]; exact val' _ _ (fun _ => rfl) rfl rfl
  · rw [indexAddrC_sem, opdC_tm, opdC_tm]; exact val' _ _ (fun _ => rfl) rfl rfl
  · rw [indexC_sem, opdC_tm, opdC_tm]; exact val' _ _ (fun _ => rfl) rfl rfl
  · refine val _ _ (fun _ => rfl) rfl ?_
    simp only [opdC_tm, valOp, nthS_eq]
    cases evO P (tmS ns vs f) _ <;> rfl
  · refine val _ _ (fun _ => rfl) rfl ?_
    simp only [opdC_tm, valOp, loadC_run]
  · refine val _ _ (fun _ => rfl) rfl ?_
    simp only [opdC_tm, valOp]
  · rename_i args argTypes
    split
    · rename_i x t ts ha ht
      rw [lenC_sem, opdC_tm]
      refine val' _ _ (fun _ => rfl) rfl ?_
      simp only [valOp, ha, ht, List.map_cons, List.map_nil, builtinV]
    · rfl
  · rw [allocC_sem]
    rfl
  · show (boxS h _ _).map _ = _
    rw [boxS_eq, opdC_tm]
    rfl
  · rw [buildC_sem, partsC_run]
    exact val' _ _ (fun _ => rfl) rfl rfl
  · show (buildSliceV P h _ _ _).map _ = _
    rw [partsC_run]
    rfl
  · show (makeSliceV P h _ _ _).map _ = _
    rw [opdC_tm, opdC_tm]
    rfl
  · refine val _ _ (fun _ => rfl) rfl ?_
    simp only [opdC_tm, valOp]
  · refine val _ _ (fun _ => rfl) rfl ?_
    simp only [opdC_tm, valOp]
  · rename_i args argTypes
    split
    · rename_i x y t tx ha ht
      show (appendV P h t tx _ _).map _ = _
      rw [opdC_tm, opdC_tm]
      simp only [oneOp, plainOp, isMem, memOp, ha, ht, cond_true]
    · rfl
  · show ((storeC P _).run h _ _).map _ = _
    rw [storeC_run, opdC_tm, opdC_tm]
    rfl
  · rename_i g args targs
    cases hb : hasBody P g
    · simp only [cond_false, OpC.sem, oneOp, callOp, calleeV, evO, hb]; rfl
    · simp only [cond_true, OpC.sem, oneOp, callOp, calleeV, evO, hb, argsC_run, List.nil_append, List.append_nil]
  · rfl

end
end Go.Ev
