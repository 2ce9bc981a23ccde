/- The evaluator in stages: operations. The evaluator in stages: code and functions, equal to the evaluator. No condition. -/
import Derived.Test.YtgpogeemhaiicaaGreatDoorEvMg
set_option linter.all false
namespace Go.Ev
noncomputable section
variable {P : Program}

inductive OpC where
  | pure (c : Cl)
  | val (g : H → List V → Fr → Option V)
  | mem (g : CallFn → List V → Fr → H → Option (V × H))
  | any (g : CallFn → List V → Fr → Ds → H → Option (V × Ds × H))
def OpC.sem (c : OpC) (call : CallFn) (vs : List V) (f : Fr) (d : Ds) (h : H) : Option (V × Ds × H) :=
  match c with
  | .pure c => some (c.run vs f, d, h)
  | .val g => (g h vs f).map fun v => (v, d, h)
  | .mem g => (g call vs f h).map fun (v, h') => (v, d, h')
  | .any g => g call vs f d h

/-- The slots, as the stages see them. -/
def tmS (ns : List Tmp) (vs : List V) (f : Fr) : Tm := fun t => (resolve ns t).run vs f
theorem opdC_tm (ns : List Tmp) (vs : List V) (f : Fr) (o : Operand) : (opdC P ns o).run vs f = evO P (tmS ns vs f) o := opdC_run (fun _ => rfl) o

/-- An operand's closure, put in. -/
def un (F : (List V → Fr → V) → OpC) (x : Cl) : OpC := Cl.rec (motive := fun _ => OpC) F x
theorem un_eq (F : (List V → Fr → V) → OpC) (x : Cl) : un F x = F x.run := by
  cases x
  rfl

def Cl.put {β : Type} (F : (List V → Fr → V) → β) (c : Cl) : β := Cl.rec (motive := fun _ => β) F c
theorem clrec_eq {β : Type} (F : (List V → Fr → V) → β) (c : Cl) : Cl.put F c = F c.run := by cases c; rfl
def LC.put {β : Type} (F : (H → V → Option V) → β) (c : LC) : β := LC.rec (motive := fun _ => β) F c
theorem lcrec_eq {β : Type} (F : (H → V → Option V) → β) (c : LC) : LC.put F c = F c.run := by cases c; rfl

/-- Arguments. -/
inductive AC where
  | mk (g : List V → Fr → List V)
def AC.run (c : AC) (vs : List V) (f : Fr) : List V := AC.rec (motive := fun _ => List V) (fun g => g vs f) c
def argsC (P : Program) (ns : List Tmp) (os : List Operand) : AC := List.rec (motive := fun _ => AC) (.mk fun _ _ => []) (fun o _ ih => Cl.rec (motive := fun _ => AC) (fun g => AC.rec (motive := fun _ => AC) (fun gs => .mk fun vs f => g vs f :: gs vs f) ih) (opdC P ns o)) os
theorem argsC_run (ns : List Tmp) (vs : List V) (f : Fr) (os : List Operand) : (argsC P ns os).run vs f = os.map (evO P (tmS ns vs f)) := by
  induction os with
  | nil => rfl
  | cons o os ih =>
    rw [List.map_cons, ← ih, ← opdC_tm]
    show AC.run (Cl.rec (motive := fun _ => AC) (fun g => AC.rec (motive := fun _ => AC) (fun gs => .mk fun vs f => g vs f :: gs vs f) (argsC P ns os)) (opdC P ns o)) vs f = _
    cases opdC P ns o
    cases argsC P ns os
    rfl

def indexAddrC (P : Program) (t : TypeId) (x i : Cl) : OpC :=
  match P.underlying t with
  | some (.slice e) => match P.info? e with
    | some inf => un (fun gx => un (fun gi => .val fun _ vs f => sliceOf (gx vs f) (fun id o len _ _ => natOf (gi vs f) (fun n => (Bool.rec (motive := fun _ => Option V) none (some (.ptr id (Nat.add o (Nat.mul n inf.size)))) (Nat.ble (Nat.succ n) len))) none) (indexAddrV P t (gx vs f) (gi vs f))) i) x
    | none => .val fun _ vs f => indexAddrV P t (x.run vs f) (i.run vs f)
  | _ => .val fun _ vs f => indexAddrV P t (x.run vs f) (i.run vs f)
theorem natOf_eq (v : V) (k : Nat → Option V) (e : Option V) : natOf v k e = (match natV v with | some n => k n | none => e) := by
  cases v <;> first | rfl | (rename_i t n; cases n <;> rfl)
theorem indexAddrC_sem (t : TypeId) (x i : Cl) (call : CallFn) (vs : List V) (f : Fr) (d : Ds) (h : H) :
    (indexAddrC P t x i).sem call vs f d h = (indexAddrV P t (x.run vs f) (i.run vs f)).map fun v => (v, d, h) := by
  unfold indexAddrC
  split
  · rename_i e he
    split
    · rename_i inf hinf
      simp only [un_eq]
      show Option.map _ (sliceOf (x.run vs f) _ (indexAddrV P t (x.run vs f) (i.run vs f))) = _
      congr 1
      generalize x.run vs f = u
      generalize i.run vs f = j
      unfold indexAddrV
      rw [he]
      cases u <;> first
        | rfl
        | (simp only [sliceOf, natOf_eq]
           cases natV j with
           | none => rfl
           | some n =>
             simp only [hinf]
             show _ = (bif Nat.ble (Nat.succ n) _ then _ else _)
             cases Nat.ble (Nat.succ n) _ <;> rfl)
    · rfl
  · rfl

def indexC (P : Program) (t : TypeId) (x i : Cl) : OpC :=
  match P.underlying t with
  | some .string => un (fun gx => un (fun gi => .val fun _ vs f => strOf (gx vs f) (fun n l => natOf (gi vs f) (fun j => (Bool.rec (motive := fun _ => Option V) none (some (.int .u8 (.ofNat (Nat.mod (Nat.div n (Nat.pow 256 j)) 256)))) (Nat.ble (Nat.succ j) l))) none) none) i) x
  | _ => .val fun _ vs f => indexV P t (x.run vs f) (i.run vs f)
theorem indexC_sem (t : TypeId) (x i : Cl) (call : CallFn) (vs : List V) (f : Fr) (d : Ds) (h : H) :
    (indexC P t x i).sem call vs f d h = (indexV P t (x.run vs f) (i.run vs f)).map fun v => (v, d, h) := by
  unfold indexC
  split
  · rename_i he
    simp only [un_eq]
    show Option.map _ (strOf (x.run vs f) _ none) = _
    congr 1
    generalize x.run vs f = u
    generalize i.run vs f = j
    unfold indexV
    rw [he]
    cases u <;> first
      | rfl
      | (simp only [strOf, natOf_eq]
         cases natV j with
         | none => rfl
         | some n =>
           rename_i l0
           show (Bool.rec (motive := fun _ => Option V) _ _ (Nat.ble (Nat.succ n) l0)) = (bif Nat.ble (Nat.succ n) l0 then _ else _)
           cases Nat.ble (Nat.succ n) l0 <;> rfl)
  · rfl

def sliceC (P : Program) (t : TypeId) (x : Cl) (lo hi : Option Cl) : OpC :=
  match P.underlying t, lo, hi with
  | some .string, some l, none => un (fun gx => un (fun gl => .val fun _ vs f => strOf (gx vs f) (fun n len => natOf (gl vs f) (fun l => (Bool.rec (motive := fun _ => Option V) none (some (.str (Nat.mod (Nat.div n (Nat.pow 256 l)) (Nat.pow 256 (Nat.sub len l))) (Nat.sub len l))) (Nat.ble l len))) none) none) l) x
  | _, _, _ => .val fun _ vs f => sliceV P t (x.run vs f) (lo.map fun c => c.run vs f) (hi.map fun c => c.run vs f)
theorem sliceC_sem (t : TypeId) (x : Cl) (lo hi : Option Cl) (call : CallFn) (vs : List V) (f : Fr) (d : Ds) (h : H) :
    (sliceC P t x lo hi).sem call vs f d h = (sliceV P t (x.run vs f) (lo.map fun c => c.run vs f) (hi.map fun c => c.run vs f)).map fun v => (v, d, h) := by
  unfold sliceC
  split
  · rename_i l he
    simp only [un_eq]
    show Option.map _ (strOf (x.run vs f) _ none) = _
    congr 1
    simp only [Option.map_some, Option.map_none]
    generalize x.run vs f = u
    generalize l.run vs f = j
    unfold sliceV
    rw [he]
    cases u <;> first
      | rfl
      | (simp only [strOf, natOf_eq, hiV, loV, Option.bind_some]
         cases natV j with
         | none => rfl
         | some n =>
           simp only [Option.bind_some]
           cases Nat.ble n _ <;> rfl)
  · rfl

def fieldAddrC (P : Program) (s : TypeId) (x : Cl) (n : Nat) : OpC :=
  match fieldOff P s n with
  | some k => un (fun gx => .val fun _ vs f => ptrOf (gx vs f) (fun id o => some (.ptr id (Nat.add o k))) none) x
  | none => .val fun _ _ _ => none
theorem fieldAddrC_sem (s : TypeId) (x : Cl) (n : Nat) (call : CallFn) (vs : List V) (f : Fr) (d : Ds) (h : H) :
    (fieldAddrC P s x n).sem call vs f d h = (fieldAddrV P s (x.run vs f) n).map fun v => (v, d, h) := by
  unfold fieldAddrC
  split
  · rename_i k hk
    simp only [un_eq]
    show Option.map _ (ptrOf (x.run vs f) _ none) = _
    congr 1
    unfold fieldAddrV
    cases x.run vs f <;> first | rfl | (rw [hk]; rfl)
  · rename_i hk
    show none = Option.map _ _
    have : fieldAddrV P s (x.run vs f) n = none := by
      unfold fieldAddrV
      cases x.run vs f <;> first | rfl | (rw [hk]; rfl)
    rw [this]; rfl

def lenC (P : Program) (t : TypeId) (x : Cl) : OpC :=
  match P.underlying t with
  | some .string => un (fun gx => .val fun _ vs f => strOf (gx vs f) (fun _ l => some (.int .i64 (.ofNat l))) none) x
  | some (.slice _) => un (fun gx => .val fun h vs f => sliceOf (gx vs f) (fun _ _ l _ _ => some (.int .i64 (.ofNat l))) (lenV P h t (gx vs f))) x
  | _ => un (fun gx => .val fun h vs f => lenV P h t (gx vs f)) x
theorem lenC_sem (t : TypeId) (x : Cl) (call : CallFn) (vs : List V) (f : Fr) (d : Ds) (h : H) :
    (lenC P t x).sem call vs f d h = (lenV P h t (x.run vs f)).map fun v => (v, d, h) := by
  unfold lenC
  split
  · rename_i he
    simp only [un_eq]
    show Option.map _ (strOf (x.run vs f) _ none) = _
    congr 1
    unfold lenV
    rw [he]
    cases x.run vs f <;> rfl
  · rename_i e he
    simp only [un_eq]
    show Option.map _ (sliceOf (x.run vs f) _ _) = _
    congr 1
    unfold lenV
    rw [he]
    cases x.run vs f <;> rfl
  · simp only [un_eq]
    rfl

def convC (P : Program) (s t : TypeId) (x : Cl) : OpC :=
  match P.underlying s, P.underlying t with
  | some _, some (.int k) => un (fun gx => .val fun h vs f => intOf (gx vs f) (fun _ n => some (.int k (convS k n))) (convA P h s t (gx vs f))) x
  | _, _ => .val fun h vs f => convA P h s t (x.run vs f)
theorem convC_sem (s t : TypeId) (x : Cl) (call : CallFn) (vs : List V) (f : Fr) (d : Ds) (h : H) :
    (convC P s t x).sem call vs f d h = (convA P h s t (x.run vs f)).map fun v => (v, d, h) := by
  unfold convC
  split
  · rename_i a k h1 h2
    simp only [un_eq, convS_eq]
    show Option.map _ (intOf (x.run vs f) _ _) = _
    congr 1
    cases x.run vs f <;> first
      | rfl
      | (unfold convA
         simp only [convV, h1, h2]
         rfl)
  · rfl

/-- A place of a list. -/
def nthS (n : Nat) (vs : List V) : Option V := Nat.rec (motive := fun _ => List V → Option V) (fun vs => List.rec (motive := fun _ => Option V) none (fun v _ _ => some v) vs) (fun _ ih vs => List.rec (motive := fun _ => Option V) none (fun _ vs _ => ih vs) vs) n vs
theorem nthS_eq (n : Nat) : ∀ vs, nthS n vs = vs[n]? := by
  induction n with
  | zero => intro vs; cases vs <;> rfl
  | succ n ih => intro vs; cases vs with | nil => rfl | cons v vs => rw [List.getElem?_cons_succ, ← ih]; rfl
/-- Is a type an interface's? -/
def isIfaceT (P : Program) (t : TypeId) : Bool := match P.underlying t with | some (.interface _) => true | _ => false
theorem binX_plain {t : TypeId} (hi : isIfaceT P t = false) {h : H} {E : Operand → V} {o : BinOp} {x y : Operand} : binX P h E o t x y = binV P h o t (E x) (E y) := by
  unfold binX
  unfold isIfaceT at hi
  split
  · rename_i ms hu; rw [hu] at hi; simp at hi
  · rfl

/-- Parts of a composite. -/
inductive PC where
  | mk (g : List V → Fr → List (Nat × V))
def PC.run (c : PC) (vs : List V) (f : Fr) : List (Nat × V) := PC.rec (motive := fun _ => List (Nat × V)) (fun g => g vs f) c
def partsC (P : Program) (ns : List Tmp) (os : List (Nat × Operand)) : PC :=
  List.rec (motive := fun _ => PC) (.mk fun _ _ => []) (fun o _ ih => Prod.rec (motive := fun _ => PC) (fun i x => .mk fun vs f => (i, (opdC P ns x).run vs f) :: ih.run vs f) o) os
theorem partsC_run (ns : List Tmp) (vs : List V) (f : Fr) (os : List (Nat × Operand)) : (partsC P ns os).run vs f = os.map fun (i, x) => (i, evO P (tmS ns vs f) x) := by
  induction os with
  | nil => rfl
  | cons o os ih =>
    obtain ⟨i, x⟩ := o
    rw [List.map_cons, ← ih]
    show (i, (opdC P ns x).run vs f) :: (partsC P ns os).run vs f = _
    rw [opdC_tm]

/-- A new block of known size. -/
def newS (n : Nat) (t : TypeId) (c : Cells) (h : H) : Option (V × H) :=
  H.rec (motive := fun _ => Option (V × H)) (fun nx m => Bool.rec (motive := fun _ => Option (V × H)) none (some (.ptr nx 0, ⟨Nat.succ nx, putMS nx (.live n t false true c) m⟩)) (Nat.ble (Nat.succ nx) 65536)) h
theorem newS_eq {vs : List V} (n : Nat) (t : TypeId) (c : Cells) (h : H) (hn : Nat.ble n 4096 = true) (hc : c = cellsOf vs) : newS n t c h = (newV h n t vs).map fun h' => (.ptr h.next 0, h') := by
  subst hc
  obtain ⟨nx, m⟩ := h
  unfold newS newV
  rw [hn]
  simp only [putMS_eq, Bool.and_true]
  show (Bool.rec (motive := fun _ => Option (V × H)) none _ (Nat.ble (Nat.succ nx) 65536)) = (bif Nat.ble (Nat.succ nx) 65536 then _ else _ : Option H).map _
  cases Nat.ble (Nat.succ nx) 65536 <;> rfl
def allocC (P : Program) (t : TypeId) : OpC :=
  match zeroV P t with
  | some zs => bif Nat.ble zs.length 4096 then .mem fun _ _ _ h => newS zs.length t (cellsOf zs) h else .mem fun _ _ _ h => allocV P h t
  | none => .mem fun _ _ _ h => allocV P h t
theorem allocC_sem (t : TypeId) (call : CallFn) (vs : List V) (f : Fr) (d : Ds) (h : H) : (allocC P t).sem call vs f d h = (allocV P h t).map fun (v, h') => (v, d, h') := by
  unfold allocC
  split
  · rename_i zs hz
    cases hn : Nat.ble zs.length 4096
    · rfl
    · simp only [cond_true, OpC.sem]
      rw [newS_eq (vs := zs) _ _ _ _ hn rfl]
      unfold allocV
      rw [hz]
  · rfl
/-- One cell. -/
def cell1 (v : V) : Cells := .c1 (T16.mk v .any .any .any .any .any .any .any .any .any .any .any .any .any .any .any)
theorem cell1_eq (v : V) : cell1 v = cellsOf [v] := rfl
def emptyS (n : Nat) : Cells := Bool.rec (motive := fun _ => Cells) (emptyCells n) (.c1 z1) (Nat.ble n 16)
theorem emptyS_eq (n : Nat) : emptyS n = emptyCells n := by
  unfold emptyS emptyCells
  cases Nat.ble n 16 <;> rfl
def newA (t : TypeId) (l : List V) (h : H) : Option (V × H) := Bool.rec (motive := fun _ => Option (V × H)) none (newS (lenS l) t (fillS l 0 (emptyS (lenS l))) h) (Nat.ble (lenS l) 4096)
theorem newA_eq (t : TypeId) (l : List V) (h : H) : newA t l h = boxV h t (.agg l) := by
  unfold newA
  rw [lenS_eq]
  cases hn : Nat.ble l.length 4096
  · unfold boxV newV
    simp only [cellsV, hn, Bool.and_false, cond_false]
    rfl
  · simp only []
    rw [newS_eq (vs := l) _ _ _ _ hn (by rw [fillS_eq, emptyS_eq]; rfl)]
    rfl
def boxS (h : H) (t : TypeId) (v : V) : Option (V × H) := oneOf v (newS 1 t (cell1 v) h) (aggM v (fun l => newA t l h) (boxV h t v))
theorem boxS_eq (h : H) (t : TypeId) (v : V) : boxS h t v = boxV h t v := by
  have key : cellsV v = some [v] → newS 1 t (cell1 v) h = boxV h t v := by
    intro hc
    rw [newS_eq (vs := [v]) 1 t _ h rfl (cell1_eq v)]
    unfold boxV
    rw [hc]
    rfl
  cases v <;> first | exact key rfl | exact newA_eq _ _ _ | rfl
/-! Composites: each part put at its place. -/
inductive SL where
  | mk (g : V → List V → List V)
def SL.run (c : SL) (v : V) (l : List V) : List V := SL.rec (motive := fun _ => List V) (fun g => g v l) c
def setN (n : Nat) : SL :=
  Nat.rec (motive := fun _ => SL) (.mk fun v l => List.rec (motive := fun _ => List V) [] (fun _ r _ => v :: r) l)
    (fun _ ih => SL.rec (motive := fun _ => SL) (fun g => .mk fun v l => List.rec (motive := fun _ => List V) [] (fun x r _ => x :: g v r) l) ih) n
theorem setN_run (n : Nat) : ∀ (v : V) (l : List V), n < l.length → (setN n).run v l = putAt l n [v] := by
  induction n with
  | zero =>
    intro v l hl
    cases l with
    | nil => cases hl
    | cons x r => rfl
  | succ n ih =>
    intro v l hl
    cases l with
    | nil => cases hl
    | cons x r =>
      have h := ih v r (by simpa using hl)
      have e : setN (n + 1) = SL.rec (motive := fun _ => SL) (fun g => .mk fun v l => List.rec (motive := fun _ => List V) [] (fun x r _ => x :: g v r) l) (setN n) := rfl
      rw [e]
      have e2 : (SL.rec (motive := fun _ => SL) (fun g => .mk fun v l => List.rec (motive := fun _ => List V) [] (fun x r _ => x :: g v r) l) (setN n) : SL).run v (x :: r) = x :: (setN n).run v r := by cases setN n; rfl
      rw [e2, h]
      simp [putAt]
theorem putAt_length {l vs : List V} {o : Nat} (h : o + vs.length ≤ l.length) : (putAt l o vs).length = l.length := by
  unfold putAt
  simp
  omega
theorem oneL_eq (v : V) (a b : Option (List V)) : oneL v a b = bif oneV v then a else b := by cases v <;> rfl
theorem cellsV_one {v : V} (h : oneV v = true) : cellsV v = some [v] := by cases v <;> first | rfl | (cases h; done)
inductive FC where
  | mk (g : List V → Fr → List V → Option (List V))
def FC.run (c : FC) (vs : List V) (f : Fr) (acc : List V) : Option (List V) := FC.rec (motive := fun _ => Option (List V)) (fun g => g vs f acc) c
def FC.put {β : Type} (F : (List V → Fr → List V → Option (List V)) → β) (c : FC) : β := FC.rec (motive := fun _ => β) F c
theorem fcrec_eq {β : Type} (F : (List V → Fr → List V → Option (List V)) → β) (c : FC) : FC.put F c = F c.run := by cases c; rfl
def SL.put {β : Type} (F : (V → List V → List V) → β) (c : SL) : β := SL.rec (motive := fun _ => β) F c
theorem slrec_eq {β : Type} (F : (V → List V → List V) → β) (c : SL) : SL.put F c = F c.run := by cases c; rfl
def fillC (P : Program) (ns : List Tmp) (place : Nat → Option (Nat × Nat)) (len : Nat) : List (Nat × Operand) → FC
  | [] => .mk fun _ _ acc => some acc
  | p :: ps =>
    match place p.1 with
    | some (off, 1) => bif Nat.ble (off + 1) len then
        FC.put (fun gr => Cl.put (fun gc => SL.put (fun gs => .mk fun vs f acc => oneL (gc vs f) (gr vs f (gs (gc vs f) acc)) (fillV place acc ((partsC P ns (p :: ps)).run vs f))) (setN off)) (opdC P ns p.2)) (fillC P ns place len ps)
      else .mk fun vs f acc => fillV place acc ((partsC P ns (p :: ps)).run vs f)
    | _ => .mk fun vs f acc => fillV place acc ((partsC P ns (p :: ps)).run vs f)
theorem fillC_run (ns : List Tmp) (place : Nat → Option (Nat × Nat)) (len : Nat) (vs : List V) (f : Fr) : ∀ (ps : List (Nat × Operand)) (acc : List V), acc.length = len →
    (fillC P ns place len ps).run vs f acc = fillV place acc ((partsC P ns ps).run vs f) := by
  intro ps
  induction ps with
  | nil => intro acc _; rfl
  | cons p ps ih =>
    intro acc hacc
    unfold fillC
    split
    · rename_i off hp
      cases hb : Nat.ble (off + 1) len
      · rfl
      · simp only [cond_true, fcrec_eq, clrec_eq, slrec_eq]
        have hlt : off < acc.length := by
          have := Nat.le_of_ble_eq_true hb
          omega
        show oneL ((opdC P ns p.2).run vs f) ((fillC P ns place len ps).run vs f ((setN off).run ((opdC P ns p.2).run vs f) acc)) (fillV place acc ((partsC P ns (p :: ps)).run vs f)) = _
        rw [oneL_eq]
        cases ho : oneV ((opdC P ns p.2).run vs f)
        · rfl
        · simp only [cond_true]
          have e0 : (partsC P ns (p :: ps)).run vs f = (p.1, (opdC P ns p.2).run vs f) :: (partsC P ns ps).run vs f := by
            obtain ⟨i, x⟩ := p
            rfl
          rw [setN_run _ _ _ hlt, ih _ (by rw [putAt_length (by simp; omega)]; exact hacc), e0]
          simp only [fillV, hp, cellsV_one ho]
          have hb2 : Nat.ble (off + 1) acc.length = true := by rw [hacc]; exact hb
          show _ = (bif Nat.beq 1 1 && Nat.ble (off + 1) acc.length then _ else none)
          rw [hb2]
          rfl
    · rfl
theorem fillV_length {place : Nat → Option (Nat × Nat)} : ∀ {ps : List (Nat × V)} {zs l : List V}, fillV place zs ps = some l → l.length = zs.length
  | [], zs, l, h => by simp only [fillV, Option.some.injEq] at h; rw [h]
  | (i, v) :: ps, zs, l, h => by
    simp only [fillV] at h
    split at h
    · rename_i off size vs _ _
      cases hc : (Nat.beq vs.length size && Nat.ble (off + vs.length) zs.length)
      · rw [hc] at h; cases h
      · rw [hc] at h
        simp only [Bool.and_eq_true] at hc
        have := fillV_length h
        rw [this, putAt_length (Nat.le_of_ble_eq_true hc.2)]
    · cases h
def buildC (P : Program) (ns : List Tmp) (t : TypeId) (ps : List (Nat × Operand)) : OpC :=
  match zeroV P t, P.underlying t with
  | some zs, some (.struct fs) =>
    match structPlaces P fs.toList with
    | some pl => FC.put (fun gf => .val fun _ vs f => Option.rec (motive := fun _ => Option V) none (fun l => some (.agg l)) (gf vs f zs)) (fillC P ns (pl[·]?) zs.length ps)
    | none => .val fun _ vs f => buildV P t ((partsC P ns ps).run vs f)
  | _, _ => .val fun _ vs f => buildV P t ((partsC P ns ps).run vs f)
theorem buildC_sem (ns : List Tmp) (t : TypeId) (ps : List (Nat × Operand)) (call : CallFn) (vs : List V) (f : Fr) (d : Ds) (h : H) : (buildC P ns t ps).sem call vs f d h = (buildV P t ((partsC P ns ps).run vs f)).map fun v => (v, d, h) := by
  unfold buildC
  split
  · rename_i zs fs hz hu
    split
    · rename_i pl hp
      rw [fcrec_eq]
      show Option.map _ (Option.rec (motive := fun _ => Option V) none (fun l => some (.agg l)) ((fillC P ns (pl[·]?) zs.length ps).run vs f zs)) = Option.map _ _
      rw [fillC_run ns _ _ vs f ps zs rfl]
      unfold buildV
      rw [hz, hu]
      simp only [hp]
      cases fillV (fun x => pl[x]?) zs ((partsC P ns ps).run vs f) <;> rfl
    · rfl
  · rfl
/-- A new block, as a slice. -/
def newSl (n : Nat) (e : TypeId) (len esz : Nat) (l : List V) (h : H) : Option (V × H) :=
  H.rec (motive := fun _ => Option (V × H)) (fun nx m => Bool.rec (motive := fun _ => Option (V × H)) none (some (.slice nx 0 len len esz, ⟨Nat.succ nx, putMS nx (.live n e false true (fillS l 0 (emptyS n))) m⟩)) (Nat.ble (Nat.succ nx) 65536)) h
theorem newSl_eq {l : List V} {n : Nat} (hl : l.length = n) (e : TypeId) (len esz : Nat) (h : H) (hn : Nat.ble n 4096 = true) : newSl n e len esz l h = (newV h l.length e l).map fun h' => (.slice h.next 0 len len esz, h') := by
  obtain ⟨nx, m⟩ := h
  unfold newSl newV
  rw [hl, hn]
  simp only [putMS_eq, Bool.and_true, fillS_eq, emptyS_eq]
  show (Bool.rec (motive := fun _ => Option (V × H)) none _ (Nat.ble (Nat.succ nx) 65536)) = (bif Nat.ble (Nat.succ nx) 65536 then _ else _ : Option H).map _
  have e2 : fillFrom l 0 (emptyCells n) = cellsOf l := by rw [← hl]; rfl
  rw [e2]
  cases Nat.ble (Nat.succ nx) 65536
  · rfl
  · show some (_, _) = some (_, _)
    rw [← hl]
    rfl
def buildSliceC (P : Program) (ns : List Tmp) (t : TypeId) (len : Nat) (ps : List (Nat × Operand)) : OpC :=
  match P.underlying t with
  | some (.slice e) =>
    match P.info? e, zeroV P e with
    | some i, some zs =>
      bif Nat.beq zs.length i.size && Nat.ble (Nat.mul len i.size) 4096 then
        FC.put (fun gf => .mem fun _ vs f h => Option.rec (motive := fun _ => Option (V × H)) none (fun l => newSl (Nat.mul len i.size) e len i.size l h) (gf vs f (repL len zs))) (fillC P ns (fun j => some (Nat.mul j i.size, i.size)) (repL len zs).length ps)
      else .mem fun _ _ _ _ => none
    | _, _ => .mem fun _ vs f h => buildSliceV P h t len ((partsC P ns ps).run vs f)
  | _ => .mem fun _ vs f h => buildSliceV P h t len ((partsC P ns ps).run vs f)
theorem buildSliceC_sem (ns : List Tmp) (t : TypeId) (len : Nat) (ps : List (Nat × Operand)) (call : CallFn) (vs : List V) (f : Fr) (d : Ds) (h : H) :
    (buildSliceC P ns t len ps).sem call vs f d h = (buildSliceV P h t len ((partsC P ns ps).run vs f)).map fun (v, h') => (v, d, h') := by
  unfold buildSliceC
  split
  · rename_i e he
    split
    · rename_i i zs hi hz
      cases hc : (Nat.beq zs.length i.size && Nat.ble (Nat.mul len i.size) 4096)
      · unfold buildSliceV
        rw [he]
        simp only [hi, hz, hc]
        rfl
      · simp only [cond_true]
        rw [fcrec_eq]
        show Option.map _ (Option.rec (motive := fun _ => Option (V × H)) none (fun l => newSl (Nat.mul len i.size) e len i.size l h) ((fillC P ns (fun j => some (Nat.mul j i.size, i.size)) (repL len zs).length ps).run vs f (repL len zs))) = _
        rw [fillC_run ns _ _ vs f ps (repL len zs) rfl]
        unfold buildSliceV
        rw [he]
        simp only [hi, hz, hc, cond_true]
        cases hf : fillV (fun j => some (Nat.mul j i.size, i.size)) (repL len zs) ((partsC P ns ps).run vs f) with
        | none => rfl
        | some l =>
          simp only [Option.bind_some]
          simp only [Bool.and_eq_true] at hc
          have hl : l.length = Nat.mul len i.size := by
            rw [fillV_length hf, repL_length, Nat.eq_of_beq_eq_true hc.1]
            rfl
          rw [newSl_eq hl e len i.size h hc.2]
    · rfl
  · rfl

def minS (x y : V) : Option V := intOf x (fun k a => intOf y (fun _ b => some (.int k (Bool.rec (motive := fun _ => Int) a b (ltS b a)))) none) none
theorem minS_eq (x y : V) : minS x y = minV x y := by
  cases x <;> first
    | rfl
    | (cases y <;> first
        | rfl
        | (rename_i k a k' b
           show some (V.int k (Bool.rec (motive := fun _ => Int) a b (ltS b a))) = some (V.int k (bif ltI b a then b else a))
           rw [ltS_eq]
           cases ltI b a <;> rfl))
def opC (P : Program) (ns : List Tmp) (op : Op) : OpC :=
  match op with
  | .move x => .pure (opdC P ns x)
  | .assign x => .pure (opdC P ns x)
  | .pick c a b => un (fun gc => un (fun ga => un (fun gb => .val fun _ vs f => boolOf (gc vs f) (fun t => some (Bool.rec (motive := fun _ => V) (gb vs f) (ga vs f) (t))) none) (opdC P ns b)) (opdC P ns a)) (opdC P ns c)
  | .nilCheck x => un (fun g => .val fun _ vs f => ptrOf (g vs f) (fun i o => some (.ptr i o)) (nilV (g vs f))) (opdC P ns x)
  | .binOp o t x y _ => bif isIfaceT P t then .any fun call vs f d h => oneOp P call op (tmS ns vs f) d h else BC.rec (motive := fun _ => OpC) (fun gb => un (fun gx => un (fun gy => .val fun h vs f => gb h (gx vs f) (gy vs f)) (opdC P ns y)) (opdC P ns x)) (binC P o t)
  | .unOp .not _ x => un (fun g => .val fun _ vs f => boolOf (g vs f) (fun b => some (.bool (notS b))) none) (opdC P ns x)
  | .convert s t x => convC P s t (opdC P ns x)
  | .slice t x lo hi none => sliceC P t (opdC P ns x) (lo.map (opdC P ns)) (hi.map (opdC P ns))
  | .fieldAddr s x n => fieldAddrC P s (opdC P ns x) n
  | .indexAddr t x i => indexAddrC P t (opdC P ns x) (opdC P ns i)
  | .index t x i => indexC P t (opdC P ns x) (opdC P ns i)
  | .extract x i => un (fun g => .val fun _ vs f => tupOf (g vs f) (fun l => nthS i l) none) (opdC P ns x)
  | .load t x => LC.rec (motive := fun _ => OpC) (fun gl => un (fun g => .val fun h vs f => gl h (g vs f)) (opdC P ns x)) (loadC P t)
  | .field t x n => un (fun g => .val fun _ vs f => fieldV P t (g vs f) n) (opdC P ns x)
  | .call { callee := .builtin .len, args, argTypes } =>
    match args.toList, argTypes.toList with
    | [x], t :: _ => lenC P t (opdC P ns x)
    | _, _ => .any fun call vs f d h => oneOp P call op (tmS ns vs f) d h
  | .alloc t => allocC P t
  | .box t x => un (fun g => .mem fun _ vs f h => boxS h t (g vs f)) (opdC P ns x)
  | .build t parts => buildC P ns t parts.toList
  | .buildSlice t len parts => buildSliceC P ns t len parts.toList
  | .makeSlice t x y => .mem fun _ vs f h => makeSliceV P h t ((opdC P ns x).run vs f) ((opdC P ns y).run vs f)
  | .makeInterface t x => un (fun g => .val fun _ vs f => ifaceV P t (g vs f)) (opdC P ns x)
  | .typeAssert x _ t ok => un (fun g => .val fun _ vs f => assertV P t ok (g vs f)) (opdC P ns x)
  | .call { callee := .builtin .min, args, argTypes := _ } =>
    match args.toList with
    | [x, y] => un (fun gx => un (fun gy => .val fun _ vs f => minS (gx vs f) (gy vs f)) (opdC P ns y)) (opdC P ns x)
    | _ => .any fun call vs f d h => oneOp P call op (tmS ns vs f) d h
  | .call { callee := .builtin .append, args, argTypes } =>
    match args.toList, argTypes.toList with
    | [x, y], [t, tx] => .mem fun _ vs f h => appendV P h t tx ((opdC P ns x).run vs f) ((opdC P ns y).run vs f)
    | _, _ => .any fun call vs f d h => oneOp P call op (tmS ns vs f) d h
  | .store t x y => SC.rec (motive := fun _ => OpC) (fun gs => un (fun gx => un (fun gy => .mem fun _ vs f h => gs h (gx vs f) (gy vs f)) (opdC P ns y)) (opdC P ns x)) (storeC P t)
  | .call { callee := .value (.func g), args, .. } =>
    bif hasBody P g then AC.rec (motive := fun _ => OpC) (fun ga => .mem (fun call vs f h => callP call g (ga vs f) h)) (argsC P ns args.toList) else .any fun _ _ _ _ _ => none
  | op => .any fun call vs f d h => oneOp P call op (tmS ns vs f) d h

theorem opC_sem (ns : List Tmp) (op : Op) (call : CallFn) (vs : List V) (f : Fr) (d : Ds) (h : H) : (opC P ns op).sem call vs f d h = oneOp P call op (tmS ns vs f) d h := by
  have val : ∀ (g : H → List V → Fr → Option V) (op : Op), (∀ h', oneOp P call op (tmS ns vs f) d h' = (plainOp P h' (evO P (tmS ns vs f)) op).map fun (v, h') => (v, d, h')) → isMem op = false → g h vs f = valOp P h (evO P (tmS ns vs f)) op →
      (OpC.val g).sem call vs f d h = oneOp P call op (tmS ns vs f) d h := by
    intro g op h1 h2 h3
    rw [h1, plainOp, h2]
    show (g h vs f).map _ = _
    rw [h3]
    cases valOp P h (evO P (tmS ns vs f)) op <;> rfl
  have val' : ∀ (v : Option V) (op : Op), (∀ h', oneOp P call op (tmS ns vs f) d h' = (plainOp P h' (evO P (tmS ns vs f)) op).map fun (v, h') => (v, d, h')) → isMem op = false → v = valOp P h (evO P (tmS ns vs f)) op →
      (v.map fun v => (v, d, h)) = oneOp P call op (tmS ns vs f) d h := by
    intro v op h1 h2 h3
    rw [h1, plainOp, h2, h3]
    cases valOp P h (evO P (tmS ns vs f)) op <;> rfl
  have B1 : ∀ (t : Bool) (a b : V), (Bool.rec (motive := fun _ => V) b a t) = (bif t then a else b) := fun t a b => by cases t <;> rfl
  unfold opC
  split
  · simp only [OpC.sem, opdC_tm]; rfl
  · simp only [OpC.sem, opdC_tm]; rfl
  · simp only [un_eq]
    refine val _ _ (fun _ => rfl) rfl ?_
    simp only [opdC_tm, valOp, B1]
    cases evO P (tmS ns vs f) _ <;> rfl
  · simp only [un_eq]
    refine val _ _ (fun _ => rfl) rfl ?_
    simp only [opdC_tm, valOp]
    cases evO P (tmS ns vs f) _ <;> rfl
  · rename_i o t x y yt
    cases hi : isIfaceT P t
    · simp only [un_eq, cond_false]
      have hb := binC_run (P := P) o t
      revert hb
      generalize binC P o t = cb
      intro hb
      cases cb with | mk gb =>
      refine val _ _ (fun _ => rfl) rfl ?_
      simp only [opdC_tm, valOp, binX_plain hi]
      exact hb _ _ _
    · rfl
  · simp only [un_eq]
    refine val _ _ (fun _ => rfl) rfl ?_
    simp only [opdC_tm, valOp, notS_eq]
    cases evO P (tmS ns vs f) _ <;> rfl
  · rw [convC_sem, opdC_tm]; exact val' _ _ (fun _ => rfl) rfl rfl
  · rename_i t x lo hi
    rw [sliceC_sem, opdC_tm]
    refine val' _ _ (fun _ => rfl) rfl ?_
    simp only [Option.map_map, valOp]
    congr 1
    · cases lo with
      | none => rfl
      | some o => exact congrArg some (opdC_tm ns vs f o)
    · cases hi with
      | none => rfl
      | some o => exact congrArg some (opdC_tm ns vs f o)
  · rw [fieldAddrC_sem, opdC_tm]; exact val' _ _ (fun _ => rfl) rfl rfl
  · rw [indexAddrC_sem, opdC_tm, opdC_tm]; exact val' _ _ (fun _ => rfl) rfl rfl
  · rw [indexC_sem, opdC_tm, opdC_tm]; exact val' _ _ (fun _ => rfl) rfl rfl
  · simp only [un_eq]
    refine val _ _ (fun _ => rfl) rfl ?_
    simp only [opdC_tm, valOp, nthS_eq]
    cases evO P (tmS ns vs f) _ <;> rfl
  · rename_i t x
    simp only [un_eq]
    have hl := loadC_run (P := P) t
    revert hl
    generalize loadC P t = cl
    intro hl
    cases cl with | mk gl =>
    refine val _ _ (fun _ => rfl) rfl ?_
    simp only [opdC_tm, valOp]
    exact hl _ _
  · simp only [un_eq]
    refine val _ _ (fun _ => rfl) rfl ?_
    simp only [opdC_tm, valOp]
  · rename_i args argTypes
    split
    · rename_i x t ts ha ht
      rw [lenC_sem, opdC_tm]
      refine val' _ _ (fun _ => rfl) rfl ?_
      simp only [valOp, ha, ht, List.map_cons, List.map_nil, builtinV]
    · rfl
  · rw [allocC_sem]
    rfl
  · simp only [un_eq]
    show (boxS h _ _).map _ = _
    rw [boxS_eq, opdC_tm]
    rfl
  · rw [buildC_sem, partsC_run]
    exact val' _ _ (fun _ => rfl) rfl rfl
  · rw [buildSliceC_sem, partsC_run]
    rfl
  · show (makeSliceV P h _ _ _).map _ = _
    rw [opdC_tm, opdC_tm]
    rfl
  · simp only [un_eq]
    refine val _ _ (fun _ => rfl) rfl ?_
    simp only [opdC_tm, valOp]
  · simp only [un_eq]
    refine val _ _ (fun _ => rfl) rfl ?_
    simp only [opdC_tm, valOp]
  · rename_i args ats
    split
    · rename_i x y ha
      simp only [un_eq]
      refine val _ _ (fun _ => rfl) rfl ?_
      simp only [opdC_tm, minS_eq, valOp, ha, List.map_cons, List.map_nil, builtinV]
    · rfl
  · rename_i args argTypes
    split
    · rename_i x y t tx ha ht
      show (appendV P h t tx _ _).map _ = _
      rw [opdC_tm, opdC_tm]
      simp only [oneOp, plainOp, isMem, memOp, ha, ht, cond_true]
    · rfl
  · rename_i t x y
    simp only [un_eq]
    have hs := storeC_run (P := P) t
    revert hs
    generalize storeC P t = cs
    intro hs
    cases cs with | mk gs =>
    show (gs h _ _).map _ = _
    have e : gs h ((opdC P ns x).run vs f) ((opdC P ns y).run vs f) = (storeV P h t ((opdC P ns x).run vs f) ((opdC P ns y).run vs f)).map fun h' => (.any, h') := hs _ _ _
    rw [e, opdC_tm, opdC_tm]
    rfl
  · rename_i g args targs
    cases hb : hasBody P g
    · simp only [cond_false, OpC.sem, oneOp, callOp, calleeV, evO, hb]; rfl
    · have ha := argsC_run (P := P) ns vs f args.toList
      revert ha
      generalize argsC P ns args.toList = ca
      intro ha
      cases ca with | mk ga =>
      have ha' : ga vs f = args.toList.map (evO P (tmS ns vs f)) := ha
      simp only [cond_true, OpC.sem, oneOp, callOp, calleeV, evO, hb, ha', List.nil_append, List.append_nil]
  · rfl

end
end Go.Ev

namespace Go.Ev
noncomputable section
variable {P : Program}

/-- A guard's value: a bool; an operation that was not wanted. -/
def guardOf (v : V) (k : Bool → RC) (s e : RC) : RC :=
  V.rec (motive_1 := fun _ => (Bool → RC) → RC → RC → RC) (motive_2 := fun _ => Unit) (fun b k _ _ => k b) (fun _ _ _ _ e => e) (fun _ _ _ _ e => e) (fun _ _ e => e) (fun _ _ _ _ e => e) (fun _ _ e => e) (fun _ _ _ _ _ _ _ e => e) (fun _ _ _ _ _ _ _ e => e) (fun _ _ e => e) (fun _ _ _ _ _ e => e) (fun _ _ e => e) (fun _ _ _ e => e) (fun _ _ e => e) (fun _ _ _ _ e => e) (fun _ _ _ _ e => e) (fun _ _ _ _ e => e) (fun _ _ _ _ e => e) (fun _ _ _ _ e => e) (fun l _ _ s e => List.rec (motive := fun _ => RC) s (fun _ _ _ => e) l) (fun _ _ e => e) () (fun _ _ _ _ => ()) v k s e
inductive RegC where
  | mk (g : CallFn → List V → Fr → Ds → H → RC)
def RegC.run (c : RegC) (call : CallFn) (vs : List V) (f : Fr) (d : Ds) (h : H) : RC := RegC.rec (motive := fun _ => RC) (fun g => g call vs f d h) c
inductive KC where
  | mk (g : CallFn → V → List V → Fr → Ds → H → RC)
def KC.run (c : KC) (call : CallFn) (v : V) (vs : List V) (f : Fr) (d : Ds) (h : H) : RC := KC.rec (motive := fun _ => RC) (fun g => g call v vs f d h) c

def Fs.put {β : Type} (F : (V → Fr → Fr) → β) (c : Fs) : β := Fs.rec (motive := fun _ => β) F c
theorem fsrec_eq {β : Type} (F : (V → Fr → Fr) → β) (c : Fs) : Fs.put F c = F c.run := by cases c; rfl
def RegC.put {β : Type} (F : (CallFn → List V → Fr → Ds → H → RC) → β) (c : RegC) : β := RegC.rec (motive := fun _ => β) F c
theorem regrec_eq {β : Type} (F : (CallFn → List V → Fr → Ds → H → RC) → β) (c : RegC) : RegC.put F c = F c.run := by cases c; rfl
def KC.put {β : Type} (F : (CallFn → V → List V → Fr → Ds → H → RC) → β) (c : KC) : β := KC.rec (motive := fun _ => β) F c
theorem kcrec_eq {β : Type} (F : (CallFn → V → List V → Fr → Ds → H → RC) → β) (c : KC) : KC.put F c = F c.run := by cases c; rfl
def keptS (mask n : Nat) : Bool := bif kept mask n then Nat.blt n 4096 else false
def dstC (mask : Nat) (dst : Option Tmp) (ns : List Tmp) (ih : List Tmp → RegC) : KC :=
  match dst with
  | none => RegC.put (fun g => .mk fun call _ vs f d h => g call vs f d h) (ih ns)
  | some n => bif keptS mask n then RegC.put (fun g => Fs.put (fun s => .mk fun call v vs f d h => g call vs (s v f) d h) (setC n)) (ih ns)
    else RegC.put (fun g => .mk fun call v vs f d h => g call (v :: vs) f d h) (ih (n :: ns))
def stepC (oc : OpC) (k : KC) : RegC :=
  KC.put (fun gk => match oc with
  | .pure c => Cl.put (fun gc => .mk fun call vs f d h => gk call (gc vs f) vs f d h) c
  | .val g => .mk fun call vs f d h => Option.rec (motive := fun _ => RC) .fail (fun v => gk call v vs f d h) (g h vs f)
  | .mem g => .mk fun call vs f d h => Option.rec (motive := fun _ => RC) .fail (fun p => Prod.rec (motive := fun _ => RC) (fun v h' => gk call v vs f d h') p) (g call vs f h)
  | .any g => .mk fun call vs f d h => Option.rec (motive := fun _ => RC) .fail (fun p => Prod.rec (motive := fun _ => RC) (fun v q => Prod.rec (motive := fun _ => RC) (fun d' h' => gk call v vs f d' h') q) p) (g call vs f d h)) k
theorem stepC_run (oc : OpC) (k : KC) (call : CallFn) (vs : List V) (f : Fr) (d : Ds) (h : H) :
    (stepC oc k).run call vs f d h = match oc.sem call vs f d h with | some (v, d', h') => k.run call v vs f d' h' | none => .fail := by
  unfold stepC
  simp only [kcrec_eq]
  cases oc with
  | pure c => simp only [clrec_eq]; rfl
  | val g =>
    show Option.rec (motive := fun _ => RC) .fail (fun v => k.run call v vs f d h) (g h vs f) = _
    simp only [OpC.sem]
    cases g h vs f <;> rfl
  | mem g =>
    show Option.rec (motive := fun _ => RC) .fail (fun p => Prod.rec (motive := fun _ => RC) (fun v h' => k.run call v vs f d h') p) (g call vs f h) = _
    simp only [OpC.sem]
    cases g call vs f h <;> rfl
  | any g =>
    show Option.rec (motive := fun _ => RC) .fail (fun p => Prod.rec (motive := fun _ => RC) (fun v q => Prod.rec (motive := fun _ => RC) (fun d' h' => k.run call v vs f d' h') q) p) (g call vs f d h) = _
    simp only [OpC.sem]
    cases g call vs f d h <;> rfl

def guardC (all : List Oper) (ns : List Tmp) (g : Option (Nat × Bool)) (A : RegC) (K : KC) : RegC :=
  match g with
  | none => A
  | some (j, want) =>
    match (all[j]?).bind (·.dst) with
    | none => .mk fun _ _ _ _ _ => .fail
    | some t => bif want then
        RegC.put (fun ga => KC.put (fun gk => Cl.put (fun gr =>
          .mk (fun call vs f d h => guardOf (gr vs f) (fun b => (Bool.rec (motive := fun _ => RC) (gk call (.tup []) vs f d h) (ga call vs f d h) (b))) (gk call (.tup []) vs f d h) .fail)) (resolve ns t)) K) A
      else RegC.put (fun ga => KC.put (fun gk => Cl.put (fun gr =>
          .mk (fun call vs f d h => guardOf (gr vs f) (fun b => (Bool.rec (motive := fun _ => RC) (ga call vs f d h) (gk call (.tup []) vs f d h) (b))) (gk call (.tup []) vs f d h) .fail)) (resolve ns t)) K) A
theorem guardC_run (all : List Oper) (ns : List Tmp) (g : Option (Nat × Bool)) (A : RegC) (K : KC) (call : CallFn) (vs : List V) (f : Fr) (d : Ds) (h : H) :
    (guardC all ns g A K).run call vs f d h = match wantedV all (tmS ns vs f) g with | some true => A.run call vs f d h | some false => K.run call (.tup []) vs f d h | none => .fail := by
  unfold guardC wantedV
  split
  · rfl
  · rename_i j want
    split
    · rename_i ht
      simp only [ht]
      rfl
    · rename_i t ht
      simp only [ht]
      have key : ∀ u : V, (match (match u with | .bool b => some (b == want) | .tup [] => some false | _ => none : Option Bool) with | some true => A.run call vs f d h | some false => K.run call (.tup []) vs f d h | none => .fail) =
          guardOf u (fun b => bif b == want then A.run call vs f d h else K.run call (.tup []) vs f d h) (K.run call (.tup []) vs f d h) .fail := by
        intro u
        cases u <;> first
          | rfl
          | (rename_i b; cases b <;> cases want <;> rfl)
          | (rename_i l; cases l <;> rfl)
      show _ = (match (match (resolve ns t).run vs f with | .bool b => some (b == want) | .tup [] => some false | _ => none : Option Bool) with | some true => A.run call vs f d h | some false => K.run call (.tup []) vs f d h | none => .fail)
      rw [key]
      cases want
      · simp only [cond_false, clrec_eq, regrec_eq, kcrec_eq]
        show guardOf ((resolve ns t).run vs f) _ _ _ = _
        generalize (resolve ns t).run vs f = u
        cases u <;> first
          | rfl
          | (rename_i b; cases b <;> rfl)
      · simp only [cond_true, clrec_eq, regrec_eq, kcrec_eq]
        show guardOf ((resolve ns t).run vs f) _ _ _ = _
        generalize (resolve ns t).run vs f = u
        cases u <;> first
          | rfl
          | (rename_i b; cases b <;> rfl)

def regC (P : Program) (mask : Nat) (all ops : List Oper) : List Tmp → RegC :=
  List.rec (motive := fun _ => List Tmp → RegC) (fun _ => .mk fun _ _ f d h => .ok .norm f d h)
    (fun o _ ih ns => guardC all ns o.guard (stepC (opC P ns o.op) (dstC mask o.dst ns ih)) (dstC mask o.dst ns ih)) ops

/-- The stages' state beside the evaluator's. -/
structure Inv (mask : Nat) (e : Env) (f0 : Fr) (ns : List Tmp) (vs : List V) (f : Fr) : Prop where
  len : vs.length = ns.length
  tm : ∀ t, look (ns.zip vs) f t = look e f0 t
  fl : flush mask e f0 = f
  out : ∀ n, memN n ns = true → keptS mask n = false

theorem Inv.tmS {mask : Nat} {e : Env} {f0 : Fr} {ns : List Tmp} {vs : List V} {f : Fr} (i : Inv mask e f0 ns vs f) : tmS ns vs f = look e f0 := by
  funext t
  show (resolve ns t).run vs f = _
  rw [resolve_run f i.len, i.tm]

theorem look_zip_set {t n : Tmp} (hn : n < 4096) (v : V) : ∀ (ns : List Tmp) (vs : List V) (f : Fr), vs.length = ns.length → memN n ns = false → look (ns.zip vs) (fset f n v) t = if t = n then v else look (ns.zip vs) f t := by
  intro ns
  induction ns with
  | nil => intro vs f _ _; show fget (fset f n v) t = _; rw [fget_fset _ _ _ _ hn]; rfl
  | cons m ns ih =>
    intro vs f hl hm
    cases vs with
    | nil => cases hl
    | cons u vs =>
      have hm' : (bif Nat.beq m n then true else memN n ns) = false := hm
      cases hb : Nat.beq m n
      · rw [hb] at hm'
        show (bif Nat.beq m t then u else look (ns.zip vs) (fset f n v) t) = if t = n then v else (bif Nat.beq m t then u else look (ns.zip vs) f t)
        rw [ih vs f (by simpa using hl) hm']
        cases hmt : Nat.beq m t
        · rfl
        · have e1 := Nat.eq_of_beq_eq_true hmt
          have : t ≠ n := fun e2 => by rw [e1, e2] at hb; rw [Nat.beq_refl] at hb; cases hb
          simp [this]
      · rw [hb] at hm'; cases hm'

theorem Inv.out1 {mask : Nat} {e : Env} {f0 : Fr} {ns : List Tmp} {vs : List V} {f : Fr} (i : Inv mask e f0 ns vs f) {n : Tmp} (hk : keptS mask n = false) (v : V) : Inv mask (putE (some n) v e) f0 (n :: ns) (v :: vs) f := by
  refine ⟨by simp [i.len], fun t => ?_, ?_, fun m hm => ?_⟩
  · show (bif Nat.beq n t then v else look (ns.zip vs) f t) = (bif Nat.beq n t then v else look e f0 t)
    rw [i.tm]
  · show (bif kept mask n then fset (flush mask e f0) n v else flush mask e f0) = f
    rw [i.fl]
    unfold keptS at hk
    cases hk2 : kept mask n
    · rfl
    · rw [hk2] at hk
      have hk3 : Nat.blt n 4096 = false := hk
      show fset f n v = f
      unfold fset
      rw [hk3]
      rfl
  · have hm' : (bif Nat.beq n m then true else memN m ns) = true := hm
    cases hb : Nat.beq n m
    · rw [hb] at hm'; exact i.out m hm'
    · rw [← Nat.eq_of_beq_eq_true hb]; exact hk
theorem Inv.kept1 {mask : Nat} {e : Env} {f0 : Fr} {ns : List Tmp} {vs : List V} {f : Fr} (i : Inv mask e f0 ns vs f) {n : Tmp} (hk : keptS mask n = true) (v : V) : Inv mask (putE (some n) v e) f0 ns vs ((setC n).run v f) := by
  rw [setC_run]
  have hk' := hk
  unfold keptS at hk'
  cases hk2 : kept mask n
  · rw [hk2] at hk'; cases hk'
  · rw [hk2] at hk'
    have hn : n < 4096 := by
      have : Nat.blt n 4096 = true := hk'
      rwa [Nat.blt_eq] at this
    have hout : memN n ns = false := by
      cases hm : memN n ns
      · rfl
      · rw [i.out n hm] at hk; cases hk
    refine ⟨i.len, fun t => ?_, ?_, i.out⟩
    · rw [look_zip_set hn v ns vs f i.len hout, i.tm]
      show _ = (bif Nat.beq n t then v else look e f0 t)
      cases hb : Nat.beq n t
      · have : t ≠ n := fun e2 => by rw [e2, Nat.beq_refl] at hb; cases hb
        simp [this]
      · simp [(Nat.eq_of_beq_eq_true hb).symm]
    · show (bif kept mask n then fset (flush mask e f0) n v else flush mask e f0) = _
      rw [hk2, i.fl]; rfl

theorem Inv.put {mask : Nat} {e : Env} {f0 : Fr} {ns : List Tmp} {vs : List V} {f : Fr} (i : Inv mask e f0 ns vs f) (dst : Option Tmp) (v : V) (ih : List Tmp → RegC) (call : CallFn) :
    ∃ ns' vs' f', Inv mask (putE dst v e) f0 ns' vs' f' ∧ ∀ d h, (dstC mask dst ns ih).run call v vs f d h = (ih ns').run call vs' f' d h := by
  cases dst with
  | none => exact ⟨ns, vs, f, i, fun _ _ => by
      unfold dstC
      simp only [regrec_eq]
      rfl⟩
  | some n =>
    cases hk : keptS mask n
    · refine ⟨n :: ns, v :: vs, f, ⟨by simp [i.len], fun t => ?_, ?_, fun m hm => ?_⟩, fun d h => ?_⟩
      · show (bif Nat.beq n t then v else look (ns.zip vs) f t) = (bif Nat.beq n t then v else look e f0 t)
        rw [i.tm]
      · show (bif kept mask n then fset (flush mask e f0) n v else flush mask e f0) = f
        rw [i.fl]
        unfold keptS at hk
        cases hk2 : kept mask n
        · rfl
        · rw [hk2] at hk
          have hk3 : Nat.blt n 4096 = false := hk
          show fset f n v = f
          unfold fset
          rw [hk3]
          rfl
      · have hm' : (bif Nat.beq n m then true else memN m ns) = true := hm
        cases hb : Nat.beq n m
        · rw [hb] at hm'; exact i.out m hm'
        · rw [← Nat.eq_of_beq_eq_true hb]; exact hk
      · show KC.run (bif keptS mask n then _ else _) call v vs f d h = _
        rw [hk]
        simp only [cond_false, regrec_eq]
        rfl
    · have hk' := hk
      unfold keptS at hk'
      cases hk2 : kept mask n
      · rw [hk2] at hk'; cases hk'
      · rw [hk2] at hk'
        have hn : n < 4096 := by
          have : Nat.blt n 4096 = true := hk'
          rwa [Nat.blt_eq] at this
        have hout : memN n ns = false := by
          cases hm : memN n ns
          · rfl
          · rw [i.out n hm] at hk; cases hk
        refine ⟨ns, vs, fset f n v, ⟨i.len, fun t => ?_, ?_, i.out⟩, fun d h => ?_⟩
        · rw [look_zip_set hn v ns vs f i.len hout, i.tm]
          show _ = (bif Nat.beq n t then v else look e f0 t)
          cases hb : Nat.beq n t
          · have : t ≠ n := fun e2 => by rw [e2, Nat.beq_refl] at hb; cases hb
            simp [this]
          · simp [(Nat.eq_of_beq_eq_true hb).symm]
        · show (bif kept mask n then fset (flush mask e f0) n v else flush mask e f0) = _
          rw [hk2, i.fl]; rfl
        · show KC.run (bif keptS mask n then _ else _) call v vs f d h = _
          rw [hk]
          simp only [cond_true, regrec_eq, fsrec_eq]
          show (ih ns).run call vs ((setC n).run v f) d h = _
          rw [setC_run]

theorem regC_run (mask : Nat) (call : CallFn) (f0 : Fr) (all : List Oper) : ∀ (ops : List Oper) (e : Env) (ns : List Tmp) (vs : List V) (f : Fr) (d : Ds) (h : H), Inv mask e f0 ns vs f →
    (regC P mask all ops ns).run call vs f d h = afterOps mask f0 (evOps P call f0 all ops e d h) := by
  intro ops
  induction ops with
  | nil =>
    intro e ns vs f d h i
    show RC.ok .norm f d h = RC.ok .norm (flush mask e f0) d h
    rw [i.fl]
  | cons o ops ih =>
    intro e ns vs f d h i
    have hd : regC P mask all (o :: ops) ns = guardC all ns o.guard (stepC (opC P ns o.op) (dstC mask o.dst ns (regC P mask all ops))) (dstC mask o.dst ns (regC P mask all ops)) := rfl
    rw [hd, guardC_run, i.tmS]
    simp only [evOps]
    cases wantedV all (look e f0) o.guard with
    | none => rfl
    | some b =>
      cases b
      · simp only
        obtain ⟨ns', vs', f', i', h2⟩ := i.put o.dst (.tup []) (regC P mask all ops) call
        rw [h2, ih _ _ _ _ _ _ i']
      · simp only
        rw [stepC_run, opC_sem, i.tmS]
        cases oneOp P call o.op (look e f0) d h with
        | none => rfl
        | some p =>
          obtain ⟨v, d', h'⟩ := p
          simp only
          obtain ⟨ns', vs', f', i', h2⟩ := i.put o.dst v (regC P mask all ops) call
          rw [h2, ih _ _ _ _ _ _ i']

theorem lastTr_any (e e2 : Env) (d d2 : Ds) (h h2 : H) : ∀ (ops : List Oper) (tr : List Tr) (o : Oper) (t : Tr), lastTr (o :: ops) (t :: tr) e d h = lastTr (o :: ops) (t :: tr) e2 d2 h2 := by
  intro ops
  induction ops with
  | nil => intro tr o t; cases tr <;> rfl
  | cons o2 ops ih =>
    intro tr o t
    cases tr with
    | nil => cases ops <;> rfl
    | cons t2 tr => exact ih tr o2 t2
theorem evTr_ops (call : CallFn) (f : Fr) (all : List Oper) : ∀ (ops : List Oper) (e : Env) (d : Ds) (h : H),
    evOps P call f all ops e d h = match evTr P call f all ops e d h with | some tr => lastTr ops tr e d h | none => .fail := by
  intro ops
  induction ops with
  | nil => intro e d h; rfl
  | cons o ops ih =>
    intro e d h
    have step : ∀ (e' : Env) (d' : Ds) (h' : H) (t : Tr), t.ds' = d' → t.h' = h' → putE o.dst t.v t.env = e' →
        evOps P call f all ops e' d' h' = match (evTr P call f all ops e' d' h').map (fun l => t :: l) with | some tr => lastTr (o :: ops) tr e d h | none => .fail := by
      intro e' d' h' t h1 h2 h3
      rw [ih]
      cases hq : evTr P call f all ops e' d' h' with
      | none => rfl
      | some tr =>
        simp only [Option.map_some]
        cases ops with
        | nil =>
          simp only [evTr, Option.some.injEq] at hq
          subst hq
          show RO.ok e' d' h' = RO.ok (putE o.dst t.v t.env) t.ds' t.h'
          rw [h1, h2, h3]
        | cons o2 ops =>
          cases tr with
          | nil => cases ops <;> rfl
          | cons t2 tr => exact (lastTr_any _ _ _ _ _ _ ops tr o2 t2)
    simp only [evOps, evTr]
    cases wantedV all (look e f) o.guard with
    | none => rfl
    | some b =>
      cases b
      · exact step _ _ _ ⟨e, d, h, false, .tup [], d, h⟩ rfl rfl rfl
      · simp only
        cases oneOp P call o.op (look e f) d h with
        | none => rfl
        | some p =>
          obtain ⟨v, d', h'⟩ := p
          exact step _ _ _ ⟨e, d, h, true, v, d', h'⟩ rfl rfl rfl
theorem evDraw_nil (call : CallFn) (f : Fr) (ops : List Oper) (d : Ds) (h : H) : evDraw P call f [] ops d h = evOps P call f ops ops [] d h := by
  rw [evTr_ops]
  unfold evDraw
  cases evTr P call f ops ops [] d h <;> rfl

/-! Regions that draw their order, in stages: what the pairs ask is kept by the way. -/
def intBo (v : V) (k : IntKind → Int → Bool) (e : Bool) : Bool :=
  V.rec (motive_1 := fun _ => (IntKind → Int → Bool) → Bool → Bool) (motive_2 := fun _ => Unit) (fun _ _ e => e) (fun t n k _ => k t n) (fun _ _ _ e => e) (fun _ e => e) (fun _ _ _ e => e) (fun _ e => e) (fun _ _ _ _ _ _ e => e) (fun _ _ _ _ _ _ e => e) (fun _ e => e) (fun _ _ _ _ e => e) (fun _ e => e) (fun _ _ e => e) (fun _ e => e) (fun _ _ _ e => e) (fun _ _ _ e => e) (fun _ _ _ e => e) (fun _ _ _ e => e) (fun _ _ _ e => e) (fun _ _ _ e => e) (fun _ e => e) () (fun _ _ _ _ => ()) v k e
def strBo (v : V) (k : Nat → Nat → Bool) (e : Bool) : Bool :=
  V.rec (motive_1 := fun _ => (Nat → Nat → Bool) → Bool → Bool) (motive_2 := fun _ => Unit) (fun _ _ e => e) (fun _ _ _ e => e) (fun n l k _ => k n l) (fun _ e => e) (fun _ _ _ e => e) (fun _ e => e) (fun _ _ _ _ _ _ e => e) (fun _ _ _ _ _ _ e => e) (fun _ e => e) (fun _ _ _ _ e => e) (fun _ e => e) (fun _ _ e => e) (fun _ e => e) (fun _ _ _ e => e) (fun _ _ _ e => e) (fun _ _ _ e => e) (fun _ _ _ e => e) (fun _ _ _ e => e) (fun _ _ _ e => e) (fun _ e => e) () (fun _ _ _ _ => ()) v k e
def ptrBo (v : V) (k : Nat → Nat → Bool) (e : Bool) : Bool :=
  V.rec (motive_1 := fun _ => (Nat → Nat → Bool) → Bool → Bool) (motive_2 := fun _ => Unit) (fun _ _ e => e) (fun _ _ _ e => e) (fun _ _ _ e => e) (fun _ e => e) (fun i o k _ => k i o) (fun _ e => e) (fun _ _ _ _ _ _ e => e) (fun _ _ _ _ _ _ e => e) (fun _ e => e) (fun _ _ _ _ e => e) (fun _ e => e) (fun _ _ e => e) (fun _ e => e) (fun _ _ _ e => e) (fun _ _ _ e => e) (fun _ _ _ e => e) (fun _ _ _ e => e) (fun _ _ _ e => e) (fun _ _ _ e => e) (fun _ e => e) () (fun _ _ _ _ => ()) v k e
def sliceBo (v : V) (k : Nat → Nat → Nat → Nat → Nat → Bool) (e : Bool) : Bool :=
  V.rec (motive_1 := fun _ => (Nat → Nat → Nat → Nat → Nat → Bool) → Bool → Bool) (motive_2 := fun _ => Unit) (fun _ _ e => e) (fun _ _ _ e => e) (fun _ _ _ e => e) (fun _ e => e) (fun _ _ _ e => e) (fun _ e => e) (fun i o l c z k _ => k i o l c z) (fun _ _ _ _ _ _ e => e) (fun _ e => e) (fun _ _ _ _ e => e) (fun _ e => e) (fun _ _ e => e) (fun _ e => e) (fun _ _ _ e => e) (fun _ _ _ e => e) (fun _ _ _ e => e) (fun _ _ _ e => e) (fun _ _ _ e => e) (fun _ _ _ e => e) (fun _ e => e) () (fun _ _ _ _ => ()) v k e
def andS (a b : Bool) : Bool := Bool.rec (motive := fun _ => Bool) false b a
theorem andS_eq (a b : Bool) : andS a b = (a && b) := by cases a <;> rfl
def veqS (x y : V) : Bool :=
  intBo x (fun k a => intBo y (fun k' b => andS (Nat.beq (kcS k) (kcS k')) (eqS a b)) (veq x y))
    (strBo x (fun n l => strBo y (fun m k => andS (Nat.beq n m) (Nat.beq l k)) (veq x y))
      (ptrBo x (fun a b => ptrBo y (fun c d => andS (Nat.beq a c) (Nat.beq b d)) (veq x y)) (veq x y)))
theorem veqS_eq (x y : V) : veqS x y = veq x y := by
  cases x <;> first
    | rfl
    | (cases y <;> first
        | rfl
        | (show andS _ _ = _; rw [andS_eq, kcS_eq, kcS_eq, eqS_eq]; rfl)
        | (show andS _ _ = _; rw [andS_eq]; rfl))
def eqO (o : Option V) (v : V) : Bool := Option.rec (motive := fun _ => Bool) false (fun u => veqS u v) o
theorem eqO_eq (o : Option V) (v : V) : eqO o v = (match o with | some u => veq u v | none => false) := by
  cases o with
  | none => rfl
  | some u => exact veqS_eq u v
/-- What one operation came to. -/
inductive TrS where
  | mk (re : H → Option V) (h : H) (w : Bool) (v : V) (h' : H)
inductive TC where
  | mk (g : CallFn → List V → Fr → Ds → H → List TrS → RC)
def TC.run (c : TC) (call : CallFn) (vs : List V) (f : Fr) (d : Ds) (h : H) (acc : List TrS) : RC := TC.rec (motive := fun _ => RC) (fun g => g call vs f d h acc) c
def TC.put {β : Type} (F : (CallFn → List V → Fr → Ds → H → List TrS → RC) → β) (c : TC) : β := TC.rec (motive := fun _ => β) F c
theorem tcrec_eq {β : Type} (F : (CallFn → List V → Fr → Ds → H → List TrS → RC) → β) (c : TC) : TC.put F c = F c.run := by cases c; rfl
inductive KT where
  | mk (g : CallFn → V → List V → Fr → Ds → H → List TrS → RC)
def KT.run (c : KT) (call : CallFn) (v : V) (vs : List V) (f : Fr) (d : Ds) (h : H) (acc : List TrS) : RC := KT.rec (motive := fun _ => RC) (fun g => g call v vs f d h acc) c
def KT.put {β : Type} (F : (CallFn → V → List V → Fr → Ds → H → List TrS → RC) → β) (c : KT) : β := KT.rec (motive := fun _ => β) F c
theorem ktrec_eq {β : Type} (F : (CallFn → V → List V → Fr → Ds → H → List TrS → RC) → β) (c : KT) : KT.put F c = F c.run := by cases c; rfl
def dstT (mask : Nat) (dst : Option Tmp) (ns : List Tmp) (ih : List Tmp → TC) : KT :=
  match dst with
  | none => TC.put (fun g => .mk fun call _ vs f d h acc => g call vs f d h acc) (ih ns)
  | some n => bif keptS mask n then TC.put (fun g => Fs.put (fun s => .mk fun call v vs f d h acc => g call vs (s v f) d h acc) (setC n)) (ih ns)
    else TC.put (fun g => .mk fun call v vs f d h acc => g call (v :: vs) f d h acc) (ih (n :: ns))
def stepT (oc : OpC) (k : KT) : TC :=
  KT.put (fun gk => match oc with
  | .pure c => Cl.put (fun gc => .mk fun call vs f d h acc => gk call (gc vs f) vs f d h (.mk (fun _ => some (gc vs f)) h true (gc vs f) h :: acc)) c
  | .val g => .mk fun call vs f d h acc => Option.rec (motive := fun _ => RC) .fail (fun v => gk call v vs f d h (.mk (fun hx => g hx vs f) h true v h :: acc)) (g h vs f)
  | .mem g => .mk fun call vs f d h acc => Option.rec (motive := fun _ => RC) .fail (fun p => Prod.rec (motive := fun _ => RC) (fun v h' => gk call v vs f d h' (.mk (fun hx => (g call vs f hx).map Prod.fst) h true v h' :: acc)) p) (g call vs f h)
  | .any g => .mk fun call vs f d h acc => Option.rec (motive := fun _ => RC) .fail (fun p => Prod.rec (motive := fun _ => RC) (fun v q => Prod.rec (motive := fun _ => RC) (fun d' h' => gk call v vs f d' h' (.mk (fun hx => (g call vs f d hx).map Prod.fst) h true v h' :: acc)) q) p) (g call vs f d h)) k
theorem stepT_run (oc : OpC) (k : KT) (call : CallFn) (vs : List V) (f : Fr) (d : Ds) (h : H) (acc : List TrS) :
    ∃ re : H → Option V, (∀ hx, re hx = (oc.sem call vs f d hx).map Prod.fst) ∧
      (stepT oc k).run call vs f d h acc = match oc.sem call vs f d h with | some (v, d', h') => k.run call v vs f d' h' (.mk re h true v h' :: acc) | none => .fail := by
  unfold stepT
  simp only [ktrec_eq]
  cases oc with
  | pure c => exact ⟨fun _ => some (c.run vs f), fun _ => rfl, by simp only [clrec_eq]; rfl⟩
  | val g =>
    refine ⟨fun hx => g hx vs f, fun hx => by simp only [OpC.sem]; cases g hx vs f <;> rfl, ?_⟩
    show Option.rec (motive := fun _ => RC) .fail (fun v => k.run call v vs f d h (.mk (fun hx => g hx vs f) h true v h :: acc)) (g h vs f) = _
    simp only [OpC.sem]
    cases g h vs f <;> rfl
  | mem g =>
    refine ⟨fun hx => (g call vs f hx).map Prod.fst, fun hx => by simp only [OpC.sem]; cases g call vs f hx <;> rfl, ?_⟩
    show Option.rec (motive := fun _ => RC) .fail (fun p => Prod.rec (motive := fun _ => RC) (fun v h' => k.run call v vs f d h' (.mk (fun hx => (g call vs f hx).map Prod.fst) h true v h' :: acc)) p) (g call vs f h) = _
    simp only [OpC.sem]
    cases g call vs f h <;> rfl
  | any g =>
    refine ⟨fun hx => (g call vs f d hx).map Prod.fst, fun hx => rfl, ?_⟩
    show Option.rec (motive := fun _ => RC) .fail (fun p => Prod.rec (motive := fun _ => RC) (fun v q => Prod.rec (motive := fun _ => RC) (fun d' h' => k.run call v vs f d' h' (.mk (fun hx => (g call vs f d hx).map Prod.fst) h true v h' :: acc)) q) p) (g call vs f d h) = _
    simp only [OpC.sem]
    cases g call vs f d h <;> rfl
def guardT (all : List Oper) (ns : List Tmp) (g : Option (Nat × Bool)) (A : TC) (K : KT) : TC :=
  match g with
  | none => A
  | some (j, want) =>
    match (all[j]?).bind (·.dst) with
    | none => .mk fun _ _ _ _ _ _ => .fail
    | some t => bif want then
        TC.put (fun ga => KT.put (fun gk => Cl.put (fun gr =>
          .mk (fun call vs f d h acc => guardOf (gr vs f) (fun b => (Bool.rec (motive := fun _ => RC) (gk call (.tup []) vs f d h (.mk (fun _ => none) h false (.tup []) h :: acc)) (ga call vs f d h acc) (b))) (gk call (.tup []) vs f d h (.mk (fun _ => none) h false (.tup []) h :: acc)) .fail)) (resolve ns t)) K) A
      else TC.put (fun ga => KT.put (fun gk => Cl.put (fun gr =>
          .mk (fun call vs f d h acc => guardOf (gr vs f) (fun b => (Bool.rec (motive := fun _ => RC) (ga call vs f d h acc) (gk call (.tup []) vs f d h (.mk (fun _ => none) h false (.tup []) h :: acc)) (b))) (gk call (.tup []) vs f d h (.mk (fun _ => none) h false (.tup []) h :: acc)) .fail)) (resolve ns t)) K) A
theorem guardT_run (all : List Oper) (ns : List Tmp) (g : Option (Nat × Bool)) (A : TC) (K : KT) (call : CallFn) (vs : List V) (f : Fr) (d : Ds) (h : H) (acc : List TrS) :
    (guardT all ns g A K).run call vs f d h acc = match wantedV all (tmS ns vs f) g with | some true => A.run call vs f d h acc | some false => K.run call (.tup []) vs f d h (.mk (fun _ => none) h false (.tup []) h :: acc) | none => .fail := by
  unfold guardT wantedV
  split
  · rfl
  · rename_i j want
    split
    · rename_i ht
      simp only [ht]
      rfl
    · rename_i t ht
      simp only [ht]
      have key : ∀ u : V, (match (match u with | .bool b => some (b == want) | .tup [] => some false | _ => none : Option Bool) with | some true => A.run call vs f d h acc | some false => K.run call (.tup []) vs f d h (.mk (fun _ => none) h false (.tup []) h :: acc) | none => .fail) =
          guardOf u (fun b => bif b == want then A.run call vs f d h acc else K.run call (.tup []) vs f d h (.mk (fun _ => none) h false (.tup []) h :: acc)) (K.run call (.tup []) vs f d h (.mk (fun _ => none) h false (.tup []) h :: acc)) .fail := by
        intro u
        cases u <;> first
          | rfl
          | (rename_i b; cases b <;> cases want <;> rfl)
          | (rename_i l; cases l <;> rfl)
      show _ = (match (match (resolve ns t).run vs f with | .bool b => some (b == want) | .tup [] => some false | _ => none : Option Bool) with | some true => A.run call vs f d h acc | some false => K.run call (.tup []) vs f d h (.mk (fun _ => none) h false (.tup []) h :: acc) | none => .fail)
      rw [key]
      cases want
      · simp only [cond_false, clrec_eq, tcrec_eq, ktrec_eq]
        show guardOf ((resolve ns t).run vs f) _ _ _ = _
        generalize (resolve ns t).run vs f = u
        cases u <;> first
          | rfl
          | (rename_i b; cases b <;> rfl)
      · simp only [cond_true, clrec_eq, tcrec_eq, ktrec_eq]
        show guardOf ((resolve ns t).run vs f) _ _ _ = _
        generalize (resolve ns t).run vs f = u
        cases u <;> first
          | rfl
          | (rename_i b; cases b <;> rfl)
def trC (P : Program) (mask : Nat) (all : List Oper) (chk : List TrS → Bool) (ops : List Oper) : List Tmp → TC :=
  List.rec (motive := fun _ => List Tmp → TC) (fun _ => .mk fun _ _ f d h acc => Bool.rec (motive := fun _ => RC) .fail (.ok .norm f d h) (chk acc))
    (fun o _ ih ns => guardT all ns o.guard (stepT (opC P ns o.op) (dstT mask o.dst ns ih)) (dstT mask o.dst ns ih)) ops

theorem Inv.putT {mask : Nat} {e : Env} {f0 : Fr} {ns : List Tmp} {vs : List V} {f : Fr} (i : Inv mask e f0 ns vs f) (dst : Option Tmp) (v : V) (ih : List Tmp → TC) (call : CallFn) :
    ∃ ns' vs' f', Inv mask (putE dst v e) f0 ns' vs' f' ∧ ∀ d h acc, (dstT mask dst ns ih).run call v vs f d h acc = (ih ns').run call vs' f' d h acc := by
  unfold dstT
  cases dst with
  | none => exact ⟨ns, vs, f, i, fun _ _ _ => by simp only [tcrec_eq]; rfl⟩
  | some n =>
    cases hk : keptS mask n
    · exact ⟨n :: ns, v :: vs, f, i.out1 hk v, fun d h acc => by simp only [hk, cond_false, tcrec_eq]; rfl⟩
    · exact ⟨ns, vs, (setC n).run v f, i.kept1 hk v, fun d h acc => by simp only [hk, cond_true, tcrec_eq, fsrec_eq]; rfl⟩

/-- What is kept of an operation, against the evaluator's. -/
def EntOk (P : Program) (f0 : Fr) (o : Oper) (s : TrS) (t : Tr) : Prop :=
  match s with
  | .mk re h w v h' => h = t.h ∧ w = t.want ∧ v = t.v ∧ h' = t.h' ∧ (t.want = true → isRead o.op = true → ∀ hx, re hx = valOp P hx (evO P (look t.env f0)) o.op)
inductive Ents (P : Program) (f0 : Fr) : List Oper → List TrS → List Tr → Prop where
  | nil : Ents P f0 [] [] []
  | cons {o : Oper} {os : List Oper} {s : TrS} {ss : List TrS} {t : Tr} {ts : List Tr} (h : EntOk P f0 o s t) (hs : Ents P f0 os ss ts) : Ents P f0 (o :: os) (s :: ss) (t :: ts)
theorem Ents.get {f0 : Fr} {os : List Oper} {ss : List TrS} {ts : List Tr} (h : Ents P f0 os ss ts) : ss.length = os.length ∧ ts.length = os.length ∧ ∀ k, k < os.length → ∃ o s t, os[k]? = some o ∧ ss[k]? = some s ∧ ts[k]? = some t ∧ EntOk P f0 o s t := by
  induction h with
  | nil => exact ⟨rfl, rfl, fun k hk => by cases hk⟩
  | cons h _ ih =>
    refine ⟨by simp [ih.1], by simp [ih.2.1], fun k hk => ?_⟩
    cases k with
    | zero => exact ⟨_, _, _, rfl, rfl, rfl, h⟩
    | succ k => simpa using ih.2.2 k (by simpa using hk)

theorem isRead_noeff {op : Op} (h : isRead op = true) : isEff op = false := by
  unfold isRead at h
  split at h <;> first | rfl | cases h

theorem trC_run (mask : Nat) (call : CallFn) (f0 : Fr) (all : List Oper) (chk : List TrS → Bool) : ∀ (ops : List Oper) (e : Env) (ns : List Tmp) (vs : List V) (f : Fr) (d : Ds) (h : H) (acc : List TrS), Inv mask e f0 ns vs f →
    match evTr P call f0 all ops e d h with
    | none => (trC P mask all chk ops ns).run call vs f d h acc = .fail
    | some tr => ∃ ents, Ents P f0 ops ents tr ∧ (trC P mask all chk ops ns).run call vs f d h acc = (bif chk (ents.reverse ++ acc) then afterOps mask f0 (lastTr ops tr e d h) else .fail) := by
  intro ops
  induction ops with
  | nil =>
    intro e ns vs f d h acc i
    refine ⟨[], .nil, ?_⟩
    show Bool.rec (motive := fun _ => RC) .fail (.ok .norm f d h) (chk acc) = (bif chk acc then RC.ok .norm (flush mask e f0) d h else .fail)
    rw [i.fl]
    cases chk acc <;> rfl
  | cons o ops ih =>
    intro e ns vs f d h acc i
    have hd : trC P mask all chk (o :: ops) ns = guardT all ns o.guard (stepT (opC P ns o.op) (dstT mask o.dst ns (trC P mask all chk ops))) (dstT mask o.dst ns (trC P mask all chk ops)) := rfl
    rw [hd, guardT_run, i.tmS]
    simp only [evTr]
    cases wantedV all (look e f0) o.guard with
    | none => rfl
    | some b =>
      cases b
      · simp only
        obtain ⟨ns', vs', f', i', h2⟩ := i.putT o.dst (.tup []) (trC P mask all chk ops) call
        have := ih _ _ _ _ d h (.mk (fun _ => none) h false (.tup []) h :: acc) i'
        cases hq : evTr P call f0 all ops (putE o.dst (.tup []) e) d h with
        | none =>
          rw [hq] at this
          simp only [Option.map_none]
          rw [h2]
          exact this
        | some tr =>
          rw [hq] at this
          obtain ⟨ents, he, hr⟩ := this
          simp only [Option.map_some]
          refine ⟨.mk (fun _ => none) h false (.tup []) h :: ents, .cons ⟨rfl, rfl, rfl, rfl, fun hw => by cases hw⟩ he, ?_⟩
          rw [h2, hr]
          have e1 : (TrS.mk (fun _ => none) h false (.tup []) h :: ents).reverse ++ acc = ents.reverse ++ (TrS.mk (fun _ => none) h false (.tup []) h :: acc) := by simp
          rw [e1]
          have e2 : lastTr (o :: ops) (⟨e, d, h, false, .tup [], d, h⟩ :: tr) e d h = lastTr ops tr (putE o.dst (.tup []) e) d h := by
            rw [lastTr_cons (by rw [he.get.2.1])]
          rw [e2]
      · simp only
        obtain ⟨re, hre, hst⟩ := stepT_run (opC P ns o.op) (dstT mask o.dst ns (trC P mask all chk ops)) call vs f d h acc
        rw [hst, opC_sem, i.tmS]
        cases hone : oneOp P call o.op (look e f0) d h with
        | none => rfl
        | some p =>
          obtain ⟨v, d', h'⟩ := p
          simp only
          obtain ⟨ns', vs', f', i', h2⟩ := i.putT o.dst v (trC P mask all chk ops) call
          have := ih _ _ _ _ d' h' (.mk re h true v h' :: acc) i'
          cases hq : evTr P call f0 all ops (putE o.dst v e) d' h' with
          | none =>
            rw [hq] at this
            simp only [Option.map_none]
            rw [h2]
            exact this
          | some tr =>
            rw [hq] at this
            obtain ⟨ents, he, hr⟩ := this
            simp only [Option.map_some]
            refine ⟨.mk re h true v h' :: ents, .cons ⟨rfl, rfl, rfl, rfl, fun _ hrd hx => ?_⟩ he, ?_⟩
            · rw [hre, opC_sem, i.tmS, oneOp_noeff (isRead_noeff hrd), valOpP_read hrd]
              cases valOp P hx (evO P (look e f0)) o.op <;> rfl
            · rw [h2, hr]
              have e1 : (TrS.mk re h true v h' :: ents).reverse ++ acc = ents.reverse ++ (TrS.mk re h true v h' :: acc) := by simp
              rw [e1]
              have e2 : lastTr (o :: ops) (⟨e, d, h, true, v, d', h'⟩ :: tr) e d h = lastTr ops tr (putE o.dst v e) d' h' := by
                rw [lastTr_cons (by rw [he.get.2.1])]
              rw [e2]

def nthT (n : Nat) (l : List TrS) : Option TrS := Nat.rec (motive := fun _ => List TrS → Option TrS) (fun l => List.rec (motive := fun _ => Option TrS) none (fun v _ _ => some v) l) (fun _ ih l => List.rec (motive := fun _ => Option TrS) none (fun _ l _ => ih l) l) n l
theorem nthT_eq (n : Nat) : ∀ l, nthT n l = l[n]? := by
  induction n with
  | zero => intro l; cases l <;> rfl
  | succ n ih => intro l; cases l with | nil => rfl | cons v l => rw [List.getElem?_cons_succ, ← ih]; rfl
def askS (a b : Nat) (acc : List TrS) : Bool :=
  Option.rec (motive := fun _ => Bool) false (fun si => Option.rec (motive := fun _ => Bool) false (fun sx =>
    TrS.rec (motive := fun _ => Bool) (fun re _ w v _ => TrS.rec (motive := fun _ => Bool) (fun _ h _ _ h' => Bool.rec (motive := fun _ => Bool) true (andS (eqO (re h) v) (eqO (re h') v)) w) sx) si) (nthT b acc)) (nthT a acc)
def chkS (n : Nat) (ps : List (Nat × Nat)) (acc : List TrS) : Bool :=
  List.rec (motive := fun _ => Bool) true (fun p _ ih => Bool.rec (motive := fun _ => Bool) false ih (askS (Nat.sub (Nat.sub n 1) p.1) (Nat.sub (Nat.sub n 1) p.2) acc)) ps
def psOk (ops : List Oper) : List (Nat × Nat) → Bool
  | [] => true
  | p :: ps => (Nat.blt p.1 ops.length && Nat.blt p.2 ops.length && (match ops[p.1]? with | some o => isRead o.op | none => false)) && psOk ops ps
theorem askS_eq {f0 : Fr} {ops : List Oper} {ents : List TrS} {tr : List Tr} (he : Ents P f0 ops ents tr) {p : Nat × Nat} (h1 : p.1 < ops.length) (h2 : p.2 < ops.length) (h3 : (match ops[p.1]? with | some o => isRead o.op | none => false) = true) :
    askS (Nat.sub (Nat.sub ops.length 1) p.1) (Nat.sub (Nat.sub ops.length 1) p.2) ents.reverse = askPair P f0 ops tr p := by
  obtain ⟨l1, l2, hg⟩ := he.get
  obtain ⟨o, si, ti, ho, hsi, hti, hi⟩ := hg p.1 h1
  obtain ⟨q, sx, tx, hq, hsx, htx, hx⟩ := hg p.2 h2
  have r1 : ents.reverse[Nat.sub (Nat.sub ops.length 1) p.1]? = some si := by
    rw [List.getElem?_reverse (by show ops.length - 1 - p.1 < _; omega), ← hsi]
    congr 1
    show ents.length - 1 - (ops.length - 1 - p.1) = p.1
    omega
  have r2 : ents.reverse[Nat.sub (Nat.sub ops.length 1) p.2]? = some sx := by
    rw [List.getElem?_reverse (by show ops.length - 1 - p.2 < _; omega), ← hsx]
    congr 1
    show ents.length - 1 - (ops.length - 1 - p.2) = p.2
    omega
  unfold askS askPair
  rw [nthT_eq, nthT_eq, r1, r2, ho, hti, htx]
  rw [ho] at h3
  simp only at h3
  cases si with | mk re hh w v hh' =>
  cases sx with | mk re2 hx1 w2 v2 hx2 =>
  obtain ⟨_, rfl, rfl, _, hre⟩ := hi
  obtain ⟨rfl, _, _, rfl, _⟩ := hx
  simp only
  cases hw : ti.want
  · rfl
  · simp only [cond_true]
    rw [andS_eq, eqO_eq, eqO_eq, hre hw h3, hre hw h3]
    rfl
theorem chkS_eq {f0 : Fr} {ops : List Oper} {ents : List TrS} {tr : List Tr} (he : Ents P f0 ops ents tr) : ∀ {ps : List (Nat × Nat)}, psOk ops ps = true → chkS ops.length ps ents.reverse = askPairs P f0 ops tr ps
  | [], _ => rfl
  | p :: ps, h => by
    simp only [psOk, Bool.and_eq_true, Nat.blt_eq] at h
    obtain ⟨⟨⟨h1, h2⟩, h3⟩, h4⟩ := h
    show Bool.rec (motive := fun _ => Bool) false (chkS ops.length ps ents.reverse) (askS _ _ _) = (bif askPair P f0 ops tr p then askPairs P f0 ops tr ps else false)
    rw [askS_eq he h1 h2 h3, chkS_eq he h4]
    cases askPair P f0 ops tr p <;> rfl
theorem evDraw_trC (mask : Nat) (call : CallFn) (f : Fr) (ops : List Oper) (ps : List (Nat × Nat)) (d : Ds) (h : H) (hp : psOk ops ps = true) :
    (trC P mask ops (chkS ops.length ps) ops []).run call [] f d h [] = afterOps mask f (evDraw P call f ps ops d h) := by
  have := trC_run (P := P) mask call f ops (chkS ops.length ps) ops [] [] [] f d h [] ⟨rfl, fun _ => rfl, rfl, fun _ h => by cases h⟩
  unfold evDraw
  cases hq : evTr P call f ops ops [] d h with
  | none => rw [hq] at this; simpa [afterOps] using this
  | some tr =>
    rw [hq] at this
    obtain ⟨ents, he, hr⟩ := this
    rw [hr, List.append_nil, chkS_eq he hp]
    simp only
    cases askPairs P f ops tr ps <;> rfl

/-! Code. -/
inductive Clo where
  | mk (g : CallFn → Fr → Ds → H → RC)
def Clo.run (c : Clo) (call : CallFn) (f : Fr) (d : Ds) (h : H) : RC := Clo.rec (motive := fun _ => RC) (fun g => g call f d h) c
def Clo.put {β : Type} (F : (CallFn → Fr → Ds → H → RC) → β) (c : Clo) : β := Clo.rec (motive := fun _ => β) F c
theorem clorec_eq {β : Type} (F : (CallFn → Fr → Ds → H → RC) → β) (c : Clo) : Clo.put F c = F c.run := by cases c; rfl
def seqReg (P : Program) (mask : Nat) (ops : List Oper) : Clo := RegC.put (fun g => .mk fun call f d h => g call [] f d h) (regC P mask ops ops [])
def drawC (P : Program) (mask : Nat) (ops : List Oper) (ps : List (Nat × Nat)) : Clo :=
  match ps with
  | [] => seqReg P mask ops
  | p :: ps => bif psOk ops (p :: ps) then TC.put (fun g => .mk fun call f d h => g call [] f d h []) (trC P mask ops (chkS ops.length (p :: ps)) ops [])
    else .mk fun call f d h => afterOps mask f (evDraw P call f (p :: ps) ops d h)
/-- What is known of a region by a table: that it may be gone through as it stands, and its pairs. -/
def regionC (P : Program) (mask : Nat) (tb : Option (List (Nat × Nat))) (ops : List Oper) (draw : Bool) : Clo :=
  bif draw then (Option.rec (motive := fun _ => Clo) (Option.rec (motive := fun _ => Clo) (.mk fun _ _ _ _ => .fail) (fun L => drawC P mask L (pairs L)) (drawList ops)) (fun ps => drawC P mask ops ps) tb) else seqReg P mask ops
def eqPs : List (Nat × Nat) → List (Nat × Nat) → Bool
  | [], [] => true
  | (a, b) :: l, (c, d) :: m => Nat.beq a c && Nat.beq b d && eqPs l m
  | _, _ => false
theorem eqPs_eq : ∀ {l m : List (Nat × Nat)}, eqPs l m = true → l = m
  | [], [], _ => rfl
  | (a, b) :: l, (c, d) :: m, h => by
    simp only [eqPs, Bool.and_eq_true] at h
    rw [Nat.eq_of_beq_eq_true h.1.1, Nat.eq_of_beq_eq_true h.1.2, eqPs_eq h.2]
  | [], _ :: _, h => by simp [eqPs] at h
  | _ :: _, [], h => by simp [eqPs] at h
def tbOk (tb : Option (List (Nat × Nat))) (ops : List Oper) : Bool := match tb with | none => true | some ps => drawOk ops && eqPs (pairs ops) ps
theorem seqReg_run (mask : Nat) (ops : List Oper) (call : CallFn) (f : Fr) (d : Ds) (h : H) : (seqReg P mask ops).run call f d h = afterOps mask f (evOps P call f ops ops [] d h) := by
  unfold seqReg
  rw [regrec_eq]
  exact regC_run mask call f ops ops [] [] [] f d h ⟨rfl, fun _ => rfl, rfl, fun _ h => by cases h⟩
theorem drawC_run (mask : Nat) (ops : List Oper) (ps : List (Nat × Nat)) (call : CallFn) (f : Fr) (d : Ds) (h : H) : (drawC P mask ops ps).run call f d h = afterOps mask f (evDraw P call f ps ops d h) := by
  unfold drawC
  cases ps with
  | nil => rw [evDraw_nil]; exact seqReg_run mask ops call f d h
  | cons p ps =>
    simp only
    cases hp : psOk ops (p :: ps)
    · rfl
    · simp only [cond_true, tcrec_eq]
      exact evDraw_trC mask call f ops (p :: ps) d h hp
theorem regionC_run (mask : Nat) (tb : Option (List (Nat × Nat))) (ops : List Oper) (draw : Bool) (hb : (bif draw then tbOk tb ops else true) = true) (call : CallFn) (f : Fr) (d : Ds) (h : H) :
    (regionC P mask tb ops draw).run call f d h = (bif draw then (match drawList ops with | some L => afterOps mask f (evDraw P call f (pairs L) L d h) | none => .fail) else afterOps mask f (evOps P call f ops ops [] d h)) := by
  unfold regionC
  cases draw
  · exact seqReg_run mask ops call f d h
  · simp only [cond_true]
    cases tb with
    | none =>
      cases drawList ops with
      | none => rfl
      | some L => exact drawC_run mask L _ call f d h
    | some ps =>
      simp only [cond_true, tbOk, Bool.and_eq_true] at hb
      have e : drawList ops = some ops := by
        unfold drawList
        rw [hb.1]
        rfl
      rw [e]
      simp only
      rw [eqPs_eq hb.2]
      exact drawC_run mask ops ps call f d h

def loopS (g : CallFn → Fr → Ds → H → RC) (n : Nat) : CallFn → Fr → Ds → H → RC :=
  Nat.rec (motive := fun _ => CallFn → Fr → Ds → H → RC) (fun _ _ _ _ => .fail)
    (fun _ ih call f d h => RC.rec (motive := fun _ => RC) .fail (fun x f d h => X.rec (motive := fun _ => RC) (ih call f d h) (fun id => .ok (.exit id) f d h) (.ok .ret f d h) x) (g call f d h)) n
theorem loopS_run {call : CallFn} {body : Fr → Ds → H → RC} {c : CallFn → Fr → Ds → H → RC} (hc : ∀ f d h, c call f d h = body f d h) (n : Nat) : ∀ f d h, loopS c n call f d h = loopN body n f d h := by
  induction n with
  | zero => intro f d h; rfl
  | succ n ih =>
    intro f d h
    show RC.rec (motive := fun _ => RC) .fail (fun x f d h => X.rec (motive := fun _ => RC) (loopS c n call f d h) (fun id => .ok (.exit id) f d h) (.ok .ret f d h) x) (c call f d h) = _
    rw [hc]
    simp only [loopN]
    cases body f d h with
    | fail => rfl
    | ok x f d h => cases x <;> first | exact ih f d h | rfl

def codeTb (tb : Nat → Option (List (Nat × Nat))) : Code → Bool
  | .region id ops draw => bif draw then tbOk (tb id) ops.toList else true
  | .seq a b => codeTb tb a && codeTb tb b
  | .cond _ a b => codeTb tb a && codeTb tb b
  | .block _ c => codeTb tb c
  | .loop c => codeTb tb c
  | .scope c => codeTb tb c
  | _ => true
def comp (P : Program) (mask : Nat) (tb : Nat → Option (List (Nat × Nat))) (fuel : Nat) (c : Code) : Clo :=
  Code.rec (motive := fun _ => Clo)
    (skip := .mk fun _ f d h => .ok .norm f d h)
    (region := fun id ops draw => regionC P mask (tb id) ops.toList draw)
    (seq := fun _ _ a b => Clo.put (fun ga => Clo.put (fun gb => .mk fun call f d h => RC.rec (motive := fun _ => RC) .fail (fun x f d h => X.rec (motive := fun _ => RC) (gb call f d h) (fun id => .ok (.exit id) f d h) (.ok .ret f d h) x) (ga call f d h)) b) a)
    (cond := fun c _ _ a b => Clo.put (fun ga => Clo.put (fun gb => Cl.put (fun gc => .mk fun call f d h => boolR (gc [] f) (fun t => (Bool.rec (motive := fun _ => RC) (gb call f d h) (ga call f d h) (t))) .fail) (opdC P [] c)) b) a)
    (block := fun id _ c => Clo.put (fun gc => .mk fun call f d h => RC.rec (motive := fun _ => RC) .fail (fun x f d h => X.rec (motive := fun _ => RC) (.ok .norm f d h) (fun id' => (Bool.rec (motive := fun _ => RC) (.ok (.exit id') f d h) (.ok .norm f d h) (Nat.beq id' id))) (.ok .ret f d h) x) (gc call f d h)) c)
    (loop := fun _ c => Clo.put (fun gc => .mk fun call f d h => loopS gc fuel call f d h) c)
    (rangeFunc := fun g ps assign body _ _ => .mk fun call f d h => rangeV P call mask g ps assign body f d h)
    (exit := fun id => .mk fun _ f d h => .ok (.exit id) f d h)
    (goto := fun _ => .mk fun _ _ _ _ => .fail)
    (label := fun _ => .mk fun _ f d h => .ok .norm f d h)
    (scope := fun _ c => c)
    (ret := .mk fun _ f d h => .ok .ret f d h)
    (refuse := fun _ => .mk fun _ _ _ _ => .fail) c

theorem comp_run (mask : Nat) (tb : Nat → Option (List (Nat × Nat))) (fuel : Nat) (call : CallFn) : ∀ (c : Code), codeTb tb c = true → ∀ (f : Fr) (d : Ds) (h : H), (comp P mask tb fuel c).run call f d h = den P call mask fuel c f d h := by
  intro c
  induction c with
  | skip => intro _ f d h; rfl
  | label l => intro _ f d h; rfl
  | region id ops draw => intro ht f d h; exact regionC_run mask (tb id) ops.toList draw ht call f d h
  | seq a b iha ihb =>
    intro ht f d h
    simp only [codeTb, Bool.and_eq_true] at ht
    have iha := iha ht.1
    have ihb := ihb ht.2
    have e : comp P mask tb fuel (.seq a b) = Clo.put (fun ga => Clo.put (fun gb => .mk fun call f d h => RC.rec (motive := fun _ => RC) .fail (fun x f d h => X.rec (motive := fun _ => RC) (gb call f d h) (fun id => .ok (.exit id) f d h) (.ok .ret f d h) x) (ga call f d h)) (comp P mask tb fuel b)) (comp P mask tb fuel a) := rfl
    rw [e, clorec_eq, clorec_eq]
    show RC.rec (motive := fun _ => RC) .fail (fun x f d h => X.rec (motive := fun _ => RC) ((comp P mask tb fuel b).run call f d h) (fun id => .ok (.exit id) f d h) (.ok .ret f d h) x) ((comp P mask tb fuel a).run call f d h) = _
    rw [iha]
    simp only [den]
    cases den P call mask fuel a f d h with
    | fail => rfl
    | ok x f d h => cases x <;> first | exact ihb f d h | rfl
  | cond c a b iha ihb =>
    intro ht f d h
    simp only [codeTb, Bool.and_eq_true] at ht
    have iha := iha ht.1
    have ihb := ihb ht.2
    have e : comp P mask tb fuel (.cond c a b) = Clo.put (fun ga => Clo.put (fun gb => Cl.put (fun gc => .mk fun call f d h => boolR (gc [] f) (fun t => (Bool.rec (motive := fun _ => RC) (gb call f d h) (ga call f d h) (t))) .fail) (opdC P [] c)) (comp P mask tb fuel b)) (comp P mask tb fuel a) := rfl
    rw [e, clorec_eq, clorec_eq, clrec_eq]
    show boolR ((opdC P [] c).run [] f) (fun t => Bool.rec (motive := fun _ => RC) ((comp P mask tb fuel b).run call f d h) ((comp P mask tb fuel a).run call f d h) t) .fail = _
    rw [opdC_tm]
    have : tmS [] [] f = fget f := by
      funext t
      show (resolve [] t).run [] f = _
      exact resolve_run (ns := []) f rfl
    rw [this]
    simp only [den]
    cases evO P (fget f) c <;> first
      | rfl
      | (rename_i t; cases t <;> first | exact ihb f d h | exact iha f d h)
  | block id p ih =>
    intro ht f d h
    have ih := ih ht
    have e : comp P mask tb fuel (.block id p) = Clo.put (fun gc => .mk fun call f d h => RC.rec (motive := fun _ => RC) .fail (fun x f d h => X.rec (motive := fun _ => RC) (.ok .norm f d h) (fun id' => (Bool.rec (motive := fun _ => RC) (.ok (.exit id') f d h) (.ok .norm f d h) (Nat.beq id' id))) (.ok .ret f d h) x) (gc call f d h)) (comp P mask tb fuel p) := rfl
    rw [e, clorec_eq]
    show RC.rec (motive := fun _ => RC) .fail (fun x f d h => X.rec (motive := fun _ => RC) (.ok .norm f d h) (fun id' => (Bool.rec (motive := fun _ => RC) (.ok (.exit id') f d h) (.ok .norm f d h) (Nat.beq id' id))) (.ok .ret f d h) x) ((comp P mask tb fuel p).run call f d h) = _
    rw [ih]
    simp only [den]
    cases den P call mask fuel p f d h with
    | fail => rfl
    | ok x f d h =>
      cases x with
      | exit id' =>
        simp only
        cases Nat.beq id' id <;> rfl
      | norm => rfl
      | ret => rfl
  | loop p ih =>
    intro ht f d h
    have ih := ih ht
    have e : comp P mask tb fuel (.loop p) = Clo.put (fun gc => .mk fun call f d h => loopS gc fuel call f d h) (comp P mask tb fuel p) := rfl
    rw [e, clorec_eq]
    exact loopS_run (body := den P call mask fuel p) ih fuel f d h
  | exit id => intro _ f d h; rfl
  | ret => intro _ f d h; rfl
  | rangeFunc _ _ _ _ => intro _ f d h; rfl
  | scope p ih => intro ht f d h; exact ih ht f d h
  | goto _ => intro _ f d h; rfl
  | refuse _ => intro _ f d h; rfl

/-! Functions. -/
inductive RsC where
  | mk (g : Fr → H → Option V)
def RsC.run (c : RsC) (f : Fr) (h : H) : Option V := RsC.rec (motive := fun _ => Option V) (fun g => g f h) c
def resC (P : Program) (rs : List ResultVar) : RsC :=
  match rs with
  | [.tmp t] => .mk fun f _ => some ((slotC t).run [] f)
  | [.tmp t, .tmp u] => .mk fun f _ => some (.tup [(slotC t).run [] f, (slotC u).run [] f])
  | [.tmp t, .tmp u, .tmp w] => .mk fun f _ => some (.tup [(slotC t).run [] f, (slotC u).run [] f, (slotC w).run [] f])
  | [.cell a t] => LC.put (fun gl => Cl.put (fun ga => .mk fun f h => gl h (ga [] f)) (slotC a)) (loadC P t)
  | rs => .mk fun f h => (resV P f h rs).map oneRes
theorem resC_run (rs : List ResultVar) (f : Fr) (h : H) : (resC P rs).run f h = (resV P f h rs).map oneRes := by
  unfold resC
  split
  · simp only [RsC.run, slotC_run]; rfl
  · simp only [RsC.run, slotC_run]; rfl
  · simp only [RsC.run, slotC_run]; rfl
  · rename_i a t
    simp only [lcrec_eq, clrec_eq]
    show (loadC P t).run h ((slotC a).run [] f) = _
    rw [loadC_run, slotC_run]
    simp only [resV, Option.map_some]
    cases loadV P h t (fget f a) <;> rfl
  · rfl
inductive AF where
  | mk (g : List V → Fr → Fr)
def AF.run (c : AF) (vs : List V) (f : Fr) : Fr := AF.rec (motive := fun _ => Fr) (fun g => g vs f) c
def AF.put {β : Type} (F : (List V → Fr → Fr) → β) (c : AF) : β := AF.rec (motive := fun _ => β) F c
theorem afrec_eq {β : Type} (F : (List V → Fr → Fr) → β) (c : AF) : AF.put F c = F c.run := by cases c; rfl
def argF (mask n : Nat) : Nat → AF :=
  Nat.rec (motive := fun _ => Nat → AF) (fun i => .mk fun vs f => args0 mask i vs f)
    (fun _ ih i => AF.put (fun gi => bif kept mask i then Fs.put (fun gs => .mk (fun vs f => List.rec (motive := fun _ => Fr) f (fun v vs' _ => gi vs' (gs v f)) vs)) (setC i)
      else .mk fun vs f => List.rec (motive := fun _ => Fr) f (fun _ vs' _ => gi vs' f) vs) (ih (Nat.succ i))) n
theorem argF_run (mask n : Nat) : ∀ (i : Nat) (vs : List V) (f : Fr), (argF mask n i).run vs f = args0 mask i vs f := by
  induction n with
  | zero => intro i vs f; rfl
  | succ n ih =>
    intro i vs f
    have hd : argF mask (n + 1) i = AF.put (fun gi => bif kept mask i then Fs.put (fun gs => .mk (fun vs f => List.rec (motive := fun _ => Fr) f (fun v vs' _ => gi vs' (gs v f)) vs)) (setC i)
      else .mk fun vs f => List.rec (motive := fun _ => Fr) f (fun _ vs' _ => gi vs' f) vs) (argF mask n (Nat.succ i)) := rfl
    rw [hd]
    simp only [afrec_eq, fsrec_eq]
    cases vs with
    | nil => cases kept mask i <;> rfl
    | cons v vs =>
      show _ = args0 mask (i + 1) vs (bif kept mask i then fset f i v else f)
      cases kept mask i
      · exact ih (i + 1) vs f
      · show (argF mask n (Nat.succ i)).run vs ((setC i).run v f) = _
        rw [setC_run]
        exact ih (i + 1) vs (fset f i v)

inductive FnC where
  | mk (g : CallFn → CallFn → List V → H → Option (V × H))
def FnC.run (c : FnC) (call callD : CallFn) (vs : List V) (h : H) : Option (V × H) := FnC.rec (motive := fun _ => Option (V × H)) (fun g => g call callD vs h) c
def pairO (r : Option V) (h : H) : Option (V × H) := Option.rec (motive := fun _ => Option (V × H)) none (fun v => some (v, h)) r
def RsC.put {β : Type} (F : (Fr → H → Option V) → β) (c : RsC) : β := RsC.rec (motive := fun _ => β) F c
theorem rscrec_eq {β : Type} (F : (Fr → H → Option V) → β) (c : RsC) : RsC.put F c = F c.run := by cases c; rfl
def fnC (P : Program) (mask : Nat) (tb : Nat → Option (List (Nat × Nat))) (fuel : Nat) (fn : Func) (c : Code) : FnC :=
  Clo.put (fun gc => AF.put (fun ga => RsC.put (fun gr =>
  .mk fun call callD vs h => RC.rec (motive := fun _ => Option (V × H)) none (fun x f d h =>
    X.rec (motive := fun _ => Option (V × H))
      (List.rec (motive := fun _ => Option (V × H)) (pairO (gr f h) h) (fun g ds _ => (runDs callD (g :: ds) h).bind fun h => (resV P f h fn.results.toList).map fun l => (oneRes l, h)) d)
      (fun _ => none)
      (List.rec (motive := fun _ => Option (V × H)) (pairO (gr f h) h) (fun g ds _ => (runDs callD (g :: ds) h).bind fun h => (resV P f h fn.results.toList).map fun l => (oneRes l, h)) d) x)
    (gc call (ga vs fr0) [] h)) (resC P fn.results.toList)) (argF mask fn.params.size 0)) (comp P mask tb fuel c)
theorem pairO_eq (f : Fr) (h : H) (rs : List ResultVar) : pairO ((resC P rs).run f h) h = (resV P f h rs).map fun l => (oneRes l, h) := by
  rw [resC_run]
  cases resV P f h rs <;> rfl
theorem fnC_run (mask : Nat) (tb : Nat → Option (List (Nat × Nat))) (fuel : Nat) (fn : Func) (c : Code) (ht : codeTb tb c = true) (call callD : CallFn) (vs : List V) (h : H) : (fnC P mask tb fuel fn c).run call callD vs h = runFn P call callD mask fuel fn c vs h := by
  unfold fnC runFn
  simp only [clorec_eq, afrec_eq, rscrec_eq]
  show RC.rec (motive := fun _ => Option (V × H)) none _ ((comp P mask tb fuel c).run call ((argF mask fn.params.size 0).run vs fr0) [] h) = _
  rw [comp_run mask tb fuel call c ht, argF_run]
  cases den P call mask fuel c (args0 mask 0 vs fr0) [] h with
  | fail => rfl
  | ok x f d h =>
    cases x with
    | exit id => rfl
    | norm => cases d with
      | nil => exact pairO_eq f h fn.results.toList
      | cons g ds => rfl
    | ret => cases d with
      | nil => exact pairO_eq f h fn.results.toList
      | cons g ds => rfl

inductive DnC where
  | mk (g : CallFn → List V → H → Option (V × H))
def DnC.run (c : DnC) (call : CallFn) (vs : List V) (h : H) : Option (V × H) := DnC.rec (motive := fun _ => Option (V × H)) (fun g => g call vs h) c
def dnC (P : Program) (mask : Nat) (tb : Nat → Option (List (Nat × Nat))) (fuel : Nat) (fn : Func) (c : Code) : DnC :=
  Clo.put (fun gc => AF.put (fun ga => RsC.put (fun gr =>
  .mk fun call vs h => RC.rec (motive := fun _ => Option (V × H)) none (fun x f d h =>
    List.rec (motive := fun _ => Option (V × H)) (X.rec (motive := fun _ => Option (V × H)) (pairO (gr f h) h) (fun _ => none) (pairO (gr f h) h) x) (fun _ _ _ => none) d)
    (gc call (ga vs fr0) [] h)) (resC P fn.results.toList)) (argF mask fn.params.size 0)) (comp P mask tb fuel c)
theorem dnC_run (mask : Nat) (tb : Nat → Option (List (Nat × Nat))) (fuel : Nat) (fn : Func) (c : Code) (ht : codeTb tb c = true) (call : CallFn) (vs : List V) (h : H) : (dnC P mask tb fuel fn c).run call vs h = runFnD P call mask fuel fn c vs h := by
  unfold dnC runFnD
  simp only [clorec_eq, afrec_eq, rscrec_eq]
  show RC.rec (motive := fun _ => Option (V × H)) none _ ((comp P mask tb fuel c).run call ((argF mask fn.params.size 0).run vs fr0) [] h) = _
  rw [comp_run mask tb fuel call c ht, argF_run]
  cases den P call mask fuel c (args0 mask 0 vs fr0) [] h with
  | fail => rfl
  | ok x f d h =>
    cases d with
    | cons g ds => rfl
    | nil =>
      cases x with
      | exit id => rfl
      | norm => exact pairO_eq f h fn.results.toList
      | ret => exact pairO_eq f h fn.results.toList

/-- A round, its code in stages. -/
def roundS (P : Program) (call : CallFn) (fuel : Nat) (vs : List V) (h : H) : Option (V × H) :=
  match vs with
  | .ptr id 0 :: args =>
    match h.mem.blk id with
    | .loopb 0 mask f ps assign body =>
      bif Nat.blt id 65536 && Nat.beq args.length ps.length then
        RC.casesOn ((comp P mask (fun _ => none) fuel assign).run call (putPs mask ps args f) [] (h.kill id)) none fun x1 f1 d1 h1 =>
          match x1, d1 with
          | .norm, [] => RC.casesOn ((comp P mask (fun _ => none) fuel body).run call f1 [] h1) none fun x2 _ d2 h2 =>
            match d2 with
            | [] => some (.bool (Nat.beq (stOf x2) 0), h2.setB id (.loopb (stOf x2) mask f ps assign body))
            | _ => none
          | _, _ => none
      else none
    | _ => none
  | _ => none
theorem codeTb_none : ∀ (c : Code), codeTb (fun _ => none) c = true := by
  intro c
  induction c with
  | region id ops draw => cases draw <;> rfl
  | seq a b iha ihb => simp only [codeTb, iha, ihb]; rfl
  | cond c a b iha ihb => simp only [codeTb, iha, ihb]; rfl
  | block id p ih => exact ih
  | loop p ih => exact ih
  | scope p ih => exact ih
  | _ => rfl
theorem roundS_eq (call : CallFn) (fuel : Nat) (vs : List V) (h : H) : roundS P call fuel vs h = roundV P call fuel vs h := by
  have e : ∀ mask c, (comp P mask (fun _ => none) fuel c).run call = den P call mask fuel c := fun mask c => funext fun f => funext fun d => funext fun h => comp_run mask _ fuel call c (codeTb_none c) f d h
  unfold roundS roundV
  simp only [e]
  rfl
def fnAt (P : Program) (ext : CallFn) (isExt : FuncId → Bool) (mask : FuncId → Nat) (tab : FuncId → Nat → Option (List (Nat × Nat))) (fuel : Nat) (g : FuncId) : FnC :=
  bif isExt g then .mk (fun _ _ vs h => ext g vs h) else
  match P.funcs[g]? with
  | some fn => match fn.body with
    | some c => fnC P (mask g) (tab g) fuel fn c
    | none => .mk fun _ _ _ _ => none
  | none => bif Nat.beq g yieldG then .mk (fun call _ vs h => roundS P call fuel vs h) else .mk fun _ _ _ _ => none
def dnAt (P : Program) (mask : FuncId → Nat) (tab : FuncId → Nat → Option (List (Nat × Nat))) (fuel : Nat) (g : FuncId) : DnC :=
  match P.funcs[g]? with
  | some fn => match fn.body with
    | some c => dnC P (mask g) (tab g) fuel fn c
    | none => .mk fun _ _ _ => none
  | none => .mk fun _ _ _ => none
def callDS (P : Program) (mask : FuncId → Nat) (tab : FuncId → Nat → Option (List (Nat × Nat))) (fuel : Nat) (call : CallFn) : CallFn := fun g vs h => (dnAt P mask tab fuel g).run call vs h
def TabOk (P : Program) (tab : FuncId → Nat → Option (List (Nat × Nat))) : Prop := ∀ g fn c, P.funcs[g]? = some fn → fn.body = some c → codeTb (tab g) c = true
theorem callDS_eq (mask : FuncId → Nat) {tab : FuncId → Nat → Option (List (Nat × Nat))} (hT : TabOk P tab) (fuel : Nat) (call : CallFn) : callDS P mask tab fuel call = callDof P mask fuel call := by
  funext g vs h
  unfold callDS dnAt callDof
  cases hf : P.funcs[g]? with
  | none => rfl
  | some fn =>
    simp only
    cases hb : fn.body with
    | none => rfl
    | some c => exact dnC_run _ _ _ _ _ (hT g fn c hf hb) _ _ _
/-- THE EVALUATOR IN STAGES. -/
def callS (P : Program) (ext : CallFn) (isExt : FuncId → Bool) (mask : FuncId → Nat) (tab : FuncId → Nat → Option (List (Nat × Nat))) (fuel : Nat) (n : Nat) : CallFn :=
  Nat.rec (motive := fun _ => CallFn) (fun _ _ _ => none) (fun _ ih g vs h => (fnAt P ext isExt mask tab fuel g).run ih (callDS P mask tab fuel ih) vs h) n
theorem callS_eq (ext : CallFn) (isExt : FuncId → Bool) (mask : FuncId → Nat) {tab : FuncId → Nat → Option (List (Nat × Nat))} (hT : TabOk P tab) (fuel : Nat) (n : Nat) : callS P ext isExt mask tab fuel n = callN P ext isExt mask fuel n := by
  induction n with
  | zero => rfl
  | succ n ih =>
    funext g vs h
    show (fnAt P ext isExt mask tab fuel g).run (callS P ext isExt mask tab fuel n) (callDS P mask tab fuel (callS P ext isExt mask tab fuel n)) vs h = _
    rw [ih, callDS_eq mask hT]
    simp only [callN, fnAt]
    cases isExt g
    · simp only [cond_false]
      cases hf : P.funcs[g]? with
      | none =>
        simp only
        cases Nat.beq g yieldG
        · rfl
        · exact roundS_eq _ _ _ _
      | some fn =>
        simp only
        cases hb : fn.body with
        | none => rfl
        | some c => exact fnC_run _ _ _ _ _ (hT g fn c hf hb) _ _ _ _
    · rfl

end
end Go.Ev
