/- The evaluator in stages: operations. No condition. -/
import Derived.Test.YtoecccbjhmejiaaGreatDoorEvSB
namespace Go.Ev
noncomputable section
variable {P : Program}

inductive OpC where
  | pure (c : Cl)
  | val (g : H → List V → Fr → Option V)
  | mem (g : CallFn → List V → Fr → H → Option (V × H))
  | any (g : CallFn → List V → Fr → Ds → H → Option (V × Ds × H))
def OpC.sem (c : OpC) (call : CallFn) (vs : List V) (f : Fr) (d : Ds) (h : H) : Option (V × Ds × H) :=
  match c with
  | .pure c => some (c.run vs f, d, h)
  | .val g => (g h vs f).map fun v => (v, d, h)
  | .mem g => (g call vs f h).map fun (v, h') => (v, d, h')
  | .any g => g call vs f d h

/-- The slots, as the stages see them. -/
def tmS (ns : List Tmp) (vs : List V) (f : Fr) : Tm := fun t => (resolve ns t).run vs f
theorem opdC_tm (ns : List Tmp) (vs : List V) (f : Fr) (o : Operand) : (opdC P ns o).run vs f = evO P (tmS ns vs f) o := opdC_run (fun _ => rfl) o

/-- An operand's closure, put in. -/
def un (F : (List V → Fr → V) → OpC) (x : Cl) : OpC := Cl.rec (motive := fun _ => OpC) F x
theorem un_eq (F : (List V → Fr → V) → OpC) (x : Cl) : un F x = F x.run := by
  cases x
  rfl

def Cl.put {β : Type} (F : (List V → Fr → V) → β) (c : Cl) : β := Cl.rec (motive := fun _ => β) F c
theorem clrec_eq {β : Type} (F : (List V → Fr → V) → β) (c : Cl) : Cl.put F c = F c.run := by cases c; rfl
def LC.put {β : Type} (F : (H → V → Option V) → β) (c : LC) : β := LC.rec (motive := fun _ => β) F c
theorem lcrec_eq {β : Type} (F : (H → V → Option V) → β) (c : LC) : LC.put F c = F c.run := by cases c; rfl

/-- Arguments. -/
inductive AC where
  | mk (g : List V → Fr → List V)
def AC.run (c : AC) (vs : List V) (f : Fr) : List V := AC.rec (motive := fun _ => List V) (fun g => g vs f) c
def argsC (P : Program) (ns : List Tmp) (os : List Operand) : AC := List.rec (motive := fun _ => AC) (.mk fun _ _ => []) (fun o _ ih => Cl.rec (motive := fun _ => AC) (fun g => AC.rec (motive := fun _ => AC) (fun gs => .mk fun vs f => g vs f :: gs vs f) ih) (opdC P ns o)) os
theorem argsC_run (ns : List Tmp) (vs : List V) (f : Fr) (os : List Operand) : (argsC P ns os).run vs f = os.map (evO P (tmS ns vs f)) := by
  induction os with
  | nil => rfl
  | cons o os ih =>
    rw [List.map_cons, ← ih, ← opdC_tm]
    show AC.run (Cl.rec (motive := fun _ => AC) (fun g => AC.rec (motive := fun _ => AC) (fun gs => .mk fun vs f => g vs f :: gs vs f) (argsC P ns os)) (opdC P ns o)) vs f = _
    cases opdC P ns o
    cases argsC P ns os
    rfl

def indexAddrC (P : Program) (t : TypeId) (x i : Cl) : OpC :=
  match P.underlying t with
  | some (.slice e) => match P.info? e with
    | some inf => un (fun gx => un (fun gi => .val fun _ vs f => sliceOf (gx vs f) (fun id o len _ _ => natOf (gi vs f) (fun n => (Bool.rec (motive := fun _ => Option V) none (some (.ptr id (Nat.add o (Nat.mul n inf.size)))) (Nat.ble (Nat.succ n) len))) none) none) i) x
    | none => .val fun _ vs f => indexAddrV P t (x.run vs f) (i.run vs f)
  | _ => .val fun _ vs f => indexAddrV P t (x.run vs f) (i.run vs f)
theorem natOf_eq (v : V) (k : Nat → Option V) (e : Option V) : natOf v k e = (match natV v with | some n => k n | none => e) := by
  cases v <;> first | rfl | (rename_i t n; cases n <;> rfl)
theorem indexAddrC_sem (t : TypeId) (x i : Cl) (call : CallFn) (vs : List V) (f : Fr) (d : Ds) (h : H) :
    (indexAddrC P t x i).sem call vs f d h = (indexAddrV P t (x.run vs f) (i.run vs f)).map fun v => (v, d, h) := by
  unfold indexAddrC
  split
  · rename_i e he
    split
    · rename_i inf hinf
      simp only [un_eq]
      show Option.map _ (sliceOf (x.run vs f) _ none) = _
      congr 1
      generalize x.run vs f = u
      generalize i.run vs f = j
      unfold indexAddrV
      rw [he]
      cases u <;> first
        | rfl
        | (simp only [sliceOf, natOf_eq]
           cases natV j with
           | none => rfl
           | some n =>
             simp only [hinf]
             show _ = (bif Nat.ble (Nat.succ n) _ then _ else _)
             cases Nat.ble (Nat.succ n) _ <;> rfl)
    · rfl
  · rfl

def indexC (P : Program) (t : TypeId) (x i : Cl) : OpC :=
  match P.underlying t with
  | some .string => un (fun gx => un (fun gi => .val fun _ vs f => strOf (gx vs f) (fun n l => natOf (gi vs f) (fun j => (Bool.rec (motive := fun _ => Option V) none (some (.int .u8 (.ofNat (Nat.mod (Nat.div n (Nat.pow 256 j)) 256)))) (Nat.ble (Nat.succ j) l))) none) none) i) x
  | _ => .val fun _ vs f => indexV P t (x.run vs f) (i.run vs f)
theorem indexC_sem (t : TypeId) (x i : Cl) (call : CallFn) (vs : List V) (f : Fr) (d : Ds) (h : H) :
    (indexC P t x i).sem call vs f d h = (indexV P t (x.run vs f) (i.run vs f)).map fun v => (v, d, h) := by
  unfold indexC
  split
  · rename_i he
    simp only [un_eq]
    show Option.map _ (strOf (x.run vs f) _ none) = _
    congr 1
    generalize x.run vs f = u
    generalize i.run vs f = j
    unfold indexV
    rw [he]
    cases u <;> first
      | rfl
      | (simp only [strOf, natOf_eq]
         cases natV j with
         | none => rfl
         | some n =>
           rename_i l0
           show (Bool.rec (motive := fun _ => Option V) _ _ (Nat.ble (Nat.succ n) l0)) = (bif Nat.ble (Nat.succ n) l0 then _ else _)
           cases Nat.ble (Nat.succ n) l0 <;> rfl)
  · rfl

def sliceC (P : Program) (t : TypeId) (x : Cl) (lo hi : Option Cl) : OpC :=
  match P.underlying t, lo, hi with
  | some .string, some l, none => un (fun gx => un (fun gl => .val fun _ vs f => strOf (gx vs f) (fun n len => natOf (gl vs f) (fun l => (Bool.rec (motive := fun _ => Option V) none (some (.str (Nat.mod (Nat.div n (Nat.pow 256 l)) (Nat.pow 256 (Nat.sub len l))) (Nat.sub len l))) (Nat.ble l len))) none) none) l) x
  | _, _, _ => .val fun _ vs f => sliceV P t (x.run vs f) (lo.map fun c => c.run vs f) (hi.map fun c => c.run vs f)
theorem sliceC_sem (t : TypeId) (x : Cl) (lo hi : Option Cl) (call : CallFn) (vs : List V) (f : Fr) (d : Ds) (h : H) :
    (sliceC P t x lo hi).sem call vs f d h = (sliceV P t (x.run vs f) (lo.map fun c => c.run vs f) (hi.map fun c => c.run vs f)).map fun v => (v, d, h) := by
  unfold sliceC
  split
  · rename_i l he
    simp only [un_eq]
    show Option.map _ (strOf (x.run vs f) _ none) = _
    congr 1
    simp only [Option.map_some, Option.map_none]
    generalize x.run vs f = u
    generalize l.run vs f = j
    unfold sliceV
    rw [he]
    cases u <;> first
      | rfl
      | (simp only [strOf, natOf_eq, hiV, loV, Option.bind_some]
         cases natV j with
         | none => rfl
         | some n =>
           simp only [Option.bind_some]
           cases Nat.ble n _ <;> rfl)
  · rfl

def fieldAddrC (P : Program) (s : TypeId) (x : Cl) (n : Nat) : OpC :=
  match fieldOff P s n with
  | some k => un (fun gx => .val fun _ vs f => ptrOf (gx vs f) (fun id o => some (.ptr id (Nat.add o k))) none) x
  | none => .val fun _ _ _ => none
theorem fieldAddrC_sem (s : TypeId) (x : Cl) (n : Nat) (call : CallFn) (vs : List V) (f : Fr) (d : Ds) (h : H) :
    (fieldAddrC P s x n).sem call vs f d h = (fieldAddrV P s (x.run vs f) n).map fun v => (v, d, h) := by
  unfold fieldAddrC
  split
  · rename_i k hk
    simp only [un_eq]
    show Option.map _ (ptrOf (x.run vs f) _ none) = _
    congr 1
    unfold fieldAddrV
    cases x.run vs f <;> first | rfl | (rw [hk]; rfl)
  · rename_i hk
    show none = Option.map _ _
    have : fieldAddrV P s (x.run vs f) n = none := by
      unfold fieldAddrV
      cases x.run vs f <;> first | rfl | (rw [hk]; rfl)
    rw [this]; rfl

def lenC (P : Program) (t : TypeId) (x : Cl) : OpC :=
  match P.underlying t with
  | some .string => un (fun gx => .val fun _ vs f => strOf (gx vs f) (fun _ l => some (.int .i64 (.ofNat l))) none) x
  | some (.slice _) => un (fun gx => .val fun h vs f => sliceOf (gx vs f) (fun _ _ l _ _ => some (.int .i64 (.ofNat l))) (lenV P h t (gx vs f))) x
  | _ => un (fun gx => .val fun h vs f => lenV P h t (gx vs f)) x
theorem lenC_sem (t : TypeId) (x : Cl) (call : CallFn) (vs : List V) (f : Fr) (d : Ds) (h : H) :
    (lenC P t x).sem call vs f d h = (lenV P h t (x.run vs f)).map fun v => (v, d, h) := by
  unfold lenC
  split
  · rename_i he
    simp only [un_eq]
    show Option.map _ (strOf (x.run vs f) _ none) = _
    congr 1
    unfold lenV
    rw [he]
    cases x.run vs f <;> rfl
  · rename_i e he
    simp only [un_eq]
    show Option.map _ (sliceOf (x.run vs f) _ _) = _
    congr 1
    unfold lenV
    rw [he]
    cases x.run vs f <;> rfl
  · simp only [un_eq]
    rfl

def convC (P : Program) (s t : TypeId) (x : Cl) : OpC :=
  match P.underlying s, P.underlying t with
  | some _, some (.int k) => un (fun gx => .val fun _ vs f => intOf (gx vs f) (fun _ n => some (.int k (convS k n))) none) x
  | _, _ => .val fun h vs f => convA P h s t (x.run vs f)
theorem convC_sem (s t : TypeId) (x : Cl) (call : CallFn) (vs : List V) (f : Fr) (d : Ds) (h : H) :
    (convC P s t x).sem call vs f d h = (convA P h s t (x.run vs f)).map fun v => (v, d, h) := by
  unfold convC
  split
  · rename_i a k h1 h2
    simp only [un_eq, convS_eq]
    show Option.map _ (intOf (x.run vs f) _ _) = _
    congr 1
    unfold convA
    cases x.run vs f <;> first
      | (simp only [convV, h1, h2]; rfl)
      | (simp only [bytesStr, h1, h2]; cases a <;> rfl)
  · rfl

/-- A place of a list. -/
def nthS (n : Nat) (vs : List V) : Option V := Nat.rec (motive := fun _ => List V → Option V) (fun vs => List.rec (motive := fun _ => Option V) none (fun v _ _ => some v) vs) (fun _ ih vs => List.rec (motive := fun _ => Option V) none (fun _ vs _ => ih vs) vs) n vs
theorem nthS_eq (n : Nat) : ∀ vs, nthS n vs = vs[n]? := by
  induction n with
  | zero => intro vs; cases vs <;> rfl
  | succ n ih => intro vs; cases vs with | nil => rfl | cons v vs => rw [List.getElem?_cons_succ, ← ih]; rfl
/-- Is a type an interface's? -/
def isIfaceT (P : Program) (t : TypeId) : Bool := match P.underlying t with | some (.interface _) => true | _ => false
theorem binX_plain {t : TypeId} (hi : isIfaceT P t = false) {h : H} {E : Operand → V} {o : BinOp} {x y : Operand} : binX P h E o t x y = binV P h o t (E x) (E y) := by
  unfold binX
  unfold isIfaceT at hi
  split
  · rename_i ms hu; rw [hu] at hi; simp at hi
  · rfl

/-- Parts of a composite. -/
inductive PC where
  | mk (g : List V → Fr → List (Nat × V))
def PC.run (c : PC) (vs : List V) (f : Fr) : List (Nat × V) := PC.rec (motive := fun _ => List (Nat × V)) (fun g => g vs f) c
def partsC (P : Program) (ns : List Tmp) (os : List (Nat × Operand)) : PC :=
  List.rec (motive := fun _ => PC) (.mk fun _ _ => []) (fun o _ ih => Prod.rec (motive := fun _ => PC) (fun i x => .mk fun vs f => (i, (opdC P ns x).run vs f) :: ih.run vs f) o) os
theorem partsC_run (ns : List Tmp) (vs : List V) (f : Fr) (os : List (Nat × Operand)) : (partsC P ns os).run vs f = os.map fun (i, x) => (i, evO P (tmS ns vs f) x) := by
  induction os with
  | nil => rfl
  | cons o os ih =>
    obtain ⟨i, x⟩ := o
    rw [List.map_cons, ← ih]
    show (i, (opdC P ns x).run vs f) :: (partsC P ns os).run vs f = _
    rw [opdC_tm]

/-- A new block of known size. -/
def newS (n : Nat) (t : TypeId) (c : Cells) (h : H) : Option (V × H) :=
  H.rec (motive := fun _ => Option (V × H)) (fun nx m => Bool.rec (motive := fun _ => Option (V × H)) none (some (.ptr nx 0, ⟨Nat.succ nx, putMS nx (.live n t false true c) m⟩)) (Nat.ble (Nat.succ nx) 65536)) h
theorem newS_eq {vs : List V} (n : Nat) (t : TypeId) (c : Cells) (h : H) (hn : Nat.ble n 4096 = true) (hc : c = cellsOf vs) : newS n t c h = (newV h n t vs).map fun h' => (.ptr h.next 0, h') := by
  subst hc
  obtain ⟨nx, m⟩ := h
  unfold newS newV
  rw [hn]
  simp only [putMS_eq, Bool.and_true]
  show (Bool.rec (motive := fun _ => Option (V × H)) none _ (Nat.ble (Nat.succ nx) 65536)) = (bif Nat.ble (Nat.succ nx) 65536 then _ else _ : Option H).map _
  cases Nat.ble (Nat.succ nx) 65536 <;> rfl
def allocC (P : Program) (t : TypeId) : OpC :=
  match zeroV P t with
  | some zs => bif Nat.ble zs.length 4096 then .mem fun _ _ _ h => newS zs.length t (cellsOf zs) h else .mem fun _ _ _ h => allocV P h t
  | none => .mem fun _ _ _ h => allocV P h t
theorem allocC_sem (t : TypeId) (call : CallFn) (vs : List V) (f : Fr) (d : Ds) (h : H) : (allocC P t).sem call vs f d h = (allocV P h t).map fun (v, h') => (v, d, h') := by
  unfold allocC
  split
  · rename_i zs hz
    cases hn : Nat.ble zs.length 4096
    · rfl
    · simp only [cond_true, OpC.sem]
      rw [newS_eq (vs := zs) _ _ _ _ hn rfl]
      unfold allocV
      rw [hz]
  · rfl
/-- One cell. -/
def cell1 (v : V) : Cells := .c1 (T16.mk v .any .any .any .any .any .any .any .any .any .any .any .any .any .any .any)
theorem cell1_eq (v : V) : cell1 v = cellsOf [v] := rfl
def emptyS (n : Nat) : Cells := Bool.rec (motive := fun _ => Cells) (emptyCells n) (.c1 z1) (Nat.ble n 16)
theorem emptyS_eq (n : Nat) : emptyS n = emptyCells n := by
  unfold emptyS emptyCells
  cases Nat.ble n 16 <;> rfl
def newA (t : TypeId) (l : List V) (h : H) : Option (V × H) := Bool.rec (motive := fun _ => Option (V × H)) none (newS (lenS l) t (fillS l 0 (emptyS (lenS l))) h) (Nat.ble (lenS l) 4096)
theorem newA_eq (t : TypeId) (l : List V) (h : H) : newA t l h = boxV h t (.agg l) := by
  unfold newA
  rw [lenS_eq]
  cases hn : Nat.ble l.length 4096
  · unfold boxV newV
    simp only [cellsV, hn, Bool.and_false, cond_false]
    rfl
  · simp only []
    rw [newS_eq (vs := l) _ _ _ _ hn (by rw [fillS_eq, emptyS_eq]; rfl)]
    rfl
def boxS (h : H) (t : TypeId) (v : V) : Option (V × H) := oneOf v (newS 1 t (cell1 v) h) (aggM v (fun l => newA t l h) (boxV h t v))
theorem boxS_eq (h : H) (t : TypeId) (v : V) : boxS h t v = boxV h t v := by
  have key : cellsV v = some [v] → newS 1 t (cell1 v) h = boxV h t v := by
    intro hc
    rw [newS_eq (vs := [v]) 1 t _ h rfl (cell1_eq v)]
    unfold boxV
    rw [hc]
    rfl
  cases v <;> first | exact key rfl | exact newA_eq _ _ _ | rfl
/-! Composites: each part put at its place. -/
inductive SL where
  | mk (g : V → List V → List V)
def SL.run (c : SL) (v : V) (l : List V) : List V := SL.rec (motive := fun _ => List V) (fun g => g v l) c
def setN (n : Nat) : SL :=
  Nat.rec (motive := fun _ => SL) (.mk fun v l => List.rec (motive := fun _ => List V) [] (fun _ r _ => v :: r) l)
    (fun _ ih => SL.rec (motive := fun _ => SL) (fun g => .mk fun v l => List.rec (motive := fun _ => List V) [] (fun x r _ => x :: g v r) l) ih) n
theorem setN_run (n : Nat) : ∀ (v : V) (l : List V), n < l.length → (setN n).run v l = putAt l n [v] := by
  induction n with
  | zero =>
    intro v l hl
    cases l with
    | nil => cases hl
    | cons x r => rfl
  | succ n ih =>
    intro v l hl
    cases l with
    | nil => cases hl
    | cons x r =>
      have h := ih v r (by simpa using hl)
      have e : setN (n + 1) = SL.rec (motive := fun _ => SL) (fun g => .mk fun v l => List.rec (motive := fun _ => List V) [] (fun x r _ => x :: g v r) l) (setN n) := rfl
      rw [e]
      have e2 : (SL.rec (motive := fun _ => SL) (fun g => .mk fun v l => List.rec (motive := fun _ => List V) [] (fun x r _ => x :: g v r) l) (setN n) : SL).run v (x :: r) = x :: (setN n).run v r := by cases setN n; rfl
      rw [e2, h]
      simp [putAt]
theorem putAt_length {l vs : List V} {o : Nat} (h : o + vs.length ≤ l.length) : (putAt l o vs).length = l.length := by
  unfold putAt
  simp
  omega
theorem oneL_eq (v : V) (a b : Option (List V)) : oneL v a b = bif oneV v then a else b := by cases v <;> rfl
theorem cellsV_one {v : V} (h : oneV v = true) : cellsV v = some [v] := by cases v <;> first | rfl | (cases h; done)
inductive FC where
  | mk (g : List V → Fr → List V → Option (List V))
def FC.run (c : FC) (vs : List V) (f : Fr) (acc : List V) : Option (List V) := FC.rec (motive := fun _ => Option (List V)) (fun g => g vs f acc) c
def FC.put {β : Type} (F : (List V → Fr → List V → Option (List V)) → β) (c : FC) : β := FC.rec (motive := fun _ => β) F c
theorem fcrec_eq {β : Type} (F : (List V → Fr → List V → Option (List V)) → β) (c : FC) : FC.put F c = F c.run := by cases c; rfl
def SL.put {β : Type} (F : (V → List V → List V) → β) (c : SL) : β := SL.rec (motive := fun _ => β) F c
theorem slrec_eq {β : Type} (F : (V → List V → List V) → β) (c : SL) : SL.put F c = F c.run := by cases c; rfl
def fillC (P : Program) (ns : List Tmp) (place : Nat → Option (Nat × Nat)) (len : Nat) : List (Nat × Operand) → FC
  | [] => .mk fun _ _ acc => some acc
  | p :: ps =>
    match place p.1 with
    | some (off, 1) => bif Nat.ble (off + 1) len then
        FC.put (fun gr => Cl.put (fun gc => SL.put (fun gs => .mk fun vs f acc => oneL (gc vs f) (gr vs f (gs (gc vs f) acc)) (fillV place acc ((partsC P ns (p :: ps)).run vs f))) (setN off)) (opdC P ns p.2)) (fillC P ns place len ps)
      else .mk fun vs f acc => fillV place acc ((partsC P ns (p :: ps)).run vs f)
    | _ => .mk fun vs f acc => fillV place acc ((partsC P ns (p :: ps)).run vs f)
theorem fillC_run (ns : List Tmp) (place : Nat → Option (Nat × Nat)) (len : Nat) (vs : List V) (f : Fr) : ∀ (ps : List (Nat × Operand)) (acc : List V), acc.length = len →
    (fillC P ns place len ps).run vs f acc = fillV place acc ((partsC P ns ps).run vs f) := by
  intro ps
  induction ps with
  | nil => intro acc _; rfl
  | cons p ps ih =>
    intro acc hacc
    unfold fillC
    split
    · rename_i off hp
      cases hb : Nat.ble (off + 1) len
      · rfl
      · simp only [cond_true, fcrec_eq, clrec_eq, slrec_eq]
        have hlt : off < acc.length := by
          have := Nat.le_of_ble_eq_true hb
          omega
        show oneL ((opdC P ns p.2).run vs f) ((fillC P ns place len ps).run vs f ((setN off).run ((opdC P ns p.2).run vs f) acc)) (fillV place acc ((partsC P ns (p :: ps)).run vs f)) = _
        rw [oneL_eq]
        cases ho : oneV ((opdC P ns p.2).run vs f)
        · rfl
        · simp only [cond_true]
          have e0 : (partsC P ns (p :: ps)).run vs f = (p.1, (opdC P ns p.2).run vs f) :: (partsC P ns ps).run vs f := by
            obtain ⟨i, x⟩ := p
            rfl
          rw [setN_run _ _ _ hlt, ih _ (by rw [putAt_length (by simp; omega)]; exact hacc), e0]
          simp only [fillV, hp, cellsV_one ho]
          have hb2 : Nat.ble (off + 1) acc.length = true := by rw [hacc]; exact hb
          show _ = (bif Nat.beq 1 1 && Nat.ble (off + 1) acc.length then _ else none)
          rw [hb2]
          rfl
    · rfl
theorem fillV_length {place : Nat → Option (Nat × Nat)} : ∀ {ps : List (Nat × V)} {zs l : List V}, fillV place zs ps = some l → l.length = zs.length
  | [], zs, l, h => by simp only [fillV, Option.some.injEq] at h; rw [h]
  | (i, v) :: ps, zs, l, h => by
    simp only [fillV] at h
    split at h
    · rename_i off size vs _ _
      cases hc : (Nat.beq vs.length size && Nat.ble (off + vs.length) zs.length)
      · rw [hc] at h; cases h
      · rw [hc] at h
        simp only [Bool.and_eq_true] at hc
        have := fillV_length h
        rw [this, putAt_length (Nat.le_of_ble_eq_true hc.2)]
    · cases h
def buildC (P : Program) (ns : List Tmp) (t : TypeId) (ps : List (Nat × Operand)) : OpC :=
  match zeroV P t, P.underlying t with
  | some zs, some (.struct fs) =>
    match structPlaces P fs.toList with
    | some pl => FC.put (fun gf => .val fun _ vs f => Option.rec (motive := fun _ => Option V) none (fun l => some (.agg l)) (gf vs f zs)) (fillC P ns (pl[·]?) zs.length ps)
    | none => .val fun _ vs f => buildV P t ((partsC P ns ps).run vs f)
  | _, _ => .val fun _ vs f => buildV P t ((partsC P ns ps).run vs f)
theorem buildC_sem (ns : List Tmp) (t : TypeId) (ps : List (Nat × Operand)) (call : CallFn) (vs : List V) (f : Fr) (d : Ds) (h : H) : (buildC P ns t ps).sem call vs f d h = (buildV P t ((partsC P ns ps).run vs f)).map fun v => (v, d, h) := by
  unfold buildC
  split
  · rename_i zs fs hz hu
    split
    · rename_i pl hp
      rw [fcrec_eq]
      show Option.map _ (Option.rec (motive := fun _ => Option V) none (fun l => some (.agg l)) ((fillC P ns (pl[·]?) zs.length ps).run vs f zs)) = Option.map _ _
      rw [fillC_run ns _ _ vs f ps zs rfl]
      unfold buildV
      rw [hz, hu]
      simp only [hp]
      cases fillV (fun x => pl[x]?) zs ((partsC P ns ps).run vs f) <;> rfl
    · rfl
  · rfl
/-- A new block, as a slice. -/
def newSl (n : Nat) (e : TypeId) (len esz : Nat) (l : List V) (h : H) : Option (V × H) :=
  H.rec (motive := fun _ => Option (V × H)) (fun nx m => Bool.rec (motive := fun _ => Option (V × H)) none (some (.slice nx 0 len len esz, ⟨Nat.succ nx, putMS nx (.live n e false true (fillS l 0 (emptyS n))) m⟩)) (Nat.ble (Nat.succ nx) 65536)) h
theorem newSl_eq {l : List V} {n : Nat} (hl : l.length = n) (e : TypeId) (len esz : Nat) (h : H) (hn : Nat.ble n 4096 = true) : newSl n e len esz l h = (newV h l.length e l).map fun h' => (.slice h.next 0 len len esz, h') := by
  obtain ⟨nx, m⟩ := h
  unfold newSl newV
  rw [hl, hn]
  simp only [putMS_eq, Bool.and_true, fillS_eq, emptyS_eq]
  show (Bool.rec (motive := fun _ => Option (V × H)) none _ (Nat.ble (Nat.succ nx) 65536)) = (bif Nat.ble (Nat.succ nx) 65536 then _ else _ : Option H).map _
  have e2 : fillFrom l 0 (emptyCells n) = cellsOf l := by rw [← hl]; rfl
  rw [e2]
  cases Nat.ble (Nat.succ nx) 65536
  · rfl
  · show some (_, _) = some (_, _)
    rw [← hl]
    rfl
def buildSliceC (P : Program) (ns : List Tmp) (t : TypeId) (len : Nat) (ps : List (Nat × Operand)) : OpC :=
  match P.underlying t with
  | some (.slice e) =>
    match P.info? e, zeroV P e with
    | some i, some zs =>
      bif Nat.beq zs.length i.size && Nat.ble (Nat.mul len i.size) 4096 then
        FC.put (fun gf => .mem fun _ vs f h => Option.rec (motive := fun _ => Option (V × H)) none (fun l => newSl (Nat.mul len i.size) e len i.size l h) (gf vs f (repL len zs))) (fillC P ns (fun j => some (Nat.mul j i.size, i.size)) (repL len zs).length ps)
      else .mem fun _ _ _ _ => none
    | _, _ => .mem fun _ vs f h => buildSliceV P h t len ((partsC P ns ps).run vs f)
  | _ => .mem fun _ vs f h => buildSliceV P h t len ((partsC P ns ps).run vs f)
theorem buildSliceC_sem (ns : List Tmp) (t : TypeId) (len : Nat) (ps : List (Nat × Operand)) (call : CallFn) (vs : List V) (f : Fr) (d : Ds) (h : H) :
    (buildSliceC P ns t len ps).sem call vs f d h = (buildSliceV P h t len ((partsC P ns ps).run vs f)).map fun (v, h') => (v, d, h') := by
  unfold buildSliceC
  split
  · rename_i e he
    split
    · rename_i i zs hi hz
      cases hc : (Nat.beq zs.length i.size && Nat.ble (Nat.mul len i.size) 4096)
      · unfold buildSliceV
        rw [he]
        simp only [hi, hz, hc]
        rfl
      · simp only [cond_true]
        rw [fcrec_eq]
        show Option.map _ (Option.rec (motive := fun _ => Option (V × H)) none (fun l => newSl (Nat.mul len i.size) e len i.size l h) ((fillC P ns (fun j => some (Nat.mul j i.size, i.size)) (repL len zs).length ps).run vs f (repL len zs))) = _
        rw [fillC_run ns _ _ vs f ps (repL len zs) rfl]
        unfold buildSliceV
        rw [he]
        simp only [hi, hz, hc, cond_true]
        cases hf : fillV (fun j => some (Nat.mul j i.size, i.size)) (repL len zs) ((partsC P ns ps).run vs f) with
        | none => rfl
        | some l =>
          simp only [Option.bind_some]
          simp only [Bool.and_eq_true] at hc
          have hl : l.length = Nat.mul len i.size := by
            rw [fillV_length hf, repL_length, Nat.eq_of_beq_eq_true hc.1]
            rfl
          rw [newSl_eq hl e len i.size h hc.2]
    · rfl
  · rfl

def minS (x y : V) : Option V := intOf x (fun k a => intOf y (fun _ b => some (.int k (Bool.rec (motive := fun _ => Int) a b (ltS b a)))) none) none
theorem minS_eq (x y : V) : minS x y = minV x y := by
  cases x <;> first
    | rfl
    | (cases y <;> first
        | rfl
        | (rename_i k a k' b
           show some (V.int k (Bool.rec (motive := fun _ => Int) a b (ltS b a))) = some (V.int k (bif ltI b a then b else a))
           rw [ltS_eq]
           cases ltI b a <;> rfl))
def opC (P : Program) (ns : List Tmp) (op : Op) : OpC :=
  match op with
  | .move x => .pure (opdC P ns x)
  | .assign x => .pure (opdC P ns x)
  | .pick c a b => un (fun gc => un (fun ga => un (fun gb => .val fun _ vs f => boolOf (gc vs f) (fun t => some (Bool.rec (motive := fun _ => V) (gb vs f) (ga vs f) (t))) none) (opdC P ns b)) (opdC P ns a)) (opdC P ns c)
  | .nilCheck x => un (fun g => .val fun _ vs f => ptrOf (g vs f) (fun i o => some (.ptr i o)) (nilV (g vs f))) (opdC P ns x)
  | .binOp o t x y _ => bif isIfaceT P t then .any fun call vs f d h => oneOp P call op (tmS ns vs f) d h else BC.rec (motive := fun _ => OpC) (fun gb => un (fun gx => un (fun gy => .val fun h vs f => gb h (gx vs f) (gy vs f)) (opdC P ns y)) (opdC P ns x)) (binC P o t)
  | .unOp .not _ x => un (fun g => .val fun _ vs f => boolOf (g vs f) (fun b => some (.bool (notS b))) none) (opdC P ns x)
  | .convert s t x => convC P s t (opdC P ns x)
  | .slice t x lo hi none => sliceC P t (opdC P ns x) (lo.map (opdC P ns)) (hi.map (opdC P ns))
  | .fieldAddr s x n => fieldAddrC P s (opdC P ns x) n
  | .indexAddr t x i => indexAddrC P t (opdC P ns x) (opdC P ns i)
  | .index t x i => indexC P t (opdC P ns x) (opdC P ns i)
  | .extract x i => un (fun g => .val fun _ vs f => tupOf (g vs f) (fun l => nthS i l) none) (opdC P ns x)
  | .load t x => LC.rec (motive := fun _ => OpC) (fun gl => un (fun g => .val fun h vs f => gl h (g vs f)) (opdC P ns x)) (loadC P t)
  | .field t x n => un (fun g => .val fun _ vs f => fieldV P t (g vs f) n) (opdC P ns x)
  | .call { callee := .builtin .len, args, argTypes } =>
    match args.toList, argTypes.toList with
    | [x], t :: _ => lenC P t (opdC P ns x)
    | _, _ => .any fun call vs f d h => oneOp P call op (tmS ns vs f) d h
  | .alloc t => allocC P t
  | .box t x => un (fun g => .mem fun _ vs f h => boxS h t (g vs f)) (opdC P ns x)
  | .build t parts => buildC P ns t parts.toList
  | .buildSlice t len parts => buildSliceC P ns t len parts.toList
  | .makeSlice t x y => .mem fun _ vs f h => makeSliceV P h t ((opdC P ns x).run vs f) ((opdC P ns y).run vs f)
  | .makeInterface t x => un (fun g => .val fun _ vs f => ifaceV P t (g vs f)) (opdC P ns x)
  | .typeAssert x _ t ok => un (fun g => .val fun _ vs f => assertV P t ok (g vs f)) (opdC P ns x)
  | .call { callee := .builtin .min, args, argTypes := _ } =>
    match args.toList with
    | [x, y] => un (fun gx => un (fun gy => .val fun _ vs f => minS (gx vs f) (gy vs f)) (opdC P ns y)) (opdC P ns x)
    | _ => .any fun call vs f d h => oneOp P call op (tmS ns vs f) d h
  | .call { callee := .builtin .append, args, argTypes } =>
    match args.toList, argTypes.toList with
    | [x, y], [t, tx] => .mem fun _ vs f h => appendV P h t tx ((opdC P ns x).run vs f) ((opdC P ns y).run vs f)
    | _, _ => .any fun call vs f d h => oneOp P call op (tmS ns vs f) d h
  | .store t x y => SC.rec (motive := fun _ => OpC) (fun gs => un (fun gx => un (fun gy => .mem fun _ vs f h => gs h (gx vs f) (gy vs f)) (opdC P ns y)) (opdC P ns x)) (storeC P t)
  | .call { callee := .value (.func g), args, .. } =>
    bif hasBody P g then AC.rec (motive := fun _ => OpC) (fun ga => .mem (fun call vs f h => call g (ga vs f) h)) (argsC P ns args.toList) else .any fun _ _ _ _ _ => none
  | op => .any fun call vs f d h => oneOp P call op (tmS ns vs f) d h

theorem opC_sem (ns : List Tmp) (op : Op) (call : CallFn) (vs : List V) (f : Fr) (d : Ds) (h : H) : (opC P ns op).sem call vs f d h = oneOp P call op (tmS ns vs f) d h := by
  have val : ∀ (g : H → List V → Fr → Option V) (op : Op), (∀ h', oneOp P call op (tmS ns vs f) d h' = (plainOp P h' (evO P (tmS ns vs f)) op).map fun (v, h') => (v, d, h')) → isMem op = false → g h vs f = valOp P h (evO P (tmS ns vs f)) op →
      (OpC.val g).sem call vs f d h = oneOp P call op (tmS ns vs f) d h := by
    intro g op h1 h2 h3
    rw [h1, plainOp, h2]
    show (g h vs f).map _ = _
    rw [h3]
    cases valOp P h (evO P (tmS ns vs f)) op <;> rfl
  have val' : ∀ (v : Option V) (op : Op), (∀ h', oneOp P call op (tmS ns vs f) d h' = (plainOp P h' (evO P (tmS ns vs f)) op).map fun (v, h') => (v, d, h')) → isMem op = false → v = valOp P h (evO P (tmS ns vs f)) op →
      (v.map fun v => (v, d, h)) = oneOp P call op (tmS ns vs f) d h := by
    intro v op h1 h2 h3
    rw [h1, plainOp, h2, h3]
    cases valOp P h (evO P (tmS ns vs f)) op <;> rfl
  have B1 : ∀ (t : Bool) (a b : V), (Bool.rec (motive := fun _ => V) b a t) = (bif t then a else b) := fun t a b => by cases t <;> rfl
  unfold opC
  split
  · simp only [OpC.sem, opdC_tm]; rfl
  · simp only [OpC.sem, opdC_tm]; rfl
  · simp only [un_eq]
    refine val _ _ (fun _ => rfl) rfl ?_
    simp only [opdC_tm, valOp, B1]
    cases evO P (tmS ns vs f) _ <;> rfl
  · simp only [un_eq]
    refine val _ _ (fun _ => rfl) rfl ?_
    simp only [opdC_tm, valOp]
    cases evO P (tmS ns vs f) _ <;> rfl
  · rename_i o t x y yt
    cases hi : isIfaceT P t
    · simp only [un_eq, cond_false]
      have hb := binC_run (P := P) o t
      revert hb
      generalize binC P o t = cb
      intro hb
      cases cb with | mk gb =>
      refine val _ _ (fun _ => rfl) rfl ?_
      simp only [opdC_tm, valOp, binX_plain hi]
      exact hb _ _ _
    · rfl
  · simp only [un_eq]
    refine val _ _ (fun _ => rfl) rfl ?_
    simp only [opdC_tm, valOp, notS_eq]
    cases evO P (tmS ns vs f) _ <;> rfl
  · rw [convC_sem, opdC_tm]; exact val' _ _ (fun _ => rfl) rfl rfl
  · rename_i t x lo hi
    rw [sliceC_sem, opdC_tm]
    refine val' _ _ (fun _ => rfl) rfl ?_
    simp only [Option.map_map, valOp]
    congr 1
    · cases lo with
      | none => rfl
      | some o => exact congrArg some (opdC_tm ns vs f o)
    · cases hi with
      | none => rfl
      | some o => exact congrArg some (opdC_tm ns vs f o)
  · rw [fieldAddrC_sem, opdC_tm]; exact val' _ _ (fun _ => rfl) rfl rfl
  · rw [indexAddrC_sem, opdC_tm, opdC_tm]; exact val' _ _ (fun _ => rfl) rfl rfl
  · rw [indexC_sem, opdC_tm, opdC_tm]; exact val' _ _ (fun _ => rfl) rfl rfl
  · simp only [un_eq]
    refine val _ _ (fun _ => rfl) rfl ?_
    simp only [opdC_tm, valOp, nthS_eq]
    cases evO P (tmS ns vs f) _ <;> rfl
  · rename_i t x
    simp only [un_eq]
    have hl := loadC_run (P := P) t
    revert hl
    generalize loadC P t = cl
    intro hl
    cases cl with | mk gl =>
    refine val _ _ (fun _ => rfl) rfl ?_
    simp only [opdC_tm, valOp]
    exact hl _ _
  · simp only [un_eq]
    refine val _ _ (fun _ => rfl) rfl ?_
    simp only [opdC_tm, valOp]
  · rename_i args argTypes
    split
    · rename_i x t ts ha ht
      rw [lenC_sem, opdC_tm]
      refine val' _ _ (fun _ => rfl) rfl ?_
      simp only [valOp, ha, ht, List.map_cons, List.map_nil, builtinV]
    · rfl
  · rw [allocC_sem]
    rfl
  · simp only [un_eq]
    show (boxS h _ _).map _ = _
    rw [boxS_eq, opdC_tm]
    rfl
  · rw [buildC_sem, partsC_run]
    exact val' _ _ (fun _ => rfl) rfl rfl
  · rw [buildSliceC_sem, partsC_run]
    rfl
  · show (makeSliceV P h _ _ _).map _ = _
    rw [opdC_tm, opdC_tm]
    rfl
  · simp only [un_eq]
    refine val _ _ (fun _ => rfl) rfl ?_
    simp only [opdC_tm, valOp]
  · simp only [un_eq]
    refine val _ _ (fun _ => rfl) rfl ?_
    simp only [opdC_tm, valOp]
  · rename_i args ats
    split
    · rename_i x y ha
      simp only [un_eq]
      refine val _ _ (fun _ => rfl) rfl ?_
      simp only [opdC_tm, minS_eq, valOp, ha, List.map_cons, List.map_nil, builtinV]
    · rfl
  · rename_i args argTypes
    split
    · rename_i x y t tx ha ht
      show (appendV P h t tx _ _).map _ = _
      rw [opdC_tm, opdC_tm]
      simp only [oneOp, plainOp, isMem, memOp, ha, ht, cond_true]
    · rfl
  · rename_i t x y
    simp only [un_eq]
    have hs := storeC_run (P := P) t
    revert hs
    generalize storeC P t = cs
    intro hs
    cases cs with | mk gs =>
    show (gs h _ _).map _ = _
    have e : gs h ((opdC P ns x).run vs f) ((opdC P ns y).run vs f) = (storeV P h t ((opdC P ns x).run vs f) ((opdC P ns y).run vs f)).map fun h' => (.any, h') := hs _ _ _
    rw [e, opdC_tm, opdC_tm]
    rfl
  · rename_i g args targs
    cases hb : hasBody P g
    · simp only [cond_false, OpC.sem, oneOp, callOp, calleeV, evO, hb]; rfl
    · have ha := argsC_run (P := P) ns vs f args.toList
      revert ha
      generalize argsC P ns args.toList = ca
      intro ha
      cases ca with | mk ga =>
      have ha' : ga vs f = args.toList.map (evO P (tmS ns vs f)) := ha
      simp only [cond_true, OpC.sem, oneOp, callOp, calleeV, evO, hb, ha', List.nil_append, List.append_nil]
  · rfl

end
end Go.Ev
