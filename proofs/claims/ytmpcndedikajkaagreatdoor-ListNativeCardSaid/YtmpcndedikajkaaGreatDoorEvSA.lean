/- The evaluator in stages: slots, values, memory, worked out once for the text. No condition. -/
import Derived.Test.YtmpcndedikajkaaGreatDoorEvAB
namespace Go.Ev
noncomputable section
variable {P : Program}

section accessors
variable {α : Type}
def boolOf (v : V) (k : Bool → α) (e : α) : α :=
  V.rec (motive_1 := fun _ => α) (motive_2 := fun _ => Unit) (fun b => k b) (fun _ _ => e) (fun _ _ => e) e (fun _ _ => e) e (fun _ _ _ _ _ => e) (fun _ _ _ _ _ => e) e (fun _ _ _ => e) e (fun _ => e) e (fun _ _ => e) (fun _ _ => e) (fun _ _ => e) (fun _ _ => e) (fun _ _ => e) (fun _ _ => e) e () (fun _ _ _ _ => ()) v
def intOf (v : V) (k : IntKind → Int → α) (e : α) : α :=
  V.rec (motive_1 := fun _ => α) (motive_2 := fun _ => Unit) (fun _ => e) (fun t n => k t n) (fun _ _ => e) e (fun _ _ => e) e (fun _ _ _ _ _ => e) (fun _ _ _ _ _ => e) e (fun _ _ _ => e) e (fun _ => e) e (fun _ _ => e) (fun _ _ => e) (fun _ _ => e) (fun _ _ => e) (fun _ _ => e) (fun _ _ => e) e () (fun _ _ _ _ => ()) v
def strOf (v : V) (k : Nat → Nat → α) (e : α) : α :=
  V.rec (motive_1 := fun _ => α) (motive_2 := fun _ => Unit) (fun _ => e) (fun _ _ => e) (fun n l => k n l) e (fun _ _ => e) e (fun _ _ _ _ _ => e) (fun _ _ _ _ _ => e) e (fun _ _ _ => e) e (fun _ => e) e (fun _ _ => e) (fun _ _ => e) (fun _ _ => e) (fun _ _ => e) (fun _ _ => e) (fun _ _ => e) e () (fun _ _ _ _ => ()) v
def ptrOf (v : V) (k : Nat → Nat → α) (e : α) : α :=
  V.rec (motive_1 := fun _ => α) (motive_2 := fun _ => Unit) (fun _ => e) (fun _ _ => e) (fun _ _ => e) e (fun i o => k i o) e (fun _ _ _ _ _ => e) (fun _ _ _ _ _ => e) e (fun _ _ _ => e) e (fun _ => e) e (fun _ _ => e) (fun _ _ => e) (fun _ _ => e) (fun _ _ => e) (fun _ _ => e) (fun _ _ => e) e () (fun _ _ _ _ => ()) v
def sliceOf (v : V) (k : Nat → Nat → Nat → Nat → Nat → α) (e : α) : α :=
  V.rec (motive_1 := fun _ => α) (motive_2 := fun _ => Unit) (fun _ => e) (fun _ _ => e) (fun _ _ => e) e (fun _ _ => e) e (fun i o l c z => k i o l c z) (fun _ _ _ _ _ => e) e (fun _ _ _ => e) e (fun _ => e) e (fun _ _ => e) (fun _ _ => e) (fun _ _ => e) (fun _ _ => e) (fun _ _ => e) (fun _ _ => e) e () (fun _ _ _ _ => ()) v
/-- Is a value one of one cell? -/
def oneOf (v : V) (k : α) (e : α) : α :=
  V.rec (motive_1 := fun _ => α) (motive_2 := fun _ => Unit) (fun _ => k) (fun _ _ => k) (fun _ _ => k) k (fun _ _ => k) k (fun _ _ _ _ _ => k) (fun _ _ _ _ _ => k) k (fun _ _ _ => k) k (fun _ => k) k (fun _ _ => k) (fun _ _ => k) (fun _ _ => k) (fun _ _ => k) (fun _ _ => e) (fun _ _ => e) e () (fun _ _ _ _ => ()) v
end accessors

/-! Places of a tuple, chosen by the text. -/
inductive Sl (α : Type) where
  | mk (g : T16 α → α)
def Sl.run {α : Type} (c : Sl α) (t : T16 α) : α := Sl.rec (motive := fun _ => α) (fun g => g t) c
inductive Su (α : Type) where
  | mk (g : α → T16 α → T16 α)
def Su.run {α : Type} (c : Su α) (v : α) (t : T16 α) : T16 α := Su.rec (motive := fun _ => T16 α) (fun g => g v t) c
def selTab {α : Type} : T16 (Sl α) := .mk (.mk fun t => T16.rec (motive := fun _ => α) (fun x0 _ _ _ _ _ _ _ _ _ _ _ _ _ _ _ => x0) t) (.mk fun t => T16.rec (motive := fun _ => α) (fun _ x1 _ _ _ _ _ _ _ _ _ _ _ _ _ _ => x1) t) (.mk fun t => T16.rec (motive := fun _ => α) (fun _ _ x2 _ _ _ _ _ _ _ _ _ _ _ _ _ => x2) t) (.mk fun t => T16.rec (motive := fun _ => α) (fun _ _ _ x3 _ _ _ _ _ _ _ _ _ _ _ _ => x3) t) (.mk fun t => T16.rec (motive := fun _ => α) (fun _ _ _ _ x4 _ _ _ _ _ _ _ _ _ _ _ => x4) t) (.mk fun t => T16.rec (motive := fun _ => α) (fun _ _ _ _ _ x5 _ _ _ _ _ _ _ _ _ _ => x5) t) (.mk fun t => T16.rec (motive := fun _ => α) (fun _ _ _ _ _ _ x6 _ _ _ _ _ _ _ _ _ => x6) t) (.mk fun t => T16.rec (motive := fun _ => α) (fun _ _ _ _ _ _ _ x7 _ _ _ _ _ _ _ _ => x7) t) (.mk fun t => T16.rec (motive := fun _ => α) (fun _ _ _ _ _ _ _ _ x8 _ _ _ _ _ _ _ => x8) t) (.mk fun t => T16.rec (motive := fun _ => α) (fun _ _ _ _ _ _ _ _ _ x9 _ _ _ _ _ _ => x9) t) (.mk fun t => T16.rec (motive := fun _ => α) (fun _ _ _ _ _ _ _ _ _ _ x10 _ _ _ _ _ => x10) t) (.mk fun t => T16.rec (motive := fun _ => α) (fun _ _ _ _ _ _ _ _ _ _ _ x11 _ _ _ _ => x11) t) (.mk fun t => T16.rec (motive := fun _ => α) (fun _ _ _ _ _ _ _ _ _ _ _ _ x12 _ _ _ => x12) t) (.mk fun t => T16.rec (motive := fun _ => α) (fun _ _ _ _ _ _ _ _ _ _ _ _ _ x13 _ _ => x13) t) (.mk fun t => T16.rec (motive := fun _ => α) (fun _ _ _ _ _ _ _ _ _ _ _ _ _ _ x14 _ => x14) t) (.mk fun t => T16.rec (motive := fun _ => α) (fun _ _ _ _ _ _ _ _ _ _ _ _ _ _ _ x15 => x15) t)
def suTab {α : Type} : T16 (Su α) := .mk (.mk fun v t => T16.rec (motive := fun _ => T16 α) (fun _ x1 x2 x3 x4 x5 x6 x7 x8 x9 x10 x11 x12 x13 x14 x15 => T16.mk v x1 x2 x3 x4 x5 x6 x7 x8 x9 x10 x11 x12 x13 x14 x15) t) (.mk fun v t => T16.rec (motive := fun _ => T16 α) (fun x0 _ x2 x3 x4 x5 x6 x7 x8 x9 x10 x11 x12 x13 x14 x15 => T16.mk x0 v x2 x3 x4 x5 x6 x7 x8 x9 x10 x11 x12 x13 x14 x15) t) (.mk fun v t => T16.rec (motive := fun _ => T16 α) (fun x0 x1 _ x3 x4 x5 x6 x7 x8 x9 x10 x11 x12 x13 x14 x15 => T16.mk x0 x1 v x3 x4 x5 x6 x7 x8 x9 x10 x11 x12 x13 x14 x15) t) (.mk fun v t => T16.rec (motive := fun _ => T16 α) (fun x0 x1 x2 _ x4 x5 x6 x7 x8 x9 x10 x11 x12 x13 x14 x15 => T16.mk x0 x1 x2 v x4 x5 x6 x7 x8 x9 x10 x11 x12 x13 x14 x15) t) (.mk fun v t => T16.rec (motive := fun _ => T16 α) (fun x0 x1 x2 x3 _ x5 x6 x7 x8 x9 x10 x11 x12 x13 x14 x15 => T16.mk x0 x1 x2 x3 v x5 x6 x7 x8 x9 x10 x11 x12 x13 x14 x15) t) (.mk fun v t => T16.rec (motive := fun _ => T16 α) (fun x0 x1 x2 x3 x4 _ x6 x7 x8 x9 x10 x11 x12 x13 x14 x15 => T16.mk x0 x1 x2 x3 x4 v x6 x7 x8 x9 x10 x11 x12 x13 x14 x15) t) (.mk fun v t => T16.rec (motive := fun _ => T16 α) (fun x0 x1 x2 x3 x4 x5 _ x7 x8 x9 x10 x11 x12 x13 x14 x15 => T16.mk x0 x1 x2 x3 x4 x5 v x7 x8 x9 x10 x11 x12 x13 x14 x15) t) (.mk fun v t => T16.rec (motive := fun _ => T16 α) (fun x0 x1 x2 x3 x4 x5 x6 _ x8 x9 x10 x11 x12 x13 x14 x15 => T16.mk x0 x1 x2 x3 x4 x5 x6 v x8 x9 x10 x11 x12 x13 x14 x15) t) (.mk fun v t => T16.rec (motive := fun _ => T16 α) (fun x0 x1 x2 x3 x4 x5 x6 x7 _ x9 x10 x11 x12 x13 x14 x15 => T16.mk x0 x1 x2 x3 x4 x5 x6 x7 v x9 x10 x11 x12 x13 x14 x15) t) (.mk fun v t => T16.rec (motive := fun _ => T16 α) (fun x0 x1 x2 x3 x4 x5 x6 x7 x8 _ x10 x11 x12 x13 x14 x15 => T16.mk x0 x1 x2 x3 x4 x5 x6 x7 x8 v x10 x11 x12 x13 x14 x15) t) (.mk fun v t => T16.rec (motive := fun _ => T16 α) (fun x0 x1 x2 x3 x4 x5 x6 x7 x8 x9 _ x11 x12 x13 x14 x15 => T16.mk x0 x1 x2 x3 x4 x5 x6 x7 x8 x9 v x11 x12 x13 x14 x15) t) (.mk fun v t => T16.rec (motive := fun _ => T16 α) (fun x0 x1 x2 x3 x4 x5 x6 x7 x8 x9 x10 _ x12 x13 x14 x15 => T16.mk x0 x1 x2 x3 x4 x5 x6 x7 x8 x9 x10 v x12 x13 x14 x15) t) (.mk fun v t => T16.rec (motive := fun _ => T16 α) (fun x0 x1 x2 x3 x4 x5 x6 x7 x8 x9 x10 x11 _ x13 x14 x15 => T16.mk x0 x1 x2 x3 x4 x5 x6 x7 x8 x9 x10 x11 v x13 x14 x15) t) (.mk fun v t => T16.rec (motive := fun _ => T16 α) (fun x0 x1 x2 x3 x4 x5 x6 x7 x8 x9 x10 x11 x12 _ x14 x15 => T16.mk x0 x1 x2 x3 x4 x5 x6 x7 x8 x9 x10 x11 x12 v x14 x15) t) (.mk fun v t => T16.rec (motive := fun _ => T16 α) (fun x0 x1 x2 x3 x4 x5 x6 x7 x8 x9 x10 x11 x12 x13 _ x15 => T16.mk x0 x1 x2 x3 x4 x5 x6 x7 x8 x9 x10 x11 x12 x13 v x15) t) (.mk fun v t => T16.rec (motive := fun _ => T16 α) (fun x0 x1 x2 x3 x4 x5 x6 x7 x8 x9 x10 x11 x12 x13 x14 _ => T16.mk x0 x1 x2 x3 x4 x5 x6 x7 x8 x9 x10 x11 x12 x13 x14 v) t)
def slOf {α : Type} (d : Nat) : Sl α := selTab.get d
def suOf {α : Type} (d : Nat) : Su α := suTab.get d
theorem slOf_run {α : Type} (d : Nat) (t : T16 α) : (slOf d).run t = t.get d := by
  unfold slOf T16.get
  cases Nat.beq (Nat.land d 8) 0 <;> cases Nat.beq (Nat.land d 4) 0 <;> cases Nat.beq (Nat.land d 2) 0 <;> cases Nat.beq (Nat.land d 1) 0 <;> cases t <;> rfl
theorem suOf_run {α : Type} (d : Nat) (v : α) (t : T16 α) : (suOf d).run v t = t.set d v := by
  unfold suOf T16.get T16.set
  cases Nat.beq (Nat.land d 8) 0 <;> cases Nat.beq (Nat.land d 4) 0 <;> cases Nat.beq (Nat.land d 2) 0 <;> cases Nat.beq (Nat.land d 1) 0 <;> cases t <;> rfl
/-- A place that is not known from the text. -/
def getS {α : Type} (d : Nat) (t : T16 α) : α := T16.rec (motive := fun _ => α) (fun x0 x1 x2 x3 x4 x5 x6 x7 x8 x9 x10 x11 x12 x13 x14 x15 => (Bool.rec (motive := fun _ => α) (Bool.rec (motive := fun _ => α) (Bool.rec (motive := fun _ => α) (Bool.rec (motive := fun _ => α) x15 x14 (Nat.beq (Nat.land d 1) 0)) (Bool.rec (motive := fun _ => α) x13 x12 (Nat.beq (Nat.land d 1) 0)) (Nat.beq (Nat.land d 2) 0)) (Bool.rec (motive := fun _ => α) (Bool.rec (motive := fun _ => α) x11 x10 (Nat.beq (Nat.land d 1) 0)) (Bool.rec (motive := fun _ => α) x9 x8 (Nat.beq (Nat.land d 1) 0)) (Nat.beq (Nat.land d 2) 0)) (Nat.beq (Nat.land d 4) 0)) (Bool.rec (motive := fun _ => α) (Bool.rec (motive := fun _ => α) (Bool.rec (motive := fun _ => α) x7 x6 (Nat.beq (Nat.land d 1) 0)) (Bool.rec (motive := fun _ => α) x5 x4 (Nat.beq (Nat.land d 1) 0)) (Nat.beq (Nat.land d 2) 0)) (Bool.rec (motive := fun _ => α) (Bool.rec (motive := fun _ => α) x3 x2 (Nat.beq (Nat.land d 1) 0)) (Bool.rec (motive := fun _ => α) x1 x0 (Nat.beq (Nat.land d 1) 0)) (Nat.beq (Nat.land d 2) 0)) (Nat.beq (Nat.land d 4) 0)) (Nat.beq (Nat.land d 8) 0))) t
theorem getS_eq {α : Type} (d : Nat) (t : T16 α) : getS d t = t.get d := by
  unfold getS T16.get
  cases t
  cases Nat.beq (Nat.land d 8) 0 <;> cases Nat.beq (Nat.land d 4) 0 <;> cases Nat.beq (Nat.land d 2) 0 <;> cases Nat.beq (Nat.land d 1) 0 <;> rfl
/-! A block's place, worked out once for its label. -/
inductive MSel where
  | mk (g : Mem → Blk)
def MSel.run (c : MSel) (m : Mem) : Blk := MSel.rec (motive := fun _ => Blk) (fun g => g m) c
def selM (i : Nat) : MSel :=
  Sl.rec (motive := fun _ => MSel) (fun g0 => Sl.rec (motive := fun _ => MSel) (fun g1 => Sl.rec (motive := fun _ => MSel) (fun g2 => Sl.rec (motive := fun _ => MSel) (fun g3 => .mk fun m => g0 (g1 (g2 (g3 m))))
    (slOf (α := T16 (T16 (T16 Blk))) (Nat.div i 4096))) (slOf (α := T16 (T16 Blk)) (Nat.mod (Nat.div i 256) 16))) (slOf (α := T16 Blk) (Nat.mod (Nat.div i 16) 16))) (slOf (α := Blk) (Nat.mod i 16))
def blkS (i : Nat) (m : Mem) : Blk := (selM i).run m
theorem blkS_eq (i : Nat) (m : Mem) : blkS i m = m.blk i := by
  unfold blkS selM Mem.blk
  rw [← slOf_run (Nat.div i 4096), ← slOf_run (Nat.mod (Nat.div i 256) 16), ← slOf_run (Nat.mod (Nat.div i 16) 16), ← slOf_run (Nat.mod i 16)]
  generalize slOf (α := T16 (T16 (T16 Blk))) (Nat.div i 4096) = a
  generalize slOf (α := T16 (T16 Blk)) (Nat.mod (Nat.div i 256) 16) = b
  generalize slOf (α := T16 Blk) (Nat.mod (Nat.div i 16) 16) = c
  generalize slOf (α := Blk) (Nat.mod i 16) = d
  cases a; cases b; cases c; cases d
  rfl
def cellS (o : Nat) (c : Cells) : V :=
  Cells.rec (motive := fun _ => V) (fun t => getS o t) (fun t => getS (Nat.mod o 16) (getS (Nat.div o 16) t)) (fun t => getS (Nat.mod o 16) (getS (Nat.mod (Nat.div o 16) 16) (getS (Nat.div o 256) t))) c
theorem cellS_eq (o : Nat) (c : Cells) : cellS o c = c.get o := by cases c <;> simp only [cellS, Cells.get, getS_eq]

/-! Operands. -/
inductive Cl where
  | mk (g : List V → Fr → V)
def Cl.run (c : Cl) (vs : List V) (f : Fr) : V := Cl.rec (motive := fun _ => V) (fun g => g vs f) c
def slotC (t : Nat) : Cl := bif Nat.blt t 256 then .mk (fun _ f => (slOf (Nat.mod t 16)).run ((slOf (Nat.div t 16)).run f)) else .mk fun _ _ => .any
theorem slotC_run (t : Nat) (vs : List V) (f : Fr) : (slotC t).run vs f = fget f t := by
  unfold slotC fget
  cases Nat.blt t 256
  · rfl
  · show (slOf (Nat.mod t 16)).run ((slOf (Nat.div t 16)).run f) = _
    rw [slOf_run, slOf_run]; rfl
inductive Fs where
  | mk (g : V → Fr → Fr)
def Fs.run (c : Fs) (v : V) (f : Fr) : Fr := Fs.rec (motive := fun _ => Fr) (fun g => g v f) c
def setC (t : Nat) : Fs := bif Nat.blt t 256 then .mk (fun v f => (suOf (Nat.div t 16)).run ((suOf (Nat.mod t 16)).run v ((slOf (Nat.div t 16)).run f)) f) else .mk fun _ f => f
theorem setC_run (t : Nat) (v : V) (f : Fr) : (setC t).run v f = fset f t v := by
  unfold setC fset
  cases Nat.blt t 256
  · rfl
  · show (suOf (Nat.div t 16)).run ((suOf (Nat.mod t 16)).run v ((slOf (Nat.div t 16)).run f)) f = _
    rw [suOf_run, suOf_run, slOf_run]; rfl

def memN (t : Tmp) (ns : List Tmp) : Bool := List.rec (motive := fun _ => Bool) false (fun n _ ih => bif Nat.beq n t then true else ih) ns
def resE (t : Tmp) (ns : List Tmp) : Cl :=
  List.rec (motive := fun _ => Cl) (.mk fun _ _ => .any)
    (fun n _ ih => bif Nat.beq n t then .mk (fun vs _ => List.rec (motive := fun _ => V) .any (fun v _ _ => v) vs) else .mk (fun vs f => List.rec (motive := fun _ => V) .any (fun _ vs' _ => ih.run vs' f) vs)) ns
def resolve (ns : List Tmp) (t : Tmp) : Cl := bif memN t ns then resE t ns else slotC t

theorem look_out {t : Tmp} : ∀ (ns : List Tmp) (vs : List V) (f : Fr), memN t ns = false → look (ns.zip vs) f t = fget f t := by
  intro ns
  induction ns with
  | nil => intro vs f _; rfl
  | cons n ns ih =>
    intro vs f h
    have h' : (bif Nat.beq n t then true else memN t ns) = false := h
    cases hb : Nat.beq n t
    · rw [hb] at h'
      cases vs with
      | nil => rfl
      | cons v vs =>
        show (bif Nat.beq n t then v else look (ns.zip vs) f t) = _
        rw [hb]
        exact ih vs f h'
    · rw [hb] at h'; cases h'

theorem resE_run {t : Tmp} : ∀ (ns : List Tmp) (vs : List V) (f : Fr), vs.length = ns.length → memN t ns = true → (resE t ns).run vs f = look (ns.zip vs) f t := by
  intro ns
  induction ns with
  | nil => intro vs f _ h; cases h
  | cons n ns ih =>
    intro vs f hl h
    cases vs with
    | nil => cases hl
    | cons v vs =>
      have h' : (bif Nat.beq n t then true else memN t ns) = true := h
      have hd : resE t (n :: ns) = (bif Nat.beq n t then .mk (fun vs _ => List.rec (motive := fun _ => V) .any (fun v _ _ => v) vs) else .mk (fun vs f => List.rec (motive := fun _ => V) .any (fun _ vs' _ => (resE t ns).run vs' f) vs)) := rfl
      show _ = (bif Nat.beq n t then v else look (ns.zip vs) f t)
      rw [hd]
      cases hb : Nat.beq n t
      · rw [hb] at h'
        exact ih vs f (by simpa using hl) h'
      · rfl

theorem resolve_run {t : Tmp} {ns : List Tmp} {vs : List V} (f : Fr) (hl : vs.length = ns.length) : (resolve ns t).run vs f = look (ns.zip vs) f t := by
  unfold resolve
  cases h : memN t ns
  · simp only [cond_false]; rw [slotC_run, look_out ns vs f h]
  · simp only [cond_true]; exact resE_run ns vs f hl h

def opdC (P : Program) (ns : List Tmp) (o : Operand) : Cl :=
  Operand.rec (motive := fun _ => Cl) (fun t => resolve ns t) (fun v => .mk fun _ _ => constV v) (fun g => bif Nat.blt g P.globals.size then .mk (fun _ _ => .ptr g 0) else .mk fun _ _ => .any) (fun f => .mk fun _ _ => .fn (.func f) [] []) o
theorem opdC_run {T : Tm} {ns : List Tmp} {vs : List V} {f : Fr} (hT : ∀ t, (resolve ns t).run vs f = T t) (o : Operand) : (opdC P ns o).run vs f = evO P T o := by
  cases o with
  | tmp t => exact hT t
  | const v => rfl
  | global g =>
    show Cl.run (bif Nat.blt g P.globals.size then .mk (fun _ _ => .ptr g 0) else .mk fun _ _ => .any) vs f = (bif Nat.blt g P.globals.size then .ptr g 0 else .any)
    cases Nat.blt g P.globals.size <;> rfl
  | func g => rfl

end
end Go.Ev
