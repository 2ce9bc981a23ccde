/- The evaluator in stages: slots, values, memory, worked out once for the text. No condition. -/
import Derived.Test.YtoecccbjhmejiaaGreatDoorEvAB
namespace Go.Ev
noncomputable section
variable {P : Program}

/-! Values, taken apart: each minor is closed, so that it is shared. -/
def boolOf (v : V) (k : Bool → Option V) (e : Option V) : Option V :=
  V.rec (motive_1 := fun _ => (Bool → Option V) → Option V → Option V) (motive_2 := fun _ => Unit) (fun b k _ => k b) (fun _ _ _ e => e) (fun _ _ _ e => e) (fun _ e => e) (fun _ _ _ e => e) (fun _ e => e) (fun _ _ _ _ _ _ e => e) (fun _ _ _ _ _ _ e => e) (fun _ e => e) (fun _ _ _ _ e => e) (fun _ e => e) (fun _ _ e => e) (fun _ e => e) (fun _ _ _ e => e) (fun _ _ _ e => e) (fun _ _ _ e => e) (fun _ _ _ e => e) (fun _ _ _ e => e) (fun _ _ _ e => e) (fun _ e => e) () (fun _ _ _ _ => ()) v k e
def boolR (v : V) (k : Bool → RC) (e : RC) : RC :=
  V.rec (motive_1 := fun _ => (Bool → RC) → RC → RC) (motive_2 := fun _ => Unit) (fun b k _ => k b) (fun _ _ _ e => e) (fun _ _ _ e => e) (fun _ e => e) (fun _ _ _ e => e) (fun _ e => e) (fun _ _ _ _ _ _ e => e) (fun _ _ _ _ _ _ e => e) (fun _ e => e) (fun _ _ _ _ e => e) (fun _ e => e) (fun _ _ e => e) (fun _ e => e) (fun _ _ _ e => e) (fun _ _ _ e => e) (fun _ _ _ e => e) (fun _ _ _ e => e) (fun _ _ _ e => e) (fun _ _ _ e => e) (fun _ e => e) () (fun _ _ _ _ => ()) v k e
def intOf (v : V) (k : IntKind → Int → Option V) (e : Option V) : Option V :=
  V.rec (motive_1 := fun _ => (IntKind → Int → Option V) → Option V → Option V) (motive_2 := fun _ => Unit) (fun _ _ e => e) (fun t n k _ => k t n) (fun _ _ _ e => e) (fun _ e => e) (fun _ _ _ e => e) (fun _ e => e) (fun _ _ _ _ _ _ e => e) (fun _ _ _ _ _ _ e => e) (fun _ e => e) (fun _ _ _ _ e => e) (fun _ e => e) (fun _ _ e => e) (fun _ e => e) (fun _ _ _ e => e) (fun _ _ _ e => e) (fun _ _ _ e => e) (fun _ _ _ e => e) (fun _ _ _ e => e) (fun _ _ _ e => e) (fun _ e => e) () (fun _ _ _ _ => ()) v k e
def strOf (v : V) (k : Nat → Nat → Option V) (e : Option V) : Option V :=
  V.rec (motive_1 := fun _ => (Nat → Nat → Option V) → Option V → Option V) (motive_2 := fun _ => Unit) (fun _ _ e => e) (fun _ _ _ e => e) (fun n l k _ => k n l) (fun _ e => e) (fun _ _ _ e => e) (fun _ e => e) (fun _ _ _ _ _ _ e => e) (fun _ _ _ _ _ _ e => e) (fun _ e => e) (fun _ _ _ _ e => e) (fun _ e => e) (fun _ _ e => e) (fun _ e => e) (fun _ _ _ e => e) (fun _ _ _ e => e) (fun _ _ _ e => e) (fun _ _ _ e => e) (fun _ _ _ e => e) (fun _ _ _ e => e) (fun _ e => e) () (fun _ _ _ _ => ()) v k e
def ptrOf (v : V) (k : Nat → Nat → Option V) (e : Option V) : Option V :=
  V.rec (motive_1 := fun _ => (Nat → Nat → Option V) → Option V → Option V) (motive_2 := fun _ => Unit) (fun _ _ e => e) (fun _ _ _ e => e) (fun _ _ _ e => e) (fun _ e => e) (fun i o k _ => k i o) (fun _ e => e) (fun _ _ _ _ _ _ e => e) (fun _ _ _ _ _ _ e => e) (fun _ e => e) (fun _ _ _ _ e => e) (fun _ e => e) (fun _ _ e => e) (fun _ e => e) (fun _ _ _ e => e) (fun _ _ _ e => e) (fun _ _ _ e => e) (fun _ _ _ e => e) (fun _ _ _ e => e) (fun _ _ _ e => e) (fun _ e => e) () (fun _ _ _ _ => ()) v k e
def ptrM (v : V) (k : Nat → Nat → Option (V × H)) (e : Option (V × H)) : Option (V × H) :=
  V.rec (motive_1 := fun _ => (Nat → Nat → Option (V × H)) → Option (V × H) → Option (V × H)) (motive_2 := fun _ => Unit) (fun _ _ e => e) (fun _ _ _ e => e) (fun _ _ _ e => e) (fun _ e => e) (fun i o k _ => k i o) (fun _ e => e) (fun _ _ _ _ _ _ e => e) (fun _ _ _ _ _ _ e => e) (fun _ e => e) (fun _ _ _ _ e => e) (fun _ e => e) (fun _ _ e => e) (fun _ e => e) (fun _ _ _ e => e) (fun _ _ _ e => e) (fun _ _ _ e => e) (fun _ _ _ e => e) (fun _ _ _ e => e) (fun _ _ _ e => e) (fun _ e => e) () (fun _ _ _ _ => ()) v k e
def sliceOf (v : V) (k : Nat → Nat → Nat → Nat → Nat → Option V) (e : Option V) : Option V :=
  V.rec (motive_1 := fun _ => (Nat → Nat → Nat → Nat → Nat → Option V) → Option V → Option V) (motive_2 := fun _ => Unit) (fun _ _ e => e) (fun _ _ _ e => e) (fun _ _ _ e => e) (fun _ e => e) (fun _ _ _ e => e) (fun _ e => e) (fun i o l c z k _ => k i o l c z) (fun _ _ _ _ _ _ e => e) (fun _ e => e) (fun _ _ _ _ e => e) (fun _ e => e) (fun _ _ e => e) (fun _ e => e) (fun _ _ _ e => e) (fun _ _ _ e => e) (fun _ _ _ e => e) (fun _ _ _ e => e) (fun _ _ _ e => e) (fun _ _ _ e => e) (fun _ e => e) () (fun _ _ _ _ => ()) v k e
def tupOf (v : V) (k : List V → Option V) (e : Option V) : Option V :=
  V.rec (motive_1 := fun _ => (List V → Option V) → Option V → Option V) (motive_2 := fun _ => Unit) (fun _ _ e => e) (fun _ _ _ e => e) (fun _ _ _ e => e) (fun _ e => e) (fun _ _ _ e => e) (fun _ e => e) (fun _ _ _ _ _ _ e => e) (fun _ _ _ _ _ _ e => e) (fun _ e => e) (fun _ _ _ _ e => e) (fun _ e => e) (fun _ _ e => e) (fun _ e => e) (fun _ _ _ e => e) (fun _ _ _ e => e) (fun _ _ _ e => e) (fun _ _ _ e => e) (fun _ _ _ e => e) (fun vs _ k _ => k vs) (fun _ e => e) () (fun _ _ _ _ => ()) v k e
def aggOf (v : V) (k : List V → Option V) (e : Option V) : Option V :=
  V.rec (motive_1 := fun _ => (List V → Option V) → Option V → Option V) (motive_2 := fun _ => Unit) (fun _ _ e => e) (fun _ _ _ e => e) (fun _ _ _ e => e) (fun _ e => e) (fun _ _ _ e => e) (fun _ e => e) (fun _ _ _ _ _ _ e => e) (fun _ _ _ _ _ _ e => e) (fun _ e => e) (fun _ _ _ _ e => e) (fun _ e => e) (fun _ _ e => e) (fun _ e => e) (fun _ _ _ e => e) (fun _ _ _ e => e) (fun _ _ _ e => e) (fun _ _ _ e => e) (fun vs _ k _ => k vs) (fun _ _ _ e => e) (fun _ e => e) () (fun _ _ _ _ => ()) v k e
def aggM (v : V) (k : List V → Option (V × H)) (e : Option (V × H)) : Option (V × H) :=
  V.rec (motive_1 := fun _ => (List V → Option (V × H)) → Option (V × H) → Option (V × H)) (motive_2 := fun _ => Unit) (fun _ _ e => e) (fun _ _ _ e => e) (fun _ _ _ e => e) (fun _ e => e) (fun _ _ _ e => e) (fun _ e => e) (fun _ _ _ _ _ _ e => e) (fun _ _ _ _ _ _ e => e) (fun _ e => e) (fun _ _ _ _ e => e) (fun _ e => e) (fun _ _ e => e) (fun _ e => e) (fun _ _ _ e => e) (fun _ _ _ e => e) (fun _ _ _ e => e) (fun _ _ _ e => e) (fun vs _ k _ => k vs) (fun _ _ _ e => e) (fun _ e => e) () (fun _ _ _ _ => ()) v k e
/-- Is a value one of one cell? -/
def oneOf (v : V) (k : Option (V × H)) (e : Option (V × H)) : Option (V × H) :=
  V.rec (motive_1 := fun _ => Option (V × H) → Option (V × H) → Option (V × H)) (motive_2 := fun _ => Unit) (fun _ k _ => k) (fun _ _ k _ => k) (fun _ _ k _ => k) (fun k _ => k) (fun _ _ k _ => k) (fun k _ => k) (fun _ _ _ _ _ k _ => k) (fun _ _ _ _ _ k _ => k) (fun k _ => k) (fun _ _ _ k _ => k) (fun k _ => k) (fun _ k _ => k) (fun k _ => k) (fun _ _ k _ => k) (fun _ _ k _ => k) (fun _ _ k _ => k) (fun _ _ k _ => k) (fun _ _ _ e => e) (fun _ _ _ e => e) (fun _ e => e) () (fun _ _ _ _ => ()) v k e

def oneL (v : V) (k : Option (List V)) (e : Option (List V)) : Option (List V) :=
  V.rec (motive_1 := fun _ => Option (List V) → Option (List V) → Option (List V)) (motive_2 := fun _ => Unit) (fun _ k _ => k) (fun _ _ k _ => k) (fun _ _ k _ => k) (fun k _ => k) (fun _ _ k _ => k) (fun k _ => k) (fun _ _ _ _ _ k _ => k) (fun _ _ _ _ _ k _ => k) (fun k _ => k) (fun _ _ _ k _ => k) (fun k _ => k) (fun _ k _ => k) (fun k _ => k) (fun _ _ k _ => k) (fun _ _ k _ => k) (fun _ _ k _ => k) (fun _ _ k _ => k) (fun _ _ _ e => e) (fun _ _ _ e => e) (fun _ e => e) () (fun _ _ _ _ => ()) v k e
def oneB (v : V) (k : Bool) (e : Bool) : Bool :=
  V.rec (motive_1 := fun _ => Bool → Bool → Bool) (motive_2 := fun _ => Unit) (fun _ k _ => k) (fun _ _ k _ => k) (fun _ _ k _ => k) (fun k _ => k) (fun _ _ k _ => k) (fun k _ => k) (fun _ _ _ _ _ k _ => k) (fun _ _ _ _ _ k _ => k) (fun k _ => k) (fun _ _ _ k _ => k) (fun k _ => k) (fun _ k _ => k) (fun k _ => k) (fun _ _ k _ => k) (fun _ _ k _ => k) (fun _ _ k _ => k) (fun _ _ k _ => k) (fun _ _ _ e => e) (fun _ _ _ e => e) (fun _ e => e) () (fun _ _ _ _ => ()) v k e
/-! Places of a tuple, chosen by the text. -/
inductive Sl (α : Type) where
  | mk (g : T16 α → α)
def Sl.run {α : Type} (c : Sl α) (t : T16 α) : α := Sl.rec (motive := fun _ => α) (fun g => g t) c
inductive Su (α : Type) where
  | mk (g : α → T16 α → T16 α)
def Su.run {α : Type} (c : Su α) (v : α) (t : T16 α) : T16 α := Su.rec (motive := fun _ => T16 α) (fun g => g v t) c
def selTab {α : Type} : T16 (Sl α) := .mk (.mk fun t => T16.rec (motive := fun _ => α) (fun x0 _ _ _ _ _ _ _ _ _ _ _ _ _ _ _ => x0) t) (.mk fun t => T16.rec (motive := fun _ => α) (fun _ x1 _ _ _ _ _ _ _ _ _ _ _ _ _ _ => x1) t) (.mk fun t => T16.rec (motive := fun _ => α) (fun _ _ x2 _ _ _ _ _ _ _ _ _ _ _ _ _ => x2) t) (.mk fun t => T16.rec (motive := fun _ => α) (fun _ _ _ x3 _ _ _ _ _ _ _ _ _ _ _ _ => x3) t) (.mk fun t => T16.rec (motive := fun _ => α) (fun _ _ _ _ x4 _ _ _ _ _ _ _ _ _ _ _ => x4) t) (.mk fun t => T16.rec (motive := fun _ => α) (fun _ _ _ _ _ x5 _ _ _ _ _ _ _ _ _ _ => x5) t) (.mk fun t => T16.rec (motive := fun _ => α) (fun _ _ _ _ _ _ x6 _ _ _ _ _ _ _ _ _ => x6) t) (.mk fun t => T16.rec (motive := fun _ => α) (fun _ _ _ _ _ _ _ x7 _ _ _ _ _ _ _ _ => x7) t) (.mk fun t => T16.rec (motive := fun _ => α) (fun _ _ _ _ _ _ _ _ x8 _ _ _ _ _ _ _ => x8) t) (.mk fun t => T16.rec (motive := fun _ => α) (fun _ _ _ _ _ _ _ _ _ x9 _ _ _ _ _ _ => x9) t) (.mk fun t => T16.rec (motive := fun _ => α) (fun _ _ _ _ _ _ _ _ _ _ x10 _ _ _ _ _ => x10) t) (.mk fun t => T16.rec (motive := fun _ => α) (fun _ _ _ _ _ _ _ _ _ _ _ x11 _ _ _ _ => x11) t) (.mk fun t => T16.rec (motive := fun _ => α) (fun _ _ _ _ _ _ _ _ _ _ _ _ x12 _ _ _ => x12) t) (.mk fun t => T16.rec (motive := fun _ => α) (fun _ _ _ _ _ _ _ _ _ _ _ _ _ x13 _ _ => x13) t) (.mk fun t => T16.rec (motive := fun _ => α) (fun _ _ _ _ _ _ _ _ _ _ _ _ _ _ x14 _ => x14) t) (.mk fun t => T16.rec (motive := fun _ => α) (fun _ _ _ _ _ _ _ _ _ _ _ _ _ _ _ x15 => x15) t)
def suTab {α : Type} : T16 (Su α) := .mk (.mk fun v t => T16.rec (motive := fun _ => T16 α) (fun _ x1 x2 x3 x4 x5 x6 x7 x8 x9 x10 x11 x12 x13 x14 x15 => T16.mk v x1 x2 x3 x4 x5 x6 x7 x8 x9 x10 x11 x12 x13 x14 x15) t) (.mk fun v t => T16.rec (motive := fun _ => T16 α) (fun x0 _ x2 x3 x4 x5 x6 x7 x8 x9 x10 x11 x12 x13 x14 x15 => T16.mk x0 v x2 x3 x4 x5 x6 x7 x8 x9 x10 x11 x12 x13 x14 x15) t) (.mk fun v t => T16.rec (motive := fun _ => T16 α) (fun x0 x1 _ x3 x4 x5 x6 x7 x8 x9 x10 x11 x12 x13 x14 x15 => T16.mk x0 x1 v x3 x4 x5 x6 x7 x8 x9 x10 x11 x12 x13 x14 x15) t) (.mk fun v t => T16.rec (motive := fun _ => T16 α) (fun x0 x1 x2 _ x4 x5 x6 x7 x8 x9 x10 x11 x12 x13 x14 x15 => T16.mk x0 x1 x2 v x4 x5 x6 x7 x8 x9 x10 x11 x12 x13 x14 x15) t) (.mk fun v t => T16.rec (motive := fun _ => T16 α) (fun x0 x1 x2 x3 _ x5 x6 x7 x8 x9 x10 x11 x12 x13 x14 x15 => T16.mk x0 x1 x2 x3 v x5 x6 x7 x8 x9 x10 x11 x12 x13 x14 x15) t) (.mk fun v t => T16.rec (motive := fun _ => T16 α) (fun x0 x1 x2 x3 x4 _ x6 x7 x8 x9 x10 x11 x12 x13 x14 x15 => T16.mk x0 x1 x2 x3 x4 v x6 x7 x8 x9 x10 x11 x12 x13 x14 x15) t) (.mk fun v t => T16.rec (motive := fun _ => T16 α) (fun x0 x1 x2 x3 x4 x5 _ x7 x8 x9 x10 x11 x12 x13 x14 x15 => T16.mk x0 x1 x2 x3 x4 x5 v x7 x8 x9 x10 x11 x12 x13 x14 x15) t) (.mk fun v t => T16.rec (motive := fun _ => T16 α) (fun x0 x1 x2 x3 x4 x5 x6 _ x8 x9 x10 x11 x12 x13 x14 x15 => T16.mk x0 x1 x2 x3 x4 x5 x6 v x8 x9 x10 x11 x12 x13 x14 x15) t) (.mk fun v t => T16.rec (motive := fun _ => T16 α) (fun x0 x1 x2 x3 x4 x5 x6 x7 _ x9 x10 x11 x12 x13 x14 x15 => T16.mk x0 x1 x2 x3 x4 x5 x6 x7 v x9 x10 x11 x12 x13 x14 x15) t) (.mk fun v t => T16.rec (motive := fun _ => T16 α) (fun x0 x1 x2 x3 x4 x5 x6 x7 x8 _ x10 x11 x12 x13 x14 x15 => T16.mk x0 x1 x2 x3 x4 x5 x6 x7 x8 v x10 x11 x12 x13 x14 x15) t) (.mk fun v t => T16.rec (motive := fun _ => T16 α) (fun x0 x1 x2 x3 x4 x5 x6 x7 x8 x9 _ x11 x12 x13 x14 x15 => T16.mk x0 x1 x2 x3 x4 x5 x6 x7 x8 x9 v x11 x12 x13 x14 x15) t) (.mk fun v t => T16.rec (motive := fun _ => T16 α) (fun x0 x1 x2 x3 x4 x5 x6 x7 x8 x9 x10 _ x12 x13 x14 x15 => T16.mk x0 x1 x2 x3 x4 x5 x6 x7 x8 x9 x10 v x12 x13 x14 x15) t) (.mk fun v t => T16.rec (motive := fun _ => T16 α) (fun x0 x1 x2 x3 x4 x5 x6 x7 x8 x9 x10 x11 _ x13 x14 x15 => T16.mk x0 x1 x2 x3 x4 x5 x6 x7 x8 x9 x10 x11 v x13 x14 x15) t) (.mk fun v t => T16.rec (motive := fun _ => T16 α) (fun x0 x1 x2 x3 x4 x5 x6 x7 x8 x9 x10 x11 x12 _ x14 x15 => T16.mk x0 x1 x2 x3 x4 x5 x6 x7 x8 x9 x10 x11 x12 v x14 x15) t) (.mk fun v t => T16.rec (motive := fun _ => T16 α) (fun x0 x1 x2 x3 x4 x5 x6 x7 x8 x9 x10 x11 x12 x13 _ x15 => T16.mk x0 x1 x2 x3 x4 x5 x6 x7 x8 x9 x10 x11 x12 x13 v x15) t) (.mk fun v t => T16.rec (motive := fun _ => T16 α) (fun x0 x1 x2 x3 x4 x5 x6 x7 x8 x9 x10 x11 x12 x13 x14 _ => T16.mk x0 x1 x2 x3 x4 x5 x6 x7 x8 x9 x10 x11 x12 x13 x14 v) t)
def slOf {α : Type} (d : Nat) : Sl α := selTab.get d
def suOf {α : Type} (d : Nat) : Su α := suTab.get d
theorem slOf_run {α : Type} (d : Nat) (t : T16 α) : (slOf d).run t = t.get d := by
  unfold slOf T16.get
  cases Nat.beq (Nat.land d 8) 0 <;> cases Nat.beq (Nat.land d 4) 0 <;> cases Nat.beq (Nat.land d 2) 0 <;> cases Nat.beq (Nat.land d 1) 0 <;> cases t <;> rfl
theorem suOf_run {α : Type} (d : Nat) (v : α) (t : T16 α) : (suOf d).run v t = t.set d v := by
  unfold suOf T16.get T16.set
  cases Nat.beq (Nat.land d 8) 0 <;> cases Nat.beq (Nat.land d 4) 0 <;> cases Nat.beq (Nat.land d 2) 0 <;> cases Nat.beq (Nat.land d 1) 0 <;> cases t <;> rfl
/-- A place that is not known from the text. -/
def forceN {α : Type} (d : Nat) (k : Nat → α) : α := Nat.rec (motive := fun _ => α) (k 0) (fun n _ => k (Nat.succ n)) d
theorem forceN_eq {α : Type} (d : Nat) (k : Nat → α) : forceN d k = k d := by cases d <;> rfl
def getS {α : Type} (d : Nat) (t : T16 α) : α := forceN d fun d => (slOf d).run t
theorem getS_eq {α : Type} (d : Nat) (t : T16 α) : getS d t = t.get d := by
  unfold getS
  rw [forceN_eq]
  exact slOf_run d t
/-! A block's place, worked out once for its label: by its two bytes, each of which comes up often. -/
inductive MS2 (α : Type) where
  | mk (g : T16 (T16 α) → α)
def MS2.run {α : Type} (c : MS2 α) (m : T16 (T16 α)) : α := MS2.rec (motive := fun _ => α) (fun g => g m) c
/-- Two digits. -/
def sel2 {α : Type} (b : Nat) : MS2 α :=
  Sl.rec (motive := fun _ => MS2 α) (fun g0 => Sl.rec (motive := fun _ => MS2 α) (fun g1 => .mk fun m => g0 (g1 m)) (slOf (α := T16 α) (Nat.div b 16))) (slOf (α := α) (Nat.mod b 16))
theorem sel2_run {α : Type} (b : Nat) (m : T16 (T16 α)) : (sel2 b).run m = (m.get (Nat.div b 16)).get (Nat.mod b 16) := by
  unfold sel2
  rw [← slOf_run (Nat.div b 16), ← slOf_run (Nat.mod b 16)]
  generalize slOf (α := T16 α) (Nat.div b 16) = c
  generalize slOf (α := α) (Nat.mod b 16) = d
  cases c; cases d
  rfl
inductive MSel where
  | mk (g : Mem → Blk)
def MSel.run (c : MSel) (m : Mem) : Blk := MSel.rec (motive := fun _ => Blk) (fun g => g m) c
def selB (b : Nat) : MS2 Blk := sel2 b
def selT (b : Nat) : MS2 (T16 (T16 Blk)) := sel2 b
def selM (i : Nat) : MSel :=
  forceN (Nat.mod i 256) fun b => forceN (Nat.div i 256) fun t =>
    MS2.rec (motive := fun _ => MSel) (fun g => MS2.rec (motive := fun _ => MSel) (fun g' => .mk fun m => g (g' m)) (selT t)) (selB b)
def blkS (i : Nat) (m : Mem) : Blk := (selM i).run m
theorem digits (i : Nat) : Nat.div (Nat.mod i 256) 16 = Nat.mod (Nat.div i 16) 16 ∧ Nat.mod (Nat.mod i 256) 16 = Nat.mod i 16 ∧ Nat.div (Nat.div i 256) 16 = Nat.div i 4096 := by
  refine ⟨?_, ?_, ?_⟩
  · show i % 256 / 16 = i / 16 % 16; omega
  · show i % 256 % 16 = i % 16; omega
  · show i / 256 / 16 = i / 4096; omega
theorem blkS_eq (i : Nat) (m : Mem) : blkS i m = m.blk i := by
  unfold blkS selM Mem.blk
  simp only [forceN_eq]
  have hb := sel2_run (α := Blk) (Nat.mod i 256)
  have ht := sel2_run (α := T16 (T16 Blk)) (Nat.div i 256) m
  obtain ⟨d1, d2, d3⟩ := digits i
  rw [d1, d2] at hb
  rw [d3] at ht
  unfold selB selT
  rw [← ht, ← hb]
  generalize sel2 (α := Blk) (Nat.mod i 256) = c
  generalize sel2 (α := T16 (T16 Blk)) (Nat.div i 256) = d
  cases c; cases d
  rfl
def cellS (o : Nat) (c : Cells) : V :=
  Cells.rec (motive := fun _ => V) (fun t => getS o t) (fun t => getS (Nat.mod o 16) (getS (Nat.div o 16) t)) (fun t => getS (Nat.mod o 16) (getS (Nat.mod (Nat.div o 16) 16) (getS (Nat.div o 256) t))) c
theorem cellS_eq (o : Nat) (c : Cells) : cellS o c = c.get o := by cases c <;> simp only [cellS, Cells.get, getS_eq]

inductive Sf (α : Type) where
  | mk (g : (α → α) → T16 α → T16 α)
def Sf.run {α : Type} (c : Sf α) (f : α → α) (t : T16 α) : T16 α := Sf.rec (motive := fun _ => T16 α) (fun g => g f t) c
def sfTab {α : Type} : T16 (Sf α) := .mk (.mk fun f t => T16.rec (motive := fun _ => T16 α) (fun x0 x1 x2 x3 x4 x5 x6 x7 x8 x9 x10 x11 x12 x13 x14 x15 => T16.mk (f x0) x1 x2 x3 x4 x5 x6 x7 x8 x9 x10 x11 x12 x13 x14 x15) t) (.mk fun f t => T16.rec (motive := fun _ => T16 α) (fun x0 x1 x2 x3 x4 x5 x6 x7 x8 x9 x10 x11 x12 x13 x14 x15 => T16.mk x0 (f x1) x2 x3 x4 x5 x6 x7 x8 x9 x10 x11 x12 x13 x14 x15) t) (.mk fun f t => T16.rec (motive := fun _ => T16 α) (fun x0 x1 x2 x3 x4 x5 x6 x7 x8 x9 x10 x11 x12 x13 x14 x15 => T16.mk x0 x1 (f x2) x3 x4 x5 x6 x7 x8 x9 x10 x11 x12 x13 x14 x15) t) (.mk fun f t => T16.rec (motive := fun _ => T16 α) (fun x0 x1 x2 x3 x4 x5 x6 x7 x8 x9 x10 x11 x12 x13 x14 x15 => T16.mk x0 x1 x2 (f x3) x4 x5 x6 x7 x8 x9 x10 x11 x12 x13 x14 x15) t) (.mk fun f t => T16.rec (motive := fun _ => T16 α) (fun x0 x1 x2 x3 x4 x5 x6 x7 x8 x9 x10 x11 x12 x13 x14 x15 => T16.mk x0 x1 x2 x3 (f x4) x5 x6 x7 x8 x9 x10 x11 x12 x13 x14 x15) t) (.mk fun f t => T16.rec (motive := fun _ => T16 α) (fun x0 x1 x2 x3 x4 x5 x6 x7 x8 x9 x10 x11 x12 x13 x14 x15 => T16.mk x0 x1 x2 x3 x4 (f x5) x6 x7 x8 x9 x10 x11 x12 x13 x14 x15) t) (.mk fun f t => T16.rec (motive := fun _ => T16 α) (fun x0 x1 x2 x3 x4 x5 x6 x7 x8 x9 x10 x11 x12 x13 x14 x15 => T16.mk x0 x1 x2 x3 x4 x5 (f x6) x7 x8 x9 x10 x11 x12 x13 x14 x15) t) (.mk fun f t => T16.rec (motive := fun _ => T16 α) (fun x0 x1 x2 x3 x4 x5 x6 x7 x8 x9 x10 x11 x12 x13 x14 x15 => T16.mk x0 x1 x2 x3 x4 x5 x6 (f x7) x8 x9 x10 x11 x12 x13 x14 x15) t) (.mk fun f t => T16.rec (motive := fun _ => T16 α) (fun x0 x1 x2 x3 x4 x5 x6 x7 x8 x9 x10 x11 x12 x13 x14 x15 => T16.mk x0 x1 x2 x3 x4 x5 x6 x7 (f x8) x9 x10 x11 x12 x13 x14 x15) t) (.mk fun f t => T16.rec (motive := fun _ => T16 α) (fun x0 x1 x2 x3 x4 x5 x6 x7 x8 x9 x10 x11 x12 x13 x14 x15 => T16.mk x0 x1 x2 x3 x4 x5 x6 x7 x8 (f x9) x10 x11 x12 x13 x14 x15) t) (.mk fun f t => T16.rec (motive := fun _ => T16 α) (fun x0 x1 x2 x3 x4 x5 x6 x7 x8 x9 x10 x11 x12 x13 x14 x15 => T16.mk x0 x1 x2 x3 x4 x5 x6 x7 x8 x9 (f x10) x11 x12 x13 x14 x15) t) (.mk fun f t => T16.rec (motive := fun _ => T16 α) (fun x0 x1 x2 x3 x4 x5 x6 x7 x8 x9 x10 x11 x12 x13 x14 x15 => T16.mk x0 x1 x2 x3 x4 x5 x6 x7 x8 x9 x10 (f x11) x12 x13 x14 x15) t) (.mk fun f t => T16.rec (motive := fun _ => T16 α) (fun x0 x1 x2 x3 x4 x5 x6 x7 x8 x9 x10 x11 x12 x13 x14 x15 => T16.mk x0 x1 x2 x3 x4 x5 x6 x7 x8 x9 x10 x11 (f x12) x13 x14 x15) t) (.mk fun f t => T16.rec (motive := fun _ => T16 α) (fun x0 x1 x2 x3 x4 x5 x6 x7 x8 x9 x10 x11 x12 x13 x14 x15 => T16.mk x0 x1 x2 x3 x4 x5 x6 x7 x8 x9 x10 x11 x12 (f x13) x14 x15) t) (.mk fun f t => T16.rec (motive := fun _ => T16 α) (fun x0 x1 x2 x3 x4 x5 x6 x7 x8 x9 x10 x11 x12 x13 x14 x15 => T16.mk x0 x1 x2 x3 x4 x5 x6 x7 x8 x9 x10 x11 x12 x13 (f x14) x15) t) (.mk fun f t => T16.rec (motive := fun _ => T16 α) (fun x0 x1 x2 x3 x4 x5 x6 x7 x8 x9 x10 x11 x12 x13 x14 x15 => T16.mk x0 x1 x2 x3 x4 x5 x6 x7 x8 x9 x10 x11 x12 x13 x14 (f x15)) t)
def sfOf {α : Type} (d : Nat) : Sf α := sfTab.get d
theorem sfOf_run {α : Type} (d : Nat) (f : α → α) (t : T16 α) : (sfOf d).run f t = t.upd d f := by
  unfold sfOf T16.get T16.upd
  cases Nat.beq (Nat.land d 8) 0 <;> cases Nat.beq (Nat.land d 4) 0 <;> cases Nat.beq (Nat.land d 2) 0 <;> cases Nat.beq (Nat.land d 1) 0 <;> cases t <;> rfl
/-! Operands. -/
inductive Cl where
  | mk (g : List V → Fr → V)
def Cl.run (c : Cl) (vs : List V) (f : Fr) : V := Cl.rec (motive := fun _ => V) (fun g => g vs f) c
def slotC (t : Nat) : Cl := bif Nat.blt t 256 then Sl.rec (motive := fun _ => Cl) (fun ga => Sl.rec (motive := fun _ => Cl) (fun gb => .mk fun _ f => ga (gb f)) (slOf (α := T16 V) (Nat.div t 16))) (slOf (α := V) (Nat.mod t 16)) else .mk fun _ _ => .any
theorem slotC_run (t : Nat) (vs : List V) (f : Fr) : (slotC t).run vs f = fget f t := by
  unfold slotC fget
  cases Nat.blt t 256
  · rfl
  · simp only [cond_true]
    rw [← slOf_run, ← slOf_run]
    generalize slOf (α := V) (Nat.mod t 16) = a
    generalize slOf (α := T16 V) (Nat.div t 16) = b
    cases a; cases b
    rfl
inductive Fs where
  | mk (g : V → Fr → Fr)
def Fs.run (c : Fs) (v : V) (f : Fr) : Fr := Fs.rec (motive := fun _ => Fr) (fun g => g v f) c
def setC (t : Nat) : Fs := bif Nat.blt t 256 then Sf.rec (motive := fun _ => Fs) (fun ga => Su.rec (motive := fun _ => Fs) (fun gb => .mk fun v f => ga (fun r => gb v r) f) (suOf (α := V) (Nat.mod t 16))) (sfOf (α := T16 V) (Nat.div t 16)) else .mk fun _ f => f
theorem setC_run (t : Nat) (v : V) (f : Fr) : (setC t).run v f = fset f t v := by
  unfold setC fset
  cases Nat.blt t 256
  · rfl
  · simp only [cond_true]
    have h0 : (T16.set (Nat.mod t 16) v : T16 V → T16 V) = (suOf (Nat.mod t 16)).run v := funext fun r => (suOf_run _ _ _).symm
    have e : f.set (Nat.div t 16) ((f.get (Nat.div t 16)).set (Nat.mod t 16) v) = T16.upd (Nat.div t 16) (T16.set (Nat.mod t 16) v) f := (T16.upd_eq _ _ _).symm
    rw [e, h0, ← sfOf_run]
    generalize sfOf (α := T16 V) (Nat.div t 16) = a
    generalize suOf (α := V) (Nat.mod t 16) = b
    cases a; cases b
    rfl

def memN (t : Tmp) (ns : List Tmp) : Bool := List.rec (motive := fun _ => Bool) false (fun n _ ih => bif Nat.beq n t then true else ih) ns
def resE (t : Tmp) (ns : List Tmp) : Cl :=
  List.rec (motive := fun _ => Cl) (.mk fun _ _ => .any)
    (fun n _ ih => bif Nat.beq n t then .mk (fun vs _ => List.rec (motive := fun _ => V) .any (fun v _ _ => v) vs) else Cl.rec (motive := fun _ => Cl) (fun g => .mk (fun vs f => List.rec (motive := fun _ => V) .any (fun _ vs' _ => g vs' f) vs)) ih) ns
def resolve (ns : List Tmp) (t : Tmp) : Cl := bif memN t ns then resE t ns else slotC t

theorem look_out {t : Tmp} : ∀ (ns : List Tmp) (vs : List V) (f : Fr), memN t ns = false → look (ns.zip vs) f t = fget f t := by
  intro ns
  induction ns with
  | nil => intro vs f _; rfl
  | cons n ns ih =>
    intro vs f h
    have h' : (bif Nat.beq n t then true else memN t ns) = false := h
    cases hb : Nat.beq n t
    · rw [hb] at h'
      cases vs with
      | nil => rfl
      | cons v vs =>
        show (bif Nat.beq n t then v else look (ns.zip vs) f t) = _
        rw [hb]
        exact ih vs f h'
    · rw [hb] at h'; cases h'

theorem resE_run {t : Tmp} : ∀ (ns : List Tmp) (vs : List V) (f : Fr), vs.length = ns.length → memN t ns = true → (resE t ns).run vs f = look (ns.zip vs) f t := by
  intro ns
  induction ns with
  | nil => intro vs f _ h; cases h
  | cons n ns ih =>
    intro vs f hl h
    cases vs with
    | nil => cases hl
    | cons v vs =>
      have h' : (bif Nat.beq n t then true else memN t ns) = true := h
      have hd : resE t (n :: ns) = (bif Nat.beq n t then .mk (fun vs _ => List.rec (motive := fun _ => V) .any (fun v _ _ => v) vs) else Cl.rec (motive := fun _ => Cl) (fun g => .mk (fun vs f => List.rec (motive := fun _ => V) .any (fun _ vs' _ => g vs' f) vs)) (resE t ns)) := rfl
      show _ = (bif Nat.beq n t then v else look (ns.zip vs) f t)
      rw [hd]
      cases hb : Nat.beq n t
      · rw [hb] at h'
        have h2 := ih vs f (by simpa using hl) h'
        simp only [cond_false]
        rw [← h2]
        cases resE t ns
        rfl
      · rfl

theorem resolve_run {t : Tmp} {ns : List Tmp} {vs : List V} (f : Fr) (hl : vs.length = ns.length) : (resolve ns t).run vs f = look (ns.zip vs) f t := by
  unfold resolve
  cases h : memN t ns
  · simp only [cond_false]; rw [slotC_run, look_out ns vs f h]
  · simp only [cond_true]; exact resE_run ns vs f hl h

def opdC (P : Program) (ns : List Tmp) (o : Operand) : Cl :=
  Operand.rec (motive := fun _ => Cl) (fun t => resolve ns t) (fun v => .mk fun _ _ => constV v) (fun g => bif Nat.blt g P.globals.size then .mk (fun _ _ => .ptr g 0) else .mk fun _ _ => .any) (fun f => .mk fun _ _ => .fn (.func f) [] []) o
theorem opdC_run {T : Tm} {ns : List Tmp} {vs : List V} {f : Fr} (hT : ∀ t, (resolve ns t).run vs f = T t) (o : Operand) : (opdC P ns o).run vs f = evO P T o := by
  cases o with
  | tmp t => exact hT t
  | const v => rfl
  | global g =>
    show Cl.run (bif Nat.blt g P.globals.size then .mk (fun _ _ => .ptr g 0) else .mk fun _ _ => .any) vs f = (bif Nat.blt g P.globals.size then .ptr g 0 else .any)
    cases Nat.blt g P.globals.size <;> rfl
  | func g => rfl

end
end Go.Ev
