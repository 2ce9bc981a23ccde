/- Sixteen-ary tuples for the evaluator: reading and writing one place. The evaluator's values and memory, and how they stand for the model's. The evaluator's memory against the model's: new blocks, reads, writes, blocks that are given up. VmLoops: a text as the bytes of its tokens. The evaluator's arithmetic and texts, against the model's. The evaluator's texts: numbers in base 256. The evaluator's operations that leave memory as it is, against the model's. No condition. -/
import Derived.Defers
import Derived.Orders
import Derived.Deep.MidRow
import Derived.Deep.AppendSrc
import Derived.Lib.Strings
import Derived.Lib.IndexMore
import Derived.Laws.Strings
import Derived.LaidEqlPtr
set_option linter.all false
namespace Go.Ev
/-- Sixteen things of one kind. -/
inductive T16 (α : Type) where
  | mk (x0 x1 x2 x3 x4 x5 x6 x7 x8 x9 x10 x11 x12 x13 x14 x15 : α)
namespace T16
variable {α : Type}
def g0 (t : T16 α) : α := T16.casesOn t (fun x _ _ _ _ _ _ _ _ _ _ _ _ _ _ _ => x)
def g1 (t : T16 α) : α := T16.casesOn t (fun _ x _ _ _ _ _ _ _ _ _ _ _ _ _ _ => x)
def g2 (t : T16 α) : α := T16.casesOn t (fun _ _ x _ _ _ _ _ _ _ _ _ _ _ _ _ => x)
def g3 (t : T16 α) : α := T16.casesOn t (fun _ _ _ x _ _ _ _ _ _ _ _ _ _ _ _ => x)
def g4 (t : T16 α) : α := T16.casesOn t (fun _ _ _ _ x _ _ _ _ _ _ _ _ _ _ _ => x)
def g5 (t : T16 α) : α := T16.casesOn t (fun _ _ _ _ _ x _ _ _ _ _ _ _ _ _ _ => x)
def g6 (t : T16 α) : α := T16.casesOn t (fun _ _ _ _ _ _ x _ _ _ _ _ _ _ _ _ => x)
def g7 (t : T16 α) : α := T16.casesOn t (fun _ _ _ _ _ _ _ x _ _ _ _ _ _ _ _ => x)
def g8 (t : T16 α) : α := T16.casesOn t (fun _ _ _ _ _ _ _ _ x _ _ _ _ _ _ _ => x)
def g9 (t : T16 α) : α := T16.casesOn t (fun _ _ _ _ _ _ _ _ _ x _ _ _ _ _ _ => x)
def g10 (t : T16 α) : α := T16.casesOn t (fun _ _ _ _ _ _ _ _ _ _ x _ _ _ _ _ => x)
def g11 (t : T16 α) : α := T16.casesOn t (fun _ _ _ _ _ _ _ _ _ _ _ x _ _ _ _ => x)
def g12 (t : T16 α) : α := T16.casesOn t (fun _ _ _ _ _ _ _ _ _ _ _ _ x _ _ _ => x)
def g13 (t : T16 α) : α := T16.casesOn t (fun _ _ _ _ _ _ _ _ _ _ _ _ _ x _ _ => x)
def g14 (t : T16 α) : α := T16.casesOn t (fun _ _ _ _ _ _ _ _ _ _ _ _ _ _ x _ => x)
def g15 (t : T16 α) : α := T16.casesOn t (fun _ _ _ _ _ _ _ _ _ _ _ _ _ _ _ x => x)
def s0 (v : α) (t : T16 α) : T16 α := T16.casesOn t (fun _ x1 x2 x3 x4 x5 x6 x7 x8 x9 x10 x11 x12 x13 x14 x15 => .mk v x1 x2 x3 x4 x5 x6 x7 x8 x9 x10 x11 x12 x13 x14 x15)
def s1 (v : α) (t : T16 α) : T16 α := T16.casesOn t (fun x0 _ x2 x3 x4 x5 x6 x7 x8 x9 x10 x11 x12 x13 x14 x15 => .mk x0 v x2 x3 x4 x5 x6 x7 x8 x9 x10 x11 x12 x13 x14 x15)
def s2 (v : α) (t : T16 α) : T16 α := T16.casesOn t (fun x0 x1 _ x3 x4 x5 x6 x7 x8 x9 x10 x11 x12 x13 x14 x15 => .mk x0 x1 v x3 x4 x5 x6 x7 x8 x9 x10 x11 x12 x13 x14 x15)
def s3 (v : α) (t : T16 α) : T16 α := T16.casesOn t (fun x0 x1 x2 _ x4 x5 x6 x7 x8 x9 x10 x11 x12 x13 x14 x15 => .mk x0 x1 x2 v x4 x5 x6 x7 x8 x9 x10 x11 x12 x13 x14 x15)
def s4 (v : α) (t : T16 α) : T16 α := T16.casesOn t (fun x0 x1 x2 x3 _ x5 x6 x7 x8 x9 x10 x11 x12 x13 x14 x15 => .mk x0 x1 x2 x3 v x5 x6 x7 x8 x9 x10 x11 x12 x13 x14 x15)
def s5 (v : α) (t : T16 α) : T16 α := T16.casesOn t (fun x0 x1 x2 x3 x4 _ x6 x7 x8 x9 x10 x11 x12 x13 x14 x15 => .mk x0 x1 x2 x3 x4 v x6 x7 x8 x9 x10 x11 x12 x13 x14 x15)
def s6 (v : α) (t : T16 α) : T16 α := T16.casesOn t (fun x0 x1 x2 x3 x4 x5 _ x7 x8 x9 x10 x11 x12 x13 x14 x15 => .mk x0 x1 x2 x3 x4 x5 v x7 x8 x9 x10 x11 x12 x13 x14 x15)
def s7 (v : α) (t : T16 α) : T16 α := T16.casesOn t (fun x0 x1 x2 x3 x4 x5 x6 _ x8 x9 x10 x11 x12 x13 x14 x15 => .mk x0 x1 x2 x3 x4 x5 x6 v x8 x9 x10 x11 x12 x13 x14 x15)
def s8 (v : α) (t : T16 α) : T16 α := T16.casesOn t (fun x0 x1 x2 x3 x4 x5 x6 x7 _ x9 x10 x11 x12 x13 x14 x15 => .mk x0 x1 x2 x3 x4 x5 x6 x7 v x9 x10 x11 x12 x13 x14 x15)
def s9 (v : α) (t : T16 α) : T16 α := T16.casesOn t (fun x0 x1 x2 x3 x4 x5 x6 x7 x8 _ x10 x11 x12 x13 x14 x15 => .mk x0 x1 x2 x3 x4 x5 x6 x7 x8 v x10 x11 x12 x13 x14 x15)
def s10 (v : α) (t : T16 α) : T16 α := T16.casesOn t (fun x0 x1 x2 x3 x4 x5 x6 x7 x8 x9 _ x11 x12 x13 x14 x15 => .mk x0 x1 x2 x3 x4 x5 x6 x7 x8 x9 v x11 x12 x13 x14 x15)
def s11 (v : α) (t : T16 α) : T16 α := T16.casesOn t (fun x0 x1 x2 x3 x4 x5 x6 x7 x8 x9 x10 _ x12 x13 x14 x15 => .mk x0 x1 x2 x3 x4 x5 x6 x7 x8 x9 x10 v x12 x13 x14 x15)
def s12 (v : α) (t : T16 α) : T16 α := T16.casesOn t (fun x0 x1 x2 x3 x4 x5 x6 x7 x8 x9 x10 x11 _ x13 x14 x15 => .mk x0 x1 x2 x3 x4 x5 x6 x7 x8 x9 x10 x11 v x13 x14 x15)
def s13 (v : α) (t : T16 α) : T16 α := T16.casesOn t (fun x0 x1 x2 x3 x4 x5 x6 x7 x8 x9 x10 x11 x12 _ x14 x15 => .mk x0 x1 x2 x3 x4 x5 x6 x7 x8 x9 x10 x11 x12 v x14 x15)
def s14 (v : α) (t : T16 α) : T16 α := T16.casesOn t (fun x0 x1 x2 x3 x4 x5 x6 x7 x8 x9 x10 x11 x12 x13 _ x15 => .mk x0 x1 x2 x3 x4 x5 x6 x7 x8 x9 x10 x11 x12 x13 v x15)
def s15 (v : α) (t : T16 α) : T16 α := T16.casesOn t (fun x0 x1 x2 x3 x4 x5 x6 x7 x8 x9 x10 x11 x12 x13 x14 _ => .mk x0 x1 x2 x3 x4 x5 x6 x7 x8 x9 x10 x11 x12 x13 x14 v)
def all (v : α) : T16 α := .mk v v v v v v v v v v v v v v v v
/-- Place d, d below 16. -/
def get (d : Nat) (t : T16 α) : α := (Bool.casesOn (Nat.beq (Nat.land d 8) 0) (Bool.casesOn (Nat.beq (Nat.land d 4) 0) (Bool.casesOn (Nat.beq (Nat.land d 2) 0) (Bool.casesOn (Nat.beq (Nat.land d 1) 0) (g15 t) (g14 t)) (Bool.casesOn (Nat.beq (Nat.land d 1) 0) (g13 t) (g12 t))) (Bool.casesOn (Nat.beq (Nat.land d 2) 0) (Bool.casesOn (Nat.beq (Nat.land d 1) 0) (g11 t) (g10 t)) (Bool.casesOn (Nat.beq (Nat.land d 1) 0) (g9 t) (g8 t)))) (Bool.casesOn (Nat.beq (Nat.land d 4) 0) (Bool.casesOn (Nat.beq (Nat.land d 2) 0) (Bool.casesOn (Nat.beq (Nat.land d 1) 0) (g7 t) (g6 t)) (Bool.casesOn (Nat.beq (Nat.land d 1) 0) (g5 t) (g4 t))) (Bool.casesOn (Nat.beq (Nat.land d 2) 0) (Bool.casesOn (Nat.beq (Nat.land d 1) 0) (g3 t) (g2 t)) (Bool.casesOn (Nat.beq (Nat.land d 1) 0) (g1 t) (g0 t)))))
def set (d : Nat) (v : α) (t : T16 α) : T16 α := (Bool.casesOn (Nat.beq (Nat.land d 8) 0) (Bool.casesOn (Nat.beq (Nat.land d 4) 0) (Bool.casesOn (Nat.beq (Nat.land d 2) 0) (Bool.casesOn (Nat.beq (Nat.land d 1) 0) (s15 v t) (s14 v t)) (Bool.casesOn (Nat.beq (Nat.land d 1) 0) (s13 v t) (s12 v t))) (Bool.casesOn (Nat.beq (Nat.land d 2) 0) (Bool.casesOn (Nat.beq (Nat.land d 1) 0) (s11 v t) (s10 v t)) (Bool.casesOn (Nat.beq (Nat.land d 1) 0) (s9 v t) (s8 v t)))) (Bool.casesOn (Nat.beq (Nat.land d 4) 0) (Bool.casesOn (Nat.beq (Nat.land d 2) 0) (Bool.casesOn (Nat.beq (Nat.land d 1) 0) (s7 v t) (s6 v t)) (Bool.casesOn (Nat.beq (Nat.land d 1) 0) (s5 v t) (s4 v t))) (Bool.casesOn (Nat.beq (Nat.land d 2) 0) (Bool.casesOn (Nat.beq (Nat.land d 1) 0) (s3 v t) (s2 v t)) (Bool.casesOn (Nat.beq (Nat.land d 1) 0) (s1 v t) (s0 v t)))))
def u0 (f : α → α) (t : T16 α) : T16 α := T16.casesOn t (fun x0 x1 x2 x3 x4 x5 x6 x7 x8 x9 x10 x11 x12 x13 x14 x15 => .mk (f x0) x1 x2 x3 x4 x5 x6 x7 x8 x9 x10 x11 x12 x13 x14 x15)
def u1 (f : α → α) (t : T16 α) : T16 α := T16.casesOn t (fun x0 x1 x2 x3 x4 x5 x6 x7 x8 x9 x10 x11 x12 x13 x14 x15 => .mk x0 (f x1) x2 x3 x4 x5 x6 x7 x8 x9 x10 x11 x12 x13 x14 x15)
def u2 (f : α → α) (t : T16 α) : T16 α := T16.casesOn t (fun x0 x1 x2 x3 x4 x5 x6 x7 x8 x9 x10 x11 x12 x13 x14 x15 => .mk x0 x1 (f x2) x3 x4 x5 x6 x7 x8 x9 x10 x11 x12 x13 x14 x15)
def u3 (f : α → α) (t : T16 α) : T16 α := T16.casesOn t (fun x0 x1 x2 x3 x4 x5 x6 x7 x8 x9 x10 x11 x12 x13 x14 x15 => .mk x0 x1 x2 (f x3) x4 x5 x6 x7 x8 x9 x10 x11 x12 x13 x14 x15)
def u4 (f : α → α) (t : T16 α) : T16 α := T16.casesOn t (fun x0 x1 x2 x3 x4 x5 x6 x7 x8 x9 x10 x11 x12 x13 x14 x15 => .mk x0 x1 x2 x3 (f x4) x5 x6 x7 x8 x9 x10 x11 x12 x13 x14 x15)
def u5 (f : α → α) (t : T16 α) : T16 α := T16.casesOn t (fun x0 x1 x2 x3 x4 x5 x6 x7 x8 x9 x10 x11 x12 x13 x14 x15 => .mk x0 x1 x2 x3 x4 (f x5) x6 x7 x8 x9 x10 x11 x12 x13 x14 x15)
def u6 (f : α → α) (t : T16 α) : T16 α := T16.casesOn t (fun x0 x1 x2 x3 x4 x5 x6 x7 x8 x9 x10 x11 x12 x13 x14 x15 => .mk x0 x1 x2 x3 x4 x5 (f x6) x7 x8 x9 x10 x11 x12 x13 x14 x15)
def u7 (f : α → α) (t : T16 α) : T16 α := T16.casesOn t (fun x0 x1 x2 x3 x4 x5 x6 x7 x8 x9 x10 x11 x12 x13 x14 x15 => .mk x0 x1 x2 x3 x4 x5 x6 (f x7) x8 x9 x10 x11 x12 x13 x14 x15)
def u8 (f : α → α) (t : T16 α) : T16 α := T16.casesOn t (fun x0 x1 x2 x3 x4 x5 x6 x7 x8 x9 x10 x11 x12 x13 x14 x15 => .mk x0 x1 x2 x3 x4 x5 x6 x7 (f x8) x9 x10 x11 x12 x13 x14 x15)
def u9 (f : α → α) (t : T16 α) : T16 α := T16.casesOn t (fun x0 x1 x2 x3 x4 x5 x6 x7 x8 x9 x10 x11 x12 x13 x14 x15 => .mk x0 x1 x2 x3 x4 x5 x6 x7 x8 (f x9) x10 x11 x12 x13 x14 x15)
def u10 (f : α → α) (t : T16 α) : T16 α := T16.casesOn t (fun x0 x1 x2 x3 x4 x5 x6 x7 x8 x9 x10 x11 x12 x13 x14 x15 => .mk x0 x1 x2 x3 x4 x5 x6 x7 x8 x9 (f x10) x11 x12 x13 x14 x15)
def u11 (f : α → α) (t : T16 α) : T16 α := T16.casesOn t (fun x0 x1 x2 x3 x4 x5 x6 x7 x8 x9 x10 x11 x12 x13 x14 x15 => .mk x0 x1 x2 x3 x4 x5 x6 x7 x8 x9 x10 (f x11) x12 x13 x14 x15)
def u12 (f : α → α) (t : T16 α) : T16 α := T16.casesOn t (fun x0 x1 x2 x3 x4 x5 x6 x7 x8 x9 x10 x11 x12 x13 x14 x15 => .mk x0 x1 x2 x3 x4 x5 x6 x7 x8 x9 x10 x11 (f x12) x13 x14 x15)
def u13 (f : α → α) (t : T16 α) : T16 α := T16.casesOn t (fun x0 x1 x2 x3 x4 x5 x6 x7 x8 x9 x10 x11 x12 x13 x14 x15 => .mk x0 x1 x2 x3 x4 x5 x6 x7 x8 x9 x10 x11 x12 (f x13) x14 x15)
def u14 (f : α → α) (t : T16 α) : T16 α := T16.casesOn t (fun x0 x1 x2 x3 x4 x5 x6 x7 x8 x9 x10 x11 x12 x13 x14 x15 => .mk x0 x1 x2 x3 x4 x5 x6 x7 x8 x9 x10 x11 x12 x13 (f x14) x15)
def u15 (f : α → α) (t : T16 α) : T16 α := T16.casesOn t (fun x0 x1 x2 x3 x4 x5 x6 x7 x8 x9 x10 x11 x12 x13 x14 x15 => .mk x0 x1 x2 x3 x4 x5 x6 x7 x8 x9 x10 x11 x12 x13 x14 (f x15))
def upd (d : Nat) (f : α → α) (t : T16 α) : T16 α := (Bool.casesOn (Nat.beq (Nat.land d 8) 0) (Bool.casesOn (Nat.beq (Nat.land d 4) 0) (Bool.casesOn (Nat.beq (Nat.land d 2) 0) (Bool.casesOn (Nat.beq (Nat.land d 1) 0) (u15 f t) (u14 f t)) (Bool.casesOn (Nat.beq (Nat.land d 1) 0) (u13 f t) (u12 f t))) (Bool.casesOn (Nat.beq (Nat.land d 2) 0) (Bool.casesOn (Nat.beq (Nat.land d 1) 0) (u11 f t) (u10 f t)) (Bool.casesOn (Nat.beq (Nat.land d 1) 0) (u9 f t) (u8 f t)))) (Bool.casesOn (Nat.beq (Nat.land d 4) 0) (Bool.casesOn (Nat.beq (Nat.land d 2) 0) (Bool.casesOn (Nat.beq (Nat.land d 1) 0) (u7 f t) (u6 f t)) (Bool.casesOn (Nat.beq (Nat.land d 1) 0) (u5 f t) (u4 f t))) (Bool.casesOn (Nat.beq (Nat.land d 2) 0) (Bool.casesOn (Nat.beq (Nat.land d 1) 0) (u3 f t) (u2 f t)) (Bool.casesOn (Nat.beq (Nat.land d 1) 0) (u1 f t) (u0 f t)))))
theorem upd_eq (d : Nat) (f : α → α) (t : T16 α) : t.upd d f = t.set d (f (t.get d)) := by
  unfold upd set get
  cases t
  cases Nat.beq (Nat.land d 8) 0 <;> cases Nat.beq (Nat.land d 4) 0 <;> cases Nat.beq (Nat.land d 2) 0 <;> cases Nat.beq (Nat.land d 1) 0 <;> rfl
theorem get_all (d : Nat) (v : α) (h : d < 16) : (all v).get d = v :=
  match d, h with | 0, _ => rfl | 1, _ => rfl | 2, _ => rfl | 3, _ => rfl | 4, _ => rfl | 5, _ => rfl | 6, _ => rfl | 7, _ => rfl | 8, _ => rfl | 9, _ => rfl | 10, _ => rfl | 11, _ => rfl | 12, _ => rfl | 13, _ => rfl | 14, _ => rfl | 15, _ => rfl | n + 16, h => absurd h (by omega)
theorem go0 (v : α) (t : T16 α) (e : Nat) (h : e < 16) (hne : e ≠ 0) : (s0 v t).get e = t.get e :=
  T16.casesOn t (fun _ _ _ _ _ _ _ _ _ _ _ _ _ _ _ _ => match e, h, hne with | 0, _, hn => absurd rfl hn | 1, _, _ => rfl | 2, _, _ => rfl | 3, _, _ => rfl | 4, _, _ => rfl | 5, _, _ => rfl | 6, _, _ => rfl | 7, _, _ => rfl | 8, _, _ => rfl | 9, _, _ => rfl | 10, _, _ => rfl | 11, _, _ => rfl | 12, _, _ => rfl | 13, _, _ => rfl | 14, _, _ => rfl | 15, _, _ => rfl | n + 16, h, _ => absurd h (by omega))
theorem go1 (v : α) (t : T16 α) (e : Nat) (h : e < 16) (hne : e ≠ 1) : (s1 v t).get e = t.get e :=
  T16.casesOn t (fun _ _ _ _ _ _ _ _ _ _ _ _ _ _ _ _ => match e, h, hne with | 0, _, _ => rfl | 1, _, hn => absurd rfl hn | 2, _, _ => rfl | 3, _, _ => rfl | 4, _, _ => rfl | 5, _, _ => rfl | 6, _, _ => rfl | 7, _, _ => rfl | 8, _, _ => rfl | 9, _, _ => rfl | 10, _, _ => rfl | 11, _, _ => rfl | 12, _, _ => rfl | 13, _, _ => rfl | 14, _, _ => rfl | 15, _, _ => rfl | n + 16, h, _ => absurd h (by omega))
theorem go2 (v : α) (t : T16 α) (e : Nat) (h : e < 16) (hne : e ≠ 2) : (s2 v t).get e = t.get e :=
  T16.casesOn t (fun _ _ _ _ _ _ _ _ _ _ _ _ _ _ _ _ => match e, h, hne with | 0, _, _ => rfl | 1, _, _ => rfl | 2, _, hn => absurd rfl hn | 3, _, _ => rfl | 4, _, _ => rfl | 5, _, _ => rfl | 6, _, _ => rfl | 7, _, _ => rfl | 8, _, _ => rfl | 9, _, _ => rfl | 10, _, _ => rfl | 11, _, _ => rfl | 12, _, _ => rfl | 13, _, _ => rfl | 14, _, _ => rfl | 15, _, _ => rfl | n + 16, h, _ => absurd h (by omega))
theorem go3 (v : α) (t : T16 α) (e : Nat) (h : e < 16) (hne : e ≠ 3) : (s3 v t).get e = t.get e :=
  T16.casesOn t (fun _ _ _ _ _ _ _ _ _ _ _ _ _ _ _ _ => match e, h, hne with | 0, _, _ => rfl | 1, _, _ => rfl | 2, _, _ => rfl | 3, _, hn => absurd rfl hn | 4, _, _ => rfl | 5, _, _ => rfl | 6, _, _ => rfl | 7, _, _ => rfl | 8, _, _ => rfl | 9, _, _ => rfl | 10, _, _ => rfl | 11, _, _ => rfl | 12, _, _ => rfl | 13, _, _ => rfl | 14, _, _ => rfl | 15, _, _ => rfl | n + 16, h, _ => absurd h (by omega))
theorem go4 (v : α) (t : T16 α) (e : Nat) (h : e < 16) (hne : e ≠ 4) : (s4 v t).get e = t.get e :=
  T16.casesOn t (fun _ _ _ _ _ _ _ _ _ _ _ _ _ _ _ _ => match e, h, hne with | 0, _, _ => rfl | 1, _, _ => rfl | 2, _, _ => rfl | 3, _, _ => rfl | 4, _, hn => absurd rfl hn | 5, _, _ => rfl | 6, _, _ => rfl | 7, _, _ => rfl | 8, _, _ => rfl | 9, _, _ => rfl | 10, _, _ => rfl | 11, _, _ => rfl | 12, _, _ => rfl | 13, _, _ => rfl | 14, _, _ => rfl | 15, _, _ => rfl | n + 16, h, _ => absurd h (by omega))
theorem go5 (v : α) (t : T16 α) (e : Nat) (h : e < 16) (hne : e ≠ 5) : (s5 v t).get e = t.get e :=
  T16.casesOn t (fun _ _ _ _ _ _ _ _ _ _ _ _ _ _ _ _ => match e, h, hne with | 0, _, _ => rfl | 1, _, _ => rfl | 2, _, _ => rfl | 3, _, _ => rfl | 4, _, _ => rfl | 5, _, hn => absurd rfl hn | 6, _, _ => rfl | 7, _, _ => rfl | 8, _, _ => rfl | 9, _, _ => rfl | 10, _, _ => rfl | 11, _, _ => rfl | 12, _, _ => rfl | 13, _, _ => rfl | 14, _, _ => rfl | 15, _, _ => rfl | n + 16, h, _ => absurd h (by omega))
theorem go6 (v : α) (t : T16 α) (e : Nat) (h : e < 16) (hne : e ≠ 6) : (s6 v t).get e = t.get e :=
  T16.casesOn t (fun _ _ _ _ _ _ _ _ _ _ _ _ _ _ _ _ => match e, h, hne with | 0, _, _ => rfl | 1, _, _ => rfl | 2, _, _ => rfl | 3, _, _ => rfl | 4, _, _ => rfl | 5, _, _ => rfl | 6, _, hn => absurd rfl hn | 7, _, _ => rfl | 8, _, _ => rfl | 9, _, _ => rfl | 10, _, _ => rfl | 11, _, _ => rfl | 12, _, _ => rfl | 13, _, _ => rfl | 14, _, _ => rfl | 15, _, _ => rfl | n + 16, h, _ => absurd h (by omega))
theorem go7 (v : α) (t : T16 α) (e : Nat) (h : e < 16) (hne : e ≠ 7) : (s7 v t).get e = t.get e :=
  T16.casesOn t (fun _ _ _ _ _ _ _ _ _ _ _ _ _ _ _ _ => match e, h, hne with | 0, _, _ => rfl | 1, _, _ => rfl | 2, _, _ => rfl | 3, _, _ => rfl | 4, _, _ => rfl | 5, _, _ => rfl | 6, _, _ => rfl | 7, _, hn => absurd rfl hn | 8, _, _ => rfl | 9, _, _ => rfl | 10, _, _ => rfl | 11, _, _ => rfl | 12, _, _ => rfl | 13, _, _ => rfl | 14, _, _ => rfl | 15, _, _ => rfl | n + 16, h, _ => absurd h (by omega))
theorem go8 (v : α) (t : T16 α) (e : Nat) (h : e < 16) (hne : e ≠ 8) : (s8 v t).get e = t.get e :=
  T16.casesOn t (fun _ _ _ _ _ _ _ _ _ _ _ _ _ _ _ _ => match e, h, hne with | 0, _, _ => rfl | 1, _, _ => rfl | 2, _, _ => rfl | 3, _, _ => rfl | 4, _, _ => rfl | 5, _, _ => rfl | 6, _, _ => rfl | 7, _, _ => rfl | 8, _, hn => absurd rfl hn | 9, _, _ => rfl | 10, _, _ => rfl | 11, _, _ => rfl | 12, _, _ => rfl | 13, _, _ => rfl | 14, _, _ => rfl | 15, _, _ => rfl | n + 16, h, _ => absurd h (by omega))
theorem go9 (v : α) (t : T16 α) (e : Nat) (h : e < 16) (hne : e ≠ 9) : (s9 v t).get e = t.get e :=
  T16.casesOn t (fun _ _ _ _ _ _ _ _ _ _ _ _ _ _ _ _ => match e, h, hne with | 0, _, _ => rfl | 1, _, _ => rfl | 2, _, _ => rfl | 3, _, _ => rfl | 4, _, _ => rfl | 5, _, _ => rfl | 6, _, _ => rfl | 7, _, _ => rfl | 8, _, _ => rfl | 9, _, hn => absurd rfl hn | 10, _, _ => rfl | 11, _, _ => rfl | 12, _, _ => rfl | 13, _, _ => rfl | 14, _, _ => rfl | 15, _, _ => rfl | n + 16, h, _ => absurd h (by omega))
theorem go10 (v : α) (t : T16 α) (e : Nat) (h : e < 16) (hne : e ≠ 10) : (s10 v t).get e = t.get e :=
  T16.casesOn t (fun _ _ _ _ _ _ _ _ _ _ _ _ _ _ _ _ => match e, h, hne with | 0, _, _ => rfl | 1, _, _ => rfl | 2, _, _ => rfl | 3, _, _ => rfl | 4, _, _ => rfl | 5, _, _ => rfl | 6, _, _ => rfl | 7, _, _ => rfl | 8, _, _ => rfl | 9, _, _ => rfl | 10, _, hn => absurd rfl hn | 11, _, _ => rfl | 12, _, _ => rfl | 13, _, _ => rfl | 14, _, _ => rfl | 15, _, _ => rfl | n + 16, h, _ => absurd h (by omega))
theorem go11 (v : α) (t : T16 α) (e : Nat) (h : e < 16) (hne : e ≠ 11) : (s11 v t).get e = t.get e :=
  T16.casesOn t (fun _ _ _ _ _ _ _ _ _ _ _ _ _ _ _ _ => match e, h, hne with | 0, _, _ => rfl | 1, _, _ => rfl | 2, _, _ => rfl | 3, _, _ => rfl | 4, _, _ => rfl | 5, _, _ => rfl | 6, _, _ => rfl | 7, _, _ => rfl | 8, _, _ => rfl | 9, _, _ => rfl | 10, _, _ => rfl | 11, _, hn => absurd rfl hn | 12, _, _ => rfl | 13, _, _ => rfl | 14, _, _ => rfl | 15, _, _ => rfl | n + 16, h, _ => absurd h (by omega))
theorem go12 (v : α) (t : T16 α) (e : Nat) (h : e < 16) (hne : e ≠ 12) : (s12 v t).get e = t.get e :=
  T16.casesOn t (fun _ _ _ _ _ _ _ _ _ _ _ _ _ _ _ _ => match e, h, hne with | 0, _, _ => rfl | 1, _, _ => rfl | 2, _, _ => rfl | 3, _, _ => rfl | 4, _, _ => rfl | 5, _, _ => rfl | 6, _, _ => rfl | 7, _, _ => rfl | 8, _, _ => rfl | 9, _, _ => rfl | 10, _, _ => rfl | 11, _, _ => rfl | 12, _, hn => absurd rfl hn | 13, _, _ => rfl | 14, _, _ => rfl | 15, _, _ => rfl | n + 16, h, _ => absurd h (by omega))
theorem go13 (v : α) (t : T16 α) (e : Nat) (h : e < 16) (hne : e ≠ 13) : (s13 v t).get e = t.get e :=
  T16.casesOn t (fun _ _ _ _ _ _ _ _ _ _ _ _ _ _ _ _ => match e, h, hne with | 0, _, _ => rfl | 1, _, _ => rfl | 2, _, _ => rfl | 3, _, _ => rfl | 4, _, _ => rfl | 5, _, _ => rfl | 6, _, _ => rfl | 7, _, _ => rfl | 8, _, _ => rfl | 9, _, _ => rfl | 10, _, _ => rfl | 11, _, _ => rfl | 12, _, _ => rfl | 13, _, hn => absurd rfl hn | 14, _, _ => rfl | 15, _, _ => rfl | n + 16, h, _ => absurd h (by omega))
theorem go14 (v : α) (t : T16 α) (e : Nat) (h : e < 16) (hne : e ≠ 14) : (s14 v t).get e = t.get e :=
  T16.casesOn t (fun _ _ _ _ _ _ _ _ _ _ _ _ _ _ _ _ => match e, h, hne with | 0, _, _ => rfl | 1, _, _ => rfl | 2, _, _ => rfl | 3, _, _ => rfl | 4, _, _ => rfl | 5, _, _ => rfl | 6, _, _ => rfl | 7, _, _ => rfl | 8, _, _ => rfl | 9, _, _ => rfl | 10, _, _ => rfl | 11, _, _ => rfl | 12, _, _ => rfl | 13, _, _ => rfl | 14, _, hn => absurd rfl hn | 15, _, _ => rfl | n + 16, h, _ => absurd h (by omega))
theorem go15 (v : α) (t : T16 α) (e : Nat) (h : e < 16) (hne : e ≠ 15) : (s15 v t).get e = t.get e :=
  T16.casesOn t (fun _ _ _ _ _ _ _ _ _ _ _ _ _ _ _ _ => match e, h, hne with | 0, _, _ => rfl | 1, _, _ => rfl | 2, _, _ => rfl | 3, _, _ => rfl | 4, _, _ => rfl | 5, _, _ => rfl | 6, _, _ => rfl | 7, _, _ => rfl | 8, _, _ => rfl | 9, _, _ => rfl | 10, _, _ => rfl | 11, _, _ => rfl | 12, _, _ => rfl | 13, _, _ => rfl | 14, _, _ => rfl | 15, _, hn => absurd rfl hn | n + 16, h, _ => absurd h (by omega))
theorem get_set_other (d e : Nat) (v : α) (t : T16 α) (h : d < 16) (h' : e < 16) (hne : e ≠ d) : (t.set d v).get e = t.get e :=
  match d, h, hne with | 0, _, hn => go0 v t e h' hn | 1, _, hn => go1 v t e h' hn | 2, _, hn => go2 v t e h' hn | 3, _, hn => go3 v t e h' hn | 4, _, hn => go4 v t e h' hn | 5, _, hn => go5 v t e h' hn | 6, _, hn => go6 v t e h' hn | 7, _, hn => go7 v t e h' hn | 8, _, hn => go8 v t e h' hn | 9, _, hn => go9 v t e h' hn | 10, _, hn => go10 v t e h' hn | 11, _, hn => go11 v t e h' hn | 12, _, hn => go12 v t e h' hn | 13, _, hn => go13 v t e h' hn | 14, _, hn => go14 v t e h' hn | 15, _, hn => go15 v t e h' hn | n + 16, h, _ => absurd h (by omega)
theorem get_set_same (d : Nat) (v : α) (t : T16 α) (h : d < 16) : (t.set d v).get d = v :=
  T16.casesOn t (fun _ _ _ _ _ _ _ _ _ _ _ _ _ _ _ _ => match d, h with | 0, _ => rfl | 1, _ => rfl | 2, _ => rfl | 3, _ => rfl | 4, _ => rfl | 5, _ => rfl | 6, _ => rfl | 7, _ => rfl | 8, _ => rfl | 9, _ => rfl | 10, _ => rfl | 11, _ => rfl | 12, _ => rfl | 13, _ => rfl | 14, _ => rfl | 15, _ => rfl | n + 16, h => absurd h (by omega))
end T16
end Go.Ev

namespace Go.Ev

/-- A value: an address is (block's label, place); a text is a number in base 256, lowest place first, and its length. -/
inductive V where
  | bool (b : Bool)
  | int (k : IntKind) (n : Int)
  | str (n len : Nat)
  | nilp
  | ptr (id o : Nat)
  | nils
  | slice (id o len cap esz : Nat)
  | fn (f : Fn) (first captured : List V)
  | nilFn
  | iface (t : Nat) (v : V)
  | nilI
  | mapv (id : Nat)
  | nilm
  | cls (m r : Nat)
  | cl1 (m r : Nat)
  | cl2 (m r : Nat)
  | msk (m r : Nat)
  | agg (vs : List V)
  | tup (vs : List V)
  | any
  deriving Inhabited

/-- The bytes of a number. -/
def sdec (n : Nat) : Nat → List UInt8
  | 0 => []
  | l + 1 => UInt8.ofNat (n % 256) :: sdec (n / 256) l

def sval (n l : Nat) : ByteArray := ⟨(sdec n l).toArray⟩

/-- Where a label's block lies: the block, the shift, how many cells it has. -/
abbrev Emb := Nat → Option (Nat × Nat × Nat)

/-! The text that the law writes, as tokens: kind, letters, length. -/
abbrev Tok := Nat × Nat × Nat
def tB (t : Tok) : List UInt8 := sdec t.2.1 t.2.2
def pB (p : Bool × Tok) : List UInt8 := (if p.1 then [32] else []) ++ tB p.2
def psB (ps : List (Bool × Tok)) : List UInt8 := ps.flatMap pB
/-- A number of one digit, of two. -/
def nTok (x : Nat) : Tok := if x < 10 then (3, 48 + x, 1) else (3, 48 + x / 10 + 256 * (48 + x % 10), 2)
def pcs0 (X0 X1 X2 : Nat) : List (Bool × Tok) := [(false, (1, 111, 1)), (false, (5, 46, 1)), (false, (1, 97, 1)), (true, (5, 61, 1)), (true, (3, 48, 1)), (false, (5, 59, 1)), (true, (1, 111, 1)), (false, (5, 46, 1)), (false, (1, 98, 1)), (true, (5, 61, 1)), (true, (3, 48, 1)), (false, (5, 59, 1)), (true, (1, 111, 1)), (false, (5, 46, 1)), (false, (1, 99, 1)), (true, (5, 61, 1)), (true, (3, 48, 1)), (false, (5, 59, 1)), (true, (5, 123, 1)), (true, (2, 7628140, 3)), (true, (1, 107, 1)), (true, (5, 61, 1)), (true, (3, 49, 1)), (false, (5, 59, 1)), (true, (2, 7499622, 3)), (true, (5, 40, 1)), (false, (2, 7628140, 3)), (true, (1, 105, 1)), (true, (5, 61, 1)), (true, (3, 48, 1)), (false, (5, 59, 1)), (true, (1, 105, 1)), (true, (5, 60, 1)), (true, nTok X0), (false, (5, 59, 1)), (true, (1, 105, 1)), (false, (5, 11051, 2)), (false, (5, 41, 1)), (true, (5, 123, 1)), (true, (2, 26217, 2)), (true, (5, 40, 1)), (false, (1, 105, 1)), (true, (5, 4013373, 3)), (true, nTok X1), (false, (5, 41, 1)), (true, (2, 461195539042, 5)), (false, (5, 59, 1)), (true, (2, 26217, 2)), (true, (5, 40, 1)), (false, (1, 105, 1)), (true, (5, 4013373, 3)), (true, nTok X2)]
def pcs1 (X0 X1 X2 : Nat) : List (Bool × Tok) := [(false, (5, 41, 1)), (true, (2, 7310870969309884259, 8)), (false, (5, 59, 1)), (true, (1, 107, 1)), (true, (5, 61, 1)), (true, (1, 107, 1)), (true, (5, 42, 1)), (true, (3, 51, 1)), (true, (5, 43, 1)), (true, (1, 105, 1)), (false, (5, 59, 1)), (true, (1, 107, 1)), (true, (5, 61, 1)), (true, (1, 107, 1)), (true, (5, 37, 1)), (true, (3, 237031665713, 5)), (false, (5, 59, 1)), (true, (5, 125, 1)), (true, (1, 111, 1)), (false, (5, 46, 1)), (false, (1, 97, 1)), (true, (5, 61, 1)), (true, (1, 107, 1)), (false, (5, 59, 1)), (true, (5, 125, 1)), (true, (5, 123, 1)), (true, (2, 7628140, 3)), (true, (1, 107, 1)), (true, (5, 61, 1)), (true, (3, 49, 1)), (false, (5, 44, 1)), (true, (1, 105, 1)), (true, (5, 61, 1)), (true, (5, 45, 1)), (false, (3, 49, 1)), (false, (5, 59, 1)), (true, (2, 435610544247, 5)), (true, (5, 40, 1)), (false, (5, 11051, 2)), (false, (1, 105, 1)), (true, (5, 60, 1)), (true, nTok X0), (false, (5, 41, 1)), (true, (5, 123, 1)), (true, (2, 26217, 2)), (true, (5, 40, 1)), (false, (1, 105, 1)), (true, (5, 4013373, 3)), (true, nTok X1), (false, (5, 41, 1)), (true, (2, 461195539042, 5)), (false, (5, 59, 1))]
def pcs2 (X0 X1 X2 : Nat) : List (Bool × Tok) := [(true, (2, 26217, 2)), (true, (5, 40, 1)), (false, (1, 105, 1)), (true, (5, 4013373, 3)), (true, nTok X2), (false, (5, 41, 1)), (true, (2, 7310870969309884259, 8)), (false, (5, 59, 1)), (true, (1, 107, 1)), (true, (5, 61, 1)), (true, (1, 107, 1)), (true, (5, 42, 1)), (true, (3, 51, 1)), (true, (5, 43, 1)), (true, (1, 105, 1)), (false, (5, 59, 1)), (true, (1, 107, 1)), (true, (5, 61, 1)), (true, (1, 107, 1)), (true, (5, 37, 1)), (true, (3, 237031665713, 5)), (false, (5, 59, 1)), (true, (5, 125, 1)), (true, (1, 111, 1)), (false, (5, 46, 1)), (false, (1, 98, 1)), (true, (5, 61, 1)), (true, (1, 107, 1)), (false, (5, 59, 1)), (true, (5, 125, 1)), (true, (5, 123, 1)), (true, (2, 7628140, 3)), (true, (1, 107, 1)), (true, (5, 61, 1)), (true, (3, 49, 1)), (false, (5, 44, 1)), (true, (1, 105, 1)), (true, (5, 61, 1)), (true, (3, 48, 1)), (false, (5, 59, 1)), (true, (2, 26217, 2)), (true, (5, 40, 1)), (false, (1, 105, 1)), (true, (5, 60, 1)), (true, nTok X0), (false, (5, 41, 1)), (true, (1, 108, 1)), (false, (5, 58, 1)), (true, (2, 28516, 2)), (true, (5, 123, 1)), (true, (1, 109, 1)), (false, (5, 58, 1))]
def pcs3 (X0 X1 X2 : Nat) : List (Bool × Tok) := [(true, (5, 123, 1)), (true, (2, 26217, 2)), (true, (5, 40, 1)), (false, (1, 105, 1)), (true, (5, 4013373, 3)), (true, nTok X1), (false, (5, 41, 1)), (true, (2, 461195539042, 5)), (true, (1, 108, 1)), (false, (5, 59, 1)), (true, (2, 26217, 2)), (true, (5, 40, 1)), (false, (1, 105, 1)), (true, (5, 4013373, 3)), (true, nTok X2), (false, (5, 41, 1)), (true, (2, 461195539042, 5)), (true, (1, 109, 1)), (false, (5, 59, 1)), (true, (1, 107, 1)), (true, (5, 61, 1)), (true, (1, 107, 1)), (true, (5, 42, 1)), (true, (3, 51, 1)), (true, (5, 43, 1)), (true, (1, 105, 1)), (false, (5, 59, 1)), (true, (1, 107, 1)), (true, (5, 61, 1)), (true, (1, 107, 1)), (true, (5, 37, 1)), (true, (3, 237031665713, 5)), (false, (5, 59, 1)), (true, (5, 125, 1)), (true, (5, 125, 1)), (true, (2, 435610544247, 5)), (true, (5, 40, 1)), (false, (5, 11051, 2)), (false, (1, 105, 1)), (true, (5, 60, 1)), (true, nTok X0), (false, (5, 41, 1)), (false, (5, 59, 1)), (true, (1, 111, 1)), (false, (5, 46, 1)), (false, (1, 99, 1)), (true, (5, 61, 1)), (true, (1, 107, 1)), (false, (5, 59, 1)), (true, (5, 125, 1))]
def pcsL (X0 X1 X2 : Nat) : List (Bool × Tok) := pcs0 X0 X1 X2 ++ pcs1 X0 X1 X2 ++ pcs2 X0 X1 X2 ++ pcs3 X0 X1 X2
def srcOf (X0 X1 X2 : Nat) : ByteArray := ⟨(psB (pcsL X0 X1 X2)).toArray⟩

/-! Numbers that have names: 10, 11, 12 those of the law; labK, labI what the loops reckon with; what is known of them. -/
def labK : Nat := 40000
def labI : Nat := 40001
def kfOf (c K I : Nat) : Nat := match c with | 0 => K | 1 => 3 * K | 2 => 3 * K + I | _ => (3 * K + I) % 10007
def relW (w X I : Nat) : Prop := match w with | 0 => True | 1 => X = I | 2 => I < X | _ => X ≠ I
def litOk (l X : Nat) : Prop := match l with | 0 => X ≠ 0 ∧ X ≠ 1 ∧ X ≠ 3 | 1 => X = 0 | 2 => X = 1 | 3 => X = 3 | _ => True
def eqOk (e X Y : Nat) : Prop := match e with | 0 => True | 1 => X = Y | _ => X ≠ Y
def patOk (p X0 X1 X2 : Nat) : Prop := (litOk (p % 5) X0 ∧ litOk (p / 5 % 5) X1 ∧ litOk (p / 25 % 5) X2) ∧ eqOk (p / 125 % 3) X0 X1 ∧ eqOk (p / 375 % 3) X0 X2 ∧ eqOk (p / 1125 % 3) X1 X2
def selX (j X0 X1 X2 : Nat) : Nat := match j with | 0 => X0 | 1 => X1 | _ => X2
/-- What the loops come to: so many rounds left, the count, the number. -/
def wantGo (stop skip : Nat) : Nat → Nat → Nat → Nat
  | 0, _, k => k
  | m + 1, i, k => if i = stop then k else wantGo stop skip m (i + 1) (if i = skip then k else (3 * k + i) % 10007)
def wantOf (X0 X1 X2 : Nat) : Nat := wantGo X1 X2 X0 0 1
def KfOk (r : Emb) (c : Nat) (n : Int) : Prop := ∃ K I, r labK = some (K, 0, 0) ∧ r labI = some (I, 0, 0) ∧ 1 ≤ K ∧ K ≤ 10006 ∧ I ≤ 39 ∧ 1 ≤ (3 * K + I) % 10007 ∧ n = kfOf c K I
def NwOk (r : Emb) (j w : Nat) (n : Int) : Prop := ∃ X I, r (10 + j) = some (X, 0, 0) ∧ r labI = some (I, 0, 0) ∧ X ≤ 39 ∧ I ≤ 39 ∧ relW w X I ∧ n = X
def NpOk (r : Emb) (p : Nat) (q : Nat → Nat → Nat → Prop) : Prop := ∃ X0 X1 X2, r 10 = some (X0, 0, 0) ∧ r 11 = some (X1, 0, 0) ∧ r 12 = some (X2, 0, 0) ∧ (X0 ≤ 29 ∧ r 13 = some (wantOf X0 X1 X2, 0, 0)) ∧ X1 ≤ 39 ∧ X2 ≤ 39 ∧ patOk p X0 X1 X2 ∧ q X0 X1 X2
def wLab (c : Nat) : Nat := match c with | 12 => 13 | 13 => labK | 14 => 14 | _ => 15
def NamOk (r : Emb) (c : Nat) (n : Int) : Prop :=
  (c < 12 ∧ KfOk r (c - 8) n) ∨ (16 ≤ c ∧ c < 28 ∧ NwOk r ((c - 16) / 4) ((c - 16) % 4) n) ∨ (32 ≤ c ∧ c % 4 < 3 ∧ NpOk r ((c - 32) / 4) fun X0 X1 X2 => n = (selX (c % 4) X0 X1 X2 : Nat)) ∨ ((12 ≤ c ∧ c < 16) ∧ ∃ W, r (wLab c) = some (W, 0, 0) ∧ W ≤ 10006 ∧ n = (W : Nat))
def SrcOk (r : Emb) (c : Nat) (s : ByteArray) : Prop := 32 ≤ c ∧ c % 4 = 3 ∧ NpOk r ((c - 32) / 4) fun X0 X1 X2 => s = srcOf X0 X1 X2
theorem NpOk.up {r r' : Emb} (hr : ∀ id x, r id = some x → r' id = some x) {p : Nat} {q : Nat → Nat → Nat → Prop} (h : NpOk r p q) : NpOk r' p q := by
  obtain ⟨X0, X1, X2, h0, h1, h2, ⟨h3, h5⟩, h4⟩ := h
  exact ⟨X0, X1, X2, hr _ _ h0, hr _ _ h1, hr _ _ h2, ⟨h3, hr _ _ h5⟩, h4⟩
theorem NamOk.up {r r' : Emb} (hr : ∀ id x, r id = some x → r' id = some x) {c : Nat} {n : Int} (h : NamOk r c n) : NamOk r' c n := by
  rcases h with ⟨h, K, I, h0, h1, h2⟩ | ⟨h, h', X, I, h0, h1, h2⟩ | ⟨h, h', h0⟩ | ⟨h, W, h0, h1⟩
  · exact .inl ⟨h, K, I, hr _ _ h0, hr _ _ h1, h2⟩
  · exact .inr (.inl ⟨h, h', X, I, hr _ _ h0, hr _ _ h1, h2⟩)
  · exact .inr (.inr (.inl ⟨h, h', h0.up hr⟩))
  · exact .inr (.inr (.inr ⟨h, W, hr _ _ h0, h1⟩))
theorem SrcOk.up {r r' : Emb} (hr : ∀ id x, r id = some x → r' id = some x) {c : Nat} {s : ByteArray} (h : SrcOk r c s) : SrcOk r' c s := ⟨h.1, h.2.1, h.2.2.up hr⟩
/-- Where an element of a row lies that is found at a number which has a name. -/
def SatOk (r : Emb) (L id b o z : Nat) : Prop := ∀ j, j < 10 → ∃ x m, r (L + j) = some (b, o + x * 3, m) ∧ r (id + j) = some (x, 0, 0) ∧ x < z
theorem SatOk.up {r r' : Emb} (hr : ∀ id x, r id = some x → r' id = some x) {L id b o z : Nat} (h : SatOk r L id b o z) : SatOk r' L id b o z := fun j hj => by
  obtain ⟨x, m, h1, h2, h3⟩ := h j hj
  exact ⟨x, m, hr _ _ h1, hr _ _ h2, h3⟩

/-- A range's own function. -/
def isYield (f : Fn) : Bool := match f with | .yield _ => true | _ => false

/-- The type of strings.Builder: no slice of such is appended to. -/
def bldT : TypeId := 138

/-- The labels under which two numbers that are not known lie: no block's. -/
def symA : Nat := 4294967291
def symB : Nat := 4294967290
/-- The one, the other, their sum. -/
def linOf (code x y : Nat) : Int := match code with | 1 => (x : Int) - 999 | 2 => (y : Int) - 999 | 3 => ((x : Int) - 999) + ((y : Int) - 999) | _ => 0

/-- The label of a number of one kind of which nothing is known. -/
def kq (k : IntKind) : Nat := 64 * (match k with | .i8 => 1 | .i16 => 2 | .i32 => 3 | .i64 => 4 | .u8 => 5 | .u16 => 6 | .u32 => 7 | .u64 => 8) + 60
theorem kq_mod (k : IntKind) : kq k % 64 = 60 ∧ 64 ≤ kq k := by cases k <;> decide
theorem kq_inj {k k' : IntKind} (h : kq k = kq k') : k = k' := by cases k <;> cases k' <;> first | rfl | (simp [kq] at h)

/-! Numbers of which bounds are known: a name's label (0: none), bounds apart from the name's number (1073741824 stands for 0), bounds. -/
def sId (q : Nat) : Nat := Nat.mod q 65536
def sC (q : Nat) : Nat := Nat.mod (Nat.div q 65536) 4294967296
def sD (q : Nat) : Nat := Nat.mod (Nat.div q 281474976710656) 4294967296
def sLo (q : Nat) : Nat := Nat.mod (Nat.div q 1208925819614629174706176) 4294967296
def sHi (q : Nat) : Nat := Nat.div q 5192296858534827628530496329220096
def sPack (id c d lo hi : Nat) : Nat := Nat.add id (Nat.add (Nat.mul c 65536) (Nat.add (Nat.mul d 281474976710656) (Nat.add (Nat.mul lo 1208925819614629174706176) (Nat.mul hi 5192296858534827628530496329220096))))
theorem sPack_id {id c d lo hi : Nat} (h : id < 65536) : sId (sPack id c d lo hi) = id := by
  show (id + (c * 65536 + (d * 281474976710656 + (lo * 1208925819614629174706176 + hi * 5192296858534827628530496329220096)))) % 65536 = id
  omega
theorem sPack_c {id c d lo hi : Nat} (h : id < 65536) (hc : c < 4294967296) : sC (sPack id c d lo hi) = c := by
  show (id + (c * 65536 + (d * 281474976710656 + (lo * 1208925819614629174706176 + hi * 5192296858534827628530496329220096)))) / 65536 % 4294967296 = c
  omega
theorem sPack_d {id c d lo hi : Nat} (h : id < 65536) (hc : c < 4294967296) (hd : d < 4294967296) : sD (sPack id c d lo hi) = d := by
  show (id + (c * 65536 + (d * 281474976710656 + (lo * 1208925819614629174706176 + hi * 5192296858534827628530496329220096)))) / 281474976710656 % 4294967296 = d
  omega
theorem sPack_lo {id c d lo hi : Nat} (h : id < 65536) (hc : c < 4294967296) (hd : d < 4294967296) (hl : lo < 4294967296) : sLo (sPack id c d lo hi) = lo := by
  show (id + (c * 65536 + (d * 281474976710656 + (lo * 1208925819614629174706176 + hi * 5192296858534827628530496329220096)))) / 1208925819614629174706176 % 4294967296 = lo
  omega
theorem sPack_hi {id c d lo hi : Nat} (h : id < 65536) (hc : c < 4294967296) (hd : d < 4294967296) (hl : lo < 4294967296) : sHi (sPack id c d lo hi) = hi := by
  show (id + (c * 65536 + (d * 281474976710656 + (lo * 1208925819614629174706176 + hi * 5192296858534827628530496329220096)))) / 5192296858534827628530496329220096 = hi
  omega
def SNum (r : Emb) (q : Nat) (n : Int) : Prop :=
  (sLo q : Int) ≤ n ∧ n ≤ (sHi q : Int) ∧ (sId q = 0 ∨ ∃ x y z, r (sId q) = some (x, y, z) ∧ (x : Int) - y + sC q - 1073741824 ≤ n ∧ n ≤ (x : Int) - y + sD q - 1073741824)
theorem SNum.up {r r' : Emb} (hr : ∀ id x, r id = some x → r' id = some x) {q : Nat} {n : Int} (h : SNum r q n) : SNum r' q n :=
  ⟨h.1, h.2.1, h.2.2.imp id fun ⟨x, y, z, g, k⟩ => ⟨x, y, z, hr _ _ g, k⟩⟩

mutual
inductive VRel (r : Emb) : V → Value → Prop where
  | bool (b : Bool) : VRel r (.bool b) (.bool b)
  | int (k : IntKind) (n : Int) : VRel r (.int k n) (.int k n)
  | str {n l : Nat} (h : n < 256 ^ l) : VRel r (.str n l) (.string (sval n l))
  | nilp : VRel r .nilp (.pointer none)
  | ptr {id o b sh c : Nat} (h : r id = some (b, sh, c)) : VRel r (.ptr id o) (.pointer (some ⟨b, o + sh, none⟩))
  | nils : VRel r .nils (.slice none 0 0)
  | slice {id o len cap esz b sh c cap' : Nat} (h : r id = some (b, sh, c)) (h1 : len ≤ cap) (h2 : cap ≤ cap') (h3 : o + sh + cap' * esz ≤ c) :
      VRel r (.slice id o len cap esz) (.slice (some ⟨b, o + sh, none⟩) len cap')
  | slice0 {id o esz b sh c off cap' : Nat} (h : r id = some (b, sh, c)) (h3 : off + cap' * esz ≤ c) : VRel r (.slice id o 0 0 esz) (.slice (some ⟨b, off, none⟩) 0 cap')
  | fn {f : Fn} {vs ws : List V} {xs ys : Array Value} (hf : isYield f = false) (h1 : VsRel r vs xs.toList) (h2 : VsRel r ws ys.toList) : VRel r (.fn f vs ws) (.func f xs ys)
  | yld {id b sh c : Nat} (h : r id = some (b, sh, c)) : VRel r (.fn (.yield id) [] []) (.func (.yield b) #[] #[])
  | nilFn : VRel r .nilFn .nilFunc
  | iface {t : Nat} {v : V} {x : Value} (h : VRel r v x) : VRel r (.iface t v) (.iface t x)
  | nilI : VRel r .nilI .nilIface
  | mapv {id b sh c : Nat} (h : r id = some (b, sh, c)) : VRel r (.mapv id) (.map (some b))
  | nilm : VRel r .nilm (.map none)
  | cls {m q : Nat} {n : Int} (hm : 0 < m) (h : (n.tmod m + m).tmod m = q) : VRel r (.cls m q) (.int .i64 n)
  | nint {id x y z : Nat} (h : r id = some (x, y, z)) : VRel r (.cls 0 (8 * id)) (.int .i64 ((x : Int) - y))
  | nstr {id x y z : Nat} (h : r id = some (x, y, z)) (hx : x < 256 ^ y) : VRel r (.cls 0 (8 * id + 1)) (.string (sval x y))
  | nkind {id x y z : Nat} (h : r id = some (x, y, z)) (hx : x ≤ 7) : VRel r (.cls 0 (8 * id + 2)) (.int .i64 x)
  | nshort {id x y c z cap : Nat} {a : Option Addr} (h : r id = some (x, y, c)) (hz : z ≤ 50) (ha : (a = some ⟨x, y, none⟩ ∧ y + cap ≤ c ∧ z ≤ cap) ∨ (z = 0 ∧ cap = 0)) : VRel r (.cls 0 (8 * id + 3)) (.slice a z cap)
  | nlong {id x y z cap : Nat} {a : Option Addr} (h : r id = some (x, y, z)) (hz : 50 < z) : VRel r (.cls 0 (8 * id + 4)) (.slice a z cap)
  | nle {n : Nat} (hn : n ≤ 50) : VRel r (.cls 0 5) (.int .i64 n)
  | ngt {n : Nat} (hn : 50 < n) : VRel r (.cls 0 6) (.int .i64 n)
  | cl1 {m q : Nat} {n : Int} (h1 : -(m : Int) < n) (h2 : n < m) (h : (n + m).tmod m = q) : VRel r (.cl1 m q) (.int .i64 n)
  | syma {n : Int} {x y : Nat} (h : r symA = some (x, 0, 0)) (h' : r symB = some (y, 0, 0)) (hx : x ≤ 1998) (hy : y ≤ 1998) (hn : n.tmod 1000 = (x : Int) - 999) : VRel r (.cl1 0 5) (.int .i64 n)
  | symb {n : Int} {x y : Nat} (h : r symA = some (x, 0, 0)) (h' : r symB = some (y, 0, 0)) (hx : x ≤ 1998) (hy : y ≤ 1998) (hn : n.tmod 1000 = (y : Int) - 999) : VRel r (.cl1 0 6) (.int .i64 n)
  | lin {code x y : Nat} (hc : code < 4) (h : r symA = some (x, 0, 0)) (h' : r symB = some (y, 0, 0)) (hx : x ≤ 1998) (hy : y ≤ 1998) : VRel r (.cl1 0 code) (.int .i64 (linOf code x y))
  | nam {c : Nat} {n : Int} (hc : 8 ≤ c) (h : NamOk r c n) : VRel r (.cl1 0 c) (.int .i64 n)
  | nsrc {c : Nat} {s : ByteArray} (hc : 8 ≤ c) (h : SrcOk r c s) : VRel r (.cl1 0 c) (.string s)
  | cl2 {m q : Nat} {n : Int} (hm : 0 < m) (h : n.tmod m = q) : VRel r (.cl2 m q) (.int .i64 n)
  | lslice {L j b o z cap m : Nat} (hL : 0 < L) (h : r L = some (b, o, m)) (hj : j < z) (hz : z ≤ 60) (hj6 : j < 60) : VRel r (.cl2 0 (64 * L + j)) (.slice (some ⟨b, o, none⟩) z cap)
  | llen {j z : Nat} (hj : j < z) (hz : z ≤ 60) (hj6 : j < 60) : VRel r (.cl2 0 j) (.int .i64 z)
  | lbig {z cap : Nat} {a : Option Addr} (hz : 60 < z) : VRel r (.cl2 0 61) (.slice a z cap)
  | lbigl {z : Nat} (hz : 60 < z) : VRel r (.cl2 0 62) (.int .i64 z)
  | lvoid {a : Option Addr} : VRel r (.cl2 0 60) (.slice a 0 0)
  | uint {k : IntKind} {n : Int} (hn : k = .u8 → 0 ≤ n ∧ n < 256) : VRel r (.cl2 0 (kq k)) (.int k n)
  | ustr (s : ByteArray) : VRel r (.cl2 0 63) (.string s)
  | sym {q : Nat} {n : Int} (h : SNum r q n) : VRel r (.msk 0 (4 * q + 1)) (.int .i64 n)
  | ssl {L e q b o z cap m : Nat} (hL : L < 65536) (he : e < 16) (hr : r L = some (b, o, m)) (hz : SNum r q (z : Int)) (hc : z ≤ cap ∧ 0 < cap) (hm : o + cap * e ≤ m) : VRel r (.msk 0 (4 * (L + 65536 * (e + 16 * q)) + 2)) (.slice (some ⟨b, o, none⟩) z cap)
  | sat {L id iz b o z cap c0 : Nat} (hL : L < 65536) (hid : id < 65536) (hj : SatOk r L id b o z) (hz : r iz = some (z, c0, 0)) : VRel r (.msk 0 (4 * (L + 65536 * (id + 65536 * iz)) + 3)) (.slice (some ⟨b, o, none⟩) z cap)
  | snx {id id2 x y : Nat} (hid : id < 65536) (h : r id = some (x, 0, 0)) (h2 : r id2 = some (y, 0, 0)) (hlt : y < x) : VRel r (.msk 0 (4 * (id + 65536 * id2))) (.int .i64 x)
  | msk {m q : Nat} {n : Int} (hm : 0 < m) (h : IntKind.i64.wrap (BitVec.ofInt 64 n &&& BitVec.ofInt 64 m).toNat = q) : VRel r (.msk m q) (.int .i64 n)
  | agg {vs : List V} {xs : Array Value} (h : VsRel r vs xs.toList) : VRel r (.agg vs) (.agg xs)
  | tup {vs : List V} {xs : Array Value} (h : VsRel r vs xs.toList) : VRel r (.tup vs) (.tuple xs)
  | any (x : Value) : VRel r .any x
inductive VsRel (r : Emb) : List V → List Value → Prop where
  | nil : VsRel r [] []
  | cons {v : V} {x : Value} {vs : List V} {xs : List Value} (h : VRel r v x) (hs : VsRel r vs xs) : VsRel r (v :: vs) (x :: xs)
end

def Emb.le (r r' : Emb) : Prop := ∀ id x, r id = some x → r' id = some x
theorem Emb.le_refl (r : Emb) : r.le r := fun _ _ h => h
theorem Emb.le_trans {r r' r'' : Emb} (h : r.le r') (h' : r'.le r'') : r.le r'' := fun _ _ e => h' _ _ (h _ _ e)

mutual
theorem VRel.up {r r' : Emb} (hr : r.le r') {v : V} {x : Value} (h : VRel r v x) : VRel r' v x := by
  cases h with
  | bool b => exact .bool b
  | int k n => exact .int k n
  | str h => exact .str h
  | nilp => exact .nilp
  | ptr h => exact .ptr (hr _ _ h)
  | nils => exact .nils
  | slice h h1 h2 h3 => exact .slice (hr _ _ h) h1 h2 h3
  | slice0 h h3 => exact .slice0 (hr _ _ h) h3
  | fn hf h1 h2 => exact .fn hf (VsRel.up hr h1) (VsRel.up hr h2)
  | yld h => exact .yld (hr _ _ h)
  | nilFn => exact .nilFn
  | iface h => exact .iface (VRel.up hr h)
  | nilI => exact .nilI
  | mapv h => exact .mapv (hr _ _ h)
  | nilm => exact .nilm
  | cls hm h => exact .cls hm h
  | nint h => exact .nint (hr _ _ h)
  | nstr h hx => exact .nstr (hr _ _ h) hx
  | nkind h hx => exact .nkind (hr _ _ h) hx
  | nshort h hz ha => exact .nshort (hr _ _ h) hz ha
  | nlong h hz => exact .nlong (hr _ _ h) hz
  | nle hn => exact .nle hn
  | ngt hn => exact .ngt hn
  | cl1 h1 h2 h => exact .cl1 h1 h2 h
  | syma h h' hx hy hn => exact .syma (hr _ _ h) (hr _ _ h') hx hy hn
  | symb h h' hx hy hn => exact .symb (hr _ _ h) (hr _ _ h') hx hy hn
  | lin hc h h' hx hy => exact .lin hc (hr _ _ h) (hr _ _ h') hx hy
  | cl2 hm h => exact .cl2 hm h
  | lslice hL h hj hz hj6 => exact .lslice hL (hr _ _ h) hj hz hj6
  | llen hj hz hj6 => exact .llen hj hz hj6
  | lbig hz => exact .lbig hz
  | lbigl hz => exact .lbigl hz
  | lvoid => exact .lvoid
  | uint hn => exact .uint hn
  | ustr s => exact .ustr s
  | sym h => exact .sym (h.up hr)
  | ssl hL he h hz hc hm => exact .ssl hL he (hr _ _ h) (hz.up hr) hc hm
  | sat hL hid hj hz => exact .sat hL hid (hj.up hr) (hr _ _ hz)
  | nam hc h => exact .nam hc (h.up hr)
  | nsrc hc h => exact .nsrc hc (h.up hr)
  | snx hid h h2 hlt => exact .snx hid (hr _ _ h) (hr _ _ h2) hlt
  | msk hm h => exact .msk hm h
  | agg h => exact .agg (VsRel.up hr h)
  | tup h => exact .tup (VsRel.up hr h)
  | any x => exact .any x
theorem VsRel.up {r r' : Emb} (hr : r.le r') {vs : List V} {xs : List Value} (h : VsRel r vs xs) : VsRel r' vs xs := by
  cases h with
  | nil => exact .nil
  | cons h hs => exact .cons (VRel.up hr h) (VsRel.up hr hs)
end

theorem linOf_bound (code : Nat) {x y : Nat} (hx : x ≤ 1998) (hy : y ≤ 1998) : -1998 ≤ linOf code x y ∧ linOf code x y ≤ 1998 := by
  unfold linOf
  split <;> omega

theorem VsRel.length {r : Emb} {vs : List V} {xs : List Value} (h : VsRel r vs xs) : vs.length = xs.length := by
  induction vs generalizing xs with
  | nil => cases h; rfl
  | cons v vs ih => cases h with | cons h hs => simp [ih hs]

theorem VsRel.get {r : Emb} {vs : List V} {xs : List Value} (h : VsRel r vs xs) (i : Nat) {v : V} (hv : vs[i]? = some v) : ∃ x, xs[i]? = some x ∧ VRel r v x := by
  induction vs generalizing xs i with
  | nil => simp at hv
  | cons v' vs ih =>
    cases h with
    | cons h hs =>
      cases i with
      | zero => simp at hv; subst hv; exact ⟨_, rfl, h⟩
      | succ i => simpa using ih hs i (by simpa using hv)

theorem VsRel.append {r : Emb} {vs ws : List V} {xs ys : List Value} (h : VsRel r vs xs) (h' : VsRel r ws ys) : VsRel r (vs ++ ws) (xs ++ ys) := by
  induction vs generalizing xs with
  | nil => cases h; exact h'
  | cons v vs ih => cases h with | cons h hs => exact .cons h (ih hs)

/-! Memory -/

inductive Cells where
  | c1 (t : T16 V)
  | c2 (t : T16 (T16 V))
  | c3 (t : T16 (T16 (T16 V)))

inductive Blk where
  | dead
  | live (n : Nat) (t : TypeId) (ro plain : Bool) (c : Cells)
  | mapb (es : List (V × V))
  | loopb (st mask : Nat) (f : T16 (T16 (T16 V))) (ps : List Tmp) (assign body : Code)
  | u16b (k : Nat)

def z1 : T16 V := T16.all .any
def z2 : T16 (T16 V) := T16.all z1
def z3 : T16 (T16 (T16 V)) := T16.all z2

def Cells.get (o : Nat) (c : Cells) : V :=
  Cells.casesOn c (fun t => t.get o) (fun t => (t.get (Nat.div o 16)).get (Nat.mod o 16)) (fun t => ((t.get (Nat.div o 256)).get (Nat.mod (Nat.div o 16) 16)).get (Nat.mod o 16))
def Cells.set (o : Nat) (v : V) (c : Cells) : Cells :=
  Cells.casesOn c (fun t => .c1 (t.set o v)) (fun t => .c2 (t.set (Nat.div o 16) ((t.get (Nat.div o 16)).set (Nat.mod o 16) v)))
    (fun t => .c3 (t.set (Nat.div o 256) ((t.get (Nat.div o 256)).set (Nat.mod (Nat.div o 16) 16) (((t.get (Nat.div o 256)).get (Nat.mod (Nat.div o 16) 16)).set (Nat.mod o 16) v))))
/-- How many places there are. -/
def Cells.room (c : Cells) : Nat := Cells.casesOn c (fun _ => 16) (fun _ => 256) (fun _ => 4096)
/-- More places. -/
def Cells.grow (c : Cells) : Cells := Cells.casesOn c (fun t => .c2 (z2.s0 t)) (fun t => .c3 (z3.s0 t)) (fun t => .c3 t)

abbrev Mem := T16 (T16 (T16 (T16 Blk)))
def m1 : T16 Blk := T16.all .dead
def m2 : T16 (T16 Blk) := T16.all m1
def m3 : T16 (T16 (T16 Blk)) := T16.all m2
def m4 : Mem := T16.all m3
def Mem.blk (i : Nat) (m : Mem) : Blk := (((m.get (Nat.div i 4096)).get (Nat.mod (Nat.div i 256) 16)).get (Nat.mod (Nat.div i 16) 16)).get (Nat.mod i 16)
def Mem.put (i : Nat) (b : Blk) (m : Mem) : Mem :=
  T16.upd (Nat.div i 4096) (T16.upd (Nat.mod (Nat.div i 256) 16) (T16.upd (Nat.mod (Nat.div i 16) 16) (T16.set (Nat.mod i 16) b))) m
theorem Mem.put_old (i : Nat) (b : Blk) (m : Mem) : m.put i b =
  m.set (Nat.div i 4096) ((m.get (Nat.div i 4096)).set (Nat.mod (Nat.div i 256) 16)
    (((m.get (Nat.div i 4096)).get (Nat.mod (Nat.div i 256) 16)).set (Nat.mod (Nat.div i 16) 16)
      ((((m.get (Nat.div i 4096)).get (Nat.mod (Nat.div i 256) 16)).get (Nat.mod (Nat.div i 16) 16)).set (Nat.mod i 16) b))) := by
  unfold Mem.put
  simp only [T16.upd_eq]

theorem Mem.blk_put_same (i : Nat) (b : Blk) (m : Mem) (h : i < 65536) : (m.put i b).blk i = b := by
  rw [Mem.put_old]
  unfold Mem.blk
  have h1 : Nat.div i 4096 < 16 := by show i / 4096 < 16; omega
  have h2 : Nat.mod (Nat.div i 256) 16 < 16 := Nat.mod_lt _ (by omega)
  have h3 : Nat.mod (Nat.div i 16) 16 < 16 := Nat.mod_lt _ (by omega)
  have h4 : Nat.mod i 16 < 16 := Nat.mod_lt _ (by omega)
  rw [T16.get_set_same _ _ _ h1, T16.get_set_same _ _ _ h2, T16.get_set_same _ _ _ h3, T16.get_set_same _ _ _ h4]

theorem Mem.blk_put_other (i j : Nat) (b : Blk) (m : Mem) (h : i < 65536) (hj : j < 65536) (hne : j ≠ i) : (m.put i b).blk j = m.blk j := by
  rw [Mem.put_old]
  unfold Mem.blk
  have h1 : Nat.div i 4096 < 16 := by show i / 4096 < 16; omega
  have h2 : Nat.mod (Nat.div i 256) 16 < 16 := Nat.mod_lt _ (by omega)
  have h3 : Nat.mod (Nat.div i 16) 16 < 16 := Nat.mod_lt _ (by omega)
  have h4 : Nat.mod i 16 < 16 := Nat.mod_lt _ (by omega)
  have k1 : Nat.div j 4096 < 16 := by show j / 4096 < 16; omega
  have k2 : Nat.mod (Nat.div j 256) 16 < 16 := Nat.mod_lt _ (by omega)
  have k3 : Nat.mod (Nat.div j 16) 16 < 16 := Nat.mod_lt _ (by omega)
  have k4 : Nat.mod j 16 < 16 := Nat.mod_lt _ (by omega)
  by_cases e1 : Nat.div j 4096 = Nat.div i 4096
  · rw [e1, T16.get_set_same _ _ _ h1]
    by_cases e2 : Nat.mod (Nat.div j 256) 16 = Nat.mod (Nat.div i 256) 16
    · rw [e2, T16.get_set_same _ _ _ h2]
      by_cases e3 : Nat.mod (Nat.div j 16) 16 = Nat.mod (Nat.div i 16) 16
      · rw [e3, T16.get_set_same _ _ _ h3, T16.get_set_other _ _ _ _ h4 k4]
        intro e4
        have e1' : j / 4096 = i / 4096 := e1
        have e2' : j / 256 % 16 = i / 256 % 16 := e2
        have e3' : j / 16 % 16 = i / 16 % 16 := e3
        have e4' : j % 16 = i % 16 := e4
        omega
      · rw [T16.get_set_other _ _ _ _ h3 k3 e3]
    · rw [T16.get_set_other _ _ _ _ h2 k2 e2]
  · rw [T16.get_set_other _ _ _ _ h1 k1 e1]

theorem Cells.get_set_same (o : Nat) (v : V) (c : Cells) (h : o < c.room) : (c.set o v).get o = v := by
  cases c with
  | c1 t => exact T16.get_set_same _ _ _ h
  | c2 t =>
    have h' : o < 256 := h
    have h1 : Nat.div o 16 < 16 := by show o / 16 < 16; omega
    have h2 : Nat.mod o 16 < 16 := Nat.mod_lt _ (by omega)
    show ((t.set _ _).get _).get _ = v
    rw [T16.get_set_same _ _ _ h1, T16.get_set_same _ _ _ h2]
  | c3 t =>
    have h' : o < 4096 := h
    have h1 : Nat.div o 256 < 16 := by show o / 256 < 16; omega
    have h2 : Nat.mod (Nat.div o 16) 16 < 16 := Nat.mod_lt _ (by omega)
    have h3 : Nat.mod o 16 < 16 := Nat.mod_lt _ (by omega)
    show (((t.set _ _).get _).get _).get _ = v
    rw [T16.get_set_same _ _ _ h1, T16.get_set_same _ _ _ h2, T16.get_set_same _ _ _ h3]

theorem Cells.get_set_other (o p : Nat) (v : V) (c : Cells) (h : o < c.room) (hp : p < c.room) (hne : p ≠ o) : (c.set o v).get p = c.get p := by
  cases c with
  | c1 t => exact T16.get_set_other _ _ _ _ h hp hne
  | c2 t =>
    have h' : o < 256 := h
    have hp' : p < 256 := hp
    have h1 : Nat.div o 16 < 16 := by show o / 16 < 16; omega
    have h2 : Nat.mod o 16 < 16 := Nat.mod_lt _ (by omega)
    have k1 : Nat.div p 16 < 16 := by show p / 16 < 16; omega
    have k2 : Nat.mod p 16 < 16 := Nat.mod_lt _ (by omega)
    show ((t.set _ _).get _).get _ = (t.get _).get _
    by_cases e1 : Nat.div p 16 = Nat.div o 16
    · rw [e1, T16.get_set_same _ _ _ h1, T16.get_set_other _ _ _ _ h2 k2]
      intro e2
      have e1' : p / 16 = o / 16 := e1
      have e2' : p % 16 = o % 16 := e2
      omega
    · rw [T16.get_set_other _ _ _ _ h1 k1 e1]
  | c3 t =>
    have h' : o < 4096 := h
    have hp' : p < 4096 := hp
    have h1 : Nat.div o 256 < 16 := by show o / 256 < 16; omega
    have h2 : Nat.mod (Nat.div o 16) 16 < 16 := Nat.mod_lt _ (by omega)
    have h3 : Nat.mod o 16 < 16 := Nat.mod_lt _ (by omega)
    have k1 : Nat.div p 256 < 16 := by show p / 256 < 16; omega
    have k2 : Nat.mod (Nat.div p 16) 16 < 16 := Nat.mod_lt _ (by omega)
    have k3 : Nat.mod p 16 < 16 := Nat.mod_lt _ (by omega)
    show (((t.set _ _).get _).get _).get _ = ((t.get _).get _).get _
    by_cases e1 : Nat.div p 256 = Nat.div o 256
    · rw [e1, T16.get_set_same _ _ _ h1]
      by_cases e2 : Nat.mod (Nat.div p 16) 16 = Nat.mod (Nat.div o 16) 16
      · rw [e2, T16.get_set_same _ _ _ h2, T16.get_set_other _ _ _ _ h3 k3]
        intro e3
        have e1' : p / 256 = o / 256 := e1
        have e2' : p / 16 % 16 = o / 16 % 16 := e2
        have e3' : p % 16 = o % 16 := e3
        omega
      · rw [T16.get_set_other _ _ _ _ h2 k2 e2]
    · rw [T16.get_set_other _ _ _ _ h1 k1 e1]

theorem Cells.room_set (o : Nat) (v : V) (c : Cells) : (c.set o v).room = c.room := by cases c <;> rfl

theorem z2_get (d : Nat) (h : d < 16) : z2.get d = z1 := T16.get_all d _ h
theorem Cells.get_grow (o : Nat) (c : Cells) (h : o < c.room) : c.grow.get o = c.get o := by
  cases c with
  | c1 t =>
    have h' : o < 16 := h
    have e : Nat.div o 16 = 0 := by show o / 16 = 0; omega
    have e' : Nat.mod o 16 = o := by show o % 16 = o; omega
    show ((z2.s0 t).get _).get _ = t.get o
    rw [e, e']; rfl
  | c2 t =>
    have h' : o < 256 := h
    have e : Nat.div o 256 = 0 := by show o / 256 = 0; omega
    have e' : Nat.mod (Nat.div o 16) 16 = Nat.div o 16 := by show o / 16 % 16 = o / 16; omega
    show (((z3.s0 t).get _).get _).get _ = (t.get _).get _
    rw [e, e']; rfl
  | c3 t => rfl
theorem Cells.room_grow (c : Cells) : c.room ≤ c.grow.room := by cases c <;> simp [Cells.grow, Cells.room]

/-! Frames, and what is asked of code. -/
abbrev Fr := T16 (T16 (T16 V))
def fget (f : Fr) (t : Nat) : V := bif Nat.blt t 4096 then ((f.get (Nat.div t 256)).get (Nat.mod (Nat.div t 16) 16)).get (Nat.mod t 16) else .any
def fset (f : Fr) (t : Nat) (v : V) : Fr := bif Nat.blt t 4096 then f.set (Nat.div t 256) ((f.get (Nat.div t 256)).set (Nat.mod (Nat.div t 16) 16) (((f.get (Nat.div t 256)).get (Nat.mod (Nat.div t 16) 16)).set (Nat.mod t 16) v)) else f
def kept (mask t : Nat) : Bool := Nat.beq (Nat.land (Nat.shiftRight mask t) 1) 1
/-- What is not kept is not known. -/
def Dim (mask : Nat) (f : Fr) : Prop := ∀ t, kept mask t = false → fget f t = .any
/-- Each slot that is written is there. -/
def opOk (n : Nat) (o : Oper) : Bool := match o.dst with | some d => Nat.blt d n | none => true
/-- Each slot that code writes is there. -/
def codeOk (n : Nat) : Code → Bool
  | .region _ ops _ => ops.toList.all (opOk n)
  | .seq a b => codeOk n a && codeOk n b
  | .cond _ a b => codeOk n a && codeOk n b
  | .block _ c => codeOk n c
  | .loop c => codeOk n c
  | .rangeFunc _ ps a b => (codeOk n a && codeOk n b) && ps.toList.all (fun t => Nat.blt t n)
  | .scope c => codeOk n c
  | _ => true
/-- Is an operation no defer? -/
def opNd (o : Oper) : Bool := match o.op with | .defer _ => false | _ => true
/-- Code without defers and without ranges over functions. -/
def noDef : Code → Bool
  | .region _ ops _ => ops.toList.all opNd
  | .seq a b => noDef a && noDef b
  | .cond _ a b => noDef a && noDef b
  | .block _ c => noDef c
  | .loop c => noDef c
  | .scope _ => false
  | .rangeFunc _ _ _ _ => false
  | _ => true
/-- What a round left: nothing, a return, an exit. -/
def pendOf : Nat → Option Code
  | 0 => none
  | 1 => some .ret
  | n + 2 => some (.exit n)

end Go.Ev

namespace Go.Ev

structure H where
  next : Nat
  mem : Mem

def liveB (k : Blk) : Bool := match k with | .dead => false | _ => true
def ownB (k : Blk) : Bool := match k with | .dead => false | .live _ _ ro _ _ => !ro | .mapb _ => true | .loopb _ _ _ _ _ _ => true | .u16b _ => false
theorem live_of_own {k : Blk} (h : ownB k = true) : liveB k = true := by cases k <;> first | rfl | (simp [ownB] at h; done)

def Live (h : H) (id : Nat) : Prop := id < 65536 ∧ liveB (h.mem.blk id) = true
theorem live_of {h : H} {id n : Nat} {t : TypeId} {ro pl : Bool} {c : Cells} (hi : id < 65536) (hb : h.mem.blk id = .live n t ro pl c) : Live h id := ⟨hi, by rw [hb]; rfl⟩

/-- Block b is one that the evaluator may write. -/
def Own (r : Emb) (h : H) (b : Nat) : Prop := ∃ id sh m, id < 65536 ∧ ownB (h.mem.blk id) = true ∧ r id = some (b, sh, m)
theorem own_of {r : Emb} {h : H} {b id n sh m : Nat} {t : TypeId} {pl : Bool} {c : Cells} (hi : id < 65536) (hb : h.mem.blk id = .live n t false pl c) (h1 : r id = some (b, sh, m)) : Own r h b := ⟨id, sh, m, hi, by rw [hb]; rfl, h1⟩

/-- A map's entries. -/
inductive EsRel (r : Emb) : List (V × V) → List MapEntry → Prop where
  | nil : EsRel r [] []
  | cons {k v : V} {e : MapEntry} {es : List (V × V)} {l : List MapEntry} (hk : VRel r k e.key) (hv : VRel r v e.val) (hs : EsRel r es l) : EsRel r ((k, v) :: es) (e :: l)
theorem EsRel.up {r r' : Emb} (hr : r.le r') {es : List (V × V)} {l : List MapEntry} (h : EsRel r es l) : EsRel r' es l := by
  induction h with
  | nil => exact .nil
  | cons hk hv _ ih => exact .cons (hk.up hr) (hv.up hr) ih

structure Fits (r : Emb) (n : Nat) (t : TypeId) (ro pl : Bool) (c : Cells) (b sh m : Nat) (w : World) : Prop where
  block : ∃ cs fz, (∃ t', w.heap[b]? = some (.cells cs t' fz) ∧ (ro = false → t' = t)) ∧ cs.size = m ∧ (ro = false → ∀ x, x < m → ¬ (fz.1 ≤ x ∧ x < fz.2)) ∧ (pl = true → fz = (0, 0)) ∧
    ∀ o, o < n → ∃ x, cs[o + sh]? = some x ∧ VRel r (c.get o) x
  fit : n + sh ≤ m
  room : n ≤ c.room
  exact : ro = false → t = bldT → sh = 0 ∧ n = m

/-- What is told of tokens: windows (kind, text) from a place on. -/
def winOf (n : Nat) : List (Nat × Nat × Nat) :=
  bif Nat.blt n 15 then [(1, Nat.add 108 (Nat.mul 256 (Nat.add 97 n)), 2), (5, 58, 1)] else bif Nat.blt n 30 then [(1, Nat.add 108 (Nat.mul 256 (Nat.add 82 n)), 2), (5, 59, 1)] else match n with
  | 30 => [(2, 435610544247, 5), (5, 40, 1), (3, 49, 1), (5, 41, 1)]
  | 31 => [(2, 7499622, 3), (5, 40, 1)]
  | 32 => [(5, 123, 1)]
  | 33 => [(2, 28516, 2)]
  | 34 => [(2, 461195539042, 5), (5, 59, 1)]
  | 35 => [(2, 7310870969309884259, 8), (5, 59, 1)]
  | 36 => [(2, 461195539042, 5)]
  | 37 => [(2, 7310870969309884259, 8)]
  | 38 => [(5, 125, 1)]
  | 39 => [(2, 435610544247, 5), (5, 40, 1), (3, 49, 1), (5, 41, 1), (5, 59, 1)]
  | 40 => [(2, 7628140, 3), (1, 121, 1), (5, 59, 1)]
  | 41 => [(0, 0, 0)]
  | 42 => [(5, 59, 1)]
  | 43 => [(2, 500152823651, 5), (1, 120, 1), (1, 26223, 2), (1, 121, 1), (5, 41, 1)]
  | 44 => [(1, 26223, 2), (1, 121, 1), (5, 41, 1)]
  | 45 => [(1, 121, 1), (5, 41, 1)]
  | 46 => [(5, 41, 1)]
  | 47 => [(5, 40, 1), (3, 49, 1), (5, 41, 1)]
  | 48 => [(2, 500152823651, 5), (1, 120, 1), (1, 26223, 2)]
  | 49 => [(1, 26223, 2)]
  | _ => []
/-- A token, as it lies: its kind, its text, a place, no number. -/
def tokAt (w : World) (b j : Nat) (t : Nat × Nat × Nat) : Prop := ∃ x : Int, w.cell? ⟨b, j * 4, none⟩ = some (.int .i64 t.1) ∧ w.cell? ⟨b, j * 4 + 1, none⟩ = some (.string (sval t.2.1 t.2.2)) ∧ w.cell? ⟨b, j * 4 + 2, none⟩ = some (.int .i64 x) ∧ w.cell? ⟨b, j * 4 + 3, none⟩ = some (.int .i64 (if t.1 = 3 then 1 else 0))
theorem tokAt.keep {w w' : World} {b j : Nat} {t : Nat × Nat × Nat} (h : tokAt w b j t) (hw : w'.heap[b]? = w.heap[b]?) : tokAt w' b j t := by
  obtain ⟨x, h1, h2, h3, h4⟩ := h
  have key : ∀ o, w'.cell? ⟨b, o, none⟩ = w.cell? ⟨b, o, none⟩ := fun o => by unfold World.cell?; rw [hw]
  exact ⟨x, by rw [key]; exact h1, by rw [key]; exact h2, by rw [key]; exact h3, by rw [key]; exact h4⟩
/-- The place: the row's head; or a name's number. -/
def plaOf (n j : Nat) (r : Emb) : Prop := match n with | 0 => j = 0 | 1 => r 11 = some (j, 0, 0) | _ => r 700 = some (j, 0, 0)
theorem plaOf_up {n j : Nat} {r r' : Emb} (hr : r.le r') (h : plaOf n j r) : plaOf n j r' := by
  unfold plaOf at h ⊢
  split at h
  · exact h
  · exact hr _ _ h
  · exact hr _ _ h
/-- The row of tokens has the names 600, 601, 602. -/
def tokSpec (k : Nat) (r : Emb) (b : Nat) (w : World) : Prop :=
  match k with
  | 0 => True
  | n + 1 => ∃ len cap z j, len ≤ 2000 ∧ r 600 = some (b, 0, z) ∧ r 601 = some (0, 0, 0) ∧ r 602 = some (len, cap, 0) ∧ plaOf (n % 3) j r ∧ ∀ i t, (winOf (n / 3))[i]? = some t → j + i < len ∧ tokAt w b (j + i) t
theorem tokSpec_up {k : Nat} {r r' : Emb} {b : Nat} {w w' : World} (hr : r.le r') (hw : w'.heap[b]? = w.heap[b]?) (h : tokSpec k r b w) : tokSpec k r' b w' := by
  cases k with
  | zero => trivial
  | succ n =>
    obtain ⟨len, cap, z, j, h0, h1, h2, h3, h4, h5⟩ := h
    exact ⟨len, cap, z, j, h0, hr _ _ h1, hr _ _ h2, hr _ _ h3, plaOf_up hr h4, fun i t hi => ⟨(h5 i t hi).1, (h5 i t hi).2.keep hw⟩⟩
/-- A label's block in the model. -/
def FitB (r : Emb) (k : Blk) (b sh m : Nat) (w : World) : Prop :=
  match k with
  | .dead => True
  | .live n t ro pl c => Fits r n t ro pl c b sh m w
  | .mapb es => ∃ es' clk, w.heap[b]? = some (.map es' clk) ∧ EsRel r es es'.toList
  | .loopb st mask f ps assign body => ∃ (R : Loop) (n : Nat), w.heap[b]? = some (.loop R) ∧ R.params = ps.toArray ∧ R.assign = assign ∧ R.body = body ∧ (∀ t, VRel r (fget f t) (R.tmps.getD t undef)) ∧
      Dim mask f ∧ n ≤ R.tmps.size ∧ codeOk n assign = true ∧ codeOk n body = true ∧ noDef assign = true ∧ noDef body = true ∧ (∀ t ∈ ps, t < n) ∧ R.state = (if st = 0 then .ready else .done) ∧ R.pending = pendOf st
  | .u16b k => tokSpec k r b w ∧ b < w.heap.size ∧ (0 < k ∨ m = 0 ∨ ∃ cs t fz, w.heap[b]? = some (.cells cs t fz) ∧ m ≤ cs.size ∧ ∃ xs : List Int, sh + xs.length = m ∧ w.rangeAt b sh (xs.map (Value.int .u16)))
theorem Fits.keep {r r' : Emb} (hr : r.le r') {n : Nat} {t : TypeId} {ro pl : Bool} {c : Cells} {b sh m : Nat} {w w' : World} (h : Fits r n t ro pl c b sh m w) (hw : w'.heap[b]? = w.heap[b]?) : Fits r' n t ro pl c b sh m w' := by
  obtain ⟨⟨cs, fz, ⟨ty, h2, hty⟩, h3, h4, h5, h6⟩, h7, h8, h9⟩ := h
  refine ⟨⟨cs, fz, ⟨ty, by rw [hw]; exact h2, hty⟩, h3, h4, h5, fun o ho => ?_⟩, h7, h8, h9⟩
  obtain ⟨x, hx, hv⟩ := h6 o ho
  exact ⟨x, hx, hv.up hr⟩
theorem FitB.keep {r r' : Emb} (hr : r.le r') {k : Blk} {b sh m : Nat} {w w' : World} (h : FitB r k b sh m w) (hw : w'.heap[b]? = w.heap[b]?) : FitB r' k b sh m w' := by
  cases k with
  | dead => trivial
  | live n t ro pl c => exact Fits.keep hr h hw
  | mapb es =>
    obtain ⟨es', clk, h1, h2⟩ := h
    exact ⟨es', clk, by rw [hw]; exact h1, h2.up hr⟩
  | loopb st mask f ps assign body =>
    obtain ⟨R, n, h1, h2, h3, h4, h5, h6⟩ := h
    exact ⟨R, n, by rw [hw]; exact h1, h2, h3, h4, fun t => (h5 t).up hr, h6⟩
  | u16b k =>
    obtain ⟨hp, h0, h3⟩ := h
    have hw' := hw
    have hlt : b < w'.heap.size := by
      rw [Array.getElem?_eq_getElem h0] at hw
      exact (Array.getElem?_eq_some_iff.1 hw).1
    refine ⟨tokSpec_up hr hw' hp, hlt, h3.imp id fun h3 => h3.imp id fun ⟨cs, t, fz, g1, g2, xs, h1, h2⟩ => ⟨cs, t, fz, by rw [hw]; exact g1, g2, xs, h1, fun j v hj => ?_⟩⟩
    have := h2 j v hj
    unfold World.cell? at this ⊢
    rw [hw]
    exact this
theorem FitB.lt {r : Emb} {k : Blk} {b sh m : Nat} {w : World} (h : FitB r k b sh m w) (hl : liveB k = true) : b < w.heap.size := by
  cases k with
  | dead => cases hl
  | live n t ro pl c =>
    obtain ⟨⟨cs, fz, ⟨ty, h2, _⟩, _⟩, _⟩ := h
    exact (Array.getElem?_eq_some_iff.1 h2).1
  | mapb es =>
    obtain ⟨es', clk, h1, _⟩ := h
    exact (Array.getElem?_eq_some_iff.1 h1).1
  | loopb st mask f ps assign body =>
    obtain ⟨R, n, h1, _⟩ := h
    exact (Array.getElem?_eq_some_iff.1 h1).1
  | u16b k => exact h.2.1

structure Rel (r : Emb) (h : H) (w : World) : Prop where
  fit : ∀ id, id < 65536 → liveB (h.mem.blk id) = true → ∃ b sh m, r id = some (b, sh, m) ∧ FitB r (h.mem.blk id) b sh m w
  inj : ∀ id id' b sh m sh' m', Live h id → Live h id' → ownB (h.mem.blk id) = true ∨ ownB (h.mem.blk id') = true → r id = some (b, sh, m) → r id' = some (b, sh', m') → id = id'
  new : ∀ id, h.next ≤ id → r id = none
theorem Rel.blk {r : Emb} {h : H} {w : World} (hr : Rel r h w) (id n : Nat) (t : TypeId) (ro pl : Bool) (c : Cells) (hi : id < 65536) (hb : h.mem.blk id = .live n t ro pl c) : ∃ b sh m, r id = some (b, sh, m) ∧ Fits r n t ro pl c b sh m w := by
  obtain ⟨b, sh, m, h1, h2⟩ := hr.fit id hi (by rw [hb]; rfl)
  rw [hb] at h2
  exact ⟨b, sh, m, h1, h2⟩
theorem Rel.mapb {r : Emb} {h : H} {w : World} (hr : Rel r h w) {id : Nat} {es : List (V × V)} (hi : id < 65536) (hb : h.mem.blk id = .mapb es) : ∃ b sh m es' clk, r id = some (b, sh, m) ∧ w.heap[b]? = some (.map es' clk) ∧ EsRel r es es'.toList := by
  obtain ⟨b, sh, m, h1, h2⟩ := hr.fit id hi (by rw [hb]; rfl)
  rw [hb] at h2
  obtain ⟨es', clk, h3, h4⟩ := h2
  exact ⟨b, sh, m, es', clk, h1, h3, h4⟩

/-- Block b is one of which a live label speaks. -/
def Held (r : Emb) (h : H) (b : Nat) : Prop := ∃ id sh m, Live h id ∧ r id = some (b, sh, m)
theorem Own.held {r : Emb} {h : H} {b : Nat} (ho : Own r h b) : Held r h b := by
  obtain ⟨id, sh, m, hi, hb, h1⟩ := ho
  exact ⟨id, sh, m, ⟨hi, live_of_own hb⟩, h1⟩

structure Step (r : Emb) (h : H) (w : World) (r' : Emb) (h' : H) (w' : World) : Prop where
  le : r.le r'
  rel : Rel r' h' w'
  size : w.heap.size ≤ w'.heap.size
  keep : ∀ b, b < w.heap.size → ¬ Own r h b → w'.heap[b]? = w.heap[b]?
  own : ∀ b, b < w.heap.size → Own r' h' b → Own r h b
  held : ∀ b, b < w.heap.size → Held r' h' b → Held r h b
  os : w'.os = w.os
  out : w'.output = w.output
  tape : w'.tape = w.tape

theorem Step.refl {r : Emb} {h : H} {w : World} (hr : Rel r h w) : Step r h w r h w :=
  ⟨r.le_refl, hr, Nat.le_refl _, fun _ _ _ => rfl, fun _ _ h => h, fun _ _ h => h, rfl, rfl, rfl⟩

theorem Step.trans {r r' r'' : Emb} {h h' h'' : H} {w w' w'' : World} (s : Step r h w r' h' w') (t : Step r' h' w' r'' h'' w'') : Step r h w r'' h'' w'' where
  le := Emb.le_trans s.le t.le
  rel := t.rel
  size := Nat.le_trans s.size t.size
  keep b hb hn := by
    rw [t.keep b (Nat.lt_of_lt_of_le hb s.size) (fun ho => hn (s.own b hb ho)), s.keep b hb hn]
  own b hb ho := s.own b hb (t.own b (Nat.lt_of_lt_of_le hb s.size) ho)
  held b hb ho := s.held b hb (t.held b (Nat.lt_of_lt_of_le hb s.size) ho)
  os := t.os.trans s.os
  out := t.out.trans s.out
  tape := t.tape.trans s.tape

/-- Draws turn nothing. -/
theorem Rel.drew {r : Emb} {h : H} {w : World} (hr : Rel r h w) (n : Nat) : Rel r h { w with drawn := n } :=
  ⟨fun id hi hl => by
    obtain ⟨b, sh, m, h1, h2⟩ := hr.fit id hi hl
    exact ⟨b, sh, m, h1, h2.keep r.le_refl rfl⟩, hr.inj, hr.new⟩
theorem Step.drew {r : Emb} {h : H} {w : World} (hr : Rel r h w) (n : Nat) : Step r h w r h { w with drawn := n } :=
  ⟨r.le_refl, hr.drew n, Nat.le_refl _, fun _ _ _ => rfl, fun _ _ h => h, fun _ _ h => h, rfl, rfl, rfl⟩

theorem Rel.lt {r : Emb} {h : H} {w : World} (hr : Rel r h w) {id b sh m : Nat} (hl : Live h id) (h1 : r id = some (b, sh, m)) : b < w.heap.size := by
  obtain ⟨b', sh', m', h2, h3⟩ := hr.fit id hl.1 hl.2
  rw [h1] at h2
  cases h2
  exact h3.lt hl.2

theorem Rel.lt_next {r : Emb} {h : H} {w : World} (hr : Rel r h w) {id : Nat} {x : Nat × Nat × Nat} (h1 : r id = some x) : id < h.next := by
  apply Nat.lt_of_not_le
  intro hle
  rw [hr.new id hle] at h1
  cases h1

/-! ### A block is turned, or given up -/
def H.setB (id : Nat) (k : Blk) (h : H) : H := ⟨h.next, h.mem.put id k⟩
theorem blk_setB {h : H} {id : Nat} {k : Blk} (hid : id < 65536) : (h.setB id k).mem.blk id = k := Mem.blk_put_same _ _ _ hid
theorem blk_setB_other {h : H} {id i : Nat} {k : Blk} (hid : id < 65536) (hi : i < 65536) (e : i ≠ id) : (h.setB id k).mem.blk i = h.mem.blk i := Mem.blk_put_other _ _ _ _ hid hi e

def H.kill (id : Nat) (h : H) : H := ⟨h.next, h.mem.put id .dead⟩

theorem live_kill {h : H} {id i : Nat} (hid : id < 65536) (hl : Live (h.kill id) i) : Live h i ∧ i ≠ id := by
  obtain ⟨hi, hb⟩ := hl
  by_cases e : i = id
  · subst e
    rw [show (h.kill i).mem.blk i = .dead from Mem.blk_put_same _ _ _ hid] at hb
    cases hb
  · rw [show (h.kill id).mem.blk i = h.mem.blk i from Mem.blk_put_other _ _ _ _ hid hi e] at hb
    exact ⟨⟨hi, hb⟩, e⟩
theorem own_kill {r : Emb} {h : H} {id b : Nat} (hid : id < 65536) (ho : Own r (h.kill id) b) : Own r h b := by
  obtain ⟨i, sh, m, hi, hb, h1⟩ := ho
  by_cases e : i = id
  · subst e
    rw [show (h.kill i).mem.blk i = .dead from Mem.blk_put_same _ _ _ hid] at hb
    cases hb
  · rw [show (h.kill id).mem.blk i = h.mem.blk i from Mem.blk_put_other _ _ _ _ hid hi e] at hb
    exact ⟨i, sh, m, hi, hb, h1⟩

theorem Step.kill {r : Emb} {h : H} {w : World} (hr : Rel r h w) {id : Nat} (hid : id < 65536) : Step r h w r (h.kill id) w where
  le := r.le_refl
  rel := by
    refine ⟨fun i hi hl => ?_, fun i i' b sh m sh' m' hl hl' ho => hr.inj i i' b sh m sh' m' (live_kill hid hl).1 (live_kill hid hl').1 (by
      rw [show (h.kill id).mem.blk i = h.mem.blk i from Mem.blk_put_other _ _ _ _ hid hl.1 (live_kill hid hl).2, show (h.kill id).mem.blk i' = h.mem.blk i' from Mem.blk_put_other _ _ _ _ hid hl'.1 (live_kill hid hl').2] at ho
      exact ho), hr.new⟩
    obtain ⟨hl', hne⟩ := live_kill hid ⟨hi, hl⟩
    rw [show (h.kill id).mem.blk i = h.mem.blk i from Mem.blk_put_other _ _ _ _ hid hi hne]
    exact hr.fit i hi hl'.2
  size := Nat.le_refl _
  keep _ _ _ := rfl
  own b _ ho := own_kill hid ho
  held b _ ho := by
    obtain ⟨i, sh, m, hl, h1⟩ := ho
    exact ⟨i, sh, m, (live_kill hid hl).1, h1⟩
  os := rfl
  out := rfl
  tape := rfl

/-- A block that is owned is turned. -/
theorem Step.setB {r : Emb} {h : H} {w w' : World} (hr : Rel r h w) {id : Nat} (hid : id < 65536) (hown0 : ownB (h.mem.blk id) = true) {k : Blk} {b sh m : Nat} (h1 : r id = some (b, sh, m))
    (hother : ∀ i, i ≠ b → w'.heap[i]? = w.heap[i]?) (hsize : w'.heap.size = w.heap.size) (hos : w'.os = w.os) (hout : w'.output = w.output) (htape : w'.tape = w.tape) (hf : FitB r k b sh m w') : Step r h w r (h.setB id k) w' := by
  have hown : Own r h b := ⟨id, sh, m, hid, hown0, h1⟩
  have hlive0 : Live h id := ⟨hid, live_of_own hown0⟩
  have hlive : ∀ i, Live (h.setB id k) i → Live h i := fun i ⟨hi, hb⟩ => by
    by_cases e : i = id
    · subst e; exact hlive0
    · rw [blk_setB_other hid hi e] at hb; exact ⟨hi, hb⟩
  have howns : ∀ i, Live (h.setB id k) i → ownB ((h.setB id k).mem.blk i) = true → ownB (h.mem.blk i) = true := fun i ⟨hi, _⟩ ho => by
    by_cases e : i = id
    · subst e; exact hown0
    · rw [blk_setB_other hid hi e] at ho; exact ho
  refine ⟨r.le_refl, ⟨fun i hi hl => ?_, fun i i' b sh m sh' m' hl hl' ho => hr.inj i i' b sh m sh' m' (hlive i hl) (hlive i' hl') (ho.imp (howns i hl) (howns i' hl')), hr.new⟩, Nat.le_of_eq hsize.symm, fun i _ hi => hother i (fun e => hi (e ▸ hown)), fun i _ ho => ?_, fun i _ ⟨j, s1, k1, hl, h2⟩ => ⟨j, s1, k1, hlive j hl, h2⟩, hos, hout, htape⟩
  · by_cases e : i = id
    · subst e
      rw [blk_setB hid]
      exact ⟨b, sh, m, h1, hf⟩
    · rw [blk_setB_other hid hi e] at hl ⊢
      obtain ⟨b2, sh2, m2, h2, h3⟩ := hr.fit i hi hl
      have hne : b2 ≠ b := fun e2 => e (hr.inj i id b2 sh2 m2 sh m ⟨hi, hl⟩ hlive0 (.inr hown0) h2 (by rw [e2]; exact h1))
      exact ⟨b2, sh2, m2, h2, h3.keep r.le_refl (hother b2 hne)⟩
  · obtain ⟨j, s1, k1, hj, hb, h2⟩ := ho
    by_cases e : j = id
    · subst e
      rw [h1] at h2
      cases h2
      exact hown
    · rw [blk_setB_other hid hj e] at hb
      exact ⟨j, s1, k1, hj, hb, h2⟩

/-! ### A new block -/
def Emb.put (r : Emb) (id : Nat) (x : Nat × Nat × Nat) : Emb := fun i => if i = id then some x else r i
theorem Emb.put_same (r : Emb) (id : Nat) (x : Nat × Nat × Nat) : r.put id x id = some x := by simp [Emb.put]
theorem Emb.put_other (r : Emb) (id i : Nat) (x : Nat × Nat × Nat) (h : i ≠ id) : r.put id x i = r i := by simp [Emb.put, h]
theorem Emb.le_put (r : Emb) (id : Nat) (x : Nat × Nat × Nat) (h : r id = none) : r.le (r.put id x) := by
  intro i y hy
  by_cases e : i = id
  · subst e; rw [h] at hy; cases hy
  · rw [Emb.put_other _ _ _ _ e]; exact hy

/-- The heap with a block laid at its next label. -/
def H.layB (k : Blk) (h : H) : H := ⟨h.next + 1, h.mem.put h.next k⟩
def H.lay (n : Nat) (t : TypeId) (pl : Bool) (c : Cells) (h : H) : H := ⟨h.next + 1, h.mem.put h.next (.live n t false pl c)⟩

/-- A block of the model comes under a new label: one that is new, or one of which no live label speaks: the memory's relation. -/
theorem Rel.layB {r : Emb} {h : H} {w w' : World} (hr : Rel r h w) (hn : h.next < 65536) {k : Blk} {b sh m : Nat}
    (hb : ∀ id sh' m', Live h id → r id ≠ some (b, sh', m'))
    (hkeep : ∀ k, k < w.heap.size → k ≠ b → w'.heap[k]? = w.heap[k]?)
    (hf : FitB (r.put h.next (b, sh, m)) k b sh m w') : Rel (r.put h.next (b, sh, m)) (h.layB k) w' := by
  have hle := r.le_put h.next (b, sh, m) (hr.new _ (Nat.le_refl _))
  have hold : ∀ i, i < 65536 → i ≠ h.next → (h.layB k).mem.blk i = h.mem.blk i := fun i hi hne => Mem.blk_put_other _ _ _ _ hn hi hne
  have hlive : ∀ i, Live (h.layB k) i → i ≠ h.next → Live h i := fun i ⟨hi, hb'⟩ hne => ⟨hi, by rw [hold i hi hne] at hb'; exact hb'⟩
  refine ⟨fun i hi hl => ?_, fun i i' k s1 k1 s2 k2 hl hl' ho h1 h2 => ?_, fun i hi => ?_⟩
  · by_cases e : i = h.next
    · subst e
      rw [show (h.layB k).mem.blk h.next = k from Mem.blk_put_same _ _ _ hn]
      exact ⟨b, sh, m, Emb.put_same _ _ _, hf⟩
    · rw [hold i hi e] at hl ⊢
      obtain ⟨b2, sh2, m2, h1, h2⟩ := hr.fit i hi hl
      have hne : b2 ≠ b := fun e2 => hb i sh2 m2 ⟨hi, hl⟩ (by rw [h1, e2])
      exact ⟨b2, sh2, m2, by rw [Emb.put_other _ _ _ _ e]; exact h1, h2.keep hle (hkeep b2 (h2.lt hl) hne)⟩
  · by_cases e : i = h.next
    · by_cases e' : i' = h.next
      · rw [e, e']
      · subst e
        rw [Emb.put_same] at h1
        cases h1
        rw [Emb.put_other _ _ _ _ e'] at h2
        exact (hb i' s2 k2 (hlive i' hl' e') h2).elim
    · by_cases e' : i' = h.next
      · subst e'
        rw [Emb.put_same] at h2
        cases h2
        rw [Emb.put_other _ _ _ _ e] at h1
        exact (hb i s1 k1 (hlive i hl e) h1).elim
      · rw [Emb.put_other _ _ _ _ e] at h1
        rw [Emb.put_other _ _ _ _ e'] at h2
        rw [hold i hl.1 e, hold i' hl'.1 e'] at ho
        exact hr.inj i i' k s1 k1 s2 k2 (hlive i hl e) (hlive i' hl' e') ho h1 h2
  · have : h.next + 1 ≤ i := hi
    rw [Emb.put_other _ _ _ _ (by omega)]
    exact hr.new i (by omega)

/-- The blocks that are owned, and held, behind it. -/
theorem own_layB {r : Emb} {h : H} (hn : h.next < 65536) {k : Blk} {b sh m x : Nat} (ho : Own (r.put h.next (b, sh, m)) (h.layB k) x) : x = b ∨ Own r h x := by
  obtain ⟨i, s1, k1, hi, hb', h1⟩ := ho
  by_cases e : i = h.next
  · subst e
    rw [Emb.put_same] at h1
    cases h1
    exact .inl rfl
  · rw [show (h.layB k).mem.blk i = h.mem.blk i from Mem.blk_put_other _ _ _ _ hn hi e] at hb'
    rw [Emb.put_other _ _ _ _ e] at h1
    exact .inr ⟨i, s1, k1, hi, hb', h1⟩
theorem own_lay {r : Emb} {h : H} (hn : h.next < 65536) {n : Nat} {t : TypeId} {pl : Bool} {c : Cells} {b sh m k : Nat} (ho : Own (r.put h.next (b, sh, m)) (h.lay n t pl c) k) : k = b ∨ Own r h k := own_layB (k := .live n t false pl c) hn ho
theorem held_layB {r : Emb} {h : H} (hn : h.next < 65536) {k : Blk} {b sh m x : Nat} (ho : Held (r.put h.next (b, sh, m)) (h.layB k) x) : x = b ∨ Held r h x := by
  obtain ⟨i, s1, k1, ⟨hi, hb'⟩, h1⟩ := ho
  by_cases e : i = h.next
  · subst e
    rw [Emb.put_same] at h1
    cases h1
    exact .inl rfl
  · rw [show (h.layB k).mem.blk i = h.mem.blk i from Mem.blk_put_other _ _ _ _ hn hi e] at hb'
    rw [Emb.put_other _ _ _ _ e] at h1
    exact .inr ⟨i, s1, k1, ⟨hi, hb'⟩, h1⟩

/-- A block of the model comes under a new label: one that is new, or one of which no live label speaks. -/
theorem Step.layB {r : Emb} {h0 h : H} {w w' : World} (hr : Rel r h w) (hsub : ∀ b, Own r h b → Own r h0 b) (hsub2 : ∀ b, Held r h b → Held r h0 b) (hn : h.next < 65536) {k : Blk} {b sh m : Nat}
    (hb : ∀ id sh' m', Live h id → r id ≠ some (b, sh', m')) (hown : b < w.heap.size → Own r h0 b)
    (hkeep : ∀ k, k < w.heap.size → k ≠ b → w'.heap[k]? = w.heap[k]?) (hsize : w.heap.size ≤ w'.heap.size)
    (hos : w'.os = w.os) (hout : w'.output = w.output) (htape : w'.tape = w.tape)
    (hf : FitB (r.put h.next (b, sh, m)) k b sh m w') : Step r h0 w (r.put h.next (b, sh, m)) (h.layB k) w' := by
  refine ⟨r.le_put h.next (b, sh, m) (hr.new _ (Nat.le_refl _)), hr.layB hn hb hkeep hf, hsize, fun k hk ho => ?_, fun k hk ho => ?_, fun k hk ho => ?_, hos, hout, htape⟩
  · by_cases e : k = b
    · subst e; exact (ho (hown hk)).elim
    · exact hkeep k hk e
  · rcases own_layB hn ho with rfl | ho
    · exact hown hk
    · exact hsub k ho
  · rcases held_layB hn ho with rfl | ho
    · exact (hown hk).held
    · exact hsub2 k ho
theorem Step.lay {r : Emb} {h0 h : H} {w w' : World} (hr : Rel r h w) (hsub : ∀ b, Own r h b → Own r h0 b) (hsub2 : ∀ b, Held r h b → Held r h0 b) (hn : h.next < 65536) {n : Nat} {t : TypeId} {pl : Bool} {c : Cells} {b sh m : Nat}
    (hb : ∀ id sh' m', Live h id → r id ≠ some (b, sh', m')) (hown : b < w.heap.size → Own r h0 b)
    (hkeep : ∀ k, k < w.heap.size → k ≠ b → w'.heap[k]? = w.heap[k]?) (hsize : w.heap.size ≤ w'.heap.size)
    (hos : w'.os = w.os) (hout : w'.output = w.output) (htape : w'.tape = w.tape)
    (hf : Fits (r.put h.next (b, sh, m)) n t false pl c b sh m w') : Step r h0 w (r.put h.next (b, sh, m)) (h.lay n t pl c) w' :=
  Step.layB (k := .live n t false pl c) hr hsub hsub2 hn hb hown hkeep hsize hos hout htape hf

/-- A block that was made meanwhile, and of which no label speaks yet, comes under one. -/
theorem Step.adopt {r0 r : Emb} {h0 h : H} {w0 w : World} (st : Step r0 h0 w0 r h w) (hn : h.next < 65536) {n : Nat} {t : TypeId} {pl : Bool} {c : Cells} {b sh m : Nat}
    (hb : ¬ Held r h b) (hnew : w0.heap.size ≤ b) (hf : Fits (r.put h.next (b, sh, m)) n t false pl c b sh m w) : Step r0 h0 w0 (r.put h.next (b, sh, m)) (h.lay n t pl c) w := by
  refine ⟨Emb.le_trans st.le (r.le_put h.next (b, sh, m) (st.rel.new _ (Nat.le_refl _))), st.rel.layB (k := .live n t false pl c) hn (fun id sh' m' hl e => hb ⟨id, sh', m', hl, e⟩) (fun _ _ _ => rfl) hf, st.size, st.keep, fun k hk ho => ?_, fun k hk ho => ?_, st.os, st.out, st.tape⟩
  · rcases own_lay hn ho with rfl | ho
    · omega
    · exact st.own k hk ho
  · rcases held_layB (k := .live n t false pl c) hn ho with rfl | ho
    · omega
    · exact st.held k hk ho

/-- A block that nobody holds turns. -/
theorem Step.poke {r0 r : Emb} {h0 h : H} {w0 w w' : World} (st : Step r0 h0 w0 r h w) {b : Nat} (_ : ¬ Held r h b) (hnew : w0.heap.size ≤ b) (hs : w'.heap.size = w.heap.size) (hw : ∀ k, k ≠ b → w'.heap[k]? = w.heap[k]?)
    (h1 : w'.os = w.os) (h2 : w'.output = w.output) (h3 : w'.tape = w.tape) (hr : Rel r h w') : Step r0 h0 w0 r h w' :=
  ⟨st.le, hr, by rw [hs]; exact st.size, fun k hk ho => (hw k (by omega)).trans (st.keep k hk ho), st.own, st.held, h1.trans st.os, h2.trans st.out, h3.trans st.tape⟩

/-! ### Cells out of a list -/
def fillFrom : List V → Nat → Cells → Cells
  | [], _, c => c
  | v :: vs, o, c => fillFrom vs (o + 1) (c.set o v)

theorem fillFrom_room (vs : List V) : ∀ (o : Nat) (c : Cells), (fillFrom vs o c).room = c.room := by
  induction vs with
  | nil => intro o c; rfl
  | cons v vs ih => intro o c; rw [fillFrom, ih, Cells.room_set]

theorem fillFrom_out (vs : List V) : ∀ (o p : Nat) (c : Cells), o + vs.length ≤ c.room → p < c.room → (p < o ∨ o + vs.length ≤ p) → (fillFrom vs o c).get p = c.get p := by
  induction vs with
  | nil => intro o p c _ _ _; rfl
  | cons v vs ih =>
    intro o p c h1 h2 h3
    simp only [List.length_cons] at h1 h3
    rw [fillFrom, ih (o + 1) p _ (by rw [Cells.room_set]; omega) (by rw [Cells.room_set]; omega) (by omega), Cells.get_set_other _ _ _ _ (by omega) h2 (by omega)]

theorem fillFrom_in (vs : List V) : ∀ (o j : Nat) (c : Cells), o + vs.length ≤ c.room → (hj : j < vs.length) → (fillFrom vs o c).get (o + j) = vs[j] := by
  induction vs with
  | nil => intro o j c _ h; simp at h
  | cons v vs ih =>
    intro o j c h1 hj
    simp only [List.length_cons] at h1 hj
    cases j with
    | zero =>
      rw [fillFrom, fillFrom_out vs (o + 1) (o + 0) _ (by rw [Cells.room_set]; omega) (by rw [Cells.room_set]; omega) (by omega), Nat.add_zero, Cells.get_set_same _ _ _ (by omega)]
      rfl
    | succ j =>
      have := ih (o + 1) j (c.set o v) (by rw [Cells.room_set]; omega) (by omega)
      rw [fillFrom, show o + (j + 1) = o + 1 + j by omega, this]
      rfl

/-- Room for so many. -/
def emptyCells (n : Nat) : Cells := bif Nat.ble n 16 then .c1 z1 else bif Nat.ble n 256 then .c2 z2 else .c3 z3
theorem emptyCells_room (n : Nat) (h : n ≤ 4096) : n ≤ (emptyCells n).room := by
  unfold emptyCells
  cases h1 : Nat.ble n 16
  · cases h2 : Nat.ble n 256
    · simpa [Cells.room] using h
    · have := Nat.le_of_ble_eq_true h2
      simpa [Cells.room] using this
  · have := Nat.le_of_ble_eq_true h1
    simpa [Cells.room] using this

def cellsOf (vs : List V) : Cells := fillFrom vs 0 (emptyCells vs.length)
theorem cellsOf_room (vs : List V) (h : vs.length ≤ 4096) : vs.length ≤ (cellsOf vs).room := by
  rw [cellsOf, fillFrom_room]; exact emptyCells_room _ h
theorem cellsOf_get (vs : List V) (h : vs.length ≤ 4096) (j : Nat) (hj : j < vs.length) : (cellsOf vs).get j = vs[j] := by
  have := fillFrom_in vs 0 j (emptyCells vs.length) (by simpa using emptyCells_room _ h) hj
  simpa [cellsOf] using this

/-- A NEW BLOCK: the model's is at the heap's end. -/
theorem Step.alloc {r : Emb} {h : H} {w : World} (hr : Rel r h w) (hn : h.next < 65536) {vs : List V} {xs : Array Value} (t : TypeId) (hv : VsRel r vs xs.toList) (hl : vs.length ≤ 4096) :
    Step r h w (r.put h.next (w.heap.size, 0, xs.size)) (h.lay vs.length t true (cellsOf vs)) (w.alloc (.cells xs t)) := by
  refine Step.lay hr (fun _ ho => ho) (fun _ ho => ho) hn (fun id sh' m' hl' e => Nat.lt_irrefl _ (hr.lt hl' e)) (fun hlt => (Nat.lt_irrefl _ hlt).elim) (fun k hk _ => heap_alloc_old w _ k hk) (by simp) rfl rfl rfl ?_
  have hlen : vs.length = xs.size := by simpa using hv.length
  refine ⟨⟨xs, (0, 0), ⟨t, heap_alloc_new w _, fun _ => rfl⟩, rfl, fun _ x _ hx => Nat.not_lt_zero _ hx.2, fun _ => rfl, fun o ho => ?_⟩, by omega, cellsOf_room _ hl, fun _ _ => ⟨rfl, hlen⟩⟩
  obtain ⟨x, hx, hvx⟩ := hv.get o (v := vs[o]) (by simp)
  refine ⟨x, by simpa using hx, ?_⟩
  rw [cellsOf_get _ hl o ho]
  exact hvx.up (r.le_put _ _ (hr.new _ (Nat.le_refl _)))

/-! ### Writes -/
def setL (cs : Array Value) : Nat → List Value → Array Value
  | _, [] => cs
  | o, v :: r => setL (cs.setIfInBounds o v) (o + 1) r

theorem size_setL (vs : List Value) : ∀ (cs : Array Value) (o : Nat), (setL cs o vs).size = cs.size := by
  induction vs with
  | nil => intro cs o; rfl
  | cons v vs ih => intro cs o; rw [setL, ih]; simp

theorem setL_out (vs : List Value) : ∀ (cs : Array Value) (o p : Nat), (p < o ∨ o + vs.length ≤ p) → (setL cs o vs)[p]? = cs[p]? := by
  induction vs with
  | nil => intro cs o p _; rfl
  | cons v vs ih =>
    intro cs o p h
    simp only [List.length_cons] at h
    rw [setL, ih _ (o + 1) p (by omega), Array.getElem?_setIfInBounds_ne (by omega)]

theorem setL_in (vs : List Value) : ∀ (cs : Array Value) (o j : Nat), o + vs.length ≤ cs.size → (hj : j < vs.length) → (setL cs o vs)[o + j]? = some vs[j] := by
  induction vs with
  | nil => intro cs o j _ h; simp at h
  | cons v vs ih =>
    intro cs o j h hj
    simp only [List.length_cons] at h hj
    cases j with
    | zero =>
      rw [setL]
      show (setL _ (o + 1) vs)[o]? = some v
      rw [setL_out vs _ (o + 1) o (by omega)]
      simp [Array.getElem?_setIfInBounds_self_of_lt (show o < cs.size by omega)]
    | succ j =>
      have := ih (cs.setIfInBounds o v) (o + 1) j (by simp; omega) (by omega)
      rw [setL, show o + (j + 1) = o + 1 + j by omega, this]
      rfl

theorem heap_setCells (b : Nat) (vs : List Value) : ∀ (o : Nat) (w : World) (cs : Array Value) (t : TypeId) (fz : Nat × Nat), w.heap[b]? = some (.cells cs t fz) → (w.setCells b o vs).heap[b]? = some (.cells (setL cs o vs) t fz) := by
  induction vs with
  | nil => intro o w cs t fz h; exact h
  | cons v vs ih =>
    intro o w cs t fz h
    rw [World.setCells, setL]
    refine ih (o + 1) _ _ t fz ?_
    simp [World.setCell, Array.getElem?_modify, h]

theorem heap_setCells_other (b k : Nat) (hk : k ≠ b) (vs : List Value) : ∀ (o : Nat) (w : World), (w.setCells b o vs).heap[k]? = w.heap[k]? := by
  induction vs with
  | nil => intro o w; rfl
  | cons v vs ih => intro o w; rw [World.setCells, ih]; exact heap_setCell_other w _ k v hk

theorem setCells_frame (b : Nat) (vs : List Value) : ∀ (o : Nat) (w : World), (w.setCells b o vs).heap.size = w.heap.size ∧ (w.setCells b o vs).os = w.os ∧ (w.setCells b o vs).output = w.output ∧ (w.setCells b o vs).tape = w.tape := by
  induction vs with
  | nil => intro o w; exact ⟨rfl, rfl, rfl, rfl⟩
  | cons v vs ih =>
    intro o w
    obtain ⟨h1, h2, h3, h4⟩ := ih (o + 1) (w.setCell ⟨b, o, none⟩ v)
    exact ⟨by rw [World.setCells, h1]; simp, h2, h3, h4⟩

def H.write (id n : Nat) (t : TypeId) (pl : Bool) (c : Cells) (h : H) : H := ⟨h.next, h.mem.put id (.live n t false pl c)⟩

theorem Step.store {r : Emb} {h : H} {w : World} (hr : Rel r h w) {id n : Nat} {t : TypeId} {pl : Bool} {c : Cells} (hid : id < 65536) (hb : h.mem.blk id = .live n t false pl c)
    {b sh m : Nat} (h1 : r id = some (b, sh, m)) {ws : List V} {xs : List Value} (hv : VsRel r ws xs) {o : Nat} (ho : o + ws.length ≤ n) :
    Step r h w r (h.write id n t pl (fillFrom ws o c)) (w.setCells b (o + sh) xs) := by
  obtain ⟨b', sh', m', h1', ⟨⟨cs, fz, ⟨ty, h2, hty⟩, h3, h4, h5, h6⟩, h7, h8, h9⟩⟩ := hr.blk id n t false pl c hid hb
  rw [hty rfl] at h2
  rw [h1] at h1'
  cases h1'
  have hlen := hv.length
  obtain ⟨f1, f2, f3, f4⟩ := setCells_frame b xs (o + sh) w
  refine Step.setB (k := .live n t false pl (fillFrom ws o c)) hr hid (by rw [hb]; rfl) h1 (fun i hi => heap_setCells_other b i hi xs _ w) f1 f2 f3 f4 ?_
  refine ⟨⟨setL cs (o + sh) xs, fz, ⟨_, heap_setCells b xs _ w cs _ fz h2, fun _ => rfl⟩, by rw [size_setL]; exact h3, h4, h5, fun p hp => ?_⟩, h7, by rw [fillFrom_room]; exact h8, h9⟩
  by_cases hin : o ≤ p ∧ p < o + ws.length
  · obtain ⟨j, rfl⟩ : ∃ j, p = o + j := ⟨p - o, by omega⟩
    have hj : j < ws.length := by omega
    rw [fillFrom_in ws o j c (by omega) hj, show o + j + sh = o + sh + j by omega]
    have hj' : j < xs.length := by omega
    rw [setL_in xs cs (o + sh) j (by omega) hj']
    obtain ⟨x, hx, hvx⟩ := hv.get j (v := ws[j]) (by simp [hj])
    rw [List.getElem?_eq_getElem hj'] at hx
    exact ⟨x, hx, hvx⟩
  · rw [fillFrom_out ws o p c (by omega) (by omega) (by omega), setL_out xs cs (o + sh) (p + sh) (by omega)]
    exact h6 p hp

/-! ### Reads -/
def readFrom (c : Cells) : Nat → Nat → List V
  | _, 0 => []
  | o, n + 1 => c.get o :: readFrom c (o + 1) n

theorem readFrom_length (c : Cells) (n : Nat) : ∀ o, (readFrom c o n).length = n := by
  induction n with
  | zero => intro o; rfl
  | succ n ih => intro o; simp [readFrom, ih]

/-- What is read has its cells. -/
theorem Fits.read {r : Emb} {n : Nat} {t : TypeId} {ro pl : Bool} {c : Cells} {b sh m : Nat} {w : World} (hf : Fits r n t ro pl c b sh m w) (k : Nat) :
    ∀ o, o + k ≤ n → ∃ xs, VsRel r (readFrom c o k) xs ∧ xs.length = k ∧ w.rangeAt b (o + sh) xs := by
  induction k with
  | zero => intro o _; exact ⟨[], .nil, rfl, fun j v h => by simp at h⟩
  | succ k ih =>
    intro o ho
    obtain ⟨xs, h1, h2, h3⟩ := ih (o + 1) (by omega)
    obtain ⟨cs, fz, ⟨_, g2, _⟩, g3, g4, g5, g6⟩ := hf.block
    obtain ⟨x, hx, hvx⟩ := g6 o (by omega)
    refine ⟨x :: xs, .cons hvx h1, by simp [h2], fun j v hj => ?_⟩
    cases j with
    | zero =>
      simp at hj
      subst hj
      simp [World.cell?, g2, hx]
    | succ j =>
      have := h3 j v (by simpa using hj)
      rwa [show o + sh + (j + 1) = o + 1 + sh + j by omega]

/-- What may be written is there. -/
theorem Fits.there {r : Emb} {n : Nat} {t : TypeId} {pl : Bool} {c : Cells} {b sh m : Nat} {w : World} (hf : Fits r n t false pl c b sh m w) (o k : Nat) (h : o + k ≤ m) : w.there b o k := by
  obtain ⟨cs, fz, ⟨_, g2, _⟩, g3, g4, g5, g6⟩ := hf.block
  intro j hj
  constructor
  · simp [World.cell?, g2, show o + j < cs.size by omega]
  · have := g4 rfl (o + j) (by omega)
    simp only [World.frozen?, g2]
    simp only [Bool.and_eq_false_iff, decide_eq_false_iff_not]
    omega

theorem Fits.frozen {r : Emb} {n : Nat} {t : TypeId} {pl : Bool} {c : Cells} {b sh m : Nat} {w : World} (hf : Fits r n t false pl c b sh m w) (o : Nat) (h : o < m) : w.frozen? ⟨b, o, none⟩ = false := by
  simpa using (hf.there o 1 (by omega) 0 (by omega)).2

end Go.Ev

namespace Go.Ev

/-- The signs, as the program lists them. -/
def sgnT : List (List UInt8) := [[46,46,46],[61,61,61],[33,61,61],[38,38],[124,124],[63,63],[61,62],[43,43],[45,45],[43,61],[45,61],[42,61],[47,61],[37,61],[60,61],[62,61],[40],[41],[91],[93],[123],[125],[46],[44],[59],[58],[63],[33],[61],[43],[45],[42],[47],[37],[60],[62]]
theorem sgnT_len : sgnT.length = 36 := rfl
/-- What is no part of a name, and no digit. -/
def nonL : List Nat := [32, 37, 40, 41, 42, 43, 44, 45, 46, 58, 59, 60, 61, 123, 125]
/-- What may stand behind a name, or a number. -/
def behind (l : List UInt8) : Bool := match l with | [] => false | c :: _ => nonL.contains c.toNat
/-- The key words, as the program lists them. -/
def wordsT : List UInt8 := [32, 98, 114, 101, 97, 107, 32, 99, 97, 116, 99, 104, 32, 99, 108, 97, 115, 115, 32, 99, 111, 110, 115, 116, 32, 99, 111, 110, 116, 105, 110, 117, 101, 32, 100, 101, 108, 101, 116, 101, 32, 100, 111, 32, 101, 108, 115, 101, 32, 101, 120, 116, 101, 110, 100, 115, 32, 102, 97, 108, 115, 101, 32, 102, 105, 110, 97, 108, 108, 121, 32, 102, 111, 114, 32, 102, 117, 110, 99, 116, 105, 111, 110, 32, 105, 102, 32, 105, 110, 32, 105, 110, 115, 116, 97, 110, 99, 101, 111, 102, 32, 108, 101, 116, 32, 110, 101, 119, 32, 110, 117, 108, 108, 32, 114, 101, 116, 117, 114, 110, 32, 115, 117, 112, 101, 114, 32, 116, 104, 105, 115, 32, 116, 104, 114, 111, 119, 32, 116, 114, 117, 101, 32, 116, 114, 121, 32, 116, 121, 112, 101, 111, 102, 32, 119, 104, 105, 108, 101, 32, 121, 105, 101, 108, 100, 32]
/-- The names and words that the law writes. -/
def txtL : List Tok := [(1, 111, 1), (1, 97, 1), (1, 98, 1), (1, 99, 1), (2, 7628140, 3), (1, 107, 1), (2, 7499622, 3), (1, 105, 1), (2, 26217, 2), (2, 461195539042, 5), (2, 7310870969309884259, 8), (2, 435610544247, 5), (1, 108, 1), (2, 28516, 2), (1, 109, 1)]
theorem txt_ok : ∀ t ∈ txtL, (t.1 = 1 ∨ t.1 = 2) ∧ 1 ≤ t.2.2 ∧ t.2.2 ≤ 8 ∧ (∀ c ∈ tB t, 97 ≤ c.toNat ∧ c.toNat ≤ 122) ∧ Lib.contains (tB t) [32] = false ∧ Lib.contains wordsT ([32] ++ tB t ++ [32]) = (t.1 == 2) := by decide +kernel
/-- Where a sign stands in the list. -/
def sgnIdx (t : Tok) : Nat := sgnT.findIdx (· == tB t)
def okSign (t : Tok) (l : List UInt8) : Bool := Nat.blt (sgnIdx t) 36 && (sgnT.getD (sgnIdx t) [] == tB t && (((List.range (sgnIdx t)).all fun i => !(Lib.hasPrefix (tB t ++ l) (sgnT.getD i []))) && (match tB t with | [] => false | c :: _ => nonL.contains c.toNat && !(Nat.beq c.toNat 32))))
/-- Digits, and what they say. -/
def valD (bs : List UInt8) : Nat := bs.foldl (fun v c => v * 10 + (c.toNat - 48)) 0
def okNum (t : Tok) : Bool := (tB t).all (fun c => Nat.ble 48 c.toNat && Nat.ble c.toNat 57) && (Nat.ble 1 t.2.2 && (Nat.ble t.2.2 5 && (Nat.beq t.2.2 1 || (match tB t with | [] => false | c :: _ => !(Nat.beq c.toNat 48)))))
/-- One of the tokens that the law writes, ahead of these bytes. -/
def okTok (t : Tok) (l : List UInt8) : Bool :=
  match t.1 with
  | 5 => okSign t l
  | 3 => okNum t && behind l
  | _ => txtL.contains t && behind l
/-- The number that a token has. -/
def nOf (t : Tok) : Int := if t.1 = 3 then (valD (tB t) : Nat) else 0
/-- Every piece, ahead of what comes. -/
def okPs : List (Bool × Tok) → Bool
  | [] => true
  | p :: ps => okTok p.2 (psB ps) && okPs ps

theorem hasPrefix_cons (c : UInt8) (l : List UInt8) (x : UInt8) (xs : List UInt8) : Lib.hasPrefix (c :: l) (x :: xs) = ((x == c) && Lib.hasPrefix l xs) := by
  simp [Lib.hasPrefix, List.isPrefixOf]
theorem hasPrefix_nil (l : List UInt8) : Lib.hasPrefix l [] = true := by
  simp [Lib.hasPrefix, List.isPrefixOf]

theorem hasPrefix_self (a l : List UInt8) : Lib.hasPrefix (a ++ l) a = true := by
  induction a with
  | nil => exact hasPrefix_nil _
  | cons c a ih => rw [List.cons_append, hasPrefix_cons, ih]; simp
theorem sgn_find {t : Tok} {l : List UInt8} (h : okSign t l = true) : sgnIdx t < 36 ∧ sgnT.getD (sgnIdx t) [] = tB t ∧ (∀ i, i < sgnIdx t → Lib.hasPrefix (tB t ++ l) (sgnT.getD i []) = false) ∧ Lib.hasPrefix (tB t ++ l) (sgnT.getD (sgnIdx t) []) = true ∧ ∃ c bs, tB t = c :: bs ∧ c.toNat ∈ nonL ∧ c.toNat ≠ 32 := by
  unfold okSign at h
  simp only [Bool.and_eq_true, Nat.blt_eq, beq_iff_eq, List.all_eq_true, List.mem_range] at h
  obtain ⟨h1, h2, h3, h4⟩ := h
  refine ⟨h1, h2, fun i hi => by have := h3 i hi; simpa using this, by rw [h2]; exact hasPrefix_self _ _, ?_⟩
  cases hb : tB t with
  | nil => rw [hb] at h4; cases h4
  | cons c bs =>
    rw [hb] at h4
    simp only [Bool.and_eq_true, List.contains_eq_mem, decide_eq_true_eq, Bool.not_eq_true'] at h4
    exact ⟨c, bs, rfl, h4.1, fun e => by rw [e] at h4; exact absurd h4.2 (by decide)⟩
end Go.Ev

namespace Go.Ev

/-! ### Whole numbers: quick where both are small and not below 0, else as the model does it -/
def lim (k : IntKind) : Nat :=
  IntKind.casesOn k 127 32767 2147483647 9223372036854775807 255 65535 4294967295 18446744073709551615

theorem wrap_small (k : IntKind) (n : Nat) (h : n ≤ lim k) : k.wrap (Int.ofNat n) = Int.ofNat n := by
  cases k <;> simp only [lim] at h <;> simp [IntKind.wrap, IntKind.bits, IntKind.signed] <;> omega

def addI (k : IntKind) (a b : Int) : Int :=
  Int.casesOn a (fun x => Int.casesOn b (fun y => bif Nat.ble (Nat.add x y) (lim k) then .ofNat (Nat.add x y) else k.wrap (.ofNat x + .ofNat y)) (fun y => bif Nat.ble (Nat.succ y) x && Nat.ble x (lim k) then .ofNat (Nat.sub x (Nat.succ y)) else k.wrap (.ofNat x + .negSucc y))) (fun x => k.wrap (.negSucc x + b))
theorem addI_eq (k : IntKind) (a b : Int) : addI k a b = k.wrap (a + b) := by
  cases a with
  | ofNat x =>
    cases b with
    | ofNat y =>
      show (bif Nat.ble (Nat.add x y) (lim k) then _ else _) = _
      cases h : Nat.ble (Nat.add x y) (lim k)
      · rfl
      · exact (wrap_small k (x + y) (Nat.le_of_ble_eq_true h)).symm
    | negSucc y =>
      show (bif Nat.ble (Nat.succ y) x && Nat.ble x (lim k) then _ else _) = _
      cases h : (Nat.ble (Nat.succ y) x && Nat.ble x (lim k))
      · rfl
      · simp only [Bool.and_eq_true] at h
        have h1 := Nat.le_of_ble_eq_true h.1
        have h2 := Nat.le_of_ble_eq_true h.2
        have h3 := wrap_small k (x - Nat.succ y) (by omega)
        show Int.ofNat (x - Nat.succ y) = k.wrap (.ofNat x + .negSucc y)
        rw [← h3]
        congr 1
        show (↑(x - (y + 1)) : Int) = ↑x + Int.negSucc y
        omega
  | negSucc x => rfl

def subI (k : IntKind) (a b : Int) : Int :=
  Int.casesOn a (fun x => Int.casesOn b (fun y => bif Nat.ble y x && Nat.ble x (lim k) then .ofNat (Nat.sub x y) else k.wrap (.ofNat x - .ofNat y)) (fun y => k.wrap (.ofNat x - .negSucc y))) (fun x => k.wrap (.negSucc x - b))
theorem subI_eq (k : IntKind) (a b : Int) : subI k a b = k.wrap (a - b) := by
  cases a with
  | ofNat x =>
    cases b with
    | ofNat y =>
      show (bif Nat.ble y x && Nat.ble x (lim k) then _ else _) = _
      cases h : (Nat.ble y x && Nat.ble x (lim k))
      · rfl
      · simp only [Bool.and_eq_true] at h
        have h1 := Nat.le_of_ble_eq_true h.1
        have h2 := Nat.le_of_ble_eq_true h.2
        have h3 := wrap_small k (x - y) (by omega)
        show Int.ofNat (x - y) = k.wrap (.ofNat x - .ofNat y)
        rw [← h3]
        congr 1
        show (↑(x - y) : Int) = ↑x - ↑y
        omega
    | negSucc y => rfl
  | negSucc x => rfl

def mulI (k : IntKind) (a b : Int) : Int :=
  Int.casesOn a (fun x => Int.casesOn b (fun y => bif Nat.ble (Nat.mul x y) (lim k) then .ofNat (Nat.mul x y) else k.wrap (.ofNat x * .ofNat y)) (fun y => k.wrap (.ofNat x * .negSucc y))) (fun x => k.wrap (.negSucc x * b))
theorem mulI_eq (k : IntKind) (a b : Int) : mulI k a b = k.wrap (a * b) := by
  cases a with
  | ofNat x =>
    cases b with
    | ofNat y =>
      show (bif Nat.ble (Nat.mul x y) (lim k) then _ else _) = _
      cases h : Nat.ble (Nat.mul x y) (lim k)
      · rfl
      · exact (wrap_small k (x * y) (Nat.le_of_ble_eq_true h)).symm
    | negSucc y => rfl
  | negSucc x => rfl

def quoI (k : IntKind) (a b : Int) : Int :=
  Int.casesOn a (fun x => Int.casesOn b (fun y => bif Nat.ble x (lim k) then .ofNat (Nat.div x y) else k.wrap ((Int.ofNat x).tdiv (.ofNat y))) (fun y => k.wrap ((Int.ofNat x).tdiv (.negSucc y)))) (fun x => k.wrap ((Int.negSucc x).tdiv b))
theorem quoI_eq (k : IntKind) (a b : Int) : quoI k a b = k.wrap (a.tdiv b) := by
  cases a with
  | ofNat x =>
    cases b with
    | ofNat y =>
      show (bif Nat.ble x (lim k) then _ else _) = _
      cases h : Nat.ble x (lim k)
      · rfl
      · have h1 := Nat.le_of_ble_eq_true h
        exact (wrap_small k (x / y) (Nat.le_trans (Nat.div_le_self x y) h1)).symm
    | negSucc y => rfl
  | negSucc x => rfl

def remI (a b : Int) : Int :=
  Int.casesOn a (fun x => Int.casesOn b (fun y => .ofNat (Nat.mod x y)) (fun y => (Int.ofNat x).tmod (.negSucc y))) (fun x => (Int.negSucc x).tmod b)
theorem remI_eq (a b : Int) : remI a b = a.tmod b := by
  cases a with
  | ofNat x => cases b <;> rfl
  | negSucc x => rfl

def eqI (a b : Int) : Bool :=
  Int.casesOn a (fun x => Int.casesOn b (fun y => Nat.beq x y) (fun _ => false)) (fun x => Int.casesOn b (fun _ => false) (fun y => Nat.beq x y))
theorem eqI_eq (a b : Int) : eqI a b = (a == b) := by
  rw [Bool.eq_iff_iff, beq_iff_eq]
  cases a <;> cases b <;> simp [eqI] <;> omega

def ltI (a b : Int) : Bool :=
  Int.casesOn a (fun x => Int.casesOn b (fun y => Nat.blt x y) (fun _ => false)) (fun x => Int.casesOn b (fun _ => true) (fun y => Nat.blt y x))
theorem ltI_eq (a b : Int) : ltI a b = decide (a < b) := by
  rw [Bool.eq_iff_iff, decide_eq_true_iff]
  cases a with
  | ofNat x =>
    cases b with
    | ofNat y => show (Nat.blt x y = true) ↔ _; rw [Nat.blt_eq]; exact Int.ofNat_lt.symm
    | negSucc y => show (false = true) ↔ _; constructor <;> intro h <;> simp at h; omega
  | negSucc x =>
    cases b with
    | ofNat y => show (true = true) ↔ _; simp; omega
    | negSucc y => show (Nat.blt y x = true) ↔ _; rw [Nat.blt_eq]; omega

/-- Is a number small and not below 0? -/
def smallI (k : IntKind) (a : Int) : Bool := Int.casesOn a (fun x => Nat.ble x (lim k)) (fun _ => false)

theorem lim_lt (k : IntKind) (n : Nat) (h : n ≤ lim k) : n < 2 ^ k.bits := by
  cases k <;> simp only [lim] at h <;> simp only [IntKind.bits] <;> omega

def bitI (op : BinOp) (k : IntKind) (a b : Int) : Option Int :=
  match op with
  | .and => some (bif smallI k a && smallI k b then .ofNat (Nat.land a.toNat b.toNat) else k.wrap (BitVec.ofInt k.bits a &&& BitVec.ofInt k.bits b).toNat)
  | .or => some (k.wrap (BitVec.ofInt k.bits a ||| BitVec.ofInt k.bits b).toNat)
  | .xor => some (k.wrap (BitVec.ofInt k.bits a ^^^ BitVec.ofInt k.bits b).toNat)
  | .andNot => some (k.wrap (BitVec.ofInt k.bits a &&& ~~~ BitVec.ofInt k.bits b).toNat)
  | _ => none

theorem andI_eq (k : IntKind) (a b : Int) (h : smallI k a && smallI k b) : (Int.ofNat (Nat.land a.toNat b.toNat)) = k.wrap (BitVec.ofInt k.bits a &&& BitVec.ofInt k.bits b).toNat := by
  simp only [Bool.and_eq_true] at h
  cases a with
  | negSucc x => exact absurd h.1 (by simp [smallI])
  | ofNat x =>
    cases b with
    | negSucc x => exact absurd h.2 (by simp [smallI])
    | ofNat y =>
      have h1 : x ≤ lim k := Nat.le_of_ble_eq_true h.1
      have h2 : y ≤ lim k := Nat.le_of_ble_eq_true h.2
      have e1 : (BitVec.ofInt k.bits (Int.ofNat x)) = BitVec.ofNat k.bits x := by simp
      have e2 : (BitVec.ofInt k.bits (Int.ofNat y)) = BitVec.ofNat k.bits y := by simp
      rw [e1, e2]
      simp only [BitVec.toNat_and, BitVec.toNat_ofNat, Nat.mod_eq_of_lt (lim_lt k x h1), Nat.mod_eq_of_lt (lim_lt k y h2)]
      exact (wrap_small k (x &&& y) (Nat.le_trans Nat.and_le_left h1)).symm

/-- A binary operation on whole numbers of one kind. -/
def intB (op : BinOp) (k : IntKind) (a b : Int) : Option V :=
  match op with
  | .add => some (.int k (addI k a b))
  | .sub => some (.int k (subI k a b))
  | .mul => some (.int k (mulI k a b))
  | .quo => bif eqI b (.ofNat 0) then none else some (.int k (quoI k a b))
  | .rem => bif eqI b (.ofNat 0) then none else some (.int k (remI a b))
  | .eql => some (.bool (eqI a b))
  | .neq => some (.bool (!(eqI a b)))
  | .lss => some (.bool (ltI a b))
  | .leq => some (.bool (!(ltI b a)))
  | .gtr => some (.bool (ltI b a))
  | .geq => some (.bool (!(ltI a b)))
  | .shl | .shr => none
  | op => (bitI op k a b).map (V.int k)

theorem eqI_false {b : Int} (h : eqI b (.ofNat 0) = false) : b ≠ 0 := by
  rw [eqI_eq] at h
  simpa using h

theorem intB_sound {P : Program} {op : BinOp} {k : IntKind} {a b : Int} {v : V} (h : intB op k a b = some v) (t : TypeId) (w : World) :
    ∃ x, (binOp op t (.int k a) (.int k b)).run P w = .ok x w ∧ ∀ r, VRel r v x := by
  cases op <;> simp only [intB, bitI, Option.map_some, Option.some.injEq, reduceCtorEq] at h
  case add => subst h; exact ⟨.int k (k.wrap (a + b)), by simp [binOp, Op.intArith], fun r => by rw [addI_eq]; exact .int k _⟩
  case sub => subst h; exact ⟨.int k (k.wrap (a - b)), by simp [binOp, Op.intArith], fun r => by rw [subI_eq]; exact .int k _⟩
  case mul => subst h; exact ⟨.int k (k.wrap (a * b)), by simp [binOp, Op.intArith], fun r => by rw [mulI_eq]; exact .int k _⟩
  case quo =>
    cases h0 : eqI b (.ofNat 0) <;> simp only [h0, cond_true, cond_false, reduceCtorEq, Option.some.injEq] at h
    subst h
    have := eqI_false h0
    exact ⟨.int k (k.wrap (a.tdiv b)), by simp [binOp, Op.intDiv, this], fun r => by rw [quoI_eq]; exact .int k _⟩
  case rem =>
    cases h0 : eqI b (.ofNat 0) <;> simp only [h0, cond_true, cond_false, reduceCtorEq, Option.some.injEq] at h
    subst h
    have := eqI_false h0
    exact ⟨.int k (a.tmod b), by simp [binOp, Op.intDiv, this], fun r => by rw [remI_eq]; exact .int k _⟩
  case and =>
    subst h
    refine ⟨.int k (k.wrap (BitVec.ofInt k.bits a &&& BitVec.ofInt k.bits b).toNat), by simp [binOp, Op.intBits], fun r => ?_⟩
    cases hs : (smallI k a && smallI k b)
    · exact .int k _
    · simp only [cond_true]
      rw [andI_eq k a b hs]
      exact .int k _
  case or => subst h; exact ⟨.int k (k.wrap (BitVec.ofInt k.bits a ||| BitVec.ofInt k.bits b).toNat), by simp [binOp, Op.intBits], fun r => .int k _⟩
  case xor => subst h; exact ⟨.int k (k.wrap (BitVec.ofInt k.bits a ^^^ BitVec.ofInt k.bits b).toNat), by simp [binOp, Op.intBits], fun r => .int k _⟩
  case andNot => subst h; exact ⟨.int k (k.wrap (BitVec.ofInt k.bits a &&& ~~~ BitVec.ofInt k.bits b).toNat), by simp [binOp, Op.intBits], fun r => .int k _⟩
  case eql => subst h; exact ⟨.bool (a == b), by simp [binOp, Op.intCmp], fun r => by rw [eqI_eq]; exact .bool _⟩
  case neq => subst h; exact ⟨.bool (a != b), by simp [binOp, Op.intCmp], fun r => by rw [eqI_eq]; exact .bool _⟩
  case lss => subst h; exact ⟨.bool (a < b), by simp [binOp, Op.intCmp], fun r => by rw [ltI_eq]; exact .bool _⟩
  case leq => subst h; exact ⟨.bool (a ≤ b), by simp [binOp, Op.intCmp], fun r => by rw [ltI_eq, show (!decide (b < a)) = decide (a ≤ b) by rw [Bool.eq_iff_iff]; simp]; exact .bool _⟩
  case gtr => subst h; exact ⟨.bool (a > b), by simp [binOp, Op.intCmp], fun r => by rw [ltI_eq]; exact .bool _⟩
  case geq => subst h; exact ⟨.bool (a ≥ b), by simp [binOp, Op.intCmp], fun r => by rw [ltI_eq, show (!decide (a < b)) = decide (a ≥ b) by rw [Bool.eq_iff_iff]; simp]; exact .bool _⟩

/-- A shift. -/
def shiftB (op : BinOp) (k : IntKind) (a : Int) (b : Int) : Option V :=
  Int.casesOn b (fun n =>
    match op with
    | .shl => some (.int k (k.wrap (a * 2 ^ (min n k.bits))))
    | .shr => some (.int k (Int.casesOn a (fun x => .ofNat (Nat.shiftRight x (min n k.bits))) (fun x => (Int.negSucc x).fdiv (2 ^ (min n k.bits)))))
    | _ => none) (fun _ => none)

theorem shiftB_sound {P : Program} {op : BinOp} {k k' : IntKind} {a b : Int} {v : V} (h : shiftB op k a b = some v) (t : TypeId) (w : World) :
    ∃ x, (binOp op t (.int k a) (.int k' b)).run P w = .ok x w ∧ ∀ r, VRel r v x := by
  cases b with
  | negSucc n => simp [shiftB] at h
  | ofNat n =>
    cases op <;> simp only [shiftB, Option.some.injEq, reduceCtorEq] at h
    case shl =>
      subst h
      refine ⟨.int k (k.wrap (a * 2 ^ (min n k.bits))), ?_, fun r => .int k _⟩
      have hn : ¬ ((n : Int) < 0) := by omega
      simp [binOp, Op.shift, hn]
    case shr =>
      subst h
      refine ⟨.int k (a.fdiv (2 ^ (min n k.bits))), ?_, fun r => ?_⟩
      · have hn : ¬ ((n : Int) < 0) := by omega
        simp [binOp, Op.shift, hn]
      · cases a with
        | negSucc x => exact .int k _
        | ofNat x =>
          have e : (Int.ofNat (Nat.shiftRight x (min n k.bits))) = (Int.ofNat x).fdiv (2 ^ (min n k.bits)) := by
            rw [show Nat.shiftRight x (min n k.bits) = x / 2 ^ (min n k.bits) from Nat.shiftRight_eq_div_pow _ _]
            have : (2 ^ (min n k.bits) : Int) = Int.ofNat (2 ^ (min n k.bits)) := by simp
            rw [this]
            exact (Int.fdiv_eq_ediv_of_nonneg (Int.ofNat x) (Int.natCast_nonneg (2 ^ min n k.bits))).symm
          show VRel r (.int k (Int.ofNat _)) _
          rw [e]
          exact .int k _

/-- A number in another kind. -/
def convI (k : IntKind) (a : Int) : Int := Int.casesOn a (fun x => bif Nat.ble x (lim k) then .ofNat x else k.wrap (.ofNat x)) (fun x => k.wrap (.negSucc x))
theorem convI_eq (k : IntKind) (a : Int) : convI k a = k.wrap a := by
  cases a with
  | ofNat x =>
    show (bif Nat.ble x (lim k) then _ else _) = _
    cases h : Nat.ble x (lim k)
    · rfl
    · exact (wrap_small k x (Nat.le_of_ble_eq_true h)).symm
  | negSucc x => rfl

end Go.Ev

namespace Go.Ev

theorem sdec_length (l : Nat) : ∀ n, (sdec n l).length = l := by
  induction l with
  | zero => intro n; rfl
  | succ l ih => intro n; simp [sdec, ih]

theorem sval_size (n l : Nat) : (sval n l).size = l := by
  show (sdec n l).toArray.size = l
  simp [sdec_length]

theorem sdec_get (l : Nat) : ∀ n i, i < l → (sdec n l)[i]? = some (UInt8.ofNat (n / 256 ^ i % 256)) := by
  induction l with
  | zero => intro n i h; omega
  | succ l ih =>
    intro n i h
    cases i with
    | zero => simp [sdec]
    | succ i =>
      simp only [sdec, List.getElem?_cons_succ]
      rw [ih _ i (by omega), Nat.div_div_eq_div_mul, Nat.pow_succ, Nat.mul_comm 256]

theorem sdec_ext {n l : Nat} {xs : List UInt8} (hl : xs.length = l) (h : ∀ i, i < l → xs[i]? = some (UInt8.ofNat (n / 256 ^ i % 256))) : xs = sdec n l := by
  apply List.ext_getElem?
  intro i
  by_cases hi : i < l
  · rw [h i hi, sdec_get l n i hi]
  · rw [List.getElem?_eq_none (by omega), List.getElem?_eq_none (by rw [sdec_length]; omega)]

/-- One behind the other. -/
theorem sdec_append (n l m k : Nat) (h : n < 256 ^ l) : sdec (n + m * 256 ^ l) (l + k) = sdec n l ++ sdec m k := by
  symm
  refine sdec_ext (by simp [sdec_length]) (fun i hi => ?_)
  by_cases hl : i < l
  · rw [List.getElem?_append_left (by rw [sdec_length]; exact hl), sdec_get l n i hl]
    congr 2
    have e : 256 ^ l = 256 ^ i * (256 * 256 ^ (l - i - 1)) := by rw [← Nat.pow_succ', ← Nat.pow_add]; congr 1; omega
    rw [e, ← Nat.mul_assoc, Nat.mul_comm m, Nat.mul_assoc, Nat.add_mul_div_left _ _ (Nat.pow_pos (by omega)), Nat.mul_left_comm, Nat.add_mul_mod_self_left]
  · rw [List.getElem?_append_right (by rw [sdec_length]; omega), sdec_length, sdec_get k m (i - l) (by omega)]
    congr 2
    have e : 256 ^ i = 256 ^ l * 256 ^ (i - l) := by rw [← Nat.pow_add]; congr 1; omega
    rw [e, ← Nat.div_div_eq_div_mul, Nat.add_mul_div_right _ _ (Nat.pow_pos (by omega)), Nat.div_eq_of_lt h, Nat.zero_add]

/-- A piece. -/
theorem sdec_piece (n l a b : Nat) (hb : b ≤ l) (hab : a ≤ b) : sdec (n / 256 ^ a % 256 ^ (b - a)) (b - a) = ((sdec n l).drop a).take (b - a) := by
  symm
  refine sdec_ext (by simp [sdec_length]; omega) (fun i hi => ?_)
  rw [List.getElem?_take_of_lt hi, List.getElem?_drop, sdec_get l n (a + i) (by omega)]
  congr 2
  rw [Nat.pow_add, ← Nat.div_div_eq_div_mul]
  have e : 256 ^ (b - a) = 256 ^ i * 256 ^ (b - a - i) := by rw [← Nat.pow_add]; congr 1; omega
  rw [e, Nat.mod_mul_right_div_self]
  have e2 : 256 ^ (b - a - i) = 256 * 256 ^ (b - a - i - 1) := by rw [← Nat.pow_succ']; congr 1; omega
  rw [e2, Nat.mod_mul_right_mod]

theorem u8_inj {a b : Nat} (ha : a < 256) (hb : b < 256) (h : UInt8.ofNat a = UInt8.ofNat b) : a = b := by
  have := congrArg UInt8.toNat h
  simp at this
  omega

theorem sdec_inj (l : Nat) : ∀ n m, n < 256 ^ l → m < 256 ^ l → sdec n l = sdec m l → n = m := by
  induction l with
  | zero => intro n m h1 h2 _; simp at h1 h2; omega
  | succ l ih =>
    intro n m h1 h2 h
    simp only [sdec, List.cons.injEq] at h
    have e1 := u8_inj (Nat.mod_lt _ (by omega)) (Nat.mod_lt _ (by omega)) h.1
    have e2 := ih (n / 256) (m / 256) (by rw [Nat.pow_succ] at h1; omega) (by rw [Nat.pow_succ] at h2; omega) h.2
    omega

/-- A text's number. -/
def senc : List UInt8 → Nat
  | [] => 0
  | b :: r => b.toNat + 256 * senc r

theorem senc_lt (s : List UInt8) : senc s < 256 ^ s.length := by
  induction s with
  | nil => simp [senc]
  | cons b r ih =>
    have := b.toNat_lt
    simp only [senc, List.length_cons, Nat.pow_succ]
    omega

theorem sdec_senc (s : List UInt8) : sdec (senc s) s.length = s := by
  induction s with
  | nil => rfl
  | cons b r ih =>
    have hb := b.toNat_lt
    simp only [senc, List.length_cons, sdec]
    rw [show (b.toNat + 256 * senc r) % 256 = b.toNat by omega, show (b.toNat + 256 * senc r) / 256 = senc r by omega, ih]
    simp

theorem sval_senc (s : ByteArray) : sval (senc s.data.toList) s.size = s := by
  have h : s.size = s.data.toList.length := by rw [Array.length_toList]; rfl
  show (⟨(sdec (senc s.data.toList) s.size).toArray⟩ : ByteArray) = s
  rw [h, sdec_senc]

theorem vrel_str (r : Emb) (s : ByteArray) : VRel r (.str (senc s.data.toList) s.size) (.string s) := by
  have h : s.size = s.data.toList.length := by rw [Array.length_toList]; rfl
  have := VRel.str (r := r) (n := senc s.data.toList) (l := s.size) (by rw [h]; exact senc_lt _)
  rwa [sval_senc] at this

theorem toList_sval (n l : Nat) : (sval n l).toList = sdec n l := by
  rw [ByteArray.toList_eq]
  rfl

/-- Two texts. -/
def strB (op : BinOp) (n l m k : Nat) : Option V :=
  match op with
  | .add => bif Nat.ble (Nat.add l k) 9223372036854775807 then some (.str (Nat.add n (Nat.mul m (Nat.pow 256 l))) (Nat.add l k)) else none
  | .eql => some (.bool (Nat.beq n m && Nat.beq l k))
  | .neq => some (.bool (!(Nat.beq n m && Nat.beq l k)))
  | .lss => some (.bool (Op.bytesLess (sdec n l) (sdec m k)))
  | .geq => some (.bool (!Op.bytesLess (sdec n l) (sdec m k)))
  | _ => none

theorem sdec_beq {n l m k : Nat} (h1 : n < 256 ^ l) (h2 : m < 256 ^ k) : (Nat.beq n m && Nat.beq l k) = (sdec n l == sdec m k) := by
  rw [Bool.eq_iff_iff, beq_iff_eq, Bool.and_eq_true]
  constructor
  · intro ⟨a, b⟩
    rw [Nat.eq_of_beq_eq_true a, Nat.eq_of_beq_eq_true b]
  · intro h
    have e : l = k := by simpa [sdec_length] using congrArg List.length h
    subst e
    exact ⟨by rw [sdec_inj l n m h1 h2 h]; exact Nat.beq_refl m, Nat.beq_refl l⟩

theorem strB_sound {P : Program} {op : BinOp} {n l m k : Nat} {v : V} (h : strB op n l m k = some v) (h1 : n < 256 ^ l) (h2 : m < 256 ^ k) (t : TypeId) (w : World) :
    ∃ x, (binOp op t (.string (sval n l)) (.string (sval m k))).run P w = .ok x w ∧ ∀ r, VRel r v x := by
  cases op <;> simp only [strB, Option.some.injEq, reduceCtorEq] at h
  case add =>
    cases hb : Nat.ble (Nat.add l k) 9223372036854775807 <;> simp only [hb, cond_true, cond_false, reduceCtorEq, Option.some.injEq] at h
    subst h
    have hle : l + k ≤ 9223372036854775807 := Nat.le_of_ble_eq_true hb
    have hno : (l : Int) + (k : Int) ≤ 9223372036854775807 := by omega
    refine ⟨.string (sval n l ++ sval m k), by simp [binOp, Op.stringOp, sval_size, hno], fun r => ?_⟩
    have e : sval n l ++ sval m k = sval (n + m * 256 ^ l) (l + k) := by
      apply ByteArray.ext
      show _ = (sdec (n + m * 256 ^ l) (l + k)).toArray
      rw [sdec_append n l m k h1]
      simp [sval]
    rw [e]
    refine .str ?_
    show n + m * 256 ^ l < 256 ^ (l + k)
    have : (m + 1) * 256 ^ l ≤ 256 ^ k * 256 ^ l := Nat.mul_le_mul_right _ h2
    rw [Nat.add_mul] at this
    rw [Nat.pow_add, Nat.mul_comm (256 ^ l)]
    omega
  case eql =>
    subst h
    exact ⟨.bool (sdec n l == sdec m k), by simp [binOp, Op.stringOp, toList_sval], fun r => by rw [sdec_beq h1 h2]; exact .bool _⟩
  case neq =>
    subst h
    exact ⟨.bool (!(sdec n l == sdec m k)), by simp [binOp, Op.stringOp, toList_sval], fun r => by rw [sdec_beq h1 h2]; exact .bool _⟩
  case lss =>
    subst h
    exact ⟨.bool (Op.bytesLess (sdec n l) (sdec m k)), by simp [binOp, Op.stringOp, toList_sval], fun r => .bool _⟩
  case geq =>
    subst h
    exact ⟨.bool (!Op.bytesLess (sdec n l) (sdec m k)), by simp [binOp, Op.stringOp, toList_sval], fun r => .bool _⟩

end Go.Ev

namespace Go.Ev

variable {P : Program}

/-! ### Constants and operands -/
def constV1 (x : Value) : V :=
  match x with
  | .bool b => .bool b
  | .int k n => .int k n
  | .string s => .str (senc s.data.toList) s.size
  | .pointer none => .nilp
  | .slice none 0 0 => .nils
  | .nilFunc => .nilFn
  | .nilIface => .nilI
  | _ => .any
def constV (x : Value) : V :=
  match x with
  | .agg cs => .agg (cs.toList.map constV1)
  | x => constV1 x

theorem vrel_constV1 (r : Emb) (x : Value) : VRel r (constV1 x) x := by
  unfold constV1
  split
  · exact .bool _
  · exact .int _ _
  · exact vrel_str r _
  · exact .nilp
  · exact .nils
  · exact .nilFn
  · exact .nilI
  · exact .any _

theorem vsrel_map_constV1 (r : Emb) (l : List Value) : VsRel r (l.map constV1) l := by
  induction l with
  | nil => exact .nil
  | cons x l ih => exact .cons (vrel_constV1 r x) ih

theorem vrel_constV (r : Emb) (x : Value) : VRel r (constV x) x := by
  unfold constV
  split
  · exact .agg (vsrel_map_constV1 r _)
  · exact vrel_constV1 r _

/-- The package-level variables lie where the program says. -/
def GRel (P : Program) (r : Emb) : Prop := ∀ g, g < P.globals.size → ∃ m, r g = some (g, 0, m)
theorem GRel.up {r r' : Emb} (h : r.le r') (hg : GRel P r) : GRel P r' := fun g hlt => let ⟨m, e⟩ := hg g hlt; ⟨m, h _ _ e⟩

/-- Slots as a function. -/
abbrev Tm := Nat → V
def TRel (r : Emb) (T : Tm) (tmps : Array Value) : Prop := ∀ t, VRel r (T t) (tmps.getD t undef)
theorem TRel.up {r r' : Emb} (h : r.le r') {T : Tm} {tmps : Array Value} (ht : TRel r T tmps) : TRel r' T tmps := fun t => (ht t).up h

def evO (P : Program) (T : Tm) (o : Operand) : V :=
  Operand.casesOn o (fun t => T t) (fun v => constV v) (fun g => bif Nat.blt g P.globals.size then .ptr g 0 else .any) (fun f => .fn (.func f) [] [])

theorem evO_sound {r : Emb} {T : Tm} {a : Act} (hg : GRel P r) (ht : TRel r T a.tmps) (o : Operand) : VRel r (evO P T o) (a.eval o) := by
  cases o with
  | tmp t => exact ht t
  | const v => exact vrel_constV r v
  | global g =>
    show VRel r (bif Nat.blt g P.globals.size then .ptr g 0 else .any) (.pointer (some ⟨g, 0, none⟩))
    cases h : Nat.blt g P.globals.size
    · exact .any _
    · obtain ⟨m, e⟩ := hg g (by rw [Nat.blt_eq] at h; exact h)
      exact .ptr (o := 0) e
  | func f => exact .fn rfl .nil .nil

/-! ### Parts -/
/-- A value's cells; what is not known has none. -/
def cellsV (v : V) : Option (List V) :=
  match v with
  | .agg vs => some vs
  | .any => none
  | .tup _ => none
  | v => some [v]

theorem cellsV_sound {r : Emb} {v : V} {x : Value} (h : VRel r v x) {vs : List V} (hc : cellsV v = some vs) : VsRel r vs x.cells.toList := by
  have h' := h
  cases h <;> simp only [cellsV, Option.some.injEq, reduceCtorEq] at hc <;> subst hc
  case agg h => exact h
  all_goals exact .cons h' .nil

/-- One cell, and known. -/
def oneV (v : V) : Bool :=
  match v with
  | .agg _ | .tup _ | .any => false
  | _ => true
theorem oneV_sound {r : Emb} {v : V} {x : Value} (h : VRel r v x) (ho : oneV v = true) : x.oneCell' = true := by
  cases h <;> first | rfl | (simp [oneV] at ho)

def allOne : List V → Bool
  | [] => true
  | v :: vs => bif oneV v then allOne vs else false
theorem allOne_sound {r : Emb} {vs : List V} {xs : List Value} (h : VsRel r vs xs) (ho : allOne vs = true) : ∀ x ∈ xs, x.oneCell' = true := by
  induction vs generalizing xs with
  | nil => cases h; intro x hx; cases hx
  | cons v vs ih =>
    cases h with
    | cons h hs =>
      simp only [allOne] at ho
      cases h1 : oneV v <;> simp only [h1, cond_true, cond_false, Bool.false_eq_true] at ho
      intro y hy
      rcases List.mem_cons.1 hy with e | e
      · subst e; exact oneV_sound h h1
      · exact ih hs ho y e

theorem vsrel_drop {r : Emb} {vs : List V} {xs : List Value} (h : VsRel r vs xs) (n : Nat) : VsRel r (vs.drop n) (xs.drop n) := by
  induction n generalizing vs xs with
  | zero => exact h
  | succ n ih => cases h with
    | nil => exact .nil
    | cons h hs => exact ih hs
theorem vsrel_take {r : Emb} {vs : List V} {xs : List Value} (h : VsRel r vs xs) (n : Nat) : VsRel r (vs.take n) (xs.take n) := by
  induction n generalizing vs xs with
  | zero => simp; exact .nil
  | succ n ih => cases h with
    | nil => exact .nil
    | cons h hs => exact .cons h (ih hs)

def isRow (d : TypeDesc) : Bool := match d with | .struct _ | .array _ _ => true | _ => false

/-- A part of a struct or an array. -/
def partV (P : Program) (t : TypeId) (vs : List V) (off : Nat) : Option V :=
  match P.underlying t, P.info? t with
  | some d, some i => bif isRow d then (bif Nat.ble (off + i.size) vs.length then some (.agg ((vs.drop off).take i.size)) else none) else vs[off]?
  | _, _ => none

theorem partV_sound {r : Emb} {t : TypeId} {vs : List V} {xs : Array Value} {off : Nat} {v : V} (hv : VsRel r vs xs.toList) (h : partV P t vs off = some v) (w : World) :
    ∃ x, (part t xs off).run P w = .ok x w ∧ VRel r v x := by
  unfold partV at h
  split at h
  · rename_i d i hd hi
    cases hr : isRow d
    · rw [hr] at h
      simp only [cond_false] at h
      obtain ⟨x, hx, hvx⟩ := hv.get off h
      have hx' : xs[off]? = some x := by simpa using hx
      refine ⟨x, ?_, hvx⟩
      cases d <;> simp [isRow] at hr <;> simp [part, isAgg, run_underlying hd, hx']
    · rw [hr] at h
      simp only [cond_true] at h
      cases hb : Nat.ble (off + i.size) vs.length <;> simp only [hb, cond_true, cond_false, reduceCtorEq, Option.some.injEq] at h
      subst h
      refine ⟨.agg (xs.extract off (off + i.size)), ?_, .agg ?_⟩
      · cases d <;> simp [isRow] at hr <;> simp [part, isAgg, run_underlying hd, sizeOf, typeInfo, hi]
      · have e : (xs.extract off (off + i.size)).toList = (xs.toList.drop off).take i.size := by
          simp [Array.toList_extract, List.extract_eq_take_drop]
        rw [e]
        exact vsrel_take (vsrel_drop hv off) i.size
  · simp at h

/-- Parts laid into cells. -/
def putAt (zs : List V) (o : Nat) (vs : List V) : List V := zs.take o ++ (vs ++ zs.drop (o + vs.length))

def fillV (place : Nat → Option (Nat × Nat)) (zs : List V) : List (Nat × V) → Option (List V)
  | [] => some zs
  | (i, v) :: rest =>
    match place i, cellsV v with
    | some (off, size), some vs => bif Nat.beq vs.length size && Nat.ble (off + vs.length) zs.length then fillV place (putAt zs off vs) rest else none
    | _, _ => none

theorem setL_toList (xs : List Value) : ∀ (cs : Array Value) (o : Nat), o + xs.length ≤ cs.size → (setL cs o xs).toList = cs.toList.take o ++ (xs ++ cs.toList.drop (o + xs.length)) := by
  intro cs o h
  apply List.ext_getElem?
  intro i
  rw [Array.getElem?_toList]
  by_cases h1 : i < o
  · rw [setL_out xs cs o i (by omega), List.getElem?_append_left (by simp; omega), List.getElem?_take_of_lt h1, Array.getElem?_toList]
  · rw [List.getElem?_append_right (by simp; omega)]
    have e : (cs.toList.take o).length = o := by simp; omega
    rw [e]
    by_cases h2 : i < o + xs.length
    · rw [List.getElem?_append_left (by omega)]
      obtain ⟨j, rfl⟩ : ∃ j, i = o + j := ⟨i - o, by omega⟩
      rw [setL_in xs cs o j h (by omega), show o + j - o = j by omega, List.getElem?_eq_getElem (by omega)]
    · rw [List.getElem?_append_right (by omega), List.getElem?_drop, setL_out xs cs o i (by omega), Array.getElem?_toList]
      congr 1
      omega

theorem fold_setL (xs : List Value) : ∀ (cs : Array Value) (o k : Nat), ((xs.zipIdx k).foldl (fun (cs : Array Value) (p : Value × Nat) => cs.setIfInBounds (o + p.2) p.1) cs) = setL cs (o + k) xs := by
  induction xs with
  | nil => intro cs o k; rfl
  | cons x xs ih =>
    intro cs o k
    simp only [List.zipIdx_cons, List.foldl_cons, setL]
    rw [ih]
    rfl

inductive PsRel (r : Emb) : List (Nat × V) → List (Nat × Value) → Prop where
  | nil : PsRel r [] []
  | cons {i : Nat} {v : V} {x : Value} {ps : List (Nat × V)} {qs : List (Nat × Value)} (h : VRel r v x) (hs : PsRel r ps qs) : PsRel r ((i, v) :: ps) ((i, x) :: qs)

theorem fill_sound {r : Emb} {place : Nat → Option (Nat × Nat)} {parts : List (Nat × V)} : ∀ {zs : List V} {cs : Array Value} {ps : List (Nat × Value)} {out : List V},
    VsRel r zs cs.toList → PsRel r parts ps → fillV place zs parts = some out →
    ∃ cs', Instr.fill place cs ps = some cs' ∧ VsRel r out cs'.toList := by
  induction parts with
  | nil =>
    intro zs cs ps out hz hp h
    cases hp with
    | nil =>
      simp only [fillV, Option.some.injEq] at h
      subst h
      exact ⟨cs, rfl, hz⟩
  | cons p parts ih =>
    intro zs cs ps out hz hp h
    cases hp with
    | @cons i v x _ ps hvx hp =>
      simp only [fillV] at h
      split at h
      · rename_i off size vs hpl hcv
        have hvs := cellsV_sound hvx hcv
        have hl := hvs.length
        have hzl := hz.length
        cases hc : (Nat.beq vs.length size && Nat.ble (off + vs.length) zs.length) <;> simp only [hc, cond_true, cond_false, reduceCtorEq] at h
        simp only [Bool.and_eq_true] at hc
        have h1 := Nat.eq_of_beq_eq_true hc.1
        have h2 := Nat.le_of_ble_eq_true hc.2
        have hxs : x.cells.size = vs.length := by rw [← Array.length_toList]; exact hl.symm
        have hcs : cs.size = zs.length := by rw [← Array.length_toList]; exact hzl.symm
        have hfold : (x.cells.zipIdx.foldl (fun (cs : Array Value) (p : Value × Nat) => cs.setIfInBounds (off + p.2) p.1) cs) = setL cs off x.cells.toList := by
          rw [← Array.foldl_toList, Array.toList_zipIdx, fold_setL]
          rfl
        have hz' : VsRel r (putAt zs off vs) (setL cs off x.cells.toList).toList := by
          rw [setL_toList _ _ _ (by rw [Array.length_toList]; omega)]
          unfold putAt
          refine (vsrel_take hz off).append (hvs.append ?_)
          rw [← hl]
          exact vsrel_drop hz _
        obtain ⟨cs', g1, g2⟩ := ih hz' hp h
        refine ⟨cs', ?_, g2⟩
        simp only [Instr.fill, hpl]
        rw [if_neg (by simp; omega)]
        have : (x.cells.zipIdx.foldl (fun cs (c, j) => cs.setIfInBounds (off + j) c) cs) = setL cs off x.cells.toList := hfold
        rw [this]
        exact g1
      · simp at h

end Go.Ev
