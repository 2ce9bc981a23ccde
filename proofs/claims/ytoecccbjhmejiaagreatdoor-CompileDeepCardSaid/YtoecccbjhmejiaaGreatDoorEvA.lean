/- Sixteen-ary tuples for the evaluator: reading and writing one place. No condition. -/
import Derived.Defers
import Derived.Orders
namespace Go.Ev
/-- Sixteen things of one kind. -/
inductive T16 (α : Type) where
  | mk (x0 x1 x2 x3 x4 x5 x6 x7 x8 x9 x10 x11 x12 x13 x14 x15 : α)
namespace T16
variable {α : Type}
def g0 (t : T16 α) : α := T16.casesOn t (fun x _ _ _ _ _ _ _ _ _ _ _ _ _ _ _ => x)
def g1 (t : T16 α) : α := T16.casesOn t (fun _ x _ _ _ _ _ _ _ _ _ _ _ _ _ _ => x)
def g2 (t : T16 α) : α := T16.casesOn t (fun _ _ x _ _ _ _ _ _ _ _ _ _ _ _ _ => x)
def g3 (t : T16 α) : α := T16.casesOn t (fun _ _ _ x _ _ _ _ _ _ _ _ _ _ _ _ => x)
def g4 (t : T16 α) : α := T16.casesOn t (fun _ _ _ _ x _ _ _ _ _ _ _ _ _ _ _ => x)
def g5 (t : T16 α) : α := T16.casesOn t (fun _ _ _ _ _ x _ _ _ _ _ _ _ _ _ _ => x)
def g6 (t : T16 α) : α := T16.casesOn t (fun _ _ _ _ _ _ x _ _ _ _ _ _ _ _ _ => x)
def g7 (t : T16 α) : α := T16.casesOn t (fun _ _ _ _ _ _ _ x _ _ _ _ _ _ _ _ => x)
def g8 (t : T16 α) : α := T16.casesOn t (fun _ _ _ _ _ _ _ _ x _ _ _ _ _ _ _ => x)
def g9 (t : T16 α) : α := T16.casesOn t (fun _ _ _ _ _ _ _ _ _ x _ _ _ _ _ _ => x)
def g10 (t : T16 α) : α := T16.casesOn t (fun _ _ _ _ _ _ _ _ _ _ x _ _ _ _ _ => x)
def g11 (t : T16 α) : α := T16.casesOn t (fun _ _ _ _ _ _ _ _ _ _ _ x _ _ _ _ => x)
def g12 (t : T16 α) : α := T16.casesOn t (fun _ _ _ _ _ _ _ _ _ _ _ _ x _ _ _ => x)
def g13 (t : T16 α) : α := T16.casesOn t (fun _ _ _ _ _ _ _ _ _ _ _ _ _ x _ _ => x)
def g14 (t : T16 α) : α := T16.casesOn t (fun _ _ _ _ _ _ _ _ _ _ _ _ _ _ x _ => x)
def g15 (t : T16 α) : α := T16.casesOn t (fun _ _ _ _ _ _ _ _ _ _ _ _ _ _ _ x => x)
def s0 (v : α) (t : T16 α) : T16 α := T16.casesOn t (fun _ x1 x2 x3 x4 x5 x6 x7 x8 x9 x10 x11 x12 x13 x14 x15 => .mk v x1 x2 x3 x4 x5 x6 x7 x8 x9 x10 x11 x12 x13 x14 x15)
def s1 (v : α) (t : T16 α) : T16 α := T16.casesOn t (fun x0 _ x2 x3 x4 x5 x6 x7 x8 x9 x10 x11 x12 x13 x14 x15 => .mk x0 v x2 x3 x4 x5 x6 x7 x8 x9 x10 x11 x12 x13 x14 x15)
def s2 (v : α) (t : T16 α) : T16 α := T16.casesOn t (fun x0 x1 _ x3 x4 x5 x6 x7 x8 x9 x10 x11 x12 x13 x14 x15 => .mk x0 x1 v x3 x4 x5 x6 x7 x8 x9 x10 x11 x12 x13 x14 x15)
def s3 (v : α) (t : T16 α) : T16 α := T16.casesOn t (fun x0 x1 x2 _ x4 x5 x6 x7 x8 x9 x10 x11 x12 x13 x14 x15 => .mk x0 x1 x2 v x4 x5 x6 x7 x8 x9 x10 x11 x12 x13 x14 x15)
def s4 (v : α) (t : T16 α) : T16 α := T16.casesOn t (fun x0 x1 x2 x3 _ x5 x6 x7 x8 x9 x10 x11 x12 x13 x14 x15 => .mk x0 x1 x2 x3 v x5 x6 x7 x8 x9 x10 x11 x12 x13 x14 x15)
def s5 (v : α) (t : T16 α) : T16 α := T16.casesOn t (fun x0 x1 x2 x3 x4 _ x6 x7 x8 x9 x10 x11 x12 x13 x14 x15 => .mk x0 x1 x2 x3 x4 v x6 x7 x8 x9 x10 x11 x12 x13 x14 x15)
def s6 (v : α) (t : T16 α) : T16 α := T16.casesOn t (fun x0 x1 x2 x3 x4 x5 _ x7 x8 x9 x10 x11 x12 x13 x14 x15 => .mk x0 x1 x2 x3 x4 x5 v x7 x8 x9 x10 x11 x12 x13 x14 x15)
def s7 (v : α) (t : T16 α) : T16 α := T16.casesOn t (fun x0 x1 x2 x3 x4 x5 x6 _ x8 x9 x10 x11 x12 x13 x14 x15 => .mk x0 x1 x2 x3 x4 x5 x6 v x8 x9 x10 x11 x12 x13 x14 x15)
def s8 (v : α) (t : T16 α) : T16 α := T16.casesOn t (fun x0 x1 x2 x3 x4 x5 x6 x7 _ x9 x10 x11 x12 x13 x14 x15 => .mk x0 x1 x2 x3 x4 x5 x6 x7 v x9 x10 x11 x12 x13 x14 x15)
def s9 (v : α) (t : T16 α) : T16 α := T16.casesOn t (fun x0 x1 x2 x3 x4 x5 x6 x7 x8 _ x10 x11 x12 x13 x14 x15 => .mk x0 x1 x2 x3 x4 x5 x6 x7 x8 v x10 x11 x12 x13 x14 x15)
def s10 (v : α) (t : T16 α) : T16 α := T16.casesOn t (fun x0 x1 x2 x3 x4 x5 x6 x7 x8 x9 _ x11 x12 x13 x14 x15 => .mk x0 x1 x2 x3 x4 x5 x6 x7 x8 x9 v x11 x12 x13 x14 x15)
def s11 (v : α) (t : T16 α) : T16 α := T16.casesOn t (fun x0 x1 x2 x3 x4 x5 x6 x7 x8 x9 x10 _ x12 x13 x14 x15 => .mk x0 x1 x2 x3 x4 x5 x6 x7 x8 x9 x10 v x12 x13 x14 x15)
def s12 (v : α) (t : T16 α) : T16 α := T16.casesOn t (fun x0 x1 x2 x3 x4 x5 x6 x7 x8 x9 x10 x11 _ x13 x14 x15 => .mk x0 x1 x2 x3 x4 x5 x6 x7 x8 x9 x10 x11 v x13 x14 x15)
def s13 (v : α) (t : T16 α) : T16 α := T16.casesOn t (fun x0 x1 x2 x3 x4 x5 x6 x7 x8 x9 x10 x11 x12 _ x14 x15 => .mk x0 x1 x2 x3 x4 x5 x6 x7 x8 x9 x10 x11 x12 v x14 x15)
def s14 (v : α) (t : T16 α) : T16 α := T16.casesOn t (fun x0 x1 x2 x3 x4 x5 x6 x7 x8 x9 x10 x11 x12 x13 _ x15 => .mk x0 x1 x2 x3 x4 x5 x6 x7 x8 x9 x10 x11 x12 x13 v x15)
def s15 (v : α) (t : T16 α) : T16 α := T16.casesOn t (fun x0 x1 x2 x3 x4 x5 x6 x7 x8 x9 x10 x11 x12 x13 x14 _ => .mk x0 x1 x2 x3 x4 x5 x6 x7 x8 x9 x10 x11 x12 x13 x14 v)
def all (v : α) : T16 α := .mk v v v v v v v v v v v v v v v v
/-- Place d, d below 16. -/
def get (d : Nat) (t : T16 α) : α := (Bool.casesOn (Nat.beq (Nat.land d 8) 0) (Bool.casesOn (Nat.beq (Nat.land d 4) 0) (Bool.casesOn (Nat.beq (Nat.land d 2) 0) (Bool.casesOn (Nat.beq (Nat.land d 1) 0) (g15 t) (g14 t)) (Bool.casesOn (Nat.beq (Nat.land d 1) 0) (g13 t) (g12 t))) (Bool.casesOn (Nat.beq (Nat.land d 2) 0) (Bool.casesOn (Nat.beq (Nat.land d 1) 0) (g11 t) (g10 t)) (Bool.casesOn (Nat.beq (Nat.land d 1) 0) (g9 t) (g8 t)))) (Bool.casesOn (Nat.beq (Nat.land d 4) 0) (Bool.casesOn (Nat.beq (Nat.land d 2) 0) (Bool.casesOn (Nat.beq (Nat.land d 1) 0) (g7 t) (g6 t)) (Bool.casesOn (Nat.beq (Nat.land d 1) 0) (g5 t) (g4 t))) (Bool.casesOn (Nat.beq (Nat.land d 2) 0) (Bool.casesOn (Nat.beq (Nat.land d 1) 0) (g3 t) (g2 t)) (Bool.casesOn (Nat.beq (Nat.land d 1) 0) (g1 t) (g0 t)))))
def set (d : Nat) (v : α) (t : T16 α) : T16 α := (Bool.casesOn (Nat.beq (Nat.land d 8) 0) (Bool.casesOn (Nat.beq (Nat.land d 4) 0) (Bool.casesOn (Nat.beq (Nat.land d 2) 0) (Bool.casesOn (Nat.beq (Nat.land d 1) 0) (s15 v t) (s14 v t)) (Bool.casesOn (Nat.beq (Nat.land d 1) 0) (s13 v t) (s12 v t))) (Bool.casesOn (Nat.beq (Nat.land d 2) 0) (Bool.casesOn (Nat.beq (Nat.land d 1) 0) (s11 v t) (s10 v t)) (Bool.casesOn (Nat.beq (Nat.land d 1) 0) (s9 v t) (s8 v t)))) (Bool.casesOn (Nat.beq (Nat.land d 4) 0) (Bool.casesOn (Nat.beq (Nat.land d 2) 0) (Bool.casesOn (Nat.beq (Nat.land d 1) 0) (s7 v t) (s6 v t)) (Bool.casesOn (Nat.beq (Nat.land d 1) 0) (s5 v t) (s4 v t))) (Bool.casesOn (Nat.beq (Nat.land d 2) 0) (Bool.casesOn (Nat.beq (Nat.land d 1) 0) (s3 v t) (s2 v t)) (Bool.casesOn (Nat.beq (Nat.land d 1) 0) (s1 v t) (s0 v t)))))
def u0 (f : α → α) (t : T16 α) : T16 α := T16.casesOn t (fun x0 x1 x2 x3 x4 x5 x6 x7 x8 x9 x10 x11 x12 x13 x14 x15 => .mk (f x0) x1 x2 x3 x4 x5 x6 x7 x8 x9 x10 x11 x12 x13 x14 x15)
def u1 (f : α → α) (t : T16 α) : T16 α := T16.casesOn t (fun x0 x1 x2 x3 x4 x5 x6 x7 x8 x9 x10 x11 x12 x13 x14 x15 => .mk x0 (f x1) x2 x3 x4 x5 x6 x7 x8 x9 x10 x11 x12 x13 x14 x15)
def u2 (f : α → α) (t : T16 α) : T16 α := T16.casesOn t (fun x0 x1 x2 x3 x4 x5 x6 x7 x8 x9 x10 x11 x12 x13 x14 x15 => .mk x0 x1 (f x2) x3 x4 x5 x6 x7 x8 x9 x10 x11 x12 x13 x14 x15)
def u3 (f : α → α) (t : T16 α) : T16 α := T16.casesOn t (fun x0 x1 x2 x3 x4 x5 x6 x7 x8 x9 x10 x11 x12 x13 x14 x15 => .mk x0 x1 x2 (f x3) x4 x5 x6 x7 x8 x9 x10 x11 x12 x13 x14 x15)
def u4 (f : α → α) (t : T16 α) : T16 α := T16.casesOn t (fun x0 x1 x2 x3 x4 x5 x6 x7 x8 x9 x10 x11 x12 x13 x14 x15 => .mk x0 x1 x2 x3 (f x4) x5 x6 x7 x8 x9 x10 x11 x12 x13 x14 x15)
def u5 (f : α → α) (t : T16 α) : T16 α := T16.casesOn t (fun x0 x1 x2 x3 x4 x5 x6 x7 x8 x9 x10 x11 x12 x13 x14 x15 => .mk x0 x1 x2 x3 x4 (f x5) x6 x7 x8 x9 x10 x11 x12 x13 x14 x15)
def u6 (f : α → α) (t : T16 α) : T16 α := T16.casesOn t (fun x0 x1 x2 x3 x4 x5 x6 x7 x8 x9 x10 x11 x12 x13 x14 x15 => .mk x0 x1 x2 x3 x4 x5 (f x6) x7 x8 x9 x10 x11 x12 x13 x14 x15)
def u7 (f : α → α) (t : T16 α) : T16 α := T16.casesOn t (fun x0 x1 x2 x3 x4 x5 x6 x7 x8 x9 x10 x11 x12 x13 x14 x15 => .mk x0 x1 x2 x3 x4 x5 x6 (f x7) x8 x9 x10 x11 x12 x13 x14 x15)
def u8 (f : α → α) (t : T16 α) : T16 α := T16.casesOn t (fun x0 x1 x2 x3 x4 x5 x6 x7 x8 x9 x10 x11 x12 x13 x14 x15 => .mk x0 x1 x2 x3 x4 x5 x6 x7 (f x8) x9 x10 x11 x12 x13 x14 x15)
def u9 (f : α → α) (t : T16 α) : T16 α := T16.casesOn t (fun x0 x1 x2 x3 x4 x5 x6 x7 x8 x9 x10 x11 x12 x13 x14 x15 => .mk x0 x1 x2 x3 x4 x5 x6 x7 x8 (f x9) x10 x11 x12 x13 x14 x15)
def u10 (f : α → α) (t : T16 α) : T16 α := T16.casesOn t (fun x0 x1 x2 x3 x4 x5 x6 x7 x8 x9 x10 x11 x12 x13 x14 x15 => .mk x0 x1 x2 x3 x4 x5 x6 x7 x8 x9 (f x10) x11 x12 x13 x14 x15)
def u11 (f : α → α) (t : T16 α) : T16 α := T16.casesOn t (fun x0 x1 x2 x3 x4 x5 x6 x7 x8 x9 x10 x11 x12 x13 x14 x15 => .mk x0 x1 x2 x3 x4 x5 x6 x7 x8 x9 x10 (f x11) x12 x13 x14 x15)
def u12 (f : α → α) (t : T16 α) : T16 α := T16.casesOn t (fun x0 x1 x2 x3 x4 x5 x6 x7 x8 x9 x10 x11 x12 x13 x14 x15 => .mk x0 x1 x2 x3 x4 x5 x6 x7 x8 x9 x10 x11 (f x12) x13 x14 x15)
def u13 (f : α → α) (t : T16 α) : T16 α := T16.casesOn t (fun x0 x1 x2 x3 x4 x5 x6 x7 x8 x9 x10 x11 x12 x13 x14 x15 => .mk x0 x1 x2 x3 x4 x5 x6 x7 x8 x9 x10 x11 x12 (f x13) x14 x15)
def u14 (f : α → α) (t : T16 α) : T16 α := T16.casesOn t (fun x0 x1 x2 x3 x4 x5 x6 x7 x8 x9 x10 x11 x12 x13 x14 x15 => .mk x0 x1 x2 x3 x4 x5 x6 x7 x8 x9 x10 x11 x12 x13 (f x14) x15)
def u15 (f : α → α) (t : T16 α) : T16 α := T16.casesOn t (fun x0 x1 x2 x3 x4 x5 x6 x7 x8 x9 x10 x11 x12 x13 x14 x15 => .mk x0 x1 x2 x3 x4 x5 x6 x7 x8 x9 x10 x11 x12 x13 x14 (f x15))
def upd (d : Nat) (f : α → α) (t : T16 α) : T16 α := (Bool.casesOn (Nat.beq (Nat.land d 8) 0) (Bool.casesOn (Nat.beq (Nat.land d 4) 0) (Bool.casesOn (Nat.beq (Nat.land d 2) 0) (Bool.casesOn (Nat.beq (Nat.land d 1) 0) (u15 f t) (u14 f t)) (Bool.casesOn (Nat.beq (Nat.land d 1) 0) (u13 f t) (u12 f t))) (Bool.casesOn (Nat.beq (Nat.land d 2) 0) (Bool.casesOn (Nat.beq (Nat.land d 1) 0) (u11 f t) (u10 f t)) (Bool.casesOn (Nat.beq (Nat.land d 1) 0) (u9 f t) (u8 f t)))) (Bool.casesOn (Nat.beq (Nat.land d 4) 0) (Bool.casesOn (Nat.beq (Nat.land d 2) 0) (Bool.casesOn (Nat.beq (Nat.land d 1) 0) (u7 f t) (u6 f t)) (Bool.casesOn (Nat.beq (Nat.land d 1) 0) (u5 f t) (u4 f t))) (Bool.casesOn (Nat.beq (Nat.land d 2) 0) (Bool.casesOn (Nat.beq (Nat.land d 1) 0) (u3 f t) (u2 f t)) (Bool.casesOn (Nat.beq (Nat.land d 1) 0) (u1 f t) (u0 f t)))))
theorem upd_eq (d : Nat) (f : α → α) (t : T16 α) : t.upd d f = t.set d (f (t.get d)) := by
  unfold upd set get
  cases t
  cases Nat.beq (Nat.land d 8) 0 <;> cases Nat.beq (Nat.land d 4) 0 <;> cases Nat.beq (Nat.land d 2) 0 <;> cases Nat.beq (Nat.land d 1) 0 <;> rfl
theorem get_all (d : Nat) (v : α) (h : d < 16) : (all v).get d = v :=
  match d, h with | 0, _ => rfl | 1, _ => rfl | 2, _ => rfl | 3, _ => rfl | 4, _ => rfl | 5, _ => rfl | 6, _ => rfl | 7, _ => rfl | 8, _ => rfl | 9, _ => rfl | 10, _ => rfl | 11, _ => rfl | 12, _ => rfl | 13, _ => rfl | 14, _ => rfl | 15, _ => rfl | n + 16, h => absurd h (by omega)
theorem go0 (v : α) (t : T16 α) (e : Nat) (h : e < 16) (hne : e ≠ 0) : (s0 v t).get e = t.get e :=
  T16.casesOn t (fun _ _ _ _ _ _ _ _ _ _ _ _ _ _ _ _ => match e, h, hne with | 0, _, hn => absurd rfl hn | 1, _, _ => rfl | 2, _, _ => rfl | 3, _, _ => rfl | 4, _, _ => rfl | 5, _, _ => rfl | 6, _, _ => rfl | 7, _, _ => rfl | 8, _, _ => rfl | 9, _, _ => rfl | 10, _, _ => rfl | 11, _, _ => rfl | 12, _, _ => rfl | 13, _, _ => rfl | 14, _, _ => rfl | 15, _, _ => rfl | n + 16, h, _ => absurd h (by omega))
theorem go1 (v : α) (t : T16 α) (e : Nat) (h : e < 16) (hne : e ≠ 1) : (s1 v t).get e = t.get e :=
  T16.casesOn t (fun _ _ _ _ _ _ _ _ _ _ _ _ _ _ _ _ => match e, h, hne with | 0, _, _ => rfl | 1, _, hn => absurd rfl hn | 2, _, _ => rfl | 3, _, _ => rfl | 4, _, _ => rfl | 5, _, _ => rfl | 6, _, _ => rfl | 7, _, _ => rfl | 8, _, _ => rfl | 9, _, _ => rfl | 10, _, _ => rfl | 11, _, _ => rfl | 12, _, _ => rfl | 13, _, _ => rfl | 14, _, _ => rfl | 15, _, _ => rfl | n + 16, h, _ => absurd h (by omega))
theorem go2 (v : α) (t : T16 α) (e : Nat) (h : e < 16) (hne : e ≠ 2) : (s2 v t).get e = t.get e :=
  T16.casesOn t (fun _ _ _ _ _ _ _ _ _ _ _ _ _ _ _ _ => match e, h, hne with | 0, _, _ => rfl | 1, _, _ => rfl | 2, _, hn => absurd rfl hn | 3, _, _ => rfl | 4, _, _ => rfl | 5, _, _ => rfl | 6, _, _ => rfl | 7, _, _ => rfl | 8, _, _ => rfl | 9, _, _ => rfl | 10, _, _ => rfl | 11, _, _ => rfl | 12, _, _ => rfl | 13, _, _ => rfl | 14, _, _ => rfl | 15, _, _ => rfl | n + 16, h, _ => absurd h (by omega))
theorem go3 (v : α) (t : T16 α) (e : Nat) (h : e < 16) (hne : e ≠ 3) : (s3 v t).get e = t.get e :=
  T16.casesOn t (fun _ _ _ _ _ _ _ _ _ _ _ _ _ _ _ _ => match e, h, hne with | 0, _, _ => rfl | 1, _, _ => rfl | 2, _, _ => rfl | 3, _, hn => absurd rfl hn | 4, _, _ => rfl | 5, _, _ => rfl | 6, _, _ => rfl | 7, _, _ => rfl | 8, _, _ => rfl | 9, _, _ => rfl | 10, _, _ => rfl | 11, _, _ => rfl | 12, _, _ => rfl | 13, _, _ => rfl | 14, _, _ => rfl | 15, _, _ => rfl | n + 16, h, _ => absurd h (by omega))
theorem go4 (v : α) (t : T16 α) (e : Nat) (h : e < 16) (hne : e ≠ 4) : (s4 v t).get e = t.get e :=
  T16.casesOn t (fun _ _ _ _ _ _ _ _ _ _ _ _ _ _ _ _ => match e, h, hne with | 0, _, _ => rfl | 1, _, _ => rfl | 2, _, _ => rfl | 3, _, _ => rfl | 4, _, hn => absurd rfl hn | 5, _, _ => rfl | 6, _, _ => rfl | 7, _, _ => rfl | 8, _, _ => rfl | 9, _, _ => rfl | 10, _, _ => rfl | 11, _, _ => rfl | 12, _, _ => rfl | 13, _, _ => rfl | 14, _, _ => rfl | 15, _, _ => rfl | n + 16, h, _ => absurd h (by omega))
theorem go5 (v : α) (t : T16 α) (e : Nat) (h : e < 16) (hne : e ≠ 5) : (s5 v t).get e = t.get e :=
  T16.casesOn t (fun _ _ _ _ _ _ _ _ _ _ _ _ _ _ _ _ => match e, h, hne with | 0, _, _ => rfl | 1, _, _ => rfl | 2, _, _ => rfl | 3, _, _ => rfl | 4, _, _ => rfl | 5, _, hn => absurd rfl hn | 6, _, _ => rfl | 7, _, _ => rfl | 8, _, _ => rfl | 9, _, _ => rfl | 10, _, _ => rfl | 11, _, _ => rfl | 12, _, _ => rfl | 13, _, _ => rfl | 14, _, _ => rfl | 15, _, _ => rfl | n + 16, h, _ => absurd h (by omega))
theorem go6 (v : α) (t : T16 α) (e : Nat) (h : e < 16) (hne : e ≠ 6) : (s6 v t).get e = t.get e :=
  T16.casesOn t (fun _ _ _ _ _ _ _ _ _ _ _ _ _ _ _ _ => match e, h, hne with | 0, _, _ => rfl | 1, _, _ => rfl | 2, _, _ => rfl | 3, _, _ => rfl | 4, _, _ => rfl | 5, _, _ => rfl | 6, _, hn => absurd rfl hn | 7, _, _ => rfl | 8, _, _ => rfl | 9, _, _ => rfl | 10, _, _ => rfl | 11, _, _ => rfl | 12, _, _ => rfl | 13, _, _ => rfl | 14, _, _ => rfl | 15, _, _ => rfl | n + 16, h, _ => absurd h (by omega))
theorem go7 (v : α) (t : T16 α) (e : Nat) (h : e < 16) (hne : e ≠ 7) : (s7 v t).get e = t.get e :=
  T16.casesOn t (fun _ _ _ _ _ _ _ _ _ _ _ _ _ _ _ _ => match e, h, hne with | 0, _, _ => rfl | 1, _, _ => rfl | 2, _, _ => rfl | 3, _, _ => rfl | 4, _, _ => rfl | 5, _, _ => rfl | 6, _, _ => rfl | 7, _, hn => absurd rfl hn | 8, _, _ => rfl | 9, _, _ => rfl | 10, _, _ => rfl | 11, _, _ => rfl | 12, _, _ => rfl | 13, _, _ => rfl | 14, _, _ => rfl | 15, _, _ => rfl | n + 16, h, _ => absurd h (by omega))
theorem go8 (v : α) (t : T16 α) (e : Nat) (h : e < 16) (hne : e ≠ 8) : (s8 v t).get e = t.get e :=
  T16.casesOn t (fun _ _ _ _ _ _ _ _ _ _ _ _ _ _ _ _ => match e, h, hne with | 0, _, _ => rfl | 1, _, _ => rfl | 2, _, _ => rfl | 3, _, _ => rfl | 4, _, _ => rfl | 5, _, _ => rfl | 6, _, _ => rfl | 7, _, _ => rfl | 8, _, hn => absurd rfl hn | 9, _, _ => rfl | 10, _, _ => rfl | 11, _, _ => rfl | 12, _, _ => rfl | 13, _, _ => rfl | 14, _, _ => rfl | 15, _, _ => rfl | n + 16, h, _ => absurd h (by omega))
theorem go9 (v : α) (t : T16 α) (e : Nat) (h : e < 16) (hne : e ≠ 9) : (s9 v t).get e = t.get e :=
  T16.casesOn t (fun _ _ _ _ _ _ _ _ _ _ _ _ _ _ _ _ => match e, h, hne with | 0, _, _ => rfl | 1, _, _ => rfl | 2, _, _ => rfl | 3, _, _ => rfl | 4, _, _ => rfl | 5, _, _ => rfl | 6, _, _ => rfl | 7, _, _ => rfl | 8, _, _ => rfl | 9, _, hn => absurd rfl hn | 10, _, _ => rfl | 11, _, _ => rfl | 12, _, _ => rfl | 13, _, _ => rfl | 14, _, _ => rfl | 15, _, _ => rfl | n + 16, h, _ => absurd h (by omega))
theorem go10 (v : α) (t : T16 α) (e : Nat) (h : e < 16) (hne : e ≠ 10) : (s10 v t).get e = t.get e :=
  T16.casesOn t (fun _ _ _ _ _ _ _ _ _ _ _ _ _ _ _ _ => match e, h, hne with | 0, _, _ => rfl | 1, _, _ => rfl | 2, _, _ => rfl | 3, _, _ => rfl | 4, _, _ => rfl | 5, _, _ => rfl | 6, _, _ => rfl | 7, _, _ => rfl | 8, _, _ => rfl | 9, _, _ => rfl | 10, _, hn => absurd rfl hn | 11, _, _ => rfl | 12, _, _ => rfl | 13, _, _ => rfl | 14, _, _ => rfl | 15, _, _ => rfl | n + 16, h, _ => absurd h (by omega))
theorem go11 (v : α) (t : T16 α) (e : Nat) (h : e < 16) (hne : e ≠ 11) : (s11 v t).get e = t.get e :=
  T16.casesOn t (fun _ _ _ _ _ _ _ _ _ _ _ _ _ _ _ _ => match e, h, hne with | 0, _, _ => rfl | 1, _, _ => rfl | 2, _, _ => rfl | 3, _, _ => rfl | 4, _, _ => rfl | 5, _, _ => rfl | 6, _, _ => rfl | 7, _, _ => rfl | 8, _, _ => rfl | 9, _, _ => rfl | 10, _, _ => rfl | 11, _, hn => absurd rfl hn | 12, _, _ => rfl | 13, _, _ => rfl | 14, _, _ => rfl | 15, _, _ => rfl | n + 16, h, _ => absurd h (by omega))
theorem go12 (v : α) (t : T16 α) (e : Nat) (h : e < 16) (hne : e ≠ 12) : (s12 v t).get e = t.get e :=
  T16.casesOn t (fun _ _ _ _ _ _ _ _ _ _ _ _ _ _ _ _ => match e, h, hne with | 0, _, _ => rfl | 1, _, _ => rfl | 2, _, _ => rfl | 3, _, _ => rfl | 4, _, _ => rfl | 5, _, _ => rfl | 6, _, _ => rfl | 7, _, _ => rfl | 8, _, _ => rfl | 9, _, _ => rfl | 10, _, _ => rfl | 11, _, _ => rfl | 12, _, hn => absurd rfl hn | 13, _, _ => rfl | 14, _, _ => rfl | 15, _, _ => rfl | n + 16, h, _ => absurd h (by omega))
theorem go13 (v : α) (t : T16 α) (e : Nat) (h : e < 16) (hne : e ≠ 13) : (s13 v t).get e = t.get e :=
  T16.casesOn t (fun _ _ _ _ _ _ _ _ _ _ _ _ _ _ _ _ => match e, h, hne with | 0, _, _ => rfl | 1, _, _ => rfl | 2, _, _ => rfl | 3, _, _ => rfl | 4, _, _ => rfl | 5, _, _ => rfl | 6, _, _ => rfl | 7, _, _ => rfl | 8, _, _ => rfl | 9, _, _ => rfl | 10, _, _ => rfl | 11, _, _ => rfl | 12, _, _ => rfl | 13, _, hn => absurd rfl hn | 14, _, _ => rfl | 15, _, _ => rfl | n + 16, h, _ => absurd h (by omega))
theorem go14 (v : α) (t : T16 α) (e : Nat) (h : e < 16) (hne : e ≠ 14) : (s14 v t).get e = t.get e :=
  T16.casesOn t (fun _ _ _ _ _ _ _ _ _ _ _ _ _ _ _ _ => match e, h, hne with | 0, _, _ => rfl | 1, _, _ => rfl | 2, _, _ => rfl | 3, _, _ => rfl | 4, _, _ => rfl | 5, _, _ => rfl | 6, _, _ => rfl | 7, _, _ => rfl | 8, _, _ => rfl | 9, _, _ => rfl | 10, _, _ => rfl | 11, _, _ => rfl | 12, _, _ => rfl | 13, _, _ => rfl | 14, _, hn => absurd rfl hn | 15, _, _ => rfl | n + 16, h, _ => absurd h (by omega))
theorem go15 (v : α) (t : T16 α) (e : Nat) (h : e < 16) (hne : e ≠ 15) : (s15 v t).get e = t.get e :=
  T16.casesOn t (fun _ _ _ _ _ _ _ _ _ _ _ _ _ _ _ _ => match e, h, hne with | 0, _, _ => rfl | 1, _, _ => rfl | 2, _, _ => rfl | 3, _, _ => rfl | 4, _, _ => rfl | 5, _, _ => rfl | 6, _, _ => rfl | 7, _, _ => rfl | 8, _, _ => rfl | 9, _, _ => rfl | 10, _, _ => rfl | 11, _, _ => rfl | 12, _, _ => rfl | 13, _, _ => rfl | 14, _, _ => rfl | 15, _, hn => absurd rfl hn | n + 16, h, _ => absurd h (by omega))
theorem get_set_other (d e : Nat) (v : α) (t : T16 α) (h : d < 16) (h' : e < 16) (hne : e ≠ d) : (t.set d v).get e = t.get e :=
  match d, h, hne with | 0, _, hn => go0 v t e h' hn | 1, _, hn => go1 v t e h' hn | 2, _, hn => go2 v t e h' hn | 3, _, hn => go3 v t e h' hn | 4, _, hn => go4 v t e h' hn | 5, _, hn => go5 v t e h' hn | 6, _, hn => go6 v t e h' hn | 7, _, hn => go7 v t e h' hn | 8, _, hn => go8 v t e h' hn | 9, _, hn => go9 v t e h' hn | 10, _, hn => go10 v t e h' hn | 11, _, hn => go11 v t e h' hn | 12, _, hn => go12 v t e h' hn | 13, _, hn => go13 v t e h' hn | 14, _, hn => go14 v t e h' hn | 15, _, hn => go15 v t e h' hn | n + 16, h, _ => absurd h (by omega)
theorem get_set_same (d : Nat) (v : α) (t : T16 α) (h : d < 16) : (t.set d v).get d = v :=
  T16.casesOn t (fun _ _ _ _ _ _ _ _ _ _ _ _ _ _ _ _ => match d, h with | 0, _ => rfl | 1, _ => rfl | 2, _ => rfl | 3, _ => rfl | 4, _ => rfl | 5, _ => rfl | 6, _ => rfl | 7, _ => rfl | 8, _ => rfl | 9, _ => rfl | 10, _ => rfl | 11, _ => rfl | 12, _ => rfl | 13, _ => rfl | 14, _ => rfl | 15, _ => rfl | n + 16, h => absurd h (by omega))
end T16
end Go.Ev
