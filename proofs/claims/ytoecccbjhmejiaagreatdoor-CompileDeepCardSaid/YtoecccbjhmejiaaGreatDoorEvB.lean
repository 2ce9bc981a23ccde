/- The evaluator's values and memory, and how they stand for the model's. No condition. -/
import Derived.Test.YtoecccbjhmejiaaGreatDoorEvA
namespace Go.Ev

/-- A value: an address is (block's label, place); a text is a number in base 256, lowest place first, and its length. -/
inductive V where
  | bool (b : Bool)
  | int (k : IntKind) (n : Int)
  | str (n len : Nat)
  | nilp
  | ptr (id o : Nat)
  | nils
  | slice (id o len cap esz : Nat)
  | fn (f : Fn) (first captured : List V)
  | nilFn
  | iface (t : Nat) (v : V)
  | nilI
  | mapv (id : Nat)
  | nilm
  | cls (m r : Nat)
  | cl1 (m r : Nat)
  | cl2 (m r : Nat)
  | msk (m r : Nat)
  | agg (vs : List V)
  | tup (vs : List V)
  | any
  deriving Inhabited

/-- The bytes of a number. -/
def sdec (n : Nat) : Nat → List UInt8
  | 0 => []
  | l + 1 => UInt8.ofNat (n % 256) :: sdec (n / 256) l

def sval (n l : Nat) : ByteArray := ⟨(sdec n l).toArray⟩

/-- Where a label's block lies: the block, the shift, how many cells it has. -/
abbrev Emb := Nat → Option (Nat × Nat × Nat)

mutual
inductive VRel (r : Emb) : V → Value → Prop where
  | bool (b : Bool) : VRel r (.bool b) (.bool b)
  | int (k : IntKind) (n : Int) : VRel r (.int k n) (.int k n)
  | str {n l : Nat} (h : n < 256 ^ l) : VRel r (.str n l) (.string (sval n l))
  | nilp : VRel r .nilp (.pointer none)
  | ptr {id o b sh c : Nat} (h : r id = some (b, sh, c)) : VRel r (.ptr id o) (.pointer (some ⟨b, o + sh, none⟩))
  | nils : VRel r .nils (.slice none 0 0)
  | slice {id o len cap esz b sh c cap' : Nat} (h : r id = some (b, sh, c)) (h1 : len ≤ cap) (h2 : cap ≤ cap') (h3 : o + sh + cap' * esz ≤ c) :
      VRel r (.slice id o len cap esz) (.slice (some ⟨b, o + sh, none⟩) len cap')
  | slice0 {id o esz b sh c off cap' : Nat} (h : r id = some (b, sh, c)) (h3 : off + cap' * esz ≤ c) : VRel r (.slice id o 0 0 esz) (.slice (some ⟨b, off, none⟩) 0 cap')
  | fn {f : Fn} {vs ws : List V} {xs ys : Array Value} (h1 : VsRel r vs xs.toList) (h2 : VsRel r ws ys.toList) : VRel r (.fn f vs ws) (.func f xs ys)
  | nilFn : VRel r .nilFn .nilFunc
  | iface {t : Nat} {v : V} {x : Value} (h : VRel r v x) : VRel r (.iface t v) (.iface t x)
  | nilI : VRel r .nilI .nilIface
  | mapv {id b sh c : Nat} (h : r id = some (b, sh, c)) : VRel r (.mapv id) (.map (some b))
  | nilm : VRel r .nilm (.map none)
  | cls {m q : Nat} {n : Int} (h : (n.tmod m + m).tmod m = q) : VRel r (.cls m q) (.int .i64 n)
  | cl1 {m q : Nat} {n : Int} (h1 : -(m : Int) < n) (h2 : n < m) (h : (n + m).tmod m = q) : VRel r (.cl1 m q) (.int .i64 n)
  | cl2 {m q : Nat} {n : Int} (h : n.tmod m = q) : VRel r (.cl2 m q) (.int .i64 n)
  | msk {m q : Nat} {n : Int} (h : IntKind.i64.wrap (BitVec.ofInt 64 n &&& BitVec.ofInt 64 m).toNat = q) : VRel r (.msk m q) (.int .i64 n)
  | agg {vs : List V} {xs : Array Value} (h : VsRel r vs xs.toList) : VRel r (.agg vs) (.agg xs)
  | tup {vs : List V} {xs : Array Value} (h : VsRel r vs xs.toList) : VRel r (.tup vs) (.tuple xs)
  | any (x : Value) : VRel r .any x
inductive VsRel (r : Emb) : List V → List Value → Prop where
  | nil : VsRel r [] []
  | cons {v : V} {x : Value} {vs : List V} {xs : List Value} (h : VRel r v x) (hs : VsRel r vs xs) : VsRel r (v :: vs) (x :: xs)
end

def Emb.le (r r' : Emb) : Prop := ∀ id x, r id = some x → r' id = some x
theorem Emb.le_refl (r : Emb) : r.le r := fun _ _ h => h
theorem Emb.le_trans {r r' r'' : Emb} (h : r.le r') (h' : r'.le r'') : r.le r'' := fun _ _ e => h' _ _ (h _ _ e)

mutual
theorem VRel.up {r r' : Emb} (hr : r.le r') {v : V} {x : Value} (h : VRel r v x) : VRel r' v x := by
  cases h with
  | bool b => exact .bool b
  | int k n => exact .int k n
  | str h => exact .str h
  | nilp => exact .nilp
  | ptr h => exact .ptr (hr _ _ h)
  | nils => exact .nils
  | slice h h1 h2 h3 => exact .slice (hr _ _ h) h1 h2 h3
  | slice0 h h3 => exact .slice0 (hr _ _ h) h3
  | fn h1 h2 => exact .fn (VsRel.up hr h1) (VsRel.up hr h2)
  | nilFn => exact .nilFn
  | iface h => exact .iface (VRel.up hr h)
  | nilI => exact .nilI
  | mapv h => exact .mapv (hr _ _ h)
  | nilm => exact .nilm
  | cls h => exact .cls h
  | cl1 h1 h2 h => exact .cl1 h1 h2 h
  | cl2 h => exact .cl2 h
  | msk h => exact .msk h
  | agg h => exact .agg (VsRel.up hr h)
  | tup h => exact .tup (VsRel.up hr h)
  | any x => exact .any x
theorem VsRel.up {r r' : Emb} (hr : r.le r') {vs : List V} {xs : List Value} (h : VsRel r vs xs) : VsRel r' vs xs := by
  cases h with
  | nil => exact .nil
  | cons h hs => exact .cons (VRel.up hr h) (VsRel.up hr hs)
end

theorem VsRel.length {r : Emb} {vs : List V} {xs : List Value} (h : VsRel r vs xs) : vs.length = xs.length := by
  induction vs generalizing xs with
  | nil => cases h; rfl
  | cons v vs ih => cases h with | cons h hs => simp [ih hs]

theorem VsRel.get {r : Emb} {vs : List V} {xs : List Value} (h : VsRel r vs xs) (i : Nat) {v : V} (hv : vs[i]? = some v) : ∃ x, xs[i]? = some x ∧ VRel r v x := by
  induction vs generalizing xs i with
  | nil => simp at hv
  | cons v' vs ih =>
    cases h with
    | cons h hs =>
      cases i with
      | zero => simp at hv; subst hv; exact ⟨_, rfl, h⟩
      | succ i => simpa using ih hs i (by simpa using hv)

theorem VsRel.append {r : Emb} {vs ws : List V} {xs ys : List Value} (h : VsRel r vs xs) (h' : VsRel r ws ys) : VsRel r (vs ++ ws) (xs ++ ys) := by
  induction vs generalizing xs with
  | nil => cases h; exact h'
  | cons v vs ih => cases h with | cons h hs => exact .cons h (ih hs)

/-! Memory -/

inductive Cells where
  | c1 (t : T16 V)
  | c2 (t : T16 (T16 V))
  | c3 (t : T16 (T16 (T16 V)))

inductive Blk where
  | dead
  | live (n : Nat) (t : TypeId) (ro plain : Bool) (c : Cells)
  | mapb (es : List (V × V))

def z1 : T16 V := T16.all .any
def z2 : T16 (T16 V) := T16.all z1
def z3 : T16 (T16 (T16 V)) := T16.all z2

def Cells.get (o : Nat) (c : Cells) : V :=
  Cells.casesOn c (fun t => t.get o) (fun t => (t.get (Nat.div o 16)).get (Nat.mod o 16)) (fun t => ((t.get (Nat.div o 256)).get (Nat.mod (Nat.div o 16) 16)).get (Nat.mod o 16))
def Cells.set (o : Nat) (v : V) (c : Cells) : Cells :=
  Cells.casesOn c (fun t => .c1 (t.set o v)) (fun t => .c2 (t.set (Nat.div o 16) ((t.get (Nat.div o 16)).set (Nat.mod o 16) v)))
    (fun t => .c3 (t.set (Nat.div o 256) ((t.get (Nat.div o 256)).set (Nat.mod (Nat.div o 16) 16) (((t.get (Nat.div o 256)).get (Nat.mod (Nat.div o 16) 16)).set (Nat.mod o 16) v))))
/-- How many places there are. -/
def Cells.room (c : Cells) : Nat := Cells.casesOn c (fun _ => 16) (fun _ => 256) (fun _ => 4096)
/-- More places. -/
def Cells.grow (c : Cells) : Cells := Cells.casesOn c (fun t => .c2 (z2.s0 t)) (fun t => .c3 (z3.s0 t)) (fun t => .c3 t)

abbrev Mem := T16 (T16 (T16 (T16 Blk)))
def m1 : T16 Blk := T16.all .dead
def m2 : T16 (T16 Blk) := T16.all m1
def m3 : T16 (T16 (T16 Blk)) := T16.all m2
def m4 : Mem := T16.all m3
def Mem.blk (i : Nat) (m : Mem) : Blk := (((m.get (Nat.div i 4096)).get (Nat.mod (Nat.div i 256) 16)).get (Nat.mod (Nat.div i 16) 16)).get (Nat.mod i 16)
def Mem.put (i : Nat) (b : Blk) (m : Mem) : Mem :=
  T16.upd (Nat.div i 4096) (T16.upd (Nat.mod (Nat.div i 256) 16) (T16.upd (Nat.mod (Nat.div i 16) 16) (T16.set (Nat.mod i 16) b))) m
theorem Mem.put_old (i : Nat) (b : Blk) (m : Mem) : m.put i b =
  m.set (Nat.div i 4096) ((m.get (Nat.div i 4096)).set (Nat.mod (Nat.div i 256) 16)
    (((m.get (Nat.div i 4096)).get (Nat.mod (Nat.div i 256) 16)).set (Nat.mod (Nat.div i 16) 16)
      ((((m.get (Nat.div i 4096)).get (Nat.mod (Nat.div i 256) 16)).get (Nat.mod (Nat.div i 16) 16)).set (Nat.mod i 16) b))) := by
  unfold Mem.put
  simp only [T16.upd_eq]

theorem Mem.blk_put_same (i : Nat) (b : Blk) (m : Mem) (h : i < 65536) : (m.put i b).blk i = b := by
  rw [Mem.put_old]
  unfold Mem.blk
  have h1 : Nat.div i 4096 < 16 := by show i / 4096 < 16; omega
  have h2 : Nat.mod (Nat.div i 256) 16 < 16 := Nat.mod_lt _ (by omega)
  have h3 : Nat.mod (Nat.div i 16) 16 < 16 := Nat.mod_lt _ (by omega)
  have h4 : Nat.mod i 16 < 16 := Nat.mod_lt _ (by omega)
  rw [T16.get_set_same _ _ _ h1, T16.get_set_same _ _ _ h2, T16.get_set_same _ _ _ h3, T16.get_set_same _ _ _ h4]

theorem Mem.blk_put_other (i j : Nat) (b : Blk) (m : Mem) (h : i < 65536) (hj : j < 65536) (hne : j ≠ i) : (m.put i b).blk j = m.blk j := by
  rw [Mem.put_old]
  unfold Mem.blk
  have h1 : Nat.div i 4096 < 16 := by show i / 4096 < 16; omega
  have h2 : Nat.mod (Nat.div i 256) 16 < 16 := Nat.mod_lt _ (by omega)
  have h3 : Nat.mod (Nat.div i 16) 16 < 16 := Nat.mod_lt _ (by omega)
  have h4 : Nat.mod i 16 < 16 := Nat.mod_lt _ (by omega)
  have k1 : Nat.div j 4096 < 16 := by show j / 4096 < 16; omega
  have k2 : Nat.mod (Nat.div j 256) 16 < 16 := Nat.mod_lt _ (by omega)
  have k3 : Nat.mod (Nat.div j 16) 16 < 16 := Nat.mod_lt _ (by omega)
  have k4 : Nat.mod j 16 < 16 := Nat.mod_lt _ (by omega)
  by_cases e1 : Nat.div j 4096 = Nat.div i 4096
  · rw [e1, T16.get_set_same _ _ _ h1]
    by_cases e2 : Nat.mod (Nat.div j 256) 16 = Nat.mod (Nat.div i 256) 16
    · rw [e2, T16.get_set_same _ _ _ h2]
      by_cases e3 : Nat.mod (Nat.div j 16) 16 = Nat.mod (Nat.div i 16) 16
      · rw [e3, T16.get_set_same _ _ _ h3, T16.get_set_other _ _ _ _ h4 k4]
        intro e4
        have e1' : j / 4096 = i / 4096 := e1
        have e2' : j / 256 % 16 = i / 256 % 16 := e2
        have e3' : j / 16 % 16 = i / 16 % 16 := e3
        have e4' : j % 16 = i % 16 := e4
        omega
      · rw [T16.get_set_other _ _ _ _ h3 k3 e3]
    · rw [T16.get_set_other _ _ _ _ h2 k2 e2]
  · rw [T16.get_set_other _ _ _ _ h1 k1 e1]

theorem Cells.get_set_same (o : Nat) (v : V) (c : Cells) (h : o < c.room) : (c.set o v).get o = v := by
  cases c with
  | c1 t => exact T16.get_set_same _ _ _ h
  | c2 t =>
    have h' : o < 256 := h
    have h1 : Nat.div o 16 < 16 := by show o / 16 < 16; omega
    have h2 : Nat.mod o 16 < 16 := Nat.mod_lt _ (by omega)
    show ((t.set _ _).get _).get _ = v
    rw [T16.get_set_same _ _ _ h1, T16.get_set_same _ _ _ h2]
  | c3 t =>
    have h' : o < 4096 := h
    have h1 : Nat.div o 256 < 16 := by show o / 256 < 16; omega
    have h2 : Nat.mod (Nat.div o 16) 16 < 16 := Nat.mod_lt _ (by omega)
    have h3 : Nat.mod o 16 < 16 := Nat.mod_lt _ (by omega)
    show (((t.set _ _).get _).get _).get _ = v
    rw [T16.get_set_same _ _ _ h1, T16.get_set_same _ _ _ h2, T16.get_set_same _ _ _ h3]

theorem Cells.get_set_other (o p : Nat) (v : V) (c : Cells) (h : o < c.room) (hp : p < c.room) (hne : p ≠ o) : (c.set o v).get p = c.get p := by
  cases c with
  | c1 t => exact T16.get_set_other _ _ _ _ h hp hne
  | c2 t =>
    have h' : o < 256 := h
    have hp' : p < 256 := hp
    have h1 : Nat.div o 16 < 16 := by show o / 16 < 16; omega
    have h2 : Nat.mod o 16 < 16 := Nat.mod_lt _ (by omega)
    have k1 : Nat.div p 16 < 16 := by show p / 16 < 16; omega
    have k2 : Nat.mod p 16 < 16 := Nat.mod_lt _ (by omega)
    show ((t.set _ _).get _).get _ = (t.get _).get _
    by_cases e1 : Nat.div p 16 = Nat.div o 16
    · rw [e1, T16.get_set_same _ _ _ h1, T16.get_set_other _ _ _ _ h2 k2]
      intro e2
      have e1' : p / 16 = o / 16 := e1
      have e2' : p % 16 = o % 16 := e2
      omega
    · rw [T16.get_set_other _ _ _ _ h1 k1 e1]
  | c3 t =>
    have h' : o < 4096 := h
    have hp' : p < 4096 := hp
    have h1 : Nat.div o 256 < 16 := by show o / 256 < 16; omega
    have h2 : Nat.mod (Nat.div o 16) 16 < 16 := Nat.mod_lt _ (by omega)
    have h3 : Nat.mod o 16 < 16 := Nat.mod_lt _ (by omega)
    have k1 : Nat.div p 256 < 16 := by show p / 256 < 16; omega
    have k2 : Nat.mod (Nat.div p 16) 16 < 16 := Nat.mod_lt _ (by omega)
    have k3 : Nat.mod p 16 < 16 := Nat.mod_lt _ (by omega)
    show (((t.set _ _).get _).get _).get _ = ((t.get _).get _).get _
    by_cases e1 : Nat.div p 256 = Nat.div o 256
    · rw [e1, T16.get_set_same _ _ _ h1]
      by_cases e2 : Nat.mod (Nat.div p 16) 16 = Nat.mod (Nat.div o 16) 16
      · rw [e2, T16.get_set_same _ _ _ h2, T16.get_set_other _ _ _ _ h3 k3]
        intro e3
        have e1' : p / 256 = o / 256 := e1
        have e2' : p / 16 % 16 = o / 16 % 16 := e2
        have e3' : p % 16 = o % 16 := e3
        omega
      · rw [T16.get_set_other _ _ _ _ h2 k2 e2]
    · rw [T16.get_set_other _ _ _ _ h1 k1 e1]

theorem Cells.room_set (o : Nat) (v : V) (c : Cells) : (c.set o v).room = c.room := by cases c <;> rfl

theorem z2_get (d : Nat) (h : d < 16) : z2.get d = z1 := T16.get_all d _ h
theorem Cells.get_grow (o : Nat) (c : Cells) (h : o < c.room) : c.grow.get o = c.get o := by
  cases c with
  | c1 t =>
    have h' : o < 16 := h
    have e : Nat.div o 16 = 0 := by show o / 16 = 0; omega
    have e' : Nat.mod o 16 = o := by show o % 16 = o; omega
    show ((z2.s0 t).get _).get _ = t.get o
    rw [e, e']; rfl
  | c2 t =>
    have h' : o < 256 := h
    have e : Nat.div o 256 = 0 := by show o / 256 = 0; omega
    have e' : Nat.mod (Nat.div o 16) 16 = Nat.div o 16 := by show o / 16 % 16 = o / 16; omega
    show (((z3.s0 t).get _).get _).get _ = (t.get _).get _
    rw [e, e']; rfl
  | c3 t => rfl
theorem Cells.room_grow (c : Cells) : c.room ≤ c.grow.room := by cases c <;> simp [Cells.grow, Cells.room]

end Go.Ev
