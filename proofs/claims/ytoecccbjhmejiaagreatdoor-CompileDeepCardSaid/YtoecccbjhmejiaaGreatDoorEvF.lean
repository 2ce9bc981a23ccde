/- The evaluator's operations that leave memory as it is, against the model's. No condition. -/
import Derived.Test.YtoecccbjhmejiaaGreatDoorEvE
import Derived.LaidEqlPtr
namespace Go.Ev

variable {P : Program}

/-! ### Constants and operands -/
def constV1 (x : Value) : V :=
  match x with
  | .bool b => .bool b
  | .int k n => .int k n
  | .string s => .str (senc s.data.toList) s.size
  | .pointer none => .nilp
  | .slice none 0 0 => .nils
  | .nilFunc => .nilFn
  | .nilIface => .nilI
  | _ => .any
def constV (x : Value) : V :=
  match x with
  | .agg cs => .agg (cs.toList.map constV1)
  | x => constV1 x

theorem vrel_constV1 (r : Emb) (x : Value) : VRel r (constV1 x) x := by
  unfold constV1
  split
  · exact .bool _
  · exact .int _ _
  · exact vrel_str r _
  · exact .nilp
  · exact .nils
  · exact .nilFn
  · exact .nilI
  · exact .any _

theorem vsrel_map_constV1 (r : Emb) (l : List Value) : VsRel r (l.map constV1) l := by
  induction l with
  | nil => exact .nil
  | cons x l ih => exact .cons (vrel_constV1 r x) ih

theorem vrel_constV (r : Emb) (x : Value) : VRel r (constV x) x := by
  unfold constV
  split
  · exact .agg (vsrel_map_constV1 r _)
  · exact vrel_constV1 r _

/-- The package-level variables lie where the program says. -/
def GRel (P : Program) (r : Emb) : Prop := ∀ g, g < P.globals.size → ∃ m, r g = some (g, 0, m)
theorem GRel.up {r r' : Emb} (h : r.le r') (hg : GRel P r) : GRel P r' := fun g hlt => let ⟨m, e⟩ := hg g hlt; ⟨m, h _ _ e⟩

/-- Slots as a function. -/
abbrev Tm := Nat → V
def TRel (r : Emb) (T : Tm) (tmps : Array Value) : Prop := ∀ t, VRel r (T t) (tmps.getD t undef)
theorem TRel.up {r r' : Emb} (h : r.le r') {T : Tm} {tmps : Array Value} (ht : TRel r T tmps) : TRel r' T tmps := fun t => (ht t).up h

def evO (P : Program) (T : Tm) (o : Operand) : V :=
  Operand.casesOn o (fun t => T t) (fun v => constV v) (fun g => bif Nat.blt g P.globals.size then .ptr g 0 else .any) (fun f => .fn (.func f) [] [])

theorem evO_sound {r : Emb} {T : Tm} {a : Act} (hg : GRel P r) (ht : TRel r T a.tmps) (o : Operand) : VRel r (evO P T o) (a.eval o) := by
  cases o with
  | tmp t => exact ht t
  | const v => exact vrel_constV r v
  | global g =>
    show VRel r (bif Nat.blt g P.globals.size then .ptr g 0 else .any) (.pointer (some ⟨g, 0, none⟩))
    cases h : Nat.blt g P.globals.size
    · exact .any _
    · obtain ⟨m, e⟩ := hg g (by rw [Nat.blt_eq] at h; exact h)
      exact .ptr (o := 0) e
  | func f => exact .fn .nil .nil

/-! ### Parts -/
/-- A value's cells; what is not known has none. -/
def cellsV (v : V) : Option (List V) :=
  match v with
  | .agg vs => some vs
  | .any => none
  | .tup _ => none
  | v => some [v]

theorem cellsV_sound {r : Emb} {v : V} {x : Value} (h : VRel r v x) {vs : List V} (hc : cellsV v = some vs) : VsRel r vs x.cells.toList := by
  have h' := h
  cases h <;> simp only [cellsV, Option.some.injEq, reduceCtorEq] at hc <;> subst hc
  case agg h => exact h
  all_goals exact .cons h' .nil

/-- One cell, and known. -/
def oneV (v : V) : Bool :=
  match v with
  | .agg _ | .tup _ | .any => false
  | _ => true
theorem oneV_sound {r : Emb} {v : V} {x : Value} (h : VRel r v x) (ho : oneV v = true) : x.oneCell' = true := by
  cases h <;> first | rfl | (simp [oneV] at ho)

def allOne : List V → Bool
  | [] => true
  | v :: vs => bif oneV v then allOne vs else false
theorem allOne_sound {r : Emb} {vs : List V} {xs : List Value} (h : VsRel r vs xs) (ho : allOne vs = true) : ∀ x ∈ xs, x.oneCell' = true := by
  induction vs generalizing xs with
  | nil => cases h; intro x hx; cases hx
  | cons v vs ih =>
    cases h with
    | cons h hs =>
      simp only [allOne] at ho
      cases h1 : oneV v <;> simp only [h1, cond_true, cond_false, Bool.false_eq_true] at ho
      intro y hy
      rcases List.mem_cons.1 hy with e | e
      · subst e; exact oneV_sound h h1
      · exact ih hs ho y e

theorem vsrel_drop {r : Emb} {vs : List V} {xs : List Value} (h : VsRel r vs xs) (n : Nat) : VsRel r (vs.drop n) (xs.drop n) := by
  induction n generalizing vs xs with
  | zero => exact h
  | succ n ih => cases h with
    | nil => exact .nil
    | cons h hs => exact ih hs
theorem vsrel_take {r : Emb} {vs : List V} {xs : List Value} (h : VsRel r vs xs) (n : Nat) : VsRel r (vs.take n) (xs.take n) := by
  induction n generalizing vs xs with
  | zero => simp; exact .nil
  | succ n ih => cases h with
    | nil => exact .nil
    | cons h hs => exact .cons h (ih hs)

def isRow (d : TypeDesc) : Bool := match d with | .struct _ | .array _ _ => true | _ => false

/-- A part of a struct or an array. -/
def partV (P : Program) (t : TypeId) (vs : List V) (off : Nat) : Option V :=
  match P.underlying t, P.info? t with
  | some d, some i => bif isRow d then (bif Nat.ble (off + i.size) vs.length then some (.agg ((vs.drop off).take i.size)) else none) else vs[off]?
  | _, _ => none

theorem partV_sound {r : Emb} {t : TypeId} {vs : List V} {xs : Array Value} {off : Nat} {v : V} (hv : VsRel r vs xs.toList) (h : partV P t vs off = some v) (w : World) :
    ∃ x, (part t xs off).run P w = .ok x w ∧ VRel r v x := by
  unfold partV at h
  split at h
  · rename_i d i hd hi
    cases hr : isRow d
    · rw [hr] at h
      simp only [cond_false] at h
      obtain ⟨x, hx, hvx⟩ := hv.get off h
      have hx' : xs[off]? = some x := by simpa using hx
      refine ⟨x, ?_, hvx⟩
      cases d <;> simp [isRow] at hr <;> simp [part, isAgg, run_underlying hd, hx']
    · rw [hr] at h
      simp only [cond_true] at h
      cases hb : Nat.ble (off + i.size) vs.length <;> simp only [hb, cond_true, cond_false, reduceCtorEq, Option.some.injEq] at h
      subst h
      refine ⟨.agg (xs.extract off (off + i.size)), ?_, .agg ?_⟩
      · cases d <;> simp [isRow] at hr <;> simp [part, isAgg, run_underlying hd, sizeOf, typeInfo, hi]
      · have e : (xs.extract off (off + i.size)).toList = (xs.toList.drop off).take i.size := by
          simp [Array.toList_extract, List.extract_eq_take_drop]
        rw [e]
        exact vsrel_take (vsrel_drop hv off) i.size
  · simp at h

/-- Parts laid into cells. -/
def putAt (zs : List V) (o : Nat) (vs : List V) : List V := zs.take o ++ (vs ++ zs.drop (o + vs.length))

def fillV (place : Nat → Option (Nat × Nat)) (zs : List V) : List (Nat × V) → Option (List V)
  | [] => some zs
  | (i, v) :: rest =>
    match place i, cellsV v with
    | some (off, size), some vs => bif Nat.beq vs.length size && Nat.ble (off + vs.length) zs.length then fillV place (putAt zs off vs) rest else none
    | _, _ => none

theorem setL_toList (xs : List Value) : ∀ (cs : Array Value) (o : Nat), o + xs.length ≤ cs.size → (setL cs o xs).toList = cs.toList.take o ++ (xs ++ cs.toList.drop (o + xs.length)) := by
  intro cs o h
  apply List.ext_getElem?
  intro i
  rw [Array.getElem?_toList]
  by_cases h1 : i < o
  · rw [setL_out xs cs o i (by omega), List.getElem?_append_left (by simp; omega), List.getElem?_take_of_lt h1, Array.getElem?_toList]
  · rw [List.getElem?_append_right (by simp; omega)]
    have e : (cs.toList.take o).length = o := by simp; omega
    rw [e]
    by_cases h2 : i < o + xs.length
    · rw [List.getElem?_append_left (by omega)]
      obtain ⟨j, rfl⟩ : ∃ j, i = o + j := ⟨i - o, by omega⟩
      rw [setL_in xs cs o j h (by omega), show o + j - o = j by omega, List.getElem?_eq_getElem (by omega)]
    · rw [List.getElem?_append_right (by omega), List.getElem?_drop, setL_out xs cs o i (by omega), Array.getElem?_toList]
      congr 1
      omega

theorem fold_setL (xs : List Value) : ∀ (cs : Array Value) (o k : Nat), ((xs.zipIdx k).foldl (fun (cs : Array Value) (p : Value × Nat) => cs.setIfInBounds (o + p.2) p.1) cs) = setL cs (o + k) xs := by
  induction xs with
  | nil => intro cs o k; rfl
  | cons x xs ih =>
    intro cs o k
    simp only [List.zipIdx_cons, List.foldl_cons, setL]
    rw [ih]
    rfl

inductive PsRel (r : Emb) : List (Nat × V) → List (Nat × Value) → Prop where
  | nil : PsRel r [] []
  | cons {i : Nat} {v : V} {x : Value} {ps : List (Nat × V)} {qs : List (Nat × Value)} (h : VRel r v x) (hs : PsRel r ps qs) : PsRel r ((i, v) :: ps) ((i, x) :: qs)

theorem fill_sound {r : Emb} {place : Nat → Option (Nat × Nat)} {parts : List (Nat × V)} : ∀ {zs : List V} {cs : Array Value} {ps : List (Nat × Value)} {out : List V},
    VsRel r zs cs.toList → PsRel r parts ps → fillV place zs parts = some out →
    ∃ cs', Instr.fill place cs ps = some cs' ∧ VsRel r out cs'.toList := by
  induction parts with
  | nil =>
    intro zs cs ps out hz hp h
    cases hp with
    | nil =>
      simp only [fillV, Option.some.injEq] at h
      subst h
      exact ⟨cs, rfl, hz⟩
  | cons p parts ih =>
    intro zs cs ps out hz hp h
    cases hp with
    | @cons i v x _ ps hvx hp =>
      simp only [fillV] at h
      split at h
      · rename_i off size vs hpl hcv
        have hvs := cellsV_sound hvx hcv
        have hl := hvs.length
        have hzl := hz.length
        cases hc : (Nat.beq vs.length size && Nat.ble (off + vs.length) zs.length) <;> simp only [hc, cond_true, cond_false, reduceCtorEq] at h
        simp only [Bool.and_eq_true] at hc
        have h1 := Nat.eq_of_beq_eq_true hc.1
        have h2 := Nat.le_of_ble_eq_true hc.2
        have hxs : x.cells.size = vs.length := by rw [← Array.length_toList]; exact hl.symm
        have hcs : cs.size = zs.length := by rw [← Array.length_toList]; exact hzl.symm
        have hfold : (x.cells.zipIdx.foldl (fun (cs : Array Value) (p : Value × Nat) => cs.setIfInBounds (off + p.2) p.1) cs) = setL cs off x.cells.toList := by
          rw [← Array.foldl_toList, Array.toList_zipIdx, fold_setL]
          rfl
        have hz' : VsRel r (putAt zs off vs) (setL cs off x.cells.toList).toList := by
          rw [setL_toList _ _ _ (by rw [Array.length_toList]; omega)]
          unfold putAt
          refine (vsrel_take hz off).append (hvs.append ?_)
          rw [← hl]
          exact vsrel_drop hz _
        obtain ⟨cs', g1, g2⟩ := ih hz' hp h
        refine ⟨cs', ?_, g2⟩
        simp only [Instr.fill, hpl]
        rw [if_neg (by simp; omega)]
        have : (x.cells.zipIdx.foldl (fun cs (c, j) => cs.setIfInBounds (off + j) c) cs) = setL cs off x.cells.toList := hfold
        rw [this]
        exact g1
      · simp at h

end Go.Ev
