/- The evaluator's regions that draw their order: what is evaluated, and what is asked. No condition. -/
import Derived.Test.YtoecccbjhmejiaaGreatDoorEvO
namespace Go.Ev

variable {P : Program}

/-- Is a value, of one cell, the same? -/
def veq1 (x y : V) : Bool :=
  match x, y with
  | .bool a, .bool b => a == b
  | .int k a, .int k' b => Nat.beq (kc k) (kc k') && eqI a b
  | .str n l, .str m k => Nat.beq n m && Nat.beq l k
  | .nilp, .nilp => true
  | .ptr a b, .ptr c d => Nat.beq a c && Nat.beq b d
  | .nils, .nils => true
  | .slice a b c d e, .slice a' b' c' d' e' => Nat.beq a a' && Nat.beq b b' && Nat.beq c c' && Nat.beq d d' && Nat.beq e e'
  | .nilFn, .nilFn => true
  | .nilI, .nilI => true
  | _, _ => false
def veqs : List V → List V → Bool
  | [], [] => true
  | x :: xs, y :: ys => veq1 x y && veqs xs ys
  | _, _ => false
def veq (x y : V) : Bool :=
  match x, y with
  | .agg xs, .agg ys => veqs xs ys
  | x, y => veq1 x y

theorem veq1_eq {x y : V} (h : veq1 x y = true) : x = y := by
  unfold veq1 at h
  split at h
  · simp at h; rw [h]
  · simp only [Bool.and_eq_true] at h
    rw [kc_inj h.1]
    have := h.2
    rw [eqI_eq] at this
    simp at this
    rw [this]
  · simp only [Bool.and_eq_true] at h; rw [Nat.eq_of_beq_eq_true h.1, Nat.eq_of_beq_eq_true h.2]
  · rfl
  · simp only [Bool.and_eq_true] at h; rw [Nat.eq_of_beq_eq_true h.1, Nat.eq_of_beq_eq_true h.2]
  · rfl
  · simp only [Bool.and_eq_true] at h
    obtain ⟨⟨⟨⟨h1, h2⟩, h3⟩, h4⟩, h5⟩ := h
    rw [Nat.eq_of_beq_eq_true h1, Nat.eq_of_beq_eq_true h2, Nat.eq_of_beq_eq_true h3, Nat.eq_of_beq_eq_true h4, Nat.eq_of_beq_eq_true h5]
  · rfl
  · rfl
  · simp at h
theorem veqs_eq : ∀ {xs ys : List V}, veqs xs ys = true → xs = ys
  | [], [], _ => rfl
  | x :: xs, y :: ys, h => by
    simp only [veqs, Bool.and_eq_true] at h
    rw [veq1_eq h.1, veqs_eq h.2]
  | [], _ :: _, h => by simp [veqs] at h
  | _ :: _, [], h => by simp [veqs] at h
theorem veq_eq {x y : V} (h : veq x y = true) : x = y := by
  unfold veq at h
  split at h
  · rw [veqs_eq h]
  · exact veq1_eq h

/-- What one operation of a region came to. -/
structure Tr where
  env : Env
  ds : Ds
  h : H
  want : Bool
  v : V
  ds' : Ds
  h' : H

/-- The region in the text's order, and what each operation came to. -/
def evTr (P : Program) (call : CallFn) (f : Fr) (all : List Oper) : List Oper → Env → Ds → H → Option (List Tr)
  | [], _, _, _ => some []
  | o :: rest, e, d, h =>
    match wantedV all (look e f) o.guard with
    | some true =>
      match oneOp P call o.op (look e f) d h with
      | some (v, d', h') => (evTr P call f all rest (putE o.dst v e) d' h').map fun l => ⟨e, d, h, true, v, d', h'⟩ :: l
      | none => none
    | some false => (evTr P call f all rest (putE o.dst (.tup []) e) d h).map fun l => ⟨e, d, h, false, .tup [], d, h⟩ :: l
    | none => none

/-- Does an operation make or write memory, call, or defer? -/
def isEff (op : Op) : Bool :=
  match op with
  | .call { callee := .value _, .. } => true
  | .call { callee := .invoke _ _, .. } => true
  | .defer _ => true
  | op => isMem op
/-- May what an operation yields hang on memory? -/
def isRead (op : Op) : Bool :=
  match op with
  | .load _ _ => true
  | .lookup _ _ _ _ => true
  | .convert _ _ _ => true
  | .binOp .eql _ _ _ _ => true
  | .binOp .neq _ _ _ _ => true
  | .call { callee := .builtin .len, .. } => true
  | _ => false

/-- All that stand ahead of an operation by the edges: a bit each. -/
def maskOf (acc : List Nat) (o : Oper) : Nat := o.after.toList.foldl (fun s e => if Region.binds .any e then s ||| 2 ^ e.on ||| acc.getD e.on 0 else s) 0
def masks : List Oper → List Nat → List Nat
  | [], acc => acc
  | o :: rest, acc => masks rest (acc ++ [maskOf acc o])
def ahead (ms : List Nat) (i j : Nat) : Bool := (ms.getD j 0).testBit i

/-- The pairs of a read and an effect that no edge orders. -/
def pairs (ops : List Oper) : List (Nat × Nat) :=
  let ms := masks ops []
  (List.range ops.length).flatMap fun i =>
    match ops[i]? with
    | some o => bif isRead o.op then (List.range ops.length).filterMap fun x =>
        match ops[x]? with
        | some q => bif isEff q.op && !(ahead ms i x) && !(ahead ms x i) then some (i, x) else none
        | none => none
      else []
    | none => []

def askPair (P : Program) (f : Fr) (ops : List Oper) (tr : List Tr) (p : Nat × Nat) : Bool :=
  match ops[p.1]?, tr[p.1]?, tr[p.2]? with
  | some o, some ti, some tx =>
    bif ti.want then
      (match valOp P tx.h (evO P (look ti.env f)) o.op with | some v => veq v ti.v | none => false) &&
      (match valOp P tx.h' (evO P (look ti.env f)) o.op with | some v => veq v ti.v | none => false)
    else true
  | _, _, _ => false
def askPairs (P : Program) (f : Fr) (ops : List Oper) (tr : List Tr) : List (Nat × Nat) → Bool
  | [] => true
  | p :: ps => bif askPair P f ops tr p then askPairs P f ops tr ps else false

def lastTr : List Oper → List Tr → Env → Ds → H → RO
  | [], [], e, d, h => .ok e d h
  | [o], [t], _, _, _ => .ok (putE o.dst t.v t.env) t.ds' t.h'
  | _ :: ops, _ :: l, e, d, h => lastTr ops l e d h
  | _, _, _, _, _ => .fail

/-- The slots that an operation reads. -/
def readsOf (ops : List Oper) (o : Oper) : List Tmp :=
  (o.op.operands.toList.filterMap fun | .tmp t => some t | _ => none) ++ (match o.guard with | some (j, _) => ((ops[j]?).bind (·.dst)).toList | none => [])

/-- Does an operation make one new block, and nothing else? -/
def isAlloc (op : Op) : Bool := match op with | .alloc _ => true | .buildSlice _ _ _ => true | .makeSlice _ _ _ => true | _ => false
/-- The new block's cells, their type, and whether a slice of it is yielded. -/
def newOf (P : Program) (E : Operand → V) (op : Op) : Option (List V × TypeId × Option (Nat × Nat × Nat)) :=
  match op with
  | .alloc t => (zeroV P t).map fun zs => (zs, t, none)
  | .buildSlice t len parts =>
    match P.underlying t with
    | some (.slice e) =>
      match P.info? e, zeroV P e with
      | some i, some zs =>
        bif Nat.beq zs.length i.size && Nat.ble (Nat.mul len i.size) 4096 then
          (fillV (fun j => some (Nat.mul j i.size, i.size)) (repL len zs) (parts.toList.map fun (i, x) => (i, E x))).map fun vs => (vs, e, some (len, len, i.size))
        else none
      | _, _ => none
    | _ => none
  | .makeSlice t x y =>
    match P.underlying t, natV (E x), natV (E y) with
    | some (.slice e), some l, some c =>
      match P.info? e, zeroV P e with
      | some i, some zs =>
        bif Nat.ble l c && Nat.ble c 4096 && Nat.ble (Nat.mul c i.bytes) 1099511627776 && Nat.beq zs.length i.size && Nat.ble (Nat.mul c i.size) 4096 then
          some (repL c zs, e, some (l, c, i.size))
        else none
      | _, _ => none
    | _, _, _ => none
  | _ => none
def newTo (k : Option (Nat × Nat × Nat)) (id : Nat) : V := match k with | none => .ptr id 0 | some (l, c, s) => .slice id 0 l c s
def newAt (k : Option (Nat × Nat × Nat)) (b : Nat) : Value := match k with | none => .pointer (some ⟨b, 0, none⟩) | some (l, c, _) => .slice (some ⟨b, 0, none⟩) l c
def newFit (k : Option (Nat × Nat × Nat)) (m : Nat) : Prop := match k with | none => True | some (l, c, s) => l ≤ c ∧ c * s ≤ m
theorem newTo_rel {r : Emb} {k : Option (Nat × Nat × Nat)} {id b m : Nat} (hr : r id = some (b, 0, m)) (hf : newFit k m) : VRel r (newTo k id) (newAt k b) := by
  unfold newTo newAt
  cases k with
  | none => exact .ptr (o := 0) hr
  | some p =>
    obtain ⟨l, c, s⟩ := p
    have h2 : l ≤ c ∧ c * s ≤ m := hf
    exact .slice (o := 0) hr h2.1 (Nat.le_refl _) (by omega)

theorem newOf_run {r : Emb} {w : World} {E : Operand → V} {e : Operand → Value} (hE : ERel r E e) {o : Oper} {zs : List V} {t : TypeId} {k : Option (Nat × Nat × Nat)} (hn : newOf P E o.op = some (zs, t, k)) :
    ∃ cs : Array Value, VsRel r zs cs.toList ∧ (execOp e o).run P w = .ok (.value (newAt k w.heap.size)) (w.alloc (.cells cs t)) ∧ newFit k cs.size := by
  unfold newOf at hn
  split at hn
  · rename_i t' ho
    cases hz : zeroV P t' with
    | none => rw [hz] at hn; simp at hn
    | some zs' =>
      rw [hz] at hn
      simp only [Option.map_some, Option.some.injEq, Prod.mk.injEq] at hn
      obtain ⟨rfl, rfl, rfl⟩ := hn
      obtain ⟨z, h3, h4⟩ := zeroV_sound (r := r) hz w
      refine ⟨z.cells, h4, ?_, trivial⟩
      unfold execOp
      simp [ho, Instr.alloc, h3, newVar, run_newRow, newAt]
  · rename_i t' len parts ho
    split at hn
    · rename_i el hu
      split at hn
      · rename_i i zs' hi hz
        cases hc : (Nat.beq zs'.length i.size && Nat.ble (Nat.mul len i.size) 4096) <;> simp only [hc, cond_true, cond_false, reduceCtorEq] at hn
        simp only [Bool.and_eq_true] at hc
        have hzl := Nat.eq_of_beq_eq_true hc.1
        have hle : len * i.size ≤ 4096 := Nat.le_of_ble_eq_true hc.2
        cases hf : fillV (fun j => some (Nat.mul j i.size, i.size)) (repL len zs') (parts.toList.map fun (i, x) => (i, E x)) with
        | none => rw [hf] at hn; simp at hn
        | some vs =>
          rw [hf] at hn
          simp only [Option.map_some, Option.some.injEq, Prod.mk.injEq] at hn
          obtain ⟨rfl, rfl, rfl⟩ := hn
          obtain ⟨z, h3, h4⟩ := zeroV_sound (r := r) hz w
          have hsz : z.cells.size = i.size := by rw [← hzl]; simpa using h4.length.symm
          have hrep := repL_rel h4 len
          obtain ⟨cs, g1, g2⟩ := fill_sound hrep (erel_parts hE parts.toList) hf
          have hcs : cs.size = len * i.size := by rw [fill_size g1]; simp [hsz]
          refine ⟨cs, g2, ?_, by show len ≤ len ∧ len * i.size ≤ cs.size; omega⟩
          have g1' : Instr.fill (fun j => some (j * i.size, i.size)) ((Array.range (len * i.size)).map (z.cells[· % z.cells.size]!)) (parts.toList.map fun (i, x) => (i, e x)) = some cs := by
            rw [← hsz]; rw [← hsz] at g1; exact g1
          have hno : ¬ (16777216 < len * i.size) := by omega
          unfold execOp
          have hb : Instr.buildSlice t' len (parts.map fun (i, x) => (i, e x)) = (do
              let .slice elem ← underlying t' | stuck "buildSlice: slice type expected"
              let size ← sizeOf elem
              if len * size > 2 ^ 24 then unsupported (.resourceLimit "buildSlice: more than 2^24 cells")
              let zero ← if len * size = 0 then pure #[] else do pure (← zeroValue elem).cells
              let some cells := Instr.fill (fun i => some (i * size, size)) ((Array.range (len * size)).map (zero[· % zero.size]!)) (parts.map fun (i, x) => (i, e x)).toList
                | stuck "buildSlice: a part of the wrong size"
              pure (.slice (some (← newRow elem cells)) len len)) := rfl
          have hrun : (Instr.buildSlice t' len (parts.map fun (i, x) => (i, e x))).run P w = .ok (.slice (some ⟨w.heap.size, 0, none⟩) len len) (w.alloc (.cells cs el)) := by
            rw [hb]
            by_cases h0 : len * i.size = 0
            · have g3 : Instr.fill (fun j => some (j * i.size, i.size)) #[] (parts.toList.map fun (i, x) => (i, e x)) = some cs := by
                rw [h0, range0] at g1'
                exact g1'
              have h16 : ¬ (0 > 2 ^ 24) := by omega
              simp only [Sem.run_bind, run_underlying hu, Result.andThen_ok, sizeOf, typeInfo, program, Sem.run, hi, h0, if_neg h16, if_true, Sem.run_pure, range0]
              have g4 : Instr.fill (fun j => some (j * i.size, i.size)) #[] (parts.map fun (i, x) => (i, e x)).toList = some cs := by
                rw [Array.toList_map]; exact g3
              have g5 : (match Instr.fill (fun j => some (j * i.size, i.size)) #[] (parts.map fun (i, x) => (i, e x)).toList with
                | some cells => do pure (.slice (some (← newRow el cells)) len len)
                | _ => stuck "buildSlice: a part of the wrong size" : Sem Value).run P w = .ok (.slice (some ⟨w.heap.size, 0, none⟩) len len) (w.alloc (.cells cs el)) := by
                rw [g4]
                simp [run_newRow]
              exact g5
            · simp only [Sem.run_bind, run_underlying hu, Result.andThen_ok, sizeOf, typeInfo, program, Sem.run, hi]
              simp [h0, hno, h3, g1', run_newRow]
          simp [ho, hrun, newAt]
      · simp at hn
    · simp at hn
  · rename_i t' x y ho
    split at hn
    · rename_i el l c hu hl hc
      obtain ⟨k1, e1⟩ := natV_sound hl (hE x)
      obtain ⟨k2, e2⟩ := natV_sound hc (hE y)
      split at hn
      · rename_i i zs' hi hz
        cases hk : (Nat.ble l c && Nat.ble c 4096 && Nat.ble (Nat.mul c i.bytes) 1099511627776 && Nat.beq zs'.length i.size && Nat.ble (Nat.mul c i.size) 4096) <;> simp only [hk, cond_true, cond_false, reduceCtorEq] at hn
        simp only [Bool.and_eq_true] at hk
        obtain ⟨⟨⟨⟨g1, g2⟩, g3⟩, g4⟩, g5⟩ := hk
        have g1' := Nat.le_of_ble_eq_true g1
        have g2' := Nat.le_of_ble_eq_true g2
        have g3' : c * i.bytes ≤ 1099511627776 := Nat.le_of_ble_eq_true g3
        have g4' := Nat.eq_of_beq_eq_true g4
        simp only [Option.some.injEq, Prod.mk.injEq] at hn
        obtain ⟨rfl, rfl, rfl⟩ := hn
        obtain ⟨i', z, hi', hz', h4⟩ := zeroV_info (r := r) hz
        rw [hi] at hi'
        cases hi'
        have hsz : z.cells.size = i.size := by rw [← g4']; simpa using h4.length.symm
        have hb : (i.bytes : Int) * (Int.ofNat c) ≤ 281474976710656 := by
          have : (i.bytes : Int) * (Int.ofNat c) = ((c * i.bytes : Nat) : Int) := by rw [Nat.mul_comm]; simp
          rw [this]; omega
        have hrun := run_make (P := P) w t' el i z hu hi hz' k1 k2 (Int.ofNat l) (Int.ofNat c) (Int.natCast_nonneg l) (Int.ofNat_le.2 g1') hb (by show (c : Int) ≤ _; omega)
        have hrel := repL_rel h4 c
        rw [hsz] at hrel
        refine ⟨madeCells z.cells (c * i.size), by unfold madeCells; rw [hsz]; exact hrel, ?_, ?_⟩
        · unfold execOp
          simp only [ho, e1, e2]
          simp only [Sem.run_bind]
          rw [hrun]
          rfl
        · show l ≤ c ∧ c * i.size ≤ _
          rw [size_madeCells]
          exact ⟨g1', Nat.le_refl _⟩
      · simp at hn
    · simp at hn
  · simp at hn

theorem newOf_oneOp {call : CallFn} {T : Tm} {d : Ds} {h : H} {op : Op} (ha : isAlloc op = true) : oneOp P call op T d h = (newOf P (evO P T) op).bind fun (zs, t, k) => (newV h zs.length t zs).map fun h' => (newTo k h.next, d, h') := by
  unfold isAlloc at ha
  split at ha
  · rename_i t
    show (allocV P h t).map (fun (v, h') => (v, d, h')) = _
    unfold allocV newOf
    simp only
    cases hz : zeroV P t with
    | none => rfl
    | some zs =>
      simp only [Option.map_some, Option.bind_some]
      cases newV h zs.length t zs <;> rfl
  · rename_i t len parts
    show (buildSliceV P h t len (parts.toList.map fun (i, x) => (i, evO P T x))).map (fun (v, h') => (v, d, h')) = _
    unfold buildSliceV newOf
    simp only
    generalize P.underlying t = u
    split
    · rename_i e
      simp only
      generalize P.info? e = ui
      generalize zeroV P e = uz
      split
      · rename_i i zs
        simp only
        cases (Nat.beq zs.length i.size && Nat.ble (Nat.mul len i.size) 4096)
        · rfl
        · simp only [cond_true]
          generalize fillV (fun j => some (Nat.mul j i.size, i.size)) (repL len zs) (List.map (fun x => (x.fst, evO P T x.snd)) parts.toList) = q
          cases q with
          | none => rfl
          | some vs =>
            simp only [Option.map_some, Option.bind_some]
            cases newV h vs.length e vs <;> rfl
      · rename_i hno
        split
        · rename_i i zs
          exact (hno _ _ rfl rfl).elim
        · rfl
    · rename_i hno
      split
      · rename_i e
        exact (hno _ rfl).elim
      · rfl
  · rename_i t x y
    show (makeSliceV P h t (evO P T x) (evO P T y)).map (fun (v, h') => (v, d, h')) = _
    unfold makeSliceV newOf
    simp only
    generalize P.underlying t = u
    generalize natV (evO P T x) = a
    generalize natV (evO P T y) = b
    split
    · rename_i e l c
      simp only
      generalize P.info? e = ui
      generalize zeroV P e = uz
      split
      · rename_i i zs
        simp only
        cases (Nat.ble l c && Nat.ble c 4096 && Nat.ble (Nat.mul c i.bytes) 1099511627776 && Nat.beq zs.length i.size && Nat.ble (Nat.mul c i.size) 4096)
        · rfl
        · simp only [cond_true, Option.bind_some]
          cases newV h (repL c zs).length e (repL c zs) <;> rfl
      · rename_i hno
        split
        · rename_i i zs
          exact (hno _ _ rfl rfl).elim
        · rfl
    · rename_i hno
      split
      · rename_i e l c
        exact (hno _ _ _ rfl rfl rfl).elim
      · rfl
  · cases ha
/-- The one new block that may be made ahead of effects that the text has before it; none: the number of operations. -/
def floatOf (ops : List Oper) : Nat :=
  let ms := masks ops []
  ((List.range ops.length).find? fun j =>
    match ops[j]? with
    | some o => isAlloc o.op && (List.range j).any fun x => match ops[x]? with | some q => isEff q.op && !(ahead ms x j) | none => false
    | none => false).getD ops.length
/-- What is asked of it: nobody hangs on it who does not stand behind those effects. -/
def floatOk (ops : List Oper) (ms : List Nat) (fl : Nat) : Bool :=
  match ops[fl]? with
  | none => true
  | some o => isAlloc o.op && o.guard.isNone && o.dst.isSome &&
      (List.range ops.length).all fun k => !(ahead ms fl k) || (List.range fl).all fun x => match ops[x]? with | some q => !(isEff q.op) || ahead ms x fl || ahead ms x k | none => true

/-- What is asked of a region that draws its order, of its text alone. -/
def drawOk (ops : List Oper) : Bool :=
  let ms := masks ops []
  let n := ops.length
  let fl := floatOf ops
  floatOk ops ms fl &&
  (List.range n).all fun j =>
    match ops[j]? with
    | none => false
    | some oj =>
      (oj.after.toList.all fun e => !(Region.binds .any e) || Nat.blt e.on j) &&
      (List.range n).all fun i =>
        match ops[i]? with
        | none => false
        | some oi =>
          Nat.beq i j ||
          ((!(match oi.dst with | some t => (readsOf ops oj).contains t || oj.dst == some t | none => false) || (bif Nat.blt i j then ahead ms i j else ahead ms j i)) &&
           (!(isEff oi.op && isEff oj.op && Nat.blt i j) || (ahead ms i j || Nat.beq j fl)))

def evDraw (P : Program) (call : CallFn) (f : Fr) (ps : List (Nat × Nat)) (ops : List Oper) (d : Ds) (h : H) : RO :=
  match evTr P call f ops ops [] d h with
  | some tr => bif askPairs P f ops tr ps then lastTr ops tr [] d h else .fail
  | none => .fail

/-! Another order of the same operations. -/
def mapEdge (σ : List Nat) (o : Oper) : Oper := { o with after := o.after.map fun e => { e with on := σ.getD e.on 0 }, guard := o.guard.map fun p => (σ.getD p.1 0, p.2) }
def permL (ops : List Oper) (π σ : List Nat) : List Oper := π.map fun i => mapEdge σ (ops.getD i default)
def permOk (ops : List Oper) (π σ : List Nat) : Bool :=
  let n := ops.length
  Nat.beq π.length n && Nat.beq σ.length n &&
  ((List.range n).all fun k => Nat.blt (π.getD k n) n && Nat.beq (σ.getD (π.getD k n) n) k && Nat.blt (σ.getD k n) n && Nat.beq (π.getD (σ.getD k n) n) k) &&
  ops.all fun o => (o.after.toList.all fun e => Nat.blt e.on n) && (match o.guard with | some p => Nat.blt p.1 n | none => true)
/-- The text's order, but a new block is made as late as can be. -/
def lateGo (ops : List Oper) (ms : List Nat) : List Nat → List Nat → List Nat → List Nat
  | [], out, pend => out ++ pend
  | k :: ks, out, pend =>
    let out' := out ++ pend.filter fun p => ahead ms p k
    let pend' := pend.filter fun p => !(ahead ms p k)
    match ops[k]? with
    | some o => bif isAlloc o.op then lateGo ops ms ks out' (pend' ++ [k]) else lateGo ops ms ks (out' ++ [k]) pend'
    | none => []
def latePi (ops : List Oper) : List Nat := lateGo ops (masks ops []) (List.range ops.length) [] []
def invOf (n : Nat) (π : List Nat) : List Nat := (List.range n).map fun i => π.findIdx fun j => Nat.beq j i
/-- The order in which a region that draws its order is gone through. -/
def drawList (ops : List Oper) : Option (List Oper) :=
  bif drawOk ops then some ops else
    let π := latePi ops
    let σ := invOf ops.length π
    let ops' := permL ops π σ
    bif permOk ops π σ && drawOk ops' then some ops' else none

end Go.Ev
