/- The evaluator in stages: code and functions, equal to the evaluator. No condition. -/
import Derived.Test.YtmpcndedikajkaaGreatDoorEvSC
namespace Go.Ev
noncomputable section
variable {P : Program}

/-- A guard's value: a bool; an operation that was not wanted. -/
def guardOf {α : Type} (v : V) (k : Bool → α) (s e : α) : α :=
  V.rec (motive_1 := fun _ => α) (motive_2 := fun _ => Unit) (fun b => k b) (fun _ _ => e) (fun _ _ => e) e (fun _ _ => e) e (fun _ _ _ _ _ => e) (fun _ _ _ _ _ => e) e (fun _ _ _ => e) e (fun _ => e) e (fun _ _ => e) (fun _ _ => e) (fun _ _ => e) (fun _ _ => e) (fun _ _ => e) (fun l _ => List.rec (motive := fun _ => α) s (fun _ _ _ => e) l) e () (fun _ _ _ _ => ()) v

inductive RegC where
  | mk (g : CallFn → List V → Fr → Ds → H → RC)
def RegC.run (c : RegC) (call : CallFn) (vs : List V) (f : Fr) (d : Ds) (h : H) : RC := RegC.rec (motive := fun _ => RC) (fun g => g call vs f d h) c
inductive KC where
  | mk (g : CallFn → V → List V → Fr → Ds → H → RC)
def KC.run (c : KC) (call : CallFn) (v : V) (vs : List V) (f : Fr) (d : Ds) (h : H) : RC := KC.rec (motive := fun _ => RC) (fun g => g call v vs f d h) c

def keptS (mask n : Nat) : Bool := bif kept mask n then Nat.blt n 256 else false
def dstC (mask : Nat) (dst : Option Tmp) (ns : List Tmp) (ih : List Tmp → RegC) : KC :=
  match dst with
  | none => .mk fun call _ vs f d h => (ih ns).run call vs f d h
  | some n => bif keptS mask n then .mk (fun call v vs f d h => (ih ns).run call vs ((setC n).run v f) d h) else .mk fun call v vs f d h => (ih (n :: ns)).run call (v :: vs) f d h
def stepC (oc : OpC) (k : KC) : RegC :=
  match oc with
  | .pure c => .mk fun call vs f d h => k.run call (c.run vs f) vs f d h
  | .val g => .mk fun call vs f d h => Option.rec (motive := fun _ => RC) .fail (fun v => k.run call v vs f d h) (g h vs f)
  | .mem g => .mk fun call vs f d h => Option.rec (motive := fun _ => RC) .fail (fun p => Prod.rec (motive := fun _ => RC) (fun v h' => k.run call v vs f d h') p) (g call vs f h)
  | .any g => .mk fun call vs f d h => Option.rec (motive := fun _ => RC) .fail (fun p => Prod.rec (motive := fun _ => RC) (fun v q => Prod.rec (motive := fun _ => RC) (fun d' h' => k.run call v vs f d' h') q) p) (g call vs f d h)
theorem stepC_run (oc : OpC) (k : KC) (call : CallFn) (vs : List V) (f : Fr) (d : Ds) (h : H) :
    (stepC oc k).run call vs f d h = match oc.sem call vs f d h with | some (v, d', h') => k.run call v vs f d' h' | none => .fail := by
  cases oc with
  | pure c => rfl
  | val g => simp only [stepC, RegC.run, OpC.sem]; cases g h vs f <;> rfl
  | mem g => simp only [stepC, RegC.run, OpC.sem]; cases g call vs f h <;> rfl
  | any g => simp only [stepC, RegC.run, OpC.sem]; cases g call vs f d h <;> rfl

def guardC (all : List Oper) (ns : List Tmp) (g : Option (Nat × Bool)) (A : RegC) (K : KC) : RegC :=
  match g with
  | none => A
  | some (j, want) =>
    match (all[j]?).bind (·.dst) with
    | none => .mk fun _ _ _ _ _ => .fail
    | some t => bif want then
        .mk (fun call vs f d h => guardOf ((resolve ns t).run vs f) (fun b => (Bool.rec (motive := fun _ => RC) (K.run call (.tup []) vs f d h) (A.run call vs f d h) (b))) (K.run call (.tup []) vs f d h) .fail)
      else .mk fun call vs f d h => guardOf ((resolve ns t).run vs f) (fun b => (Bool.rec (motive := fun _ => RC) (A.run call vs f d h) (K.run call (.tup []) vs f d h) (b))) (K.run call (.tup []) vs f d h) .fail
theorem guardC_run (all : List Oper) (ns : List Tmp) (g : Option (Nat × Bool)) (A : RegC) (K : KC) (call : CallFn) (vs : List V) (f : Fr) (d : Ds) (h : H) :
    (guardC all ns g A K).run call vs f d h = match wantedV all (tmS ns vs f) g with | some true => A.run call vs f d h | some false => K.run call (.tup []) vs f d h | none => .fail := by
  unfold guardC wantedV
  split
  · rfl
  · rename_i j want
    split
    · rename_i ht
      simp only [ht]
      rfl
    · rename_i t ht
      simp only [ht]
      have key : ∀ u : V, (match (match u with | .bool b => some (b == want) | .tup [] => some false | _ => none : Option Bool) with | some true => A.run call vs f d h | some false => K.run call (.tup []) vs f d h | none => .fail) =
          guardOf u (fun b => bif b == want then A.run call vs f d h else K.run call (.tup []) vs f d h) (K.run call (.tup []) vs f d h) .fail := by
        intro u
        cases u <;> first
          | rfl
          | (rename_i b; cases b <;> cases want <;> rfl)
          | (rename_i l; cases l <;> rfl)
      show _ = (match (match (resolve ns t).run vs f with | .bool b => some (b == want) | .tup [] => some false | _ => none : Option Bool) with | some true => A.run call vs f d h | some false => K.run call (.tup []) vs f d h | none => .fail)
      rw [key]
      cases want
      · show guardOf ((resolve ns t).run vs f) _ _ _ = _
        generalize (resolve ns t).run vs f = u
        cases u <;> first
          | rfl
          | (rename_i b; cases b <;> rfl)
      · show guardOf ((resolve ns t).run vs f) _ _ _ = _
        generalize (resolve ns t).run vs f = u
        cases u <;> first
          | rfl
          | (rename_i b; cases b <;> rfl)

def regC (P : Program) (mask : Nat) (all ops : List Oper) : List Tmp → RegC :=
  List.rec (motive := fun _ => List Tmp → RegC) (fun _ => .mk fun _ _ f d h => .ok .norm f d h)
    (fun o _ ih ns => guardC all ns o.guard (stepC (opC P ns o.op) (dstC mask o.dst ns ih)) (dstC mask o.dst ns ih)) ops

/-- The stages' state beside the evaluator's. -/
structure Inv (mask : Nat) (e : Env) (f0 : Fr) (ns : List Tmp) (vs : List V) (f : Fr) : Prop where
  len : vs.length = ns.length
  tm : ∀ t, look (ns.zip vs) f t = look e f0 t
  fl : flush mask e f0 = f
  out : ∀ n, memN n ns = true → keptS mask n = false

theorem Inv.tmS {mask : Nat} {e : Env} {f0 : Fr} {ns : List Tmp} {vs : List V} {f : Fr} (i : Inv mask e f0 ns vs f) : tmS ns vs f = look e f0 := by
  funext t
  show (resolve ns t).run vs f = _
  rw [resolve_run f i.len, i.tm]

theorem look_zip_set {t n : Tmp} (hn : n < 256) (v : V) : ∀ (ns : List Tmp) (vs : List V) (f : Fr), vs.length = ns.length → memN n ns = false → look (ns.zip vs) (fset f n v) t = if t = n then v else look (ns.zip vs) f t := by
  intro ns
  induction ns with
  | nil => intro vs f _ _; show fget (fset f n v) t = _; rw [fget_fset _ _ _ _ hn]; rfl
  | cons m ns ih =>
    intro vs f hl hm
    cases vs with
    | nil => cases hl
    | cons u vs =>
      have hm' : (bif Nat.beq m n then true else memN n ns) = false := hm
      cases hb : Nat.beq m n
      · rw [hb] at hm'
        show (bif Nat.beq m t then u else look (ns.zip vs) (fset f n v) t) = if t = n then v else (bif Nat.beq m t then u else look (ns.zip vs) f t)
        rw [ih vs f (by simpa using hl) hm']
        cases hmt : Nat.beq m t
        · rfl
        · have e1 := Nat.eq_of_beq_eq_true hmt
          have : t ≠ n := fun e2 => by rw [e1, e2] at hb; rw [Nat.beq_refl] at hb; cases hb
          simp [this]
      · rw [hb] at hm'; cases hm'

theorem Inv.put {mask : Nat} {e : Env} {f0 : Fr} {ns : List Tmp} {vs : List V} {f : Fr} (i : Inv mask e f0 ns vs f) (dst : Option Tmp) (v : V) (ih : List Tmp → RegC) (call : CallFn) :
    ∃ ns' vs' f', Inv mask (putE dst v e) f0 ns' vs' f' ∧ ∀ d h, (dstC mask dst ns ih).run call v vs f d h = (ih ns').run call vs' f' d h := by
  cases dst with
  | none => exact ⟨ns, vs, f, i, fun _ _ => rfl⟩
  | some n =>
    cases hk : keptS mask n
    · refine ⟨n :: ns, v :: vs, f, ⟨by simp [i.len], fun t => ?_, ?_, fun m hm => ?_⟩, fun d h => ?_⟩
      · show (bif Nat.beq n t then v else look (ns.zip vs) f t) = (bif Nat.beq n t then v else look e f0 t)
        rw [i.tm]
      · show (bif kept mask n then fset (flush mask e f0) n v else flush mask e f0) = f
        rw [i.fl]
        unfold keptS at hk
        cases hk2 : kept mask n
        · rfl
        · rw [hk2] at hk
          have hk3 : Nat.blt n 256 = false := hk
          show fset f n v = f
          unfold fset
          rw [hk3]
          rfl
      · have hm' : (bif Nat.beq n m then true else memN m ns) = true := hm
        cases hb : Nat.beq n m
        · rw [hb] at hm'; exact i.out m hm'
        · rw [← Nat.eq_of_beq_eq_true hb]; exact hk
      · show KC.run (bif keptS mask n then _ else _) call v vs f d h = _
        rw [hk]; rfl
    · have hk' := hk
      unfold keptS at hk'
      cases hk2 : kept mask n
      · rw [hk2] at hk'; cases hk'
      · rw [hk2] at hk'
        have hn : n < 256 := by
          have : Nat.blt n 256 = true := hk'
          rwa [Nat.blt_eq] at this
        have hout : memN n ns = false := by
          cases hm : memN n ns
          · rfl
          · rw [i.out n hm] at hk; cases hk
        refine ⟨ns, vs, fset f n v, ⟨i.len, fun t => ?_, ?_, i.out⟩, fun d h => ?_⟩
        · rw [look_zip_set hn v ns vs f i.len hout, i.tm]
          show _ = (bif Nat.beq n t then v else look e f0 t)
          cases hb : Nat.beq n t
          · have : t ≠ n := fun e2 => by rw [e2, Nat.beq_refl] at hb; cases hb
            simp [this]
          · simp [(Nat.eq_of_beq_eq_true hb).symm]
        · show (bif kept mask n then fset (flush mask e f0) n v else flush mask e f0) = _
          rw [hk2, i.fl]; rfl
        · show KC.run (bif keptS mask n then _ else _) call v vs f d h = _
          rw [hk]
          show (ih ns).run call vs ((setC n).run v f) d h = _
          rw [setC_run]

theorem regC_run (mask : Nat) (call : CallFn) (f0 : Fr) (all : List Oper) : ∀ (ops : List Oper) (e : Env) (ns : List Tmp) (vs : List V) (f : Fr) (d : Ds) (h : H), Inv mask e f0 ns vs f →
    (regC P mask all ops ns).run call vs f d h = afterOps mask f0 (evOps P call f0 all ops e d h) := by
  intro ops
  induction ops with
  | nil =>
    intro e ns vs f d h i
    show RC.ok .norm f d h = RC.ok .norm (flush mask e f0) d h
    rw [i.fl]
  | cons o ops ih =>
    intro e ns vs f d h i
    have hd : regC P mask all (o :: ops) ns = guardC all ns o.guard (stepC (opC P ns o.op) (dstC mask o.dst ns (regC P mask all ops))) (dstC mask o.dst ns (regC P mask all ops)) := rfl
    rw [hd, guardC_run, i.tmS]
    simp only [evOps]
    cases wantedV all (look e f0) o.guard with
    | none => rfl
    | some b =>
      cases b
      · simp only
        obtain ⟨ns', vs', f', i', h2⟩ := i.put o.dst (.tup []) (regC P mask all ops) call
        rw [h2, ih _ _ _ _ _ _ i']
      · simp only
        rw [stepC_run, opC_sem, i.tmS]
        cases oneOp P call o.op (look e f0) d h with
        | none => rfl
        | some p =>
          obtain ⟨v, d', h'⟩ := p
          simp only
          obtain ⟨ns', vs', f', i', h2⟩ := i.put o.dst v (regC P mask all ops) call
          rw [h2, ih _ _ _ _ _ _ i']

theorem lastTr_any (e e2 : Env) (d d2 : Ds) (h h2 : H) : ∀ (ops : List Oper) (tr : List Tr) (o : Oper) (t : Tr), lastTr (o :: ops) (t :: tr) e d h = lastTr (o :: ops) (t :: tr) e2 d2 h2 := by
  intro ops
  induction ops with
  | nil => intro tr o t; cases tr <;> rfl
  | cons o2 ops ih =>
    intro tr o t
    cases tr with
    | nil => cases ops <;> rfl
    | cons t2 tr => exact ih tr o2 t2
theorem evTr_ops (call : CallFn) (f : Fr) (all : List Oper) : ∀ (ops : List Oper) (e : Env) (d : Ds) (h : H),
    evOps P call f all ops e d h = match evTr P call f all ops e d h with | some tr => lastTr ops tr e d h | none => .fail := by
  intro ops
  induction ops with
  | nil => intro e d h; rfl
  | cons o ops ih =>
    intro e d h
    have step : ∀ (e' : Env) (d' : Ds) (h' : H) (t : Tr), t.ds' = d' → t.h' = h' → putE o.dst t.v t.env = e' →
        evOps P call f all ops e' d' h' = match (evTr P call f all ops e' d' h').map (fun l => t :: l) with | some tr => lastTr (o :: ops) tr e d h | none => .fail := by
      intro e' d' h' t h1 h2 h3
      rw [ih]
      cases hq : evTr P call f all ops e' d' h' with
      | none => rfl
      | some tr =>
        simp only [Option.map_some]
        cases ops with
        | nil =>
          simp only [evTr, Option.some.injEq] at hq
          subst hq
          show RO.ok e' d' h' = RO.ok (putE o.dst t.v t.env) t.ds' t.h'
          rw [h1, h2, h3]
        | cons o2 ops =>
          cases tr with
          | nil => cases ops <;> rfl
          | cons t2 tr => exact (lastTr_any _ _ _ _ _ _ ops tr o2 t2)
    simp only [evOps, evTr]
    cases wantedV all (look e f) o.guard with
    | none => rfl
    | some b =>
      cases b
      · exact step _ _ _ ⟨e, d, h, false, .tup [], d, h⟩ rfl rfl rfl
      · simp only
        cases oneOp P call o.op (look e f) d h with
        | none => rfl
        | some p =>
          obtain ⟨v, d', h'⟩ := p
          exact step _ _ _ ⟨e, d, h, true, v, d', h'⟩ rfl rfl rfl
theorem evDraw_nil (call : CallFn) (f : Fr) (ops : List Oper) (d : Ds) (h : H) : evDraw P call f [] ops d h = evOps P call f ops ops [] d h := by
  rw [evTr_ops]
  unfold evDraw
  cases evTr P call f ops ops [] d h <;> rfl

/-! Code. -/
inductive Clo where
  | mk (g : CallFn → Fr → Ds → H → RC)
def Clo.run (c : Clo) (call : CallFn) (f : Fr) (d : Ds) (h : H) : RC := Clo.rec (motive := fun _ => RC) (fun g => g call f d h) c
def seqReg (P : Program) (mask : Nat) (ops : List Oper) : Clo := .mk fun call f d h => (regC P mask ops ops []).run call [] f d h
def drawC (P : Program) (mask : Nat) (ops : List Oper) (ps : List (Nat × Nat)) : Clo :=
  match ps with
  | [] => seqReg P mask ops
  | p :: ps => .mk fun call f d h => afterOps mask f (evDraw P call f (p :: ps) ops d h)
def regionC (P : Program) (mask : Nat) (ops : List Oper) (draw : Bool) : Clo :=
  bif draw then (Option.rec (motive := fun _ => Clo) (.mk fun _ _ _ _ => .fail) (fun L => drawC P mask L (pairs L)) (drawList ops)) else seqReg P mask ops
theorem seqReg_run (mask : Nat) (ops : List Oper) (call : CallFn) (f : Fr) (d : Ds) (h : H) : (seqReg P mask ops).run call f d h = afterOps mask f (evOps P call f ops ops [] d h) :=
  regC_run mask call f ops ops [] [] [] f d h ⟨rfl, fun _ => rfl, rfl, fun _ h => by cases h⟩
theorem regionC_run (mask : Nat) (ops : List Oper) (draw : Bool) (call : CallFn) (f : Fr) (d : Ds) (h : H) :
    (regionC P mask ops draw).run call f d h = (bif draw then (match drawList ops with | some L => afterOps mask f (evDraw P call f (pairs L) L d h) | none => .fail) else afterOps mask f (evOps P call f ops ops [] d h)) := by
  unfold regionC
  cases draw
  · exact seqReg_run mask ops call f d h
  · simp only [cond_true]
    cases drawList ops with
    | none => rfl
    | some L =>
      simp only
      cases pairs L with
      | nil => rw [evDraw_nil]; exact seqReg_run mask L call f d h
      | cons p ps => rfl

def loopS (c : Clo) (n : Nat) : CallFn → Fr → Ds → H → RC :=
  Nat.rec (motive := fun _ => CallFn → Fr → Ds → H → RC) (fun _ _ _ _ => .fail)
    (fun _ ih call f d h => RC.rec (motive := fun _ => RC) .fail (fun x f d h => X.rec (motive := fun _ => RC) (ih call f d h) (fun id => .ok (.exit id) f d h) (.ok .ret f d h) x) (c.run call f d h)) n
theorem loopS_run {call : CallFn} {body : Fr → Ds → H → RC} {c : Clo} (hc : ∀ f d h, c.run call f d h = body f d h) (n : Nat) : ∀ f d h, loopS c n call f d h = loopN body n f d h := by
  induction n with
  | zero => intro f d h; rfl
  | succ n ih =>
    intro f d h
    show RC.rec (motive := fun _ => RC) .fail (fun x f d h => X.rec (motive := fun _ => RC) (loopS c n call f d h) (fun id => .ok (.exit id) f d h) (.ok .ret f d h) x) (c.run call f d h) = _
    rw [hc]
    simp only [loopN]
    cases body f d h with
    | fail => rfl
    | ok x f d h => cases x <;> first | exact ih f d h | rfl

def comp (P : Program) (mask fuel : Nat) (c : Code) : Clo :=
  Code.rec (motive := fun _ => Clo)
    (skip := .mk fun _ f d h => .ok .norm f d h)
    (region := fun _ ops draw => regionC P mask ops.toList draw)
    (seq := fun _ _ a b => .mk fun call f d h => RC.rec (motive := fun _ => RC) .fail (fun x f d h => X.rec (motive := fun _ => RC) (b.run call f d h) (fun id => .ok (.exit id) f d h) (.ok .ret f d h) x) (a.run call f d h))
    (cond := fun c _ _ a b => .mk fun call f d h => boolOf ((opdC P [] c).run [] f) (fun t => (Bool.rec (motive := fun _ => RC) (b.run call f d h) (a.run call f d h) (t))) .fail)
    (block := fun id _ c => .mk fun call f d h => RC.rec (motive := fun _ => RC) .fail (fun x f d h => X.rec (motive := fun _ => RC) (.ok .norm f d h) (fun id' => (Bool.rec (motive := fun _ => RC) (.ok (.exit id') f d h) (.ok .norm f d h) (Nat.beq id' id))) (.ok .ret f d h) x) (c.run call f d h))
    (loop := fun _ c => .mk fun call f d h => loopS c fuel call f d h)
    (rangeFunc := fun g _ _ _ _ _ => .mk fun call f d h => rangeV P call g f d h)
    (exit := fun id => .mk fun _ f d h => .ok (.exit id) f d h)
    (goto := fun _ => .mk fun _ _ _ _ => .fail)
    (label := fun _ => .mk fun _ f d h => .ok .norm f d h)
    (scope := fun _ _ => .mk fun _ _ _ _ => .fail)
    (ret := .mk fun _ f d h => .ok .ret f d h)
    (refuse := fun _ => .mk fun _ _ _ _ => .fail) c

theorem comp_run (mask fuel : Nat) (call : CallFn) : ∀ (c : Code) (f : Fr) (d : Ds) (h : H), (comp P mask fuel c).run call f d h = den P call mask fuel c f d h := by
  intro c
  induction c with
  | skip => intro f d h; rfl
  | label l => intro f d h; rfl
  | region id ops draw => intro f d h; exact regionC_run mask ops.toList draw call f d h
  | seq a b iha ihb =>
    intro f d h
    show RC.rec (motive := fun _ => RC) .fail (fun x f d h => X.rec (motive := fun _ => RC) ((comp P mask fuel b).run call f d h) (fun id => .ok (.exit id) f d h) (.ok .ret f d h) x) ((comp P mask fuel a).run call f d h) = _
    rw [iha]
    simp only [den]
    cases den P call mask fuel a f d h with
    | fail => rfl
    | ok x f d h => cases x <;> first | exact ihb f d h | rfl
  | cond c a b iha ihb =>
    intro f d h
    show boolOf ((opdC P [] c).run [] f) (fun t => Bool.rec (motive := fun _ => RC) ((comp P mask fuel b).run call f d h) ((comp P mask fuel a).run call f d h) t) .fail = _
    rw [opdC_tm]
    have : tmS [] [] f = fget f := by
      funext t
      show (resolve [] t).run [] f = _
      exact resolve_run (ns := []) f rfl
    rw [this]
    simp only [den]
    cases evO P (fget f) c <;> first
      | rfl
      | (rename_i t; cases t <;> first | exact ihb f d h | exact iha f d h)
  | block id p ih =>
    intro f d h
    show RC.rec (motive := fun _ => RC) .fail (fun x f d h => X.rec (motive := fun _ => RC) (.ok .norm f d h) (fun id' => (Bool.rec (motive := fun _ => RC) (.ok (.exit id') f d h) (.ok .norm f d h) (Nat.beq id' id))) (.ok .ret f d h) x) ((comp P mask fuel p).run call f d h) = _
    rw [ih]
    simp only [den]
    cases den P call mask fuel p f d h with
    | fail => rfl
    | ok x f d h =>
      cases x with
      | exit id' =>
        simp only
        cases Nat.beq id' id <;> rfl
      | norm => rfl
      | ret => rfl
  | loop p ih =>
    intro f d h
    exact loopS_run (body := den P call mask fuel p) ih fuel f d h
  | exit id => intro f d h; rfl
  | ret => intro f d h; rfl
  | rangeFunc _ _ _ _ => intro f d h; rfl
  | scope _ => intro f d h; rfl
  | goto _ => intro f d h; rfl
  | refuse _ => intro f d h; rfl

/-! Functions. -/
inductive RsC where
  | mk (g : Fr → H → Option V)
def RsC.run (c : RsC) (f : Fr) (h : H) : Option V := RsC.rec (motive := fun _ => Option V) (fun g => g f h) c
def resC (P : Program) (rs : List ResultVar) : RsC :=
  match rs with
  | [.tmp t] => .mk fun f _ => some ((slotC t).run [] f)
  | [.tmp t, .tmp u] => .mk fun f _ => some (.tup [(slotC t).run [] f, (slotC u).run [] f])
  | [.tmp t, .tmp u, .tmp w] => .mk fun f _ => some (.tup [(slotC t).run [] f, (slotC u).run [] f, (slotC w).run [] f])
  | rs => .mk fun f h => (resV P f h rs).map oneRes
theorem resC_run (rs : List ResultVar) (f : Fr) (h : H) : (resC P rs).run f h = (resV P f h rs).map oneRes := by
  unfold resC
  split
  · simp only [RsC.run, slotC_run]; rfl
  · simp only [RsC.run, slotC_run]; rfl
  · simp only [RsC.run, slotC_run]; rfl
  · rfl
inductive AF where
  | mk (g : List V → Fr → Fr)
def AF.run (c : AF) (vs : List V) (f : Fr) : Fr := AF.rec (motive := fun _ => Fr) (fun g => g vs f) c
def argF (mask n : Nat) : Nat → AF :=
  Nat.rec (motive := fun _ => Nat → AF) (fun i => .mk fun vs f => args0 mask i vs f)
    (fun _ ih i => bif kept mask i then .mk (fun vs f => List.rec (motive := fun _ => Fr) f (fun v vs' _ => (ih (Nat.succ i)).run vs' ((setC i).run v f)) vs)
      else .mk fun vs f => List.rec (motive := fun _ => Fr) f (fun _ vs' _ => (ih (Nat.succ i)).run vs' f) vs) n
theorem argF_run (mask n : Nat) : ∀ (i : Nat) (vs : List V) (f : Fr), (argF mask n i).run vs f = args0 mask i vs f := by
  induction n with
  | zero => intro i vs f; rfl
  | succ n ih =>
    intro i vs f
    have hd : argF mask (n + 1) i = (bif kept mask i then .mk (fun vs f => List.rec (motive := fun _ => Fr) f (fun v vs' _ => (argF mask n (Nat.succ i)).run vs' ((setC i).run v f)) vs)
      else .mk fun vs f => List.rec (motive := fun _ => Fr) f (fun _ vs' _ => (argF mask n (Nat.succ i)).run vs' f) vs) := rfl
    rw [hd]
    cases vs with
    | nil => cases kept mask i <;> rfl
    | cons v vs =>
      show _ = args0 mask (i + 1) vs (bif kept mask i then fset f i v else f)
      cases kept mask i
      · exact ih (i + 1) vs f
      · show (argF mask n (Nat.succ i)).run vs ((setC i).run v f) = _
        rw [setC_run]
        exact ih (i + 1) vs (fset f i v)

inductive FnC where
  | mk (g : CallFn → CallFn → List V → H → Option (V × H))
def FnC.run (c : FnC) (call callD : CallFn) (vs : List V) (h : H) : Option (V × H) := FnC.rec (motive := fun _ => Option (V × H)) (fun g => g call callD vs h) c
def pairO (r : Option V) (h : H) : Option (V × H) := Option.rec (motive := fun _ => Option (V × H)) none (fun v => some (v, h)) r
def fnC (P : Program) (mask fuel : Nat) (fn : Func) (c : Code) : FnC :=
  .mk fun call callD vs h => RC.rec (motive := fun _ => Option (V × H)) none (fun x f d h =>
    X.rec (motive := fun _ => Option (V × H))
      (List.rec (motive := fun _ => Option (V × H)) (pairO ((resC P fn.results.toList).run f h) h) (fun g ds _ => (runDs callD (g :: ds) h).bind fun h => (resV P f h fn.results.toList).map fun l => (oneRes l, h)) d)
      (fun _ => none)
      (List.rec (motive := fun _ => Option (V × H)) (pairO ((resC P fn.results.toList).run f h) h) (fun g ds _ => (runDs callD (g :: ds) h).bind fun h => (resV P f h fn.results.toList).map fun l => (oneRes l, h)) d) x)
    ((comp P mask fuel c).run call ((argF mask fn.params.size 0).run vs fr0) [] h)
theorem pairO_eq (f : Fr) (h : H) (rs : List ResultVar) : pairO ((resC P rs).run f h) h = (resV P f h rs).map fun l => (oneRes l, h) := by
  rw [resC_run]
  cases resV P f h rs <;> rfl
theorem fnC_run (mask fuel : Nat) (fn : Func) (c : Code) (call callD : CallFn) (vs : List V) (h : H) : (fnC P mask fuel fn c).run call callD vs h = runFn P call callD mask fuel fn c vs h := by
  unfold fnC runFn
  show RC.rec (motive := fun _ => Option (V × H)) none _ ((comp P mask fuel c).run call ((argF mask fn.params.size 0).run vs fr0) [] h) = _
  rw [comp_run, argF_run]
  cases den P call mask fuel c (args0 mask 0 vs fr0) [] h with
  | fail => rfl
  | ok x f d h =>
    cases x with
    | exit id => rfl
    | norm => cases d with
      | nil => exact pairO_eq f h fn.results.toList
      | cons g ds => rfl
    | ret => cases d with
      | nil => exact pairO_eq f h fn.results.toList
      | cons g ds => rfl

inductive DnC where
  | mk (g : CallFn → List V → H → Option (V × H))
def DnC.run (c : DnC) (call : CallFn) (vs : List V) (h : H) : Option (V × H) := DnC.rec (motive := fun _ => Option (V × H)) (fun g => g call vs h) c
def dnC (P : Program) (mask fuel : Nat) (fn : Func) (c : Code) : DnC :=
  .mk fun call vs h => RC.rec (motive := fun _ => Option (V × H)) none (fun x f d h =>
    List.rec (motive := fun _ => Option (V × H)) (X.rec (motive := fun _ => Option (V × H)) (pairO ((resC P fn.results.toList).run f h) h) (fun _ => none) (pairO ((resC P fn.results.toList).run f h) h) x) (fun _ _ _ => none) d)
    ((comp P mask fuel c).run call ((argF mask fn.params.size 0).run vs fr0) [] h)
theorem dnC_run (mask fuel : Nat) (fn : Func) (c : Code) (call : CallFn) (vs : List V) (h : H) : (dnC P mask fuel fn c).run call vs h = runFnD P call mask fuel fn c vs h := by
  unfold dnC runFnD
  show RC.rec (motive := fun _ => Option (V × H)) none _ ((comp P mask fuel c).run call ((argF mask fn.params.size 0).run vs fr0) [] h) = _
  rw [comp_run, argF_run]
  cases den P call mask fuel c (args0 mask 0 vs fr0) [] h with
  | fail => rfl
  | ok x f d h =>
    cases d with
    | cons g ds => rfl
    | nil =>
      cases x with
      | exit id => rfl
      | norm => exact pairO_eq f h fn.results.toList
      | ret => exact pairO_eq f h fn.results.toList

def fnAt (P : Program) (ext : CallFn) (isExt : FuncId → Bool) (mask : FuncId → Nat) (fuel : Nat) (g : FuncId) : FnC :=
  bif isExt g then .mk (fun _ _ vs h => ext g vs h) else
  match P.funcs[g]? with
  | some fn => match fn.body with
    | some c => fnC P (mask g) fuel fn c
    | none => .mk fun _ _ _ _ => none
  | none => .mk fun _ _ _ _ => none
def dnAt (P : Program) (mask : FuncId → Nat) (fuel : Nat) (g : FuncId) : DnC :=
  match P.funcs[g]? with
  | some fn => match fn.body with
    | some c => dnC P (mask g) fuel fn c
    | none => .mk fun _ _ _ => none
  | none => .mk fun _ _ _ => none
def callDS (P : Program) (mask : FuncId → Nat) (fuel : Nat) (call : CallFn) : CallFn := fun g vs h => (dnAt P mask fuel g).run call vs h
theorem callDS_eq (mask : FuncId → Nat) (fuel : Nat) (call : CallFn) : callDS P mask fuel call = callDof P mask fuel call := by
  funext g vs h
  unfold callDS dnAt callDof
  cases P.funcs[g]? with
  | none => rfl
  | some fn =>
    simp only
    cases fn.body with
    | none => rfl
    | some c => exact dnC_run _ _ _ _ _ _ _
/-- THE EVALUATOR IN STAGES. -/
def callS (P : Program) (ext : CallFn) (isExt : FuncId → Bool) (mask : FuncId → Nat) (fuel : Nat) (n : Nat) : CallFn :=
  Nat.rec (motive := fun _ => CallFn) (fun _ _ _ => none) (fun _ ih g vs h => (fnAt P ext isExt mask fuel g).run ih (callDS P mask fuel ih) vs h) n
theorem callS_eq (ext : CallFn) (isExt : FuncId → Bool) (mask : FuncId → Nat) (fuel : Nat) (n : Nat) : callS P ext isExt mask fuel n = callN P ext isExt mask fuel n := by
  induction n with
  | zero => rfl
  | succ n ih =>
    funext g vs h
    show (fnAt P ext isExt mask fuel g).run (callS P ext isExt mask fuel n) (callDS P mask fuel (callS P ext isExt mask fuel n)) vs h = _
    rw [ih, callDS_eq]
    simp only [callN, fnAt]
    cases isExt g
    · simp only [cond_false]
      cases P.funcs[g]? with
      | none => rfl
      | some fn =>
        simp only
        cases fn.body with
        | none => rfl
        | some c => exact fnC_run _ _ _ _ _ _ _ _
    · rfl

end
end Go.Ev
