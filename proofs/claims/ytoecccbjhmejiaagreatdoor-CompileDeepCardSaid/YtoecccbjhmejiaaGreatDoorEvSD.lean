/- The evaluator in stages: code and functions, equal to the evaluator. No condition. -/
import Derived.Test.YtoecccbjhmejiaaGreatDoorEvSC
namespace Go.Ev
noncomputable section
variable {P : Program}

/-- A guard's value: a bool; an operation that was not wanted. -/
def guardOf (v : V) (k : Bool → RC) (s e : RC) : RC :=
  V.rec (motive_1 := fun _ => (Bool → RC) → RC → RC → RC) (motive_2 := fun _ => Unit) (fun b k _ _ => k b) (fun _ _ _ _ e => e) (fun _ _ _ _ e => e) (fun _ _ e => e) (fun _ _ _ _ e => e) (fun _ _ e => e) (fun _ _ _ _ _ _ _ e => e) (fun _ _ _ _ _ _ _ e => e) (fun _ _ e => e) (fun _ _ _ _ _ e => e) (fun _ _ e => e) (fun _ _ _ e => e) (fun _ _ e => e) (fun _ _ _ _ e => e) (fun _ _ _ _ e => e) (fun _ _ _ _ e => e) (fun _ _ _ _ e => e) (fun _ _ _ _ e => e) (fun l _ _ s e => List.rec (motive := fun _ => RC) s (fun _ _ _ => e) l) (fun _ _ e => e) () (fun _ _ _ _ => ()) v k s e
inductive RegC where
  | mk (g : CallFn → List V → Fr → Ds → H → RC)
def RegC.run (c : RegC) (call : CallFn) (vs : List V) (f : Fr) (d : Ds) (h : H) : RC := RegC.rec (motive := fun _ => RC) (fun g => g call vs f d h) c
inductive KC where
  | mk (g : CallFn → V → List V → Fr → Ds → H → RC)
def KC.run (c : KC) (call : CallFn) (v : V) (vs : List V) (f : Fr) (d : Ds) (h : H) : RC := KC.rec (motive := fun _ => RC) (fun g => g call v vs f d h) c

def Fs.put {β : Type} (F : (V → Fr → Fr) → β) (c : Fs) : β := Fs.rec (motive := fun _ => β) F c
theorem fsrec_eq {β : Type} (F : (V → Fr → Fr) → β) (c : Fs) : Fs.put F c = F c.run := by cases c; rfl
def RegC.put {β : Type} (F : (CallFn → List V → Fr → Ds → H → RC) → β) (c : RegC) : β := RegC.rec (motive := fun _ => β) F c
theorem regrec_eq {β : Type} (F : (CallFn → List V → Fr → Ds → H → RC) → β) (c : RegC) : RegC.put F c = F c.run := by cases c; rfl
def KC.put {β : Type} (F : (CallFn → V → List V → Fr → Ds → H → RC) → β) (c : KC) : β := KC.rec (motive := fun _ => β) F c
theorem kcrec_eq {β : Type} (F : (CallFn → V → List V → Fr → Ds → H → RC) → β) (c : KC) : KC.put F c = F c.run := by cases c; rfl
def keptS (mask n : Nat) : Bool := bif kept mask n then Nat.blt n 256 else false
def dstC (mask : Nat) (dst : Option Tmp) (ns : List Tmp) (ih : List Tmp → RegC) : KC :=
  match dst with
  | none => RegC.put (fun g => .mk fun call _ vs f d h => g call vs f d h) (ih ns)
  | some n => bif keptS mask n then RegC.put (fun g => Fs.put (fun s => .mk fun call v vs f d h => g call vs (s v f) d h) (setC n)) (ih ns)
    else RegC.put (fun g => .mk fun call v vs f d h => g call (v :: vs) f d h) (ih (n :: ns))
def stepC (oc : OpC) (k : KC) : RegC :=
  KC.put (fun gk => match oc with
  | .pure c => Cl.put (fun gc => .mk fun call vs f d h => gk call (gc vs f) vs f d h) c
  | .val g => .mk fun call vs f d h => Option.rec (motive := fun _ => RC) .fail (fun v => gk call v vs f d h) (g h vs f)
  | .mem g => .mk fun call vs f d h => Option.rec (motive := fun _ => RC) .fail (fun p => Prod.rec (motive := fun _ => RC) (fun v h' => gk call v vs f d h') p) (g call vs f h)
  | .any g => .mk fun call vs f d h => Option.rec (motive := fun _ => RC) .fail (fun p => Prod.rec (motive := fun _ => RC) (fun v q => Prod.rec (motive := fun _ => RC) (fun d' h' => gk call v vs f d' h') q) p) (g call vs f d h)) k
theorem stepC_run (oc : OpC) (k : KC) (call : CallFn) (vs : List V) (f : Fr) (d : Ds) (h : H) :
    (stepC oc k).run call vs f d h = match oc.sem call vs f d h with | some (v, d', h') => k.run call v vs f d' h' | none => .fail := by
  unfold stepC
  simp only [kcrec_eq]
  cases oc with
  | pure c => simp only [clrec_eq]; rfl
  | val g =>
    show Option.rec (motive := fun _ => RC) .fail (fun v => k.run call v vs f d h) (g h vs f) = _
    simp only [OpC.sem]
    cases g h vs f <;> rfl
  | mem g =>
    show Option.rec (motive := fun _ => RC) .fail (fun p => Prod.rec (motive := fun _ => RC) (fun v h' => k.run call v vs f d h') p) (g call vs f h) = _
    simp only [OpC.sem]
    cases g call vs f h <;> rfl
  | any g =>
    show Option.rec (motive := fun _ => RC) .fail (fun p => Prod.rec (motive := fun _ => RC) (fun v q => Prod.rec (motive := fun _ => RC) (fun d' h' => k.run call v vs f d' h') q) p) (g call vs f d h) = _
    simp only [OpC.sem]
    cases g call vs f d h <;> rfl

def guardC (all : List Oper) (ns : List Tmp) (g : Option (Nat × Bool)) (A : RegC) (K : KC) : RegC :=
  match g with
  | none => A
  | some (j, want) =>
    match (all[j]?).bind (·.dst) with
    | none => .mk fun _ _ _ _ _ => .fail
    | some t => bif want then
        RegC.put (fun ga => KC.put (fun gk => Cl.put (fun gr =>
          .mk (fun call vs f d h => guardOf (gr vs f) (fun b => (Bool.rec (motive := fun _ => RC) (gk call (.tup []) vs f d h) (ga call vs f d h) (b))) (gk call (.tup []) vs f d h) .fail)) (resolve ns t)) K) A
      else RegC.put (fun ga => KC.put (fun gk => Cl.put (fun gr =>
          .mk (fun call vs f d h => guardOf (gr vs f) (fun b => (Bool.rec (motive := fun _ => RC) (ga call vs f d h) (gk call (.tup []) vs f d h) (b))) (gk call (.tup []) vs f d h) .fail)) (resolve ns t)) K) A
theorem guardC_run (all : List Oper) (ns : List Tmp) (g : Option (Nat × Bool)) (A : RegC) (K : KC) (call : CallFn) (vs : List V) (f : Fr) (d : Ds) (h : H) :
    (guardC all ns g A K).run call vs f d h = match wantedV all (tmS ns vs f) g with | some true => A.run call vs f d h | some false => K.run call (.tup []) vs f d h | none => .fail := by
  unfold guardC wantedV
  split
  · rfl
  · rename_i j want
    split
    · rename_i ht
      simp only [ht]
      rfl
    · rename_i t ht
      simp only [ht]
      have key : ∀ u : V, (match (match u with | .bool b => some (b == want) | .tup [] => some false | _ => none : Option Bool) with | some true => A.run call vs f d h | some false => K.run call (.tup []) vs f d h | none => .fail) =
          guardOf u (fun b => bif b == want then A.run call vs f d h else K.run call (.tup []) vs f d h) (K.run call (.tup []) vs f d h) .fail := by
        intro u
        cases u <;> first
          | rfl
          | (rename_i b; cases b <;> cases want <;> rfl)
          | (rename_i l; cases l <;> rfl)
      show _ = (match (match (resolve ns t).run vs f with | .bool b => some (b == want) | .tup [] => some false | _ => none : Option Bool) with | some true => A.run call vs f d h | some false => K.run call (.tup []) vs f d h | none => .fail)
      rw [key]
      cases want
      · simp only [cond_false, clrec_eq, regrec_eq, kcrec_eq]
        show guardOf ((resolve ns t).run vs f) _ _ _ = _
        generalize (resolve ns t).run vs f = u
        cases u <;> first
          | rfl
          | (rename_i b; cases b <;> rfl)
      · simp only [cond_true, clrec_eq, regrec_eq, kcrec_eq]
        show guardOf ((resolve ns t).run vs f) _ _ _ = _
        generalize (resolve ns t).run vs f = u
        cases u <;> first
          | rfl
          | (rename_i b; cases b <;> rfl)

def regC (P : Program) (mask : Nat) (all ops : List Oper) : List Tmp → RegC :=
  List.rec (motive := fun _ => List Tmp → RegC) (fun _ => .mk fun _ _ f d h => .ok .norm f d h)
    (fun o _ ih ns => guardC all ns o.guard (stepC (opC P ns o.op) (dstC mask o.dst ns ih)) (dstC mask o.dst ns ih)) ops

/-- The stages' state beside the evaluator's. -/
structure Inv (mask : Nat) (e : Env) (f0 : Fr) (ns : List Tmp) (vs : List V) (f : Fr) : Prop where
  len : vs.length = ns.length
  tm : ∀ t, look (ns.zip vs) f t = look e f0 t
  fl : flush mask e f0 = f
  out : ∀ n, memN n ns = true → keptS mask n = false

theorem Inv.tmS {mask : Nat} {e : Env} {f0 : Fr} {ns : List Tmp} {vs : List V} {f : Fr} (i : Inv mask e f0 ns vs f) : tmS ns vs f = look e f0 := by
  funext t
  show (resolve ns t).run vs f = _
  rw [resolve_run f i.len, i.tm]

theorem look_zip_set {t n : Tmp} (hn : n < 256) (v : V) : ∀ (ns : List Tmp) (vs : List V) (f : Fr), vs.length = ns.length → memN n ns = false → look (ns.zip vs) (fset f n v) t = if t = n then v else look (ns.zip vs) f t := by
  intro ns
  induction ns with
  | nil => intro vs f _ _; show fget (fset f n v) t = _; rw [fget_fset _ _ _ _ hn]; rfl
  | cons m ns ih =>
    intro vs f hl hm
    cases vs with
    | nil => cases hl
    | cons u vs =>
      have hm' : (bif Nat.beq m n then true else memN n ns) = false := hm
      cases hb : Nat.beq m n
      · rw [hb] at hm'
        show (bif Nat.beq m t then u else look (ns.zip vs) (fset f n v) t) = if t = n then v else (bif Nat.beq m t then u else look (ns.zip vs) f t)
        rw [ih vs f (by simpa using hl) hm']
        cases hmt : Nat.beq m t
        · rfl
        · have e1 := Nat.eq_of_beq_eq_true hmt
          have : t ≠ n := fun e2 => by rw [e1, e2] at hb; rw [Nat.beq_refl] at hb; cases hb
          simp [this]
      · rw [hb] at hm'; cases hm'

theorem Inv.out1 {mask : Nat} {e : Env} {f0 : Fr} {ns : List Tmp} {vs : List V} {f : Fr} (i : Inv mask e f0 ns vs f) {n : Tmp} (hk : keptS mask n = false) (v : V) : Inv mask (putE (some n) v e) f0 (n :: ns) (v :: vs) f := by
  refine ⟨by simp [i.len], fun t => ?_, ?_, fun m hm => ?_⟩
  · show (bif Nat.beq n t then v else look (ns.zip vs) f t) = (bif Nat.beq n t then v else look e f0 t)
    rw [i.tm]
  · show (bif kept mask n then fset (flush mask e f0) n v else flush mask e f0) = f
    rw [i.fl]
    unfold keptS at hk
    cases hk2 : kept mask n
    · rfl
    · rw [hk2] at hk
      have hk3 : Nat.blt n 256 = false := hk
      show fset f n v = f
      unfold fset
      rw [hk3]
      rfl
  · have hm' : (bif Nat.beq n m then true else memN m ns) = true := hm
    cases hb : Nat.beq n m
    · rw [hb] at hm'; exact i.out m hm'
    · rw [← Nat.eq_of_beq_eq_true hb]; exact hk
theorem Inv.kept1 {mask : Nat} {e : Env} {f0 : Fr} {ns : List Tmp} {vs : List V} {f : Fr} (i : Inv mask e f0 ns vs f) {n : Tmp} (hk : keptS mask n = true) (v : V) : Inv mask (putE (some n) v e) f0 ns vs ((setC n).run v f) := by
  rw [setC_run]
  have hk' := hk
  unfold keptS at hk'
  cases hk2 : kept mask n
  · rw [hk2] at hk'; cases hk'
  · rw [hk2] at hk'
    have hn : n < 256 := by
      have : Nat.blt n 256 = true := hk'
      rwa [Nat.blt_eq] at this
    have hout : memN n ns = false := by
      cases hm : memN n ns
      · rfl
      · rw [i.out n hm] at hk; cases hk
    refine ⟨i.len, fun t => ?_, ?_, i.out⟩
    · rw [look_zip_set hn v ns vs f i.len hout, i.tm]
      show _ = (bif Nat.beq n t then v else look e f0 t)
      cases hb : Nat.beq n t
      · have : t ≠ n := fun e2 => by rw [e2, Nat.beq_refl] at hb; cases hb
        simp [this]
      · simp [(Nat.eq_of_beq_eq_true hb).symm]
    · show (bif kept mask n then fset (flush mask e f0) n v else flush mask e f0) = _
      rw [hk2, i.fl]; rfl

theorem Inv.put {mask : Nat} {e : Env} {f0 : Fr} {ns : List Tmp} {vs : List V} {f : Fr} (i : Inv mask e f0 ns vs f) (dst : Option Tmp) (v : V) (ih : List Tmp → RegC) (call : CallFn) :
    ∃ ns' vs' f', Inv mask (putE dst v e) f0 ns' vs' f' ∧ ∀ d h, (dstC mask dst ns ih).run call v vs f d h = (ih ns').run call vs' f' d h := by
  cases dst with
  | none => exact ⟨ns, vs, f, i, fun _ _ => by
      unfold dstC
      simp only [regrec_eq]
      rfl⟩
  | some n =>
    cases hk : keptS mask n
    · refine ⟨n :: ns, v :: vs, f, ⟨by simp [i.len], fun t => ?_, ?_, fun m hm => ?_⟩, fun d h => ?_⟩
      · show (bif Nat.beq n t then v else look (ns.zip vs) f t) = (bif Nat.beq n t then v else look e f0 t)
        rw [i.tm]
      · show (bif kept mask n then fset (flush mask e f0) n v else flush mask e f0) = f
        rw [i.fl]
        unfold keptS at hk
        cases hk2 : kept mask n
        · rfl
        · rw [hk2] at hk
          have hk3 : Nat.blt n 256 = false := hk
          show fset f n v = f
          unfold fset
          rw [hk3]
          rfl
      · have hm' : (bif Nat.beq n m then true else memN m ns) = true := hm
        cases hb : Nat.beq n m
        · rw [hb] at hm'; exact i.out m hm'
        · rw [← Nat.eq_of_beq_eq_true hb]; exact hk
      · show KC.run (bif keptS mask n then _ else _) call v vs f d h = _
        rw [hk]
        simp only [cond_false, regrec_eq]
        rfl
    · have hk' := hk
      unfold keptS at hk'
      cases hk2 : kept mask n
      · rw [hk2] at hk'; cases hk'
      · rw [hk2] at hk'
        have hn : n < 256 := by
          have : Nat.blt n 256 = true := hk'
          rwa [Nat.blt_eq] at this
        have hout : memN n ns = false := by
          cases hm : memN n ns
          · rfl
          · rw [i.out n hm] at hk; cases hk
        refine ⟨ns, vs, fset f n v, ⟨i.len, fun t => ?_, ?_, i.out⟩, fun d h => ?_⟩
        · rw [look_zip_set hn v ns vs f i.len hout, i.tm]
          show _ = (bif Nat.beq n t then v else look e f0 t)
          cases hb : Nat.beq n t
          · have : t ≠ n := fun e2 => by rw [e2, Nat.beq_refl] at hb; cases hb
            simp [this]
          · simp [(Nat.eq_of_beq_eq_true hb).symm]
        · show (bif kept mask n then fset (flush mask e f0) n v else flush mask e f0) = _
          rw [hk2, i.fl]; rfl
        · show KC.run (bif keptS mask n then _ else _) call v vs f d h = _
          rw [hk]
          simp only [cond_true, regrec_eq, fsrec_eq]
          show (ih ns).run call vs ((setC n).run v f) d h = _
          rw [setC_run]

theorem regC_run (mask : Nat) (call : CallFn) (f0 : Fr) (all : List Oper) : ∀ (ops : List Oper) (e : Env) (ns : List Tmp) (vs : List V) (f : Fr) (d : Ds) (h : H), Inv mask e f0 ns vs f →
    (regC P mask all ops ns).run call vs f d h = afterOps mask f0 (evOps P call f0 all ops e d h) := by
  intro ops
  induction ops with
  | nil =>
    intro e ns vs f d h i
    show RC.ok .norm f d h = RC.ok .norm (flush mask e f0) d h
    rw [i.fl]
  | cons o ops ih =>
    intro e ns vs f d h i
    have hd : regC P mask all (o :: ops) ns = guardC all ns o.guard (stepC (opC P ns o.op) (dstC mask o.dst ns (regC P mask all ops))) (dstC mask o.dst ns (regC P mask all ops)) := rfl
    rw [hd, guardC_run, i.tmS]
    simp only [evOps]
    cases wantedV all (look e f0) o.guard with
    | none => rfl
    | some b =>
      cases b
      · simp only
        obtain ⟨ns', vs', f', i', h2⟩ := i.put o.dst (.tup []) (regC P mask all ops) call
        rw [h2, ih _ _ _ _ _ _ i']
      · simp only
        rw [stepC_run, opC_sem, i.tmS]
        cases oneOp P call o.op (look e f0) d h with
        | none => rfl
        | some p =>
          obtain ⟨v, d', h'⟩ := p
          simp only
          obtain ⟨ns', vs', f', i', h2⟩ := i.put o.dst v (regC P mask all ops) call
          rw [h2, ih _ _ _ _ _ _ i']

theorem lastTr_any (e e2 : Env) (d d2 : Ds) (h h2 : H) : ∀ (ops : List Oper) (tr : List Tr) (o : Oper) (t : Tr), lastTr (o :: ops) (t :: tr) e d h = lastTr (o :: ops) (t :: tr) e2 d2 h2 := by
  intro ops
  induction ops with
  | nil => intro tr o t; cases tr <;> rfl
  | cons o2 ops ih =>
    intro tr o t
    cases tr with
    | nil => cases ops <;> rfl
    | cons t2 tr => exact ih tr o2 t2
theorem evTr_ops (call : CallFn) (f : Fr) (all : List Oper) : ∀ (ops : List Oper) (e : Env) (d : Ds) (h : H),
    evOps P call f all ops e d h = match evTr P call f all ops e d h with | some tr => lastTr ops tr e d h | none => .fail := by
  intro ops
  induction ops with
  | nil => intro e d h; rfl
  | cons o ops ih =>
    intro e d h
    have step : ∀ (e' : Env) (d' : Ds) (h' : H) (t : Tr), t.ds' = d' → t.h' = h' → putE o.dst t.v t.env = e' →
        evOps P call f all ops e' d' h' = match (evTr P call f all ops e' d' h').map (fun l => t :: l) with | some tr => lastTr (o :: ops) tr e d h | none => .fail := by
      intro e' d' h' t h1 h2 h3
      rw [ih]
      cases hq : evTr P call f all ops e' d' h' with
      | none => rfl
      | some tr =>
        simp only [Option.map_some]
        cases ops with
        | nil =>
          simp only [evTr, Option.some.injEq] at hq
          subst hq
          show RO.ok e' d' h' = RO.ok (putE o.dst t.v t.env) t.ds' t.h'
          rw [h1, h2, h3]
        | cons o2 ops =>
          cases tr with
          | nil => cases ops <;> rfl
          | cons t2 tr => exact (lastTr_any _ _ _ _ _ _ ops tr o2 t2)
    simp only [evOps, evTr]
    cases wantedV all (look e f) o.guard with
    | none => rfl
    | some b =>
      cases b
      · exact step _ _ _ ⟨e, d, h, false, .tup [], d, h⟩ rfl rfl rfl
      · simp only
        cases oneOp P call o.op (look e f) d h with
        | none => rfl
        | some p =>
          obtain ⟨v, d', h'⟩ := p
          exact step _ _ _ ⟨e, d, h, true, v, d', h'⟩ rfl rfl rfl
theorem evDraw_nil (call : CallFn) (f : Fr) (ops : List Oper) (d : Ds) (h : H) : evDraw P call f [] ops d h = evOps P call f ops ops [] d h := by
  rw [evTr_ops]
  unfold evDraw
  cases evTr P call f ops ops [] d h <;> rfl

/-! Regions that draw their order, in stages: what the pairs ask is kept by the way. -/
def intBo (v : V) (k : IntKind → Int → Bool) (e : Bool) : Bool :=
  V.rec (motive_1 := fun _ => (IntKind → Int → Bool) → Bool → Bool) (motive_2 := fun _ => Unit) (fun _ _ e => e) (fun t n k _ => k t n) (fun _ _ _ e => e) (fun _ e => e) (fun _ _ _ e => e) (fun _ e => e) (fun _ _ _ _ _ _ e => e) (fun _ _ _ _ _ _ e => e) (fun _ e => e) (fun _ _ _ _ e => e) (fun _ e => e) (fun _ _ e => e) (fun _ e => e) (fun _ _ _ e => e) (fun _ _ _ e => e) (fun _ _ _ e => e) (fun _ _ _ e => e) (fun _ _ _ e => e) (fun _ _ _ e => e) (fun _ e => e) () (fun _ _ _ _ => ()) v k e
def strBo (v : V) (k : Nat → Nat → Bool) (e : Bool) : Bool :=
  V.rec (motive_1 := fun _ => (Nat → Nat → Bool) → Bool → Bool) (motive_2 := fun _ => Unit) (fun _ _ e => e) (fun _ _ _ e => e) (fun n l k _ => k n l) (fun _ e => e) (fun _ _ _ e => e) (fun _ e => e) (fun _ _ _ _ _ _ e => e) (fun _ _ _ _ _ _ e => e) (fun _ e => e) (fun _ _ _ _ e => e) (fun _ e => e) (fun _ _ e => e) (fun _ e => e) (fun _ _ _ e => e) (fun _ _ _ e => e) (fun _ _ _ e => e) (fun _ _ _ e => e) (fun _ _ _ e => e) (fun _ _ _ e => e) (fun _ e => e) () (fun _ _ _ _ => ()) v k e
def ptrBo (v : V) (k : Nat → Nat → Bool) (e : Bool) : Bool :=
  V.rec (motive_1 := fun _ => (Nat → Nat → Bool) → Bool → Bool) (motive_2 := fun _ => Unit) (fun _ _ e => e) (fun _ _ _ e => e) (fun _ _ _ e => e) (fun _ e => e) (fun i o k _ => k i o) (fun _ e => e) (fun _ _ _ _ _ _ e => e) (fun _ _ _ _ _ _ e => e) (fun _ e => e) (fun _ _ _ _ e => e) (fun _ e => e) (fun _ _ e => e) (fun _ e => e) (fun _ _ _ e => e) (fun _ _ _ e => e) (fun _ _ _ e => e) (fun _ _ _ e => e) (fun _ _ _ e => e) (fun _ _ _ e => e) (fun _ e => e) () (fun _ _ _ _ => ()) v k e
def sliceBo (v : V) (k : Nat → Nat → Nat → Nat → Nat → Bool) (e : Bool) : Bool :=
  V.rec (motive_1 := fun _ => (Nat → Nat → Nat → Nat → Nat → Bool) → Bool → Bool) (motive_2 := fun _ => Unit) (fun _ _ e => e) (fun _ _ _ e => e) (fun _ _ _ e => e) (fun _ e => e) (fun _ _ _ e => e) (fun _ e => e) (fun i o l c z k _ => k i o l c z) (fun _ _ _ _ _ _ e => e) (fun _ e => e) (fun _ _ _ _ e => e) (fun _ e => e) (fun _ _ e => e) (fun _ e => e) (fun _ _ _ e => e) (fun _ _ _ e => e) (fun _ _ _ e => e) (fun _ _ _ e => e) (fun _ _ _ e => e) (fun _ _ _ e => e) (fun _ e => e) () (fun _ _ _ _ => ()) v k e
def andS (a b : Bool) : Bool := Bool.rec (motive := fun _ => Bool) false b a
theorem andS_eq (a b : Bool) : andS a b = (a && b) := by cases a <;> rfl
def veqS (x y : V) : Bool :=
  intBo x (fun k a => intBo y (fun k' b => andS (Nat.beq (kcS k) (kcS k')) (eqS a b)) (veq x y))
    (strBo x (fun n l => strBo y (fun m k => andS (Nat.beq n m) (Nat.beq l k)) (veq x y))
      (ptrBo x (fun a b => ptrBo y (fun c d => andS (Nat.beq a c) (Nat.beq b d)) (veq x y)) (veq x y)))
theorem veqS_eq (x y : V) : veqS x y = veq x y := by
  cases x <;> first
    | rfl
    | (cases y <;> first
        | rfl
        | (show andS _ _ = _; rw [andS_eq, kcS_eq, kcS_eq, eqS_eq]; rfl)
        | (show andS _ _ = _; rw [andS_eq]; rfl))
def eqO (o : Option V) (v : V) : Bool := Option.rec (motive := fun _ => Bool) false (fun u => veqS u v) o
theorem eqO_eq (o : Option V) (v : V) : eqO o v = (match o with | some u => veq u v | none => false) := by
  cases o with
  | none => rfl
  | some u => exact veqS_eq u v
/-- What one operation came to. -/
inductive TrS where
  | mk (re : H → Option V) (h : H) (w : Bool) (v : V) (h' : H)
inductive TC where
  | mk (g : CallFn → List V → Fr → Ds → H → List TrS → RC)
def TC.run (c : TC) (call : CallFn) (vs : List V) (f : Fr) (d : Ds) (h : H) (acc : List TrS) : RC := TC.rec (motive := fun _ => RC) (fun g => g call vs f d h acc) c
def TC.put {β : Type} (F : (CallFn → List V → Fr → Ds → H → List TrS → RC) → β) (c : TC) : β := TC.rec (motive := fun _ => β) F c
theorem tcrec_eq {β : Type} (F : (CallFn → List V → Fr → Ds → H → List TrS → RC) → β) (c : TC) : TC.put F c = F c.run := by cases c; rfl
inductive KT where
  | mk (g : CallFn → V → List V → Fr → Ds → H → List TrS → RC)
def KT.run (c : KT) (call : CallFn) (v : V) (vs : List V) (f : Fr) (d : Ds) (h : H) (acc : List TrS) : RC := KT.rec (motive := fun _ => RC) (fun g => g call v vs f d h acc) c
def KT.put {β : Type} (F : (CallFn → V → List V → Fr → Ds → H → List TrS → RC) → β) (c : KT) : β := KT.rec (motive := fun _ => β) F c
theorem ktrec_eq {β : Type} (F : (CallFn → V → List V → Fr → Ds → H → List TrS → RC) → β) (c : KT) : KT.put F c = F c.run := by cases c; rfl
def dstT (mask : Nat) (dst : Option Tmp) (ns : List Tmp) (ih : List Tmp → TC) : KT :=
  match dst with
  | none => TC.put (fun g => .mk fun call _ vs f d h acc => g call vs f d h acc) (ih ns)
  | some n => bif keptS mask n then TC.put (fun g => Fs.put (fun s => .mk fun call v vs f d h acc => g call vs (s v f) d h acc) (setC n)) (ih ns)
    else TC.put (fun g => .mk fun call v vs f d h acc => g call (v :: vs) f d h acc) (ih (n :: ns))
def stepT (oc : OpC) (k : KT) : TC :=
  KT.put (fun gk => match oc with
  | .pure c => Cl.put (fun gc => .mk fun call vs f d h acc => gk call (gc vs f) vs f d h (.mk (fun _ => some (gc vs f)) h true (gc vs f) h :: acc)) c
  | .val g => .mk fun call vs f d h acc => Option.rec (motive := fun _ => RC) .fail (fun v => gk call v vs f d h (.mk (fun hx => g hx vs f) h true v h :: acc)) (g h vs f)
  | .mem g => .mk fun call vs f d h acc => Option.rec (motive := fun _ => RC) .fail (fun p => Prod.rec (motive := fun _ => RC) (fun v h' => gk call v vs f d h' (.mk (fun hx => (g call vs f hx).map Prod.fst) h true v h' :: acc)) p) (g call vs f h)
  | .any g => .mk fun call vs f d h acc => Option.rec (motive := fun _ => RC) .fail (fun p => Prod.rec (motive := fun _ => RC) (fun v q => Prod.rec (motive := fun _ => RC) (fun d' h' => gk call v vs f d' h' (.mk (fun hx => (g call vs f d hx).map Prod.fst) h true v h' :: acc)) q) p) (g call vs f d h)) k
theorem stepT_run (oc : OpC) (k : KT) (call : CallFn) (vs : List V) (f : Fr) (d : Ds) (h : H) (acc : List TrS) :
    ∃ re : H → Option V, (∀ hx, re hx = (oc.sem call vs f d hx).map Prod.fst) ∧
      (stepT oc k).run call vs f d h acc = match oc.sem call vs f d h with | some (v, d', h') => k.run call v vs f d' h' (.mk re h true v h' :: acc) | none => .fail := by
  unfold stepT
  simp only [ktrec_eq]
  cases oc with
  | pure c => exact ⟨fun _ => some (c.run vs f), fun _ => rfl, by simp only [clrec_eq]; rfl⟩
  | val g =>
    refine ⟨fun hx => g hx vs f, fun hx => by simp only [OpC.sem]; cases g hx vs f <;> rfl, ?_⟩
    show Option.rec (motive := fun _ => RC) .fail (fun v => k.run call v vs f d h (.mk (fun hx => g hx vs f) h true v h :: acc)) (g h vs f) = _
    simp only [OpC.sem]
    cases g h vs f <;> rfl
  | mem g =>
    refine ⟨fun hx => (g call vs f hx).map Prod.fst, fun hx => by simp only [OpC.sem]; cases g call vs f hx <;> rfl, ?_⟩
    show Option.rec (motive := fun _ => RC) .fail (fun p => Prod.rec (motive := fun _ => RC) (fun v h' => k.run call v vs f d h' (.mk (fun hx => (g call vs f hx).map Prod.fst) h true v h' :: acc)) p) (g call vs f h) = _
    simp only [OpC.sem]
    cases g call vs f h <;> rfl
  | any g =>
    refine ⟨fun hx => (g call vs f d hx).map Prod.fst, fun hx => rfl, ?_⟩
    show Option.rec (motive := fun _ => RC) .fail (fun p => Prod.rec (motive := fun _ => RC) (fun v q => Prod.rec (motive := fun _ => RC) (fun d' h' => k.run call v vs f d' h' (.mk (fun hx => (g call vs f d hx).map Prod.fst) h true v h' :: acc)) q) p) (g call vs f d h) = _
    simp only [OpC.sem]
    cases g call vs f d h <;> rfl
def guardT (all : List Oper) (ns : List Tmp) (g : Option (Nat × Bool)) (A : TC) (K : KT) : TC :=
  match g with
  | none => A
  | some (j, want) =>
    match (all[j]?).bind (·.dst) with
    | none => .mk fun _ _ _ _ _ _ => .fail
    | some t => bif want then
        TC.put (fun ga => KT.put (fun gk => Cl.put (fun gr =>
          .mk (fun call vs f d h acc => guardOf (gr vs f) (fun b => (Bool.rec (motive := fun _ => RC) (gk call (.tup []) vs f d h (.mk (fun _ => none) h false (.tup []) h :: acc)) (ga call vs f d h acc) (b))) (gk call (.tup []) vs f d h (.mk (fun _ => none) h false (.tup []) h :: acc)) .fail)) (resolve ns t)) K) A
      else TC.put (fun ga => KT.put (fun gk => Cl.put (fun gr =>
          .mk (fun call vs f d h acc => guardOf (gr vs f) (fun b => (Bool.rec (motive := fun _ => RC) (ga call vs f d h acc) (gk call (.tup []) vs f d h (.mk (fun _ => none) h false (.tup []) h :: acc)) (b))) (gk call (.tup []) vs f d h (.mk (fun _ => none) h false (.tup []) h :: acc)) .fail)) (resolve ns t)) K) A
theorem guardT_run (all : List Oper) (ns : List Tmp) (g : Option (Nat × Bool)) (A : TC) (K : KT) (call : CallFn) (vs : List V) (f : Fr) (d : Ds) (h : H) (acc : List TrS) :
    (guardT all ns g A K).run call vs f d h acc = match wantedV all (tmS ns vs f) g with | some true => A.run call vs f d h acc | some false => K.run call (.tup []) vs f d h (.mk (fun _ => none) h false (.tup []) h :: acc) | none => .fail := by
  unfold guardT wantedV
  split
  · rfl
  · rename_i j want
    split
    · rename_i ht
      simp only [ht]
      rfl
    · rename_i t ht
      simp only [ht]
      have key : ∀ u : V, (match (match u with | .bool b => some (b == want) | .tup [] => some false | _ => none : Option Bool) with | some true => A.run call vs f d h acc | some false => K.run call (.tup []) vs f d h (.mk (fun _ => none) h false (.tup []) h :: acc) | none => .fail) =
          guardOf u (fun b => bif b == want then A.run call vs f d h acc else K.run call (.tup []) vs f d h (.mk (fun _ => none) h false (.tup []) h :: acc)) (K.run call (.tup []) vs f d h (.mk (fun _ => none) h false (.tup []) h :: acc)) .fail := by
        intro u
        cases u <;> first
          | rfl
          | (rename_i b; cases b <;> cases want <;> rfl)
          | (rename_i l; cases l <;> rfl)
      show _ = (match (match (resolve ns t).run vs f with | .bool b => some (b == want) | .tup [] => some false | _ => none : Option Bool) with | some true => A.run call vs f d h acc | some false => K.run call (.tup []) vs f d h (.mk (fun _ => none) h false (.tup []) h :: acc) | none => .fail)
      rw [key]
      cases want
      · simp only [cond_false, clrec_eq, tcrec_eq, ktrec_eq]
        show guardOf ((resolve ns t).run vs f) _ _ _ = _
        generalize (resolve ns t).run vs f = u
        cases u <;> first
          | rfl
          | (rename_i b; cases b <;> rfl)
      · simp only [cond_true, clrec_eq, tcrec_eq, ktrec_eq]
        show guardOf ((resolve ns t).run vs f) _ _ _ = _
        generalize (resolve ns t).run vs f = u
        cases u <;> first
          | rfl
          | (rename_i b; cases b <;> rfl)
def trC (P : Program) (mask : Nat) (all : List Oper) (chk : List TrS → Bool) (ops : List Oper) : List Tmp → TC :=
  List.rec (motive := fun _ => List Tmp → TC) (fun _ => .mk fun _ _ f d h acc => Bool.rec (motive := fun _ => RC) .fail (.ok .norm f d h) (chk acc))
    (fun o _ ih ns => guardT all ns o.guard (stepT (opC P ns o.op) (dstT mask o.dst ns ih)) (dstT mask o.dst ns ih)) ops

theorem Inv.putT {mask : Nat} {e : Env} {f0 : Fr} {ns : List Tmp} {vs : List V} {f : Fr} (i : Inv mask e f0 ns vs f) (dst : Option Tmp) (v : V) (ih : List Tmp → TC) (call : CallFn) :
    ∃ ns' vs' f', Inv mask (putE dst v e) f0 ns' vs' f' ∧ ∀ d h acc, (dstT mask dst ns ih).run call v vs f d h acc = (ih ns').run call vs' f' d h acc := by
  unfold dstT
  cases dst with
  | none => exact ⟨ns, vs, f, i, fun _ _ _ => by simp only [tcrec_eq]; rfl⟩
  | some n =>
    cases hk : keptS mask n
    · exact ⟨n :: ns, v :: vs, f, i.out1 hk v, fun d h acc => by simp only [hk, cond_false, tcrec_eq]; rfl⟩
    · exact ⟨ns, vs, (setC n).run v f, i.kept1 hk v, fun d h acc => by simp only [hk, cond_true, tcrec_eq, fsrec_eq]; rfl⟩

/-- What is kept of an operation, against the evaluator's. -/
def EntOk (P : Program) (f0 : Fr) (o : Oper) (s : TrS) (t : Tr) : Prop :=
  match s with
  | .mk re h w v h' => h = t.h ∧ w = t.want ∧ v = t.v ∧ h' = t.h' ∧ (t.want = true → isRead o.op = true → ∀ hx, re hx = valOp P hx (evO P (look t.env f0)) o.op)
inductive Ents (P : Program) (f0 : Fr) : List Oper → List TrS → List Tr → Prop where
  | nil : Ents P f0 [] [] []
  | cons {o : Oper} {os : List Oper} {s : TrS} {ss : List TrS} {t : Tr} {ts : List Tr} (h : EntOk P f0 o s t) (hs : Ents P f0 os ss ts) : Ents P f0 (o :: os) (s :: ss) (t :: ts)
theorem Ents.get {f0 : Fr} {os : List Oper} {ss : List TrS} {ts : List Tr} (h : Ents P f0 os ss ts) : ss.length = os.length ∧ ts.length = os.length ∧ ∀ k, k < os.length → ∃ o s t, os[k]? = some o ∧ ss[k]? = some s ∧ ts[k]? = some t ∧ EntOk P f0 o s t := by
  induction h with
  | nil => exact ⟨rfl, rfl, fun k hk => by cases hk⟩
  | cons h _ ih =>
    refine ⟨by simp [ih.1], by simp [ih.2.1], fun k hk => ?_⟩
    cases k with
    | zero => exact ⟨_, _, _, rfl, rfl, rfl, h⟩
    | succ k => simpa using ih.2.2 k (by simpa using hk)

theorem isRead_noeff {op : Op} (h : isRead op = true) : isEff op = false := by
  unfold isRead at h
  split at h <;> first | rfl | cases h

theorem trC_run (mask : Nat) (call : CallFn) (f0 : Fr) (all : List Oper) (chk : List TrS → Bool) : ∀ (ops : List Oper) (e : Env) (ns : List Tmp) (vs : List V) (f : Fr) (d : Ds) (h : H) (acc : List TrS), Inv mask e f0 ns vs f →
    match evTr P call f0 all ops e d h with
    | none => (trC P mask all chk ops ns).run call vs f d h acc = .fail
    | some tr => ∃ ents, Ents P f0 ops ents tr ∧ (trC P mask all chk ops ns).run call vs f d h acc = (bif chk (ents.reverse ++ acc) then afterOps mask f0 (lastTr ops tr e d h) else .fail) := by
  intro ops
  induction ops with
  | nil =>
    intro e ns vs f d h acc i
    refine ⟨[], .nil, ?_⟩
    show Bool.rec (motive := fun _ => RC) .fail (.ok .norm f d h) (chk acc) = (bif chk acc then RC.ok .norm (flush mask e f0) d h else .fail)
    rw [i.fl]
    cases chk acc <;> rfl
  | cons o ops ih =>
    intro e ns vs f d h acc i
    have hd : trC P mask all chk (o :: ops) ns = guardT all ns o.guard (stepT (opC P ns o.op) (dstT mask o.dst ns (trC P mask all chk ops))) (dstT mask o.dst ns (trC P mask all chk ops)) := rfl
    rw [hd, guardT_run, i.tmS]
    simp only [evTr]
    cases wantedV all (look e f0) o.guard with
    | none => rfl
    | some b =>
      cases b
      · simp only
        obtain ⟨ns', vs', f', i', h2⟩ := i.putT o.dst (.tup []) (trC P mask all chk ops) call
        have := ih _ _ _ _ d h (.mk (fun _ => none) h false (.tup []) h :: acc) i'
        cases hq : evTr P call f0 all ops (putE o.dst (.tup []) e) d h with
        | none =>
          rw [hq] at this
          simp only [Option.map_none]
          rw [h2]
          exact this
        | some tr =>
          rw [hq] at this
          obtain ⟨ents, he, hr⟩ := this
          simp only [Option.map_some]
          refine ⟨.mk (fun _ => none) h false (.tup []) h :: ents, .cons ⟨rfl, rfl, rfl, rfl, fun hw => by cases hw⟩ he, ?_⟩
          rw [h2, hr]
          have e1 : (TrS.mk (fun _ => none) h false (.tup []) h :: ents).reverse ++ acc = ents.reverse ++ (TrS.mk (fun _ => none) h false (.tup []) h :: acc) := by simp
          rw [e1]
          have e2 : lastTr (o :: ops) (⟨e, d, h, false, .tup [], d, h⟩ :: tr) e d h = lastTr ops tr (putE o.dst (.tup []) e) d h := by
            rw [lastTr_cons (by rw [he.get.2.1])]
          rw [e2]
      · simp only
        obtain ⟨re, hre, hst⟩ := stepT_run (opC P ns o.op) (dstT mask o.dst ns (trC P mask all chk ops)) call vs f d h acc
        rw [hst, opC_sem, i.tmS]
        cases hone : oneOp P call o.op (look e f0) d h with
        | none => rfl
        | some p =>
          obtain ⟨v, d', h'⟩ := p
          simp only
          obtain ⟨ns', vs', f', i', h2⟩ := i.putT o.dst v (trC P mask all chk ops) call
          have := ih _ _ _ _ d' h' (.mk re h true v h' :: acc) i'
          cases hq : evTr P call f0 all ops (putE o.dst v e) d' h' with
          | none =>
            rw [hq] at this
            simp only [Option.map_none]
            rw [h2]
            exact this
          | some tr =>
            rw [hq] at this
            obtain ⟨ents, he, hr⟩ := this
            simp only [Option.map_some]
            refine ⟨.mk re h true v h' :: ents, .cons ⟨rfl, rfl, rfl, rfl, fun _ hrd hx => ?_⟩ he, ?_⟩
            · rw [hre, opC_sem, i.tmS, oneOp_noeff (isRead_noeff hrd)]
              cases valOp P hx (evO P (look e f0)) o.op <;> rfl
            · rw [h2, hr]
              have e1 : (TrS.mk re h true v h' :: ents).reverse ++ acc = ents.reverse ++ (TrS.mk re h true v h' :: acc) := by simp
              rw [e1]
              have e2 : lastTr (o :: ops) (⟨e, d, h, true, v, d', h'⟩ :: tr) e d h = lastTr ops tr (putE o.dst v e) d' h' := by
                rw [lastTr_cons (by rw [he.get.2.1])]
              rw [e2]

def nthT (n : Nat) (l : List TrS) : Option TrS := Nat.rec (motive := fun _ => List TrS → Option TrS) (fun l => List.rec (motive := fun _ => Option TrS) none (fun v _ _ => some v) l) (fun _ ih l => List.rec (motive := fun _ => Option TrS) none (fun _ l _ => ih l) l) n l
theorem nthT_eq (n : Nat) : ∀ l, nthT n l = l[n]? := by
  induction n with
  | zero => intro l; cases l <;> rfl
  | succ n ih => intro l; cases l with | nil => rfl | cons v l => rw [List.getElem?_cons_succ, ← ih]; rfl
def askS (a b : Nat) (acc : List TrS) : Bool :=
  Option.rec (motive := fun _ => Bool) false (fun si => Option.rec (motive := fun _ => Bool) false (fun sx =>
    TrS.rec (motive := fun _ => Bool) (fun re _ w v _ => TrS.rec (motive := fun _ => Bool) (fun _ h _ _ h' => Bool.rec (motive := fun _ => Bool) true (andS (eqO (re h) v) (eqO (re h') v)) w) sx) si) (nthT b acc)) (nthT a acc)
def chkS (n : Nat) (ps : List (Nat × Nat)) (acc : List TrS) : Bool :=
  List.rec (motive := fun _ => Bool) true (fun p _ ih => Bool.rec (motive := fun _ => Bool) false ih (askS (Nat.sub (Nat.sub n 1) p.1) (Nat.sub (Nat.sub n 1) p.2) acc)) ps
def psOk (ops : List Oper) : List (Nat × Nat) → Bool
  | [] => true
  | p :: ps => (Nat.blt p.1 ops.length && Nat.blt p.2 ops.length && (match ops[p.1]? with | some o => isRead o.op | none => false)) && psOk ops ps
theorem askS_eq {f0 : Fr} {ops : List Oper} {ents : List TrS} {tr : List Tr} (he : Ents P f0 ops ents tr) {p : Nat × Nat} (h1 : p.1 < ops.length) (h2 : p.2 < ops.length) (h3 : (match ops[p.1]? with | some o => isRead o.op | none => false) = true) :
    askS (Nat.sub (Nat.sub ops.length 1) p.1) (Nat.sub (Nat.sub ops.length 1) p.2) ents.reverse = askPair P f0 ops tr p := by
  obtain ⟨l1, l2, hg⟩ := he.get
  obtain ⟨o, si, ti, ho, hsi, hti, hi⟩ := hg p.1 h1
  obtain ⟨q, sx, tx, hq, hsx, htx, hx⟩ := hg p.2 h2
  have r1 : ents.reverse[Nat.sub (Nat.sub ops.length 1) p.1]? = some si := by
    rw [List.getElem?_reverse (by show ops.length - 1 - p.1 < _; omega), ← hsi]
    congr 1
    show ents.length - 1 - (ops.length - 1 - p.1) = p.1
    omega
  have r2 : ents.reverse[Nat.sub (Nat.sub ops.length 1) p.2]? = some sx := by
    rw [List.getElem?_reverse (by show ops.length - 1 - p.2 < _; omega), ← hsx]
    congr 1
    show ents.length - 1 - (ops.length - 1 - p.2) = p.2
    omega
  unfold askS askPair
  rw [nthT_eq, nthT_eq, r1, r2, ho, hti, htx]
  rw [ho] at h3
  simp only at h3
  cases si with | mk re hh w v hh' =>
  cases sx with | mk re2 hx1 w2 v2 hx2 =>
  obtain ⟨_, rfl, rfl, _, hre⟩ := hi
  obtain ⟨rfl, _, _, rfl, _⟩ := hx
  simp only
  cases hw : ti.want
  · rfl
  · simp only [cond_true]
    rw [andS_eq, eqO_eq, eqO_eq, hre hw h3, hre hw h3]
    rfl
theorem chkS_eq {f0 : Fr} {ops : List Oper} {ents : List TrS} {tr : List Tr} (he : Ents P f0 ops ents tr) : ∀ {ps : List (Nat × Nat)}, psOk ops ps = true → chkS ops.length ps ents.reverse = askPairs P f0 ops tr ps
  | [], _ => rfl
  | p :: ps, h => by
    simp only [psOk, Bool.and_eq_true, Nat.blt_eq] at h
    obtain ⟨⟨⟨h1, h2⟩, h3⟩, h4⟩ := h
    show Bool.rec (motive := fun _ => Bool) false (chkS ops.length ps ents.reverse) (askS _ _ _) = (bif askPair P f0 ops tr p then askPairs P f0 ops tr ps else false)
    rw [askS_eq he h1 h2 h3, chkS_eq he h4]
    cases askPair P f0 ops tr p <;> rfl
theorem evDraw_trC (mask : Nat) (call : CallFn) (f : Fr) (ops : List Oper) (ps : List (Nat × Nat)) (d : Ds) (h : H) (hp : psOk ops ps = true) :
    (trC P mask ops (chkS ops.length ps) ops []).run call [] f d h [] = afterOps mask f (evDraw P call f ps ops d h) := by
  have := trC_run (P := P) mask call f ops (chkS ops.length ps) ops [] [] [] f d h [] ⟨rfl, fun _ => rfl, rfl, fun _ h => by cases h⟩
  unfold evDraw
  cases hq : evTr P call f ops ops [] d h with
  | none => rw [hq] at this; simpa [afterOps] using this
  | some tr =>
    rw [hq] at this
    obtain ⟨ents, he, hr⟩ := this
    rw [hr, List.append_nil, chkS_eq he hp]
    simp only
    cases askPairs P f ops tr ps <;> rfl

/-! Code. -/
inductive Clo where
  | mk (g : CallFn → Fr → Ds → H → RC)
def Clo.run (c : Clo) (call : CallFn) (f : Fr) (d : Ds) (h : H) : RC := Clo.rec (motive := fun _ => RC) (fun g => g call f d h) c
def Clo.put {β : Type} (F : (CallFn → Fr → Ds → H → RC) → β) (c : Clo) : β := Clo.rec (motive := fun _ => β) F c
theorem clorec_eq {β : Type} (F : (CallFn → Fr → Ds → H → RC) → β) (c : Clo) : Clo.put F c = F c.run := by cases c; rfl
def seqReg (P : Program) (mask : Nat) (ops : List Oper) : Clo := RegC.put (fun g => .mk fun call f d h => g call [] f d h) (regC P mask ops ops [])
def drawC (P : Program) (mask : Nat) (ops : List Oper) (ps : List (Nat × Nat)) : Clo :=
  match ps with
  | [] => seqReg P mask ops
  | p :: ps => bif psOk ops (p :: ps) then TC.put (fun g => .mk fun call f d h => g call [] f d h []) (trC P mask ops (chkS ops.length (p :: ps)) ops [])
    else .mk fun call f d h => afterOps mask f (evDraw P call f (p :: ps) ops d h)
/-- What is known of a region by a table: that it may be gone through as it stands, and its pairs. -/
def regionC (P : Program) (mask : Nat) (tb : Option (List (Nat × Nat))) (ops : List Oper) (draw : Bool) : Clo :=
  bif draw then (Option.rec (motive := fun _ => Clo) (Option.rec (motive := fun _ => Clo) (.mk fun _ _ _ _ => .fail) (fun L => drawC P mask L (pairs L)) (drawList ops)) (fun ps => drawC P mask ops ps) tb) else seqReg P mask ops
def eqPs : List (Nat × Nat) → List (Nat × Nat) → Bool
  | [], [] => true
  | (a, b) :: l, (c, d) :: m => Nat.beq a c && Nat.beq b d && eqPs l m
  | _, _ => false
theorem eqPs_eq : ∀ {l m : List (Nat × Nat)}, eqPs l m = true → l = m
  | [], [], _ => rfl
  | (a, b) :: l, (c, d) :: m, h => by
    simp only [eqPs, Bool.and_eq_true] at h
    rw [Nat.eq_of_beq_eq_true h.1.1, Nat.eq_of_beq_eq_true h.1.2, eqPs_eq h.2]
  | [], _ :: _, h => by simp [eqPs] at h
  | _ :: _, [], h => by simp [eqPs] at h
def tbOk (tb : Option (List (Nat × Nat))) (ops : List Oper) : Bool := match tb with | none => true | some ps => drawOk ops && eqPs (pairs ops) ps
theorem seqReg_run (mask : Nat) (ops : List Oper) (call : CallFn) (f : Fr) (d : Ds) (h : H) : (seqReg P mask ops).run call f d h = afterOps mask f (evOps P call f ops ops [] d h) := by
  unfold seqReg
  rw [regrec_eq]
  exact regC_run mask call f ops ops [] [] [] f d h ⟨rfl, fun _ => rfl, rfl, fun _ h => by cases h⟩
theorem drawC_run (mask : Nat) (ops : List Oper) (ps : List (Nat × Nat)) (call : CallFn) (f : Fr) (d : Ds) (h : H) : (drawC P mask ops ps).run call f d h = afterOps mask f (evDraw P call f ps ops d h) := by
  unfold drawC
  cases ps with
  | nil => rw [evDraw_nil]; exact seqReg_run mask ops call f d h
  | cons p ps =>
    simp only
    cases hp : psOk ops (p :: ps)
    · rfl
    · simp only [cond_true, tcrec_eq]
      exact evDraw_trC mask call f ops (p :: ps) d h hp
theorem regionC_run (mask : Nat) (tb : Option (List (Nat × Nat))) (ops : List Oper) (draw : Bool) (hb : (bif draw then tbOk tb ops else true) = true) (call : CallFn) (f : Fr) (d : Ds) (h : H) :
    (regionC P mask tb ops draw).run call f d h = (bif draw then (match drawList ops with | some L => afterOps mask f (evDraw P call f (pairs L) L d h) | none => .fail) else afterOps mask f (evOps P call f ops ops [] d h)) := by
  unfold regionC
  cases draw
  · exact seqReg_run mask ops call f d h
  · simp only [cond_true]
    cases tb with
    | none =>
      cases drawList ops with
      | none => rfl
      | some L => exact drawC_run mask L _ call f d h
    | some ps =>
      simp only [cond_true, tbOk, Bool.and_eq_true] at hb
      have e : drawList ops = some ops := by
        unfold drawList
        rw [hb.1]
        rfl
      rw [e]
      simp only
      rw [eqPs_eq hb.2]
      exact drawC_run mask ops ps call f d h

def loopS (g : CallFn → Fr → Ds → H → RC) (n : Nat) : CallFn → Fr → Ds → H → RC :=
  Nat.rec (motive := fun _ => CallFn → Fr → Ds → H → RC) (fun _ _ _ _ => .fail)
    (fun _ ih call f d h => RC.rec (motive := fun _ => RC) .fail (fun x f d h => X.rec (motive := fun _ => RC) (ih call f d h) (fun id => .ok (.exit id) f d h) (.ok .ret f d h) x) (g call f d h)) n
theorem loopS_run {call : CallFn} {body : Fr → Ds → H → RC} {c : CallFn → Fr → Ds → H → RC} (hc : ∀ f d h, c call f d h = body f d h) (n : Nat) : ∀ f d h, loopS c n call f d h = loopN body n f d h := by
  induction n with
  | zero => intro f d h; rfl
  | succ n ih =>
    intro f d h
    show RC.rec (motive := fun _ => RC) .fail (fun x f d h => X.rec (motive := fun _ => RC) (loopS c n call f d h) (fun id => .ok (.exit id) f d h) (.ok .ret f d h) x) (c call f d h) = _
    rw [hc]
    simp only [loopN]
    cases body f d h with
    | fail => rfl
    | ok x f d h => cases x <;> first | exact ih f d h | rfl

def codeTb (tb : Nat → Option (List (Nat × Nat))) : Code → Bool
  | .region id ops draw => bif draw then tbOk (tb id) ops.toList else true
  | .seq a b => codeTb tb a && codeTb tb b
  | .cond _ a b => codeTb tb a && codeTb tb b
  | .block _ c => codeTb tb c
  | .loop c => codeTb tb c
  | _ => true
def comp (P : Program) (mask : Nat) (tb : Nat → Option (List (Nat × Nat))) (fuel : Nat) (c : Code) : Clo :=
  Code.rec (motive := fun _ => Clo)
    (skip := .mk fun _ f d h => .ok .norm f d h)
    (region := fun id ops draw => regionC P mask (tb id) ops.toList draw)
    (seq := fun _ _ a b => Clo.put (fun ga => Clo.put (fun gb => .mk fun call f d h => RC.rec (motive := fun _ => RC) .fail (fun x f d h => X.rec (motive := fun _ => RC) (gb call f d h) (fun id => .ok (.exit id) f d h) (.ok .ret f d h) x) (ga call f d h)) b) a)
    (cond := fun c _ _ a b => Clo.put (fun ga => Clo.put (fun gb => Cl.put (fun gc => .mk fun call f d h => boolR (gc [] f) (fun t => (Bool.rec (motive := fun _ => RC) (gb call f d h) (ga call f d h) (t))) .fail) (opdC P [] c)) b) a)
    (block := fun id _ c => Clo.put (fun gc => .mk fun call f d h => RC.rec (motive := fun _ => RC) .fail (fun x f d h => X.rec (motive := fun _ => RC) (.ok .norm f d h) (fun id' => (Bool.rec (motive := fun _ => RC) (.ok (.exit id') f d h) (.ok .norm f d h) (Nat.beq id' id))) (.ok .ret f d h) x) (gc call f d h)) c)
    (loop := fun _ c => Clo.put (fun gc => .mk fun call f d h => loopS gc fuel call f d h) c)
    (rangeFunc := fun g _ _ _ _ _ => .mk fun call f d h => rangeV P call g f d h)
    (exit := fun id => .mk fun _ f d h => .ok (.exit id) f d h)
    (goto := fun _ => .mk fun _ _ _ _ => .fail)
    (label := fun _ => .mk fun _ f d h => .ok .norm f d h)
    (scope := fun _ _ => .mk fun _ _ _ _ => .fail)
    (ret := .mk fun _ f d h => .ok .ret f d h)
    (refuse := fun _ => .mk fun _ _ _ _ => .fail) c

theorem comp_run (mask : Nat) (tb : Nat → Option (List (Nat × Nat))) (fuel : Nat) (call : CallFn) : ∀ (c : Code), codeTb tb c = true → ∀ (f : Fr) (d : Ds) (h : H), (comp P mask tb fuel c).run call f d h = den P call mask fuel c f d h := by
  intro c
  induction c with
  | skip => intro _ f d h; rfl
  | label l => intro _ f d h; rfl
  | region id ops draw => intro ht f d h; exact regionC_run mask (tb id) ops.toList draw ht call f d h
  | seq a b iha ihb =>
    intro ht f d h
    simp only [codeTb, Bool.and_eq_true] at ht
    have iha := iha ht.1
    have ihb := ihb ht.2
    have e : comp P mask tb fuel (.seq a b) = Clo.put (fun ga => Clo.put (fun gb => .mk fun call f d h => RC.rec (motive := fun _ => RC) .fail (fun x f d h => X.rec (motive := fun _ => RC) (gb call f d h) (fun id => .ok (.exit id) f d h) (.ok .ret f d h) x) (ga call f d h)) (comp P mask tb fuel b)) (comp P mask tb fuel a) := rfl
    rw [e, clorec_eq, clorec_eq]
    show RC.rec (motive := fun _ => RC) .fail (fun x f d h => X.rec (motive := fun _ => RC) ((comp P mask tb fuel b).run call f d h) (fun id => .ok (.exit id) f d h) (.ok .ret f d h) x) ((comp P mask tb fuel a).run call f d h) = _
    rw [iha]
    simp only [den]
    cases den P call mask fuel a f d h with
    | fail => rfl
    | ok x f d h => cases x <;> first | exact ihb f d h | rfl
  | cond c a b iha ihb =>
    intro ht f d h
    simp only [codeTb, Bool.and_eq_true] at ht
    have iha := iha ht.1
    have ihb := ihb ht.2
    have e : comp P mask tb fuel (.cond c a b) = Clo.put (fun ga => Clo.put (fun gb => Cl.put (fun gc => .mk fun call f d h => boolR (gc [] f) (fun t => (Bool.rec (motive := fun _ => RC) (gb call f d h) (ga call f d h) (t))) .fail) (opdC P [] c)) (comp P mask tb fuel b)) (comp P mask tb fuel a) := rfl
    rw [e, clorec_eq, clorec_eq, clrec_eq]
    show boolR ((opdC P [] c).run [] f) (fun t => Bool.rec (motive := fun _ => RC) ((comp P mask tb fuel b).run call f d h) ((comp P mask tb fuel a).run call f d h) t) .fail = _
    rw [opdC_tm]
    have : tmS [] [] f = fget f := by
      funext t
      show (resolve [] t).run [] f = _
      exact resolve_run (ns := []) f rfl
    rw [this]
    simp only [den]
    cases evO P (fget f) c <;> first
      | rfl
      | (rename_i t; cases t <;> first | exact ihb f d h | exact iha f d h)
  | block id p ih =>
    intro ht f d h
    have ih := ih ht
    have e : comp P mask tb fuel (.block id p) = Clo.put (fun gc => .mk fun call f d h => RC.rec (motive := fun _ => RC) .fail (fun x f d h => X.rec (motive := fun _ => RC) (.ok .norm f d h) (fun id' => (Bool.rec (motive := fun _ => RC) (.ok (.exit id') f d h) (.ok .norm f d h) (Nat.beq id' id))) (.ok .ret f d h) x) (gc call f d h)) (comp P mask tb fuel p) := rfl
    rw [e, clorec_eq]
    show RC.rec (motive := fun _ => RC) .fail (fun x f d h => X.rec (motive := fun _ => RC) (.ok .norm f d h) (fun id' => (Bool.rec (motive := fun _ => RC) (.ok (.exit id') f d h) (.ok .norm f d h) (Nat.beq id' id))) (.ok .ret f d h) x) ((comp P mask tb fuel p).run call f d h) = _
    rw [ih]
    simp only [den]
    cases den P call mask fuel p f d h with
    | fail => rfl
    | ok x f d h =>
      cases x with
      | exit id' =>
        simp only
        cases Nat.beq id' id <;> rfl
      | norm => rfl
      | ret => rfl
  | loop p ih =>
    intro ht f d h
    have ih := ih ht
    have e : comp P mask tb fuel (.loop p) = Clo.put (fun gc => .mk fun call f d h => loopS gc fuel call f d h) (comp P mask tb fuel p) := rfl
    rw [e, clorec_eq]
    exact loopS_run (body := den P call mask fuel p) ih fuel f d h
  | exit id => intro _ f d h; rfl
  | ret => intro _ f d h; rfl
  | rangeFunc _ _ _ _ => intro _ f d h; rfl
  | scope _ => intro _ f d h; rfl
  | goto _ => intro _ f d h; rfl
  | refuse _ => intro _ f d h; rfl

/-! Functions. -/
inductive RsC where
  | mk (g : Fr → H → Option V)
def RsC.run (c : RsC) (f : Fr) (h : H) : Option V := RsC.rec (motive := fun _ => Option V) (fun g => g f h) c
def resC (P : Program) (rs : List ResultVar) : RsC :=
  match rs with
  | [.tmp t] => .mk fun f _ => some ((slotC t).run [] f)
  | [.tmp t, .tmp u] => .mk fun f _ => some (.tup [(slotC t).run [] f, (slotC u).run [] f])
  | [.tmp t, .tmp u, .tmp w] => .mk fun f _ => some (.tup [(slotC t).run [] f, (slotC u).run [] f, (slotC w).run [] f])
  | [.cell a t] => LC.put (fun gl => Cl.put (fun ga => .mk fun f h => gl h (ga [] f)) (slotC a)) (loadC P t)
  | rs => .mk fun f h => (resV P f h rs).map oneRes
theorem resC_run (rs : List ResultVar) (f : Fr) (h : H) : (resC P rs).run f h = (resV P f h rs).map oneRes := by
  unfold resC
  split
  · simp only [RsC.run, slotC_run]; rfl
  · simp only [RsC.run, slotC_run]; rfl
  · simp only [RsC.run, slotC_run]; rfl
  · rename_i a t
    simp only [lcrec_eq, clrec_eq]
    show (loadC P t).run h ((slotC a).run [] f) = _
    rw [loadC_run, slotC_run]
    simp only [resV, Option.map_some]
    cases loadV P h t (fget f a) <;> rfl
  · rfl
inductive AF where
  | mk (g : List V → Fr → Fr)
def AF.run (c : AF) (vs : List V) (f : Fr) : Fr := AF.rec (motive := fun _ => Fr) (fun g => g vs f) c
def AF.put {β : Type} (F : (List V → Fr → Fr) → β) (c : AF) : β := AF.rec (motive := fun _ => β) F c
theorem afrec_eq {β : Type} (F : (List V → Fr → Fr) → β) (c : AF) : AF.put F c = F c.run := by cases c; rfl
def argF (mask n : Nat) : Nat → AF :=
  Nat.rec (motive := fun _ => Nat → AF) (fun i => .mk fun vs f => args0 mask i vs f)
    (fun _ ih i => AF.put (fun gi => bif kept mask i then Fs.put (fun gs => .mk (fun vs f => List.rec (motive := fun _ => Fr) f (fun v vs' _ => gi vs' (gs v f)) vs)) (setC i)
      else .mk fun vs f => List.rec (motive := fun _ => Fr) f (fun _ vs' _ => gi vs' f) vs) (ih (Nat.succ i))) n
theorem argF_run (mask n : Nat) : ∀ (i : Nat) (vs : List V) (f : Fr), (argF mask n i).run vs f = args0 mask i vs f := by
  induction n with
  | zero => intro i vs f; rfl
  | succ n ih =>
    intro i vs f
    have hd : argF mask (n + 1) i = AF.put (fun gi => bif kept mask i then Fs.put (fun gs => .mk (fun vs f => List.rec (motive := fun _ => Fr) f (fun v vs' _ => gi vs' (gs v f)) vs)) (setC i)
      else .mk fun vs f => List.rec (motive := fun _ => Fr) f (fun _ vs' _ => gi vs' f) vs) (argF mask n (Nat.succ i)) := rfl
    rw [hd]
    simp only [afrec_eq, fsrec_eq]
    cases vs with
    | nil => cases kept mask i <;> rfl
    | cons v vs =>
      show _ = args0 mask (i + 1) vs (bif kept mask i then fset f i v else f)
      cases kept mask i
      · exact ih (i + 1) vs f
      · show (argF mask n (Nat.succ i)).run vs ((setC i).run v f) = _
        rw [setC_run]
        exact ih (i + 1) vs (fset f i v)

inductive FnC where
  | mk (g : CallFn → CallFn → List V → H → Option (V × H))
def FnC.run (c : FnC) (call callD : CallFn) (vs : List V) (h : H) : Option (V × H) := FnC.rec (motive := fun _ => Option (V × H)) (fun g => g call callD vs h) c
def pairO (r : Option V) (h : H) : Option (V × H) := Option.rec (motive := fun _ => Option (V × H)) none (fun v => some (v, h)) r
def RsC.put {β : Type} (F : (Fr → H → Option V) → β) (c : RsC) : β := RsC.rec (motive := fun _ => β) F c
theorem rscrec_eq {β : Type} (F : (Fr → H → Option V) → β) (c : RsC) : RsC.put F c = F c.run := by cases c; rfl
def fnC (P : Program) (mask : Nat) (tb : Nat → Option (List (Nat × Nat))) (fuel : Nat) (fn : Func) (c : Code) : FnC :=
  Clo.put (fun gc => AF.put (fun ga => RsC.put (fun gr =>
  .mk fun call callD vs h => RC.rec (motive := fun _ => Option (V × H)) none (fun x f d h =>
    X.rec (motive := fun _ => Option (V × H))
      (List.rec (motive := fun _ => Option (V × H)) (pairO (gr f h) h) (fun g ds _ => (runDs callD (g :: ds) h).bind fun h => (resV P f h fn.results.toList).map fun l => (oneRes l, h)) d)
      (fun _ => none)
      (List.rec (motive := fun _ => Option (V × H)) (pairO (gr f h) h) (fun g ds _ => (runDs callD (g :: ds) h).bind fun h => (resV P f h fn.results.toList).map fun l => (oneRes l, h)) d) x)
    (gc call (ga vs fr0) [] h)) (resC P fn.results.toList)) (argF mask fn.params.size 0)) (comp P mask tb fuel c)
theorem pairO_eq (f : Fr) (h : H) (rs : List ResultVar) : pairO ((resC P rs).run f h) h = (resV P f h rs).map fun l => (oneRes l, h) := by
  rw [resC_run]
  cases resV P f h rs <;> rfl
theorem fnC_run (mask : Nat) (tb : Nat → Option (List (Nat × Nat))) (fuel : Nat) (fn : Func) (c : Code) (ht : codeTb tb c = true) (call callD : CallFn) (vs : List V) (h : H) : (fnC P mask tb fuel fn c).run call callD vs h = runFn P call callD mask fuel fn c vs h := by
  unfold fnC runFn
  simp only [clorec_eq, afrec_eq, rscrec_eq]
  show RC.rec (motive := fun _ => Option (V × H)) none _ ((comp P mask tb fuel c).run call ((argF mask fn.params.size 0).run vs fr0) [] h) = _
  rw [comp_run mask tb fuel call c ht, argF_run]
  cases den P call mask fuel c (args0 mask 0 vs fr0) [] h with
  | fail => rfl
  | ok x f d h =>
    cases x with
    | exit id => rfl
    | norm => cases d with
      | nil => exact pairO_eq f h fn.results.toList
      | cons g ds => rfl
    | ret => cases d with
      | nil => exact pairO_eq f h fn.results.toList
      | cons g ds => rfl

inductive DnC where
  | mk (g : CallFn → List V → H → Option (V × H))
def DnC.run (c : DnC) (call : CallFn) (vs : List V) (h : H) : Option (V × H) := DnC.rec (motive := fun _ => Option (V × H)) (fun g => g call vs h) c
def dnC (P : Program) (mask : Nat) (tb : Nat → Option (List (Nat × Nat))) (fuel : Nat) (fn : Func) (c : Code) : DnC :=
  Clo.put (fun gc => AF.put (fun ga => RsC.put (fun gr =>
  .mk fun call vs h => RC.rec (motive := fun _ => Option (V × H)) none (fun x f d h =>
    List.rec (motive := fun _ => Option (V × H)) (X.rec (motive := fun _ => Option (V × H)) (pairO (gr f h) h) (fun _ => none) (pairO (gr f h) h) x) (fun _ _ _ => none) d)
    (gc call (ga vs fr0) [] h)) (resC P fn.results.toList)) (argF mask fn.params.size 0)) (comp P mask tb fuel c)
theorem dnC_run (mask : Nat) (tb : Nat → Option (List (Nat × Nat))) (fuel : Nat) (fn : Func) (c : Code) (ht : codeTb tb c = true) (call : CallFn) (vs : List V) (h : H) : (dnC P mask tb fuel fn c).run call vs h = runFnD P call mask fuel fn c vs h := by
  unfold dnC runFnD
  simp only [clorec_eq, afrec_eq, rscrec_eq]
  show RC.rec (motive := fun _ => Option (V × H)) none _ ((comp P mask tb fuel c).run call ((argF mask fn.params.size 0).run vs fr0) [] h) = _
  rw [comp_run mask tb fuel call c ht, argF_run]
  cases den P call mask fuel c (args0 mask 0 vs fr0) [] h with
  | fail => rfl
  | ok x f d h =>
    cases d with
    | cons g ds => rfl
    | nil =>
      cases x with
      | exit id => rfl
      | norm => exact pairO_eq f h fn.results.toList
      | ret => exact pairO_eq f h fn.results.toList

def fnAt (P : Program) (ext : CallFn) (isExt : FuncId → Bool) (mask : FuncId → Nat) (tab : FuncId → Nat → Option (List (Nat × Nat))) (fuel : Nat) (g : FuncId) : FnC :=
  bif isExt g then .mk (fun _ _ vs h => ext g vs h) else
  match P.funcs[g]? with
  | some fn => match fn.body with
    | some c => fnC P (mask g) (tab g) fuel fn c
    | none => .mk fun _ _ _ _ => none
  | none => .mk fun _ _ _ _ => none
def dnAt (P : Program) (mask : FuncId → Nat) (tab : FuncId → Nat → Option (List (Nat × Nat))) (fuel : Nat) (g : FuncId) : DnC :=
  match P.funcs[g]? with
  | some fn => match fn.body with
    | some c => dnC P (mask g) (tab g) fuel fn c
    | none => .mk fun _ _ _ => none
  | none => .mk fun _ _ _ => none
def callDS (P : Program) (mask : FuncId → Nat) (tab : FuncId → Nat → Option (List (Nat × Nat))) (fuel : Nat) (call : CallFn) : CallFn := fun g vs h => (dnAt P mask tab fuel g).run call vs h
def TabOk (P : Program) (tab : FuncId → Nat → Option (List (Nat × Nat))) : Prop := ∀ g fn c, P.funcs[g]? = some fn → fn.body = some c → codeTb (tab g) c = true
theorem callDS_eq (mask : FuncId → Nat) {tab : FuncId → Nat → Option (List (Nat × Nat))} (hT : TabOk P tab) (fuel : Nat) (call : CallFn) : callDS P mask tab fuel call = callDof P mask fuel call := by
  funext g vs h
  unfold callDS dnAt callDof
  cases hf : P.funcs[g]? with
  | none => rfl
  | some fn =>
    simp only
    cases hb : fn.body with
    | none => rfl
    | some c => exact dnC_run _ _ _ _ _ (hT g fn c hf hb) _ _ _
/-- THE EVALUATOR IN STAGES. -/
def callS (P : Program) (ext : CallFn) (isExt : FuncId → Bool) (mask : FuncId → Nat) (tab : FuncId → Nat → Option (List (Nat × Nat))) (fuel : Nat) (n : Nat) : CallFn :=
  Nat.rec (motive := fun _ => CallFn) (fun _ _ _ => none) (fun _ ih g vs h => (fnAt P ext isExt mask tab fuel g).run ih (callDS P mask tab fuel ih) vs h) n
theorem callS_eq (ext : CallFn) (isExt : FuncId → Bool) (mask : FuncId → Nat) {tab : FuncId → Nat → Option (List (Nat × Nat))} (hT : TabOk P tab) (fuel : Nat) (n : Nat) : callS P ext isExt mask tab fuel n = callN P ext isExt mask fuel n := by
  induction n with
  | zero => rfl
  | succ n ih =>
    funext g vs h
    show (fnAt P ext isExt mask tab fuel g).run (callS P ext isExt mask tab fuel n) (callDS P mask tab fuel (callS P ext isExt mask tab fuel n)) vs h = _
    rw [ih, callDS_eq mask hT]
    simp only [callN, fnAt]
    cases isExt g
    · simp only [cond_false]
      cases hf : P.funcs[g]? with
      | none => rfl
      | some fn =>
        simp only
        cases hb : fn.body with
        | none => rfl
        | some c => exact fnC_run _ _ _ _ _ (hT g fn c hf hb) _ _ _ _
    · rfl

end
end Go.Ev
