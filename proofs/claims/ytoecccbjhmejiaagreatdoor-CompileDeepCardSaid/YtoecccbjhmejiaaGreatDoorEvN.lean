/- The evaluator's single operations (calls too), and regions in the text's order. No condition. -/
import Derived.Test.YtoecccbjhmejiaaGreatDoorEvM
import Derived.LoopN
import Derived.RangeFuncRecord
namespace Go.Ev

variable {P : Program}

def memOp (P : Program) (h : H) (E : Operand → V) (op : Op) : Option (V × H) :=
  match op with
  | .alloc t => allocV P h t
  | .box t x => boxV h t (E x)
  | .buildSlice t len parts => buildSliceV P h t len (parts.toList.map fun (i, x) => (i, E x))
  | .makeSlice t l c => makeSliceV P h t (E l) (E c)
  | .store t x y => (storeV P h t (E x) (E y)).map fun h' => (.any, h')
  | .call { callee := .builtin .append, args, argTypes } =>
    match args.toList, argTypes.toList with
    | [x, y], [t, tx] => appendV P h t tx (E x) (E y)
    | _, _ => none
  | .makeMap _ none => makeMapV h
  | .mapUpdate t m k x => (mapUpdV P h t (E m) (E k) (E x)).map fun h' => (.any, h')
  | .insert t m k x => (mapUpdV P h t (E m) (E k) (E x)).map fun h' => (.any, h')
  | _ => none

theorem memOp_sound {r : Emb} {h h' : H} {w : World} (hr : Rel r h w) {E : Operand → V} {e : Operand → Value} (hE : ERel r E e) {o : Oper} {v : V} (he : memOp P h E o.op = some (v, h')) : Gives P r h w e o v h' := by
  unfold memOp at he
  split at he
  · rename_i t ho; exact allocV_sound hr ho he
  · rename_i t x ho; exact boxV_sound hr ho (hE x) he
  · rename_i t len parts ho; exact buildSliceV_sound hr hE ho he
  · rename_i t l c ho; exact makeSliceV_sound hr ho (hE l) (hE c) he
  · rename_i t x y ho
    cases hs : storeV P h t (E x) (E y) with
    | none => rw [hs] at he; simp at he
    | some h2 =>
      rw [hs] at he
      simp only [Option.map_some, Option.some.injEq, Prod.mk.injEq] at he
      obtain ⟨rfl, rfl⟩ := he
      exact storeV_sound hr ho (hE x) (hE y) hs
  · rename_i args ts ho
    split at he
    · rename_i x y t tx ha ht
      have ea : args = #[x, y] := by rw [← Array.toArray_toList (xs := args), ha]
      have et : ts = #[t, tx] := by rw [← Array.toArray_toList (xs := ts), ht]
      subst ea
      subst et
      exact appendV_sound hr ho (hE x) (hE y) he
    · simp at he
  · rename_i t ho
    obtain ⟨z, w', r', h1, h2, h3⟩ := makeMapV_sound (P := P) hr he t
    exact ⟨z, w', r', .inl (by unfold execOp; simp [ho, h1]), h2, h3⟩
  · rename_i t m k x ho
    cases hs : mapUpdV P h t (E m) (E k) (E x) with
    | none => rw [hs] at he; simp at he
    | some h2 =>
      rw [hs] at he
      simp only [Option.map_some, Option.some.injEq, Prod.mk.injEq] at he
      obtain ⟨rfl, rfl⟩ := he
      obtain ⟨w', h1, h2⟩ := mapUpdV_sound hr hs (hE m) (hE k) (hE x)
      exact ⟨undef, w', r, .inr ⟨by unfold execOp; simp [ho, h1], rfl⟩, h2, .any _⟩
  · rename_i t m k x ho
    cases hs : mapUpdV P h t (E m) (E k) (E x) with
    | none => rw [hs] at he; simp at he
    | some h2 =>
      rw [hs] at he
      simp only [Option.map_some, Option.some.injEq, Prod.mk.injEq] at he
      obtain ⟨rfl, rfl⟩ := he
      obtain ⟨w', h1, h2⟩ := mapUpdV_sound hr hs (hE m) (hE k) (hE x)
      exact ⟨undef, w', r, .inr ⟨by unfold execOp; simp [ho, h1], rfl⟩, h2, .any _⟩
  · simp at he

/-- Does an operation make or write memory? -/
def isMem (op : Op) : Bool :=
  match op with
  | .alloc _ | .box _ _ | .buildSlice _ _ _ | .makeSlice _ _ _ | .store _ _ _ | .makeMap _ _ | .mapUpdate _ _ _ _ | .insert _ _ _ _ => true
  | .call { callee := .builtin .append, .. } => true
  | _ => false

/-- An operation that is no call of a function, and no defer. -/
def plainOp (P : Program) (h : H) (E : Operand → V) (op : Op) : Option (V × H) :=
  bif isMem op then memOp P h E op else (valOp P h E op).map fun v => (v, h)

theorem plainOp_sound {r : Emb} {h h' : H} {w : World} (hr : Rel r h w) {E : Operand → V} {e : Operand → Value} (hE : ERel r E e) {o : Oper} {v : V} (he : plainOp P h E o.op = some (v, h')) : Gives P r h w e o v h' := by
  unfold plainOp at he
  cases hm : isMem o.op
  · rw [hm] at he
    simp only [cond_false] at he
    cases hv : valOp P h E o.op with
    | none => rw [hv] at he; simp at he
    | some v' =>
      rw [hv] at he
      simp only [Option.map_some, Option.some.injEq, Prod.mk.injEq] at he
      obtain ⟨rfl, rfl⟩ := he
      obtain ⟨z, h1, h2⟩ := valOp_sound hr hE hv
      exact ⟨z, w, r, .inl h1, Step.refl hr, h2⟩
  · rw [hm] at he
    exact memOp_sound hr hE he

/-! ### Calls -/

/-- What stands below the world in which all began is as it was then. -/
structure Base (w0 : World) (r : Emb) (h : H) (w : World) : Prop where
  same : ∀ b, b < w0.heap.size → w.heap[b]? = w0.heap[b]?
  own : ∀ b, Own r h b → w0.heap.size ≤ b
  size : w0.heap.size ≤ w.heap.size

theorem Base.step {w0 : World} {r r' : Emb} {h h' : H} {w w' : World} (hb : Base w0 r h w) (hs : Step r h w r' h' w') : Base w0 r' h' w' where
  same b hlt := by
    rw [hs.keep b (Nat.lt_of_lt_of_le hlt hb.size) (fun ho => Nat.lt_irrefl _ (Nat.lt_of_lt_of_le hlt (hb.own b ho))), hb.same b hlt]
  own b ho := by
    by_cases hlt : b < w.heap.size
    · exact hb.own b (hs.own b hlt ho)
    · have := hb.size; omega
  size := Nat.le_trans hb.size hs.size

/-- A function's contract. -/
def CallOk (P : Program) (w0 : World) (f : FuncId) (vs : List V) (h : H) (v : V) (h' : H) : Prop :=
  ∀ (r : Emb) (w : World) (xs : Array Value), Rel r h w → GRel P r → Base w0 r h w → VsRel r vs xs.toList →
    Calls P f xs w fun e w' => ∃ z r', e = .returned z ∧ Step r h w r' h' w' ∧ VRel r' v z

/-- The same, behind a defer. -/
def CallDOk (P : Program) (w0 : World) (f : FuncId) (vs : List V) (h : H) (v : V) (h' : H) : Prop :=
  ∀ (r : Emb) (w : World) (xs : Array Value) (u : FrameMode), Rel r h w → GRel P r → Base w0 r h w → VsRel r vs xs.toList →
    CallsDIn Fence.wide 0 P f xs u w fun e u' w' => u' = u ∧ ∃ z r', e = .returned z ∧ Step r h w r' h' w' ∧ VRel r' v z

abbrev CallFn := FuncId → List V → H → Option (V × H)
def CallFnOk (P : Program) (w0 : World) (call : CallFn) : Prop := ∀ f vs h v h', call f vs h = some (v, h') → CallOk P w0 f vs h v h'
def CallFnDOk (P : Program) (w0 : World) (call : CallFn) : Prop := ∀ f vs h v h', call f vs h = some (v, h') → CallDOk P w0 f vs h v h'

/-- Has a function a body, and no name that the model reads otherwise? -/
def hasBody (P : Program) (f : FuncId) : Bool :=
  match P.funcs[f]? with
  | some fn => fn.body.isSome
  | none => false

/-- No function with a body is the model's own NumGoroutine. -/
def NoNum (P : Program) : Prop := ∀ (f : FuncId) (fn : Func), P.funcs[f]? = some fn → fn.body.isSome = true → (fn.name == "runtime.NumGoroutine") = false

theorem run_callFunc {f : FuncId} (hn : NoNum P) (hb : hasBody P f = true) (args : Array Value) (w : World) : (callFunc f args).run P w = .ok (.enter f args) w := by
  unfold hasBody at hb
  split at hb
  · rename_i fn hf
    have h1 := hn f fn hf hb
    have h2 : fn.body ≠ none := by
      intro h
      rw [h] at hb
      simp at hb
    have h1' : fn.name ≠ "runtime.NumGoroutine" := by simpa using h1
    simp [callFunc, program, Sem.run, hf, h1', h2]
  · simp at hb

theorem run_invoke_func {f : FuncId} (hn : NoNum P) (hb : hasBody P f = true) (cap args : Array Value) (w : World) : (invoke (.fn (.func f) cap) args).run P w = .ok (.enter f (args ++ cap)) w :=
  run_callFunc hn hb (args ++ cap) w

/-- The function and the arguments of a call by value. -/
def calleeV (x : V) (args : List V) : Option (FuncId × List V) :=
  match x with
  | .fn (.func g) first captured => some (g, first ++ args ++ captured)
  | _ => none

def callOp (P : Program) (call : CallFn) (h : H) (E : Operand → V) (x : Operand) (args : List Operand) : Option (V × H) :=
  match calleeV (E x) (args.map E) with
  | some (g, vs) => bif hasBody P g then call g vs h else none
  | none => none

theorem calleeV_sound {r : Emb} {x : V} {args vs : List V} {g : FuncId} (he : calleeV x args = some (g, vs)) {a : Value} (hx : VRel r x a) {bs : Array Value} (hb : VsRel r args bs.toList) :
    ∃ first cap, a = .func (.func g) first cap ∧ VsRel r vs ((first ++ bs) ++ cap).toList := by
  unfold calleeV at he
  split at he
  · simp only [Option.some.injEq, Prod.mk.injEq] at he
    obtain ⟨rfl, rfl⟩ := he
    cases hx with
    | @fn _ _ _ first cap h1 h2 =>
      refine ⟨first, cap, rfl, ?_⟩
      simp only [Array.toList_append]
      exact (h1.append hb).append h2
  · simp at he

/-- A method of a value in an interface: the function, the receiver. -/
def methodV (P : Program) (t : TypeId) (v : V) (name : String) : Option (FuncId × V) :=
  match P.info? t with
  | some i =>
    match i.methods.find? (·.name == name) with
    | some m =>
      match m.path.toList, m.func, P.underlying t with
      | [], some (f, true), some (.pointer _) => some (f, v)
      | [], some (_, false), some (.pointer _) => none
      | [], some (f, false), some _ => some (f, v)
      | _, _, _ => none
    | none => none
  | none => none

theorem methodV_sound {r : Emb} {t : TypeId} {v u : V} {name : String} {f : FuncId} (he : methodV P t v name = some (f, u)) {x : Value} (hx : VRel r v x) (k : Nat) (w : World) :
    (method (k + 1) t x name).run P w = .ok (f, x) w ∧ VRel r u x := by
  unfold methodV at he
  split at he
  · rename_i i hi
    split at he
    · rename_i m hm
      have hty : ∀ (q : TypeInfo → Sem (FuncId × Value)), (typeInfo t >>= q).run P w = (q i).run P w := fun q => by simp [typeInfo, hi]
      split at he
      · rename_i f' e hp hf hu
        simp only [Option.some.injEq, Prod.mk.injEq] at he
        obtain ⟨rfl, rfl⟩ := he
        refine ⟨?_, hx⟩
        unfold method
        rw [hty]
        simp only [hm, hp, follow, Sem.run_bind, Sem.run_pure, Result.andThen_ok, hf, receiverAt, run_underlying hu, Place.get]
      · simp at he
      · rename_i f' d hd hp hf hu
        simp only [Option.some.injEq, Prod.mk.injEq] at he
        obtain ⟨rfl, rfl⟩ := he
        refine ⟨?_, hx⟩
        unfold method
        rw [hty]
        simp only [hm, hp, follow, Sem.run_bind, Sem.run_pure, Result.andThen_ok, hf, receiverAt, run_underlying hu]
        cases d <;> first | exact (hd _ rfl).elim | simp [Place.get]
      · simp at he
    · simp at he
  · simp at he

def invokeOp (P : Program) (call : CallFn) (h : H) (x : V) (name : String) (args : List V) : Option (V × H) :=
  match x with
  | .iface t u =>
    match methodV P t u name with
    | some (g, u) => bif hasBody P g then call g (u :: args) h else none
    | none => none
  | _ => none

theorem run_invoke_method {r : Emb} (hn : NoNum P) {t : TypeId} {v u : V} {name : String} {g : FuncId} (he : methodV P t v name = some (g, u)) {x : Value} (hx : VRel r v x) (hb : hasBody P g = true) (args : Array Value) (w : World) :
    (invoke (.fn (.method name) #[]) (#[.iface t x] ++ args)).run P w = .ok (.enter g (#[x] ++ args)) w := by
  have h1 := fun k => (methodV_sound he hx k w).1
  have h2 : ∃ k, P.types.size + Made.depth = k + 1 := by
    have : 1 ≤ Made.depth := by decide
    exact ⟨P.types.size + (Made.depth - 1), by omega⟩
  obtain ⟨k, hk⟩ := h2
  have h3 : (#[Value.iface t x] ++ args)[0]? = some (.iface t x) := by
    rw [Array.getElem?_append_left (by simp)]; rfl
  have h4 : (#[Value.iface t x] ++ args).extract 1 (#[Value.iface t x] ++ args).size = args := by
    apply Array.toList_inj.1
    simp
  simp only [invoke, h3, h4, callMethod]
  simp only [Sem.run_bind, program, Sem.run, Result.andThen_ok, hk, h1 k]
  exact run_callFunc hn hb _ w

theorem Rel.held_lt {r : Emb} {h : H} {w : World} (hr : Rel r h w) {b : Nat} (hh : Held r h b) : b < w.heap.size := by
  obtain ⟨id, sh, m, hl, h1⟩ := hh
  exact hr.lt hl h1

/-- A block of which no label speaks. -/
theorem Step.extraO {r : Emb} {h : H} {w : World} (hr : Rel r h w) (o : Obj) : Step r h w r h (w.alloc o) := by
  refine ⟨r.le_refl, ⟨fun id hi hl => ?_, hr.inj, hr.new⟩, by simp, fun b hlt _ => heap_alloc_old w _ b hlt, fun _ _ h => h, fun _ _ h => h, rfl, rfl, rfl⟩
  obtain ⟨b, sh, m, h1, h2⟩ := hr.fit id hi hl
  exact ⟨b, sh, m, h1, h2.keep r.le_refl (heap_alloc_old w _ b (h2.lt hl))⟩
theorem Rel.poke {r : Emb} {h : H} {w w' : World} (hr : Rel r h w) {b : Nat} (hb : ¬ Held r h b) (hw : ∀ k, k ≠ b → w'.heap[k]? = w.heap[k]?) : Rel r h w' := by
  refine ⟨fun id hi hl => ?_, hr.inj, hr.new⟩
  obtain ⟨b', sh, m, h1, h2⟩ := hr.fit id hi hl
  exact ⟨b', sh, m, h1, h2.keep r.le_refl (hw b' (fun e => hb ⟨id, sh, m, ⟨hi, hl⟩, e ▸ h1⟩))⟩

/-- Deferred calls. -/
abbrev Ds := List (FuncId × List V)
/-- No function's number: it stands for the mark of a range over a function. -/
def markG : Nat := 4294967295
inductive DRel (P : Program) (r : Emb) : Ds → List Deferred → Prop where
  | nil : DRel P r [] []
  | cons {g : FuncId} {vs : List V} {cap args : Array Value} {ds : Ds} {dl : List Deferred} (hg : Nat.beq g markG = false) (hb : hasBody P g = true) (h : VsRel r vs (args ++ cap).toList) (hs : DRel P r ds dl) :
      DRel P r ((g, vs) :: ds) ({ target := .fn (.func g) cap, args } :: dl)
  | mark {D : Nat} {ds : Ds} {dl : List Deferred} (hs : DRel P r ds dl) : DRel P r ((markG, []) :: ds) ({ target := .collected D, args := #[] } :: dl)
theorem DRel.up {r r' : Emb} (h : r.le r') {ds : Ds} {dl : List Deferred} (hd : DRel P r ds dl) : DRel P r' ds dl := by
  induction hd with
  | nil => exact .nil
  | cons hg hb h1 _ ih => exact .cons hg hb (h1.up h) ih
  | mark _ ih => exact .mark ih

/-- The marks of ranges over functions: blocks that nobody holds, of this activation. -/
def MarksOk (nb : Nat) (r : Emb) (h : H) (w : World) : List Deferred → Prop
  | [] => True
  | d :: dl => (∀ D, d.target = .collected D → nb ≤ D ∧ ¬ Held r h D ∧ w.heap[D]? = some (.deferred (some [])) ∧ ∀ e ∈ dl, e.target ≠ .collected D) ∧ MarksOk nb r h w dl
theorem MarksOk.step {nb : Nat} {r r' : Emb} {h h' : H} {w w' : World} (st : Step r h w r' h' w') : ∀ {dl : List Deferred}, MarksOk nb r h w dl → MarksOk nb r' h' w' dl
  | [], _ => trivial
  | d :: dl, hm => ⟨fun D hD => by
      obtain ⟨h1, h2, h3, h4⟩ := hm.1 D hD
      have hlt := (Array.getElem?_eq_some_iff.1 h3).1
      exact ⟨h1, fun hh => h2 (st.held D hlt hh), (st.keep D hlt (fun ho => h2 ho.held)).trans h3, h4⟩, MarksOk.step st hm.2⟩

def MarksAll (nb : Nat) (r : Emb) (h : H) (w : World) (dl : List Deferred) : Prop := nb ≤ w.heap.size ∧ MarksOk nb r h w dl
theorem MarksAll.step {nb : Nat} {r r' : Emb} {h h' : H} {w w' : World} (st : Step r h w r' h' w') {dl : List Deferred} (hm : MarksAll nb r h w dl) : MarksAll nb r' h' w' dl :=
  ⟨Nat.le_trans hm.1 st.size, hm.2.step st⟩
theorem MarksOk.there {nb : Nat} {r : Emb} {h : H} {w : World} {D : Nat} : ∀ {dl : List Deferred}, MarksOk nb r h w dl → ∀ e ∈ dl, e.target = .collected D → w.heap[D]? = some (.deferred (some []))
  | [], _, e, he, _ => by cases he
  | d :: dl, hm, e, he, hD => by
    rcases List.mem_cons.1 he with rfl | he
    · exact (hm.1 D hD).2.2.1
    · exact MarksOk.there hm.2 e he hD
theorem MarksOk.poke {nb : Nat} {r : Emb} {h : H} {w w' : World} {D : Nat} (hw : ∀ k, k ≠ D → w'.heap[k]? = w.heap[k]?) : ∀ {dl : List Deferred}, (∀ e ∈ dl, e.target ≠ .collected D) → MarksOk nb r h w dl → MarksOk nb r h w' dl
  | [], _, _ => trivial
  | d :: dl, hn, hm => ⟨fun D' hD => by
      obtain ⟨h1, h2, h3, h4⟩ := hm.1 D' hD
      exact ⟨h1, h2, (hw D' (fun e => hn d (by simp) (by rw [hD, e]))).trans h3, h4⟩, MarksOk.poke hw (fun e he => hn e (by simp [he])) hm.2⟩

theorem MarksOk.heap {nb : Nat} {r : Emb} {h : H} {w w' : World} (hw : w'.heap = w.heap) : ∀ {dl : List Deferred}, MarksOk nb r h w dl → MarksOk nb r h w' dl
  | [], _ => trivial
  | _ :: _, hm => ⟨fun D hD => by rw [hw]; exact hm.1 D hD, MarksOk.heap hw hm.2⟩
theorem MarksOk.adopt {nb b : Nat} {r r' : Emb} {h h' : H} {w : World} (hh : ∀ D, Held r' h' D → D = b ∨ Held r h D) (hb : w.heap[b]? ≠ some (.deferred (some []))) : ∀ {dl : List Deferred}, MarksOk nb r h w dl → MarksOk nb r' h' w dl
  | [], _ => trivial
  | _ :: _, hm => ⟨fun D hD => by
      obtain ⟨h1, h2, h3, h4⟩ := hm.1 D hD
      refine ⟨h1, fun hx => ?_, h3, h4⟩
      rcases hh D hx with rfl | hx
      · exact hb h3
      · exact h2 hx, MarksOk.adopt hh hb hm.2⟩

/-! ### Slots -/
abbrev Fr := T16 (T16 V)
def fget (f : Fr) (t : Nat) : V := bif Nat.blt t 256 then (f.get (Nat.div t 16)).get (Nat.mod t 16) else .any
def fset (f : Fr) (t : Nat) (v : V) : Fr := bif Nat.blt t 256 then f.set (Nat.div t 16) ((f.get (Nat.div t 16)).set (Nat.mod t 16) v) else f

theorem fget_fset (f : Fr) (t u : Nat) (v : V) (h : t < 256) : fget (fset f t v) u = if u = t then v else fget f u := by
  have ht : Nat.blt t 256 = true := by rw [Nat.blt_eq]; exact h
  have h1 : Nat.div t 16 < 16 := by show t / 16 < 16; omega
  have h2 : Nat.mod t 16 < 16 := Nat.mod_lt _ (by omega)
  unfold fget fset
  rw [ht]
  simp only [cond_true]
  cases hu : Nat.blt u 256
  · have : u ≠ t := fun e => by rw [e, ht] at hu; cases hu
    simp [this]
  · simp only [cond_true]
    rw [Nat.blt_eq] at hu
    have k1 : Nat.div u 16 < 16 := by show u / 16 < 16; omega
    have k2 : Nat.mod u 16 < 16 := Nat.mod_lt _ (by omega)
    by_cases e1 : Nat.div u 16 = Nat.div t 16
    · rw [e1, T16.get_set_same _ _ _ h1]
      by_cases e2 : Nat.mod u 16 = Nat.mod t 16
      · have : u = t := by
          have e1' : u / 16 = t / 16 := e1
          have e2' : u % 16 = t % 16 := e2
          omega
        rw [e2, T16.get_set_same _ _ _ h2, if_pos this]
      · have : u ≠ t := fun e => e2 (by rw [e])
        rw [T16.get_set_other _ _ _ _ h2 k2 e2, if_neg this]
    · have : u ≠ t := fun e => e1 (by rw [e])
      rw [T16.get_set_other _ _ _ _ h1 k1 e1, if_neg this]

abbrev Env := List (Nat × V)
def look : Env → Fr → Nat → V
  | [], f, t => fget f t
  | (i, v) :: e, f, t => bif Nat.beq i t then v else look e f t

def kept (mask t : Nat) : Bool := Nat.beq (Nat.land (Nat.shiftRight mask t) 1) 1
def flush (mask : Nat) : Env → Fr → Fr
  | [], f => f
  | (i, v) :: e, f => bif kept mask i then fset (flush mask e f) i v else flush mask e f

/-- What is not kept is not known. -/
def Dim (mask : Nat) (f : Fr) : Prop := ∀ t, kept mask t = false → fget f t = .any

theorem flush_dim {mask : Nat} {f : Fr} (hd : Dim mask f) : ∀ e, Dim mask (flush mask e f)
  | [] => hd
  | (i, v) :: e => by
    intro t ht
    unfold flush
    cases hk : kept mask i
    · exact flush_dim hd e t ht
    · show fget (fset _ i v) t = _
      by_cases hi : i < 256
      · rw [fget_fset _ _ _ _ hi, if_neg (fun e2 => by rw [e2, hk] at ht; cases ht)]
        exact flush_dim hd e t ht
      · have : Nat.blt i 256 = false := by rw [← Bool.not_eq_true, Nat.blt_eq]; exact hi
        unfold fset
        rw [this]
        exact flush_dim hd e t ht

/-- After a region each slot is as the environment says, or not known. -/
theorem flush_look {mask : Nat} {f : Fr} (hd : Dim mask f) : ∀ e t, fget (flush mask e f) t = look e f t ∨ fget (flush mask e f) t = .any
  | [], t => .inl rfl
  | (i, v) :: e, t => by
    by_cases hk : kept mask t = true
    · unfold flush look
      cases hi : kept mask i
      · have hne : Nat.beq i t = false := by
          cases hb : Nat.beq i t
          · rfl
          · rw [Nat.eq_of_beq_eq_true hb, hk] at hi; cases hi
        rw [hne]
        exact flush_look hd e t
      · simp only [cond_true]
        by_cases hlt : i < 256
        · rw [fget_fset _ _ _ _ hlt]
          by_cases e2 : t = i
          · subst e2
            have : Nat.beq t t = true := Nat.beq_refl t
            rw [if_pos rfl, this]
            exact .inl rfl
          · have : Nat.beq i t = false := by
              cases hb : Nat.beq i t
              · rfl
              · exact absurd (Nat.eq_of_beq_eq_true hb).symm e2
            rw [if_neg e2, this]
            exact flush_look hd e t
        · have hb : Nat.blt i 256 = false := by rw [← Bool.not_eq_true, Nat.blt_eq]; exact hlt
          unfold fset
          rw [hb]
          simp only [cond_false]
          cases hb2 : Nat.beq i t
          · exact flush_look hd e t
          · have := Nat.eq_of_beq_eq_true hb2
            subst this
            right
            unfold fget
            rw [hb]
            rfl
    · exact .inr (flush_dim hd ((i, v) :: e) t (by simpa using hk))

theorem trel_flush {r : Emb} {mask : Nat} {f : Fr} {e : Env} {tmps : Array Value} (hd : Dim mask f) (h : TRel r (look e f) tmps) : TRel r (fget (flush mask e f)) tmps := by
  intro t
  rcases flush_look hd e t with h1 | h1
  · rw [h1]; exact h t
  · rw [h1]; exact .any _

end Go.Ev
