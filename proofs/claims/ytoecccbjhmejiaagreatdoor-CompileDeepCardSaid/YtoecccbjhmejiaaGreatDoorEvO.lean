/- The evaluator's regions in the text's order. No condition. -/
import Derived.Test.YtoecccbjhmejiaaGreatDoorEvN
namespace Go.Ev

variable {P : Program}

inductive RO where
  | fail
  | ok (e : Env) (d : Ds) (h : H)

/-- One operation, carried out. -/
def oneOp (P : Program) (call : CallFn) (o : Op) (T : Tm) (d : Ds) (h : H) : Option (V × Ds × H) :=
  match o with
  | .call { callee := .value x, args, .. } => (callOp P call h (evO P T) x args.toList).map fun (v, h') => (v, d, h')
  | .call { callee := .invoke x name, args, .. } => (invokeOp P call h (evO P T x) name (args.toList.map (evO P T))).map fun (v, h') => (v, d, h')
  | .defer { callee := .value x, args, .. } =>
    match calleeV (evO P T x) (args.toList.map (evO P T)) with
    | some (g, vs) => bif hasBody P g then (bif Nat.beq g markG then none else some (.any, (g, vs) :: d, h)) else none
    | none => none
  | op => (plainOp P h (evO P T) op).map fun (v, h') => (v, d, h')

/-- Is an operation wanted? none: not known. -/
def wantedV (ops : List Oper) (T : Tm) (g : Option (Nat × Bool)) : Option Bool :=
  match g with
  | none => some true
  | some (j, want) =>
    match (ops[j]?).bind (·.dst) with
    | some t => match T t with
      | .bool b => some (b == want)
      | .tup [] => some false
      | _ => none
    | none => none

def putE (dst : Option Tmp) (v : V) (e : Env) : Env := match dst with | some t => (t, v) :: e | none => e

def evOps (P : Program) (call : CallFn) (f : Fr) (all : List Oper) : List Oper → Env → Ds → H → RO
  | [], e, d, h => .ok e d h
  | o :: rest, e, d, h =>
    match wantedV all (look e f) o.guard with
    | some true =>
      match oneOp P call o.op (look e f) d h with
      | some (v, d', h') => evOps P call f all rest (putE o.dst v e) d' h'
      | none => .fail
    | some false => evOps P call f all rest (putE o.dst (.tup []) e) d h
    | none => .fail

/-- Each slot that is written is there. -/
def opOk (n : Nat) (o : Oper) : Bool := match o.dst with | some d => Nat.blt d n | none => true

/-- All that ties the evaluator's state to the model's. -/
structure St (P : Program) (w0 : World) (nb n : Nat) (r : Emb) (T : Tm) (d : Ds) (h : H) (a : Act) (w : World) : Prop where
  rel : Rel r h w
  gl : GRel P r
  base : Base w0 r h w
  tm : TRel r T a.tmps
  ds : DRel P r d a.defers
  mks : MarksAll nb r h w a.defers
  sz : n ≤ a.tmps.size

/-- One slot written. -/
def putT (T : Tm) (dst : Option Tmp) (v : V) : Tm := fun t => match dst with | some u => if t = u then v else T t | none => T t

theorem trel_put {r : Emb} {T T' : Tm} {a : Act} (ht : TRel r T a.tmps) {dst : Option Tmp} {v : V} {z : Value} (hv : VRel r v z) (hd : ∀ u, dst = some u → u < a.tmps.size)
    (hT : ∀ t, T' t = putT T dst v t) : TRel r T' (a.put dst z).tmps := by
  intro t
  rw [hT t]
  cases dst with
  | none => exact ht t
  | some u =>
    have hu := hd u rfl
    show VRel r (if t = u then v else T t) ((a.tmps.setIfInBounds u z).getD t undef)
    by_cases e : t = u
    · subst e
      rw [if_pos rfl, Array.getD_eq_getD_getElem?, Array.getElem?_setIfInBounds_self_of_lt hu]
      exact hv
    · rw [if_neg e, Array.getD_eq_getD_getElem?, Array.getElem?_setIfInBounds_ne (fun e2 => e e2.symm), ← Array.getD_eq_getD_getElem?]
      exact ht t

theorem put_size (a : Act) (dst : Option Tmp) (z : Value) : (a.put dst z).tmps.size = a.tmps.size := by cases dst <;> simp [Act.put]
theorem put_defers (a : Act) (dst : Option Tmp) (z : Value) : (a.put dst z).defers = a.defers := by cases dst <;> rfl

/-- The state behind a step, one slot written. -/
theorem St.put {w0 : World} {nb n : Nat} {r r' : Emb} {T T' : Tm} {d : Ds} {h h' : H} {a : Act} {w w' : World} (hs : St P w0 nb n r T d h a w) (st : Step r h w r' h' w') {dst : Option Tmp} {v : V} {z : Value} (hv : VRel r' v z)
    (hd : ∀ u, dst = some u → u < n) (hT : ∀ t, T' t = putT T dst v t) : St P w0 nb n r' T' d h' (a.put dst z) w' where
  rel := st.rel
  gl := GRel.up st.le hs.gl
  base := hs.base.step st
  tm := trel_put (hs.tm.up st.le) hv (fun u e => Nat.lt_of_lt_of_le (hd u e) hs.sz) hT
  ds := by rw [put_defers]; exact hs.ds.up st.le
  mks := by rw [put_defers]; exact hs.mks.step st
  sz := by rw [put_size]; exact hs.sz

theorem erel_of {w0 : World} {nb n : Nat} {r : Emb} {T : Tm} {d : Ds} {h : H} {a : Act} {w : World} (hs : St P w0 nb n r T d h a w) : ERel r (evO P T) a.eval := evO_sound hs.gl hs.tm

theorem evO_fun {w0 : World} {nb n : Nat} {r : Emb} {T : Tm} {d : Ds} {h : H} {a : Act} {w : World} (hs : St P w0 nb n r T d h a w) (l : Array Operand) : VsRel r (l.toList.map (evO P T)) (l.map a.eval).toList := by
  rw [Array.toList_map]; exact erel_list (erel_of hs) l.toList

/-- AN OPERATION: whatever follows from each state that fits what the evaluator says follows from the operation. -/
theorem oneOp_sound {w0 : World} {nb n : Nat} {call : CallFn} (hcall : CallFnOk P w0 call) (hnn : NoNum P) {r : Emb} {T : Tm} {d d' : Ds} {h h' : H} {a : Act} {w : World} (hs : St P w0 nb n r T d h a w) {o : Oper} {v : V}
    (ho : opOk n o = true) (he : oneOp P call o.op T d h = some (v, d', h')) {K : Act → World → Prop} {Q : Exit → Act → World → Prop}
    (hK : ∀ r' a' w' (T' : Tm), (∀ t, T' t = putT T o.dst v t) → St P w0 nb n r' T' d' h' a' w' → Step r h w r' h' w' → (∃ z, VRel r' v z ∧ a'.tmps = (a.put o.dst z).tmps) → K a' w') : o.wp P a w K Q := by
  have hdst : ∀ u, o.dst = some u → u < n := by
    intro u e
    unfold opOk at ho
    rw [e] at ho
    simpa [Nat.blt_eq] using ho
  have hE := erel_of hs
  unfold oneOp at he
  split at he
  · rename_i x args tys hop
    unfold callOp at he
    cases hc : calleeV (evO P T x) (args.toList.map (evO P T)) with
    | none => rw [hc] at he; simp at he
    | some p =>
      obtain ⟨g, vs⟩ := p
      rw [hc] at he
      simp only at he
      cases hb : hasBody P g
      · rw [hb] at he; simp at he
      · rw [hb] at he
        simp only [cond_true] at he
        cases hr : call g vs h with
        | none => rw [hr] at he; simp at he
        | some q =>
          obtain ⟨v2, h2⟩ := q
          rw [hr] at he
          simp only [Option.map_some, Option.some.injEq, Prod.mk.injEq] at he
          obtain ⟨rfl, rfl, rfl⟩ := he
          obtain ⟨first, cap, hf, hvs⟩ := calleeV_sound hc (hE x) (evO_fun hs args)
          have hrun : (execOp a.eval o).run P w = .ok (.enter g ((first ++ args.map a.eval) ++ cap)) w := by
            have h1 : (resolve a.eval { callee := .value x, args, argTypes := tys } o.type).run P w = .ok { target := .fn (.func g) cap, args := first ++ args.map a.eval } w := by
              simp [resolve, hf, Deferred.ofValue]
            unfold execOp
            simp only [hop, Sem.run_bind, h1, Result.andThen_ok]
            exact run_invoke_func hnn hb cap _ w
          unfold Oper.wp
          rw [hrun]
          refine (hcall g vs h v2 h2 hr r w _ hs.rel hs.gl hs.base hvs).mono ?_
          rintro e' w' ⟨z, r', rfl, st, hv⟩
          exact hK r' _ w' _ (fun t => rfl) (hs.put st hv hdst (fun t => rfl)) st ⟨z, hv, rfl⟩
  · rename_i x name args tys hop
    unfold invokeOp at he
    split at he
    · rename_i t u hx
      split at he
      · rename_i g u2 hm
        cases hb : hasBody P g
        · rw [hb] at he; simp at he
        · rw [hb] at he
          simp only [cond_true] at he
          cases hr : call g (u2 :: args.toList.map (evO P T)) h with
          | none => rw [hr] at he; simp at he
          | some q =>
            obtain ⟨v2, h2⟩ := q
            rw [hr] at he
            simp only [Option.map_some, Option.some.injEq, Prod.mk.injEq] at he
            obtain ⟨rfl, rfl, rfl⟩ := he
            have h1 := hE x
            rw [hx] at h1
            generalize hax : a.eval x = ax at h1
            cases h1 with
            | @iface _ _ y hy =>
              have hrun : (execOp a.eval o).run P w = .ok (.enter g (#[y] ++ args.map a.eval)) w := by
                have h3 : (resolve a.eval { callee := .invoke x name, args, argTypes := tys } o.type).run P w = .ok { target := .fn (.method name) #[], args := #[.iface t y] ++ args.map a.eval } w := by
                  simp [resolve, hax]
                unfold execOp
                simp only [hop, Sem.run_bind, h3, Result.andThen_ok]
                exact run_invoke_method hnn hm hy hb _ w
              unfold Oper.wp
              rw [hrun]
              have hvs : VsRel r (u2 :: args.toList.map (evO P T)) (#[y] ++ args.map a.eval).toList := by
                have := VsRel.cons (methodV_sound hm hy 0 w).2 (evO_fun hs args)
                simpa using this
              refine (hcall g _ h v2 h2 hr r w _ hs.rel hs.gl hs.base hvs).mono ?_
              rintro e' w' ⟨z, r', rfl, st, hv⟩
              exact hK r' _ w' _ (fun t => rfl) (hs.put st hv hdst (fun t => rfl)) st ⟨z, hv, rfl⟩
      · simp at he
    · simp at he
  · rename_i x args tys hop
    split at he
    · rename_i g vs hc
      cases hb : hasBody P g
      · rw [hb] at he; simp at he
      · rw [hb] at he
        simp only [cond_true] at he
        cases hgm : Nat.beq g markG
        case true => rw [hgm] at he; simp at he
        rw [hgm] at he
        simp only [cond_false, Option.some.injEq, Prod.mk.injEq] at he
        obtain ⟨rfl, rfl, rfl⟩ := he
        obtain ⟨first, cap, hf, hvs⟩ := calleeV_sound hc (hE x) (evO_fun hs args)
        have hrun : (execOp a.eval o).run P w = .ok (.defer { target := .fn (.func g) cap, args := first ++ args.map a.eval }) w := by
          unfold execOp
          simp [hop, resolve, hf, Deferred.ofValue]
        unfold Oper.wp
        rw [hrun]
        have h0 := hs.put (dst := o.dst) (v := .any) (z := undef) (Step.refl hs.rel) (.any _) hdst (fun t => rfl)
        refine hK r _ w _ (fun t => rfl) ⟨h0.rel, h0.gl, h0.base, ?_, ?_, ?_, ?_⟩ (Step.refl hs.rel) ⟨undef, .any _, ?_⟩
        · have := h0.tm
          cases hd : o.dst <;> (rw [hd] at this; exact this)
        · cases hd : o.dst <;> exact .cons hgm hb hvs hs.ds
        · cases hd : o.dst <;> exact ⟨hs.mks.1, ⟨fun D hD => by simp at hD, hs.mks.2⟩⟩
        · have := h0.sz
          cases hd : o.dst <;> (rw [hd] at this; exact this)
        · cases hd : o.dst <;> rfl
    · simp at he
  · cases hp : plainOp P h (evO P T) o.op with
    | none => rw [hp] at he; simp at he
    | some q =>
      obtain ⟨v2, h2⟩ := q
      rw [hp] at he
      simp only [Option.map_some, Option.some.injEq, Prod.mk.injEq] at he
      obtain ⟨rfl, rfl, rfl⟩ := he
      obtain ⟨z, w', r', hrun, st, hv⟩ := plainOp_sound hs.rel hE hp
      unfold Oper.wp
      rcases hrun with hrun | ⟨hrun, rfl⟩
      · rw [hrun]
        exact hK r' _ w' _ (fun t => rfl) (hs.put st hv hdst (fun t => rfl)) st ⟨z, hv, rfl⟩
      · rw [hrun]
        exact hK r' _ w' _ (fun t => rfl) (hs.put st hv hdst (fun t => rfl)) st ⟨undef, hv, rfl⟩

theorem wantedV_sound {w0 : World} {nb n : Nat} {r : Emb} {T : Tm} {d : Ds} {h : H} {a : Act} {w : World} (hs : St P w0 nb n r T d h a w) {ops : Array Oper} {o : Oper} {b : Bool} (hw : wantedV ops.toList T o.guard = some b) :
    Region.wanted o (yielded ops a.tmps) = b := by
  unfold wantedV at hw
  unfold Region.wanted
  cases hg : o.guard with
  | none =>
    rw [hg] at hw
    simpa using hw
  | some p =>
    obtain ⟨j, want⟩ := p
    rw [hg] at hw
    simp only at hw
    split at hw
    · rename_i t ht
      split at hw
      · rename_i c hc
        simp only [Option.some.injEq] at hw
        have h1 := hs.tm t
        rw [hc] at h1
        have h2 : a.tmps.getD t undef = .bool c := by
          generalize a.tmps.getD t undef = x at h1
          cases h1; rfl
        have h3 : a.tmps[t]? = some (.bool c) := by
          rw [Array.getD_eq_getD_getElem?] at h2
          cases hx : a.tmps[t]? with
          | none => rw [hx] at h2; simp [undef] at h2
          | some x => rw [hx] at h2; simp at h2; rw [h2]
        have ht' : (ops[j]?).bind (·.dst) = some t := by rw [← Array.getElem?_toList]; exact ht
        have h4 : yielded ops a.tmps j = some c := by
          unfold yielded
          rw [ht']
          simp [h3]
        show (yielded ops a.tmps j == some want) = b
        rw [h4, ← hw]
        cases c <;> cases want <;> rfl
      · rename_i hc
        simp only [Option.some.injEq] at hw
        have h1 := hs.tm t
        rw [hc] at h1
        have h2 : ∃ xs, a.tmps.getD t undef = .tuple xs := by
          generalize a.tmps.getD t undef = x at h1
          cases h1; exact ⟨_, rfl⟩
        obtain ⟨xs, h2⟩ := h2
        have ht' : (ops[j]?).bind (·.dst) = some t := by rw [← Array.getElem?_toList]; exact ht
        have h4 : yielded ops a.tmps j = none := by
          unfold yielded
          rw [ht']
          rw [Array.getD_eq_getD_getElem?] at h2
          cases hx : a.tmps[t]? with
          | none => simp [hx]
          | some x => rw [hx] at h2; simp at h2; subst h2; simp [hx]
        show (yielded ops a.tmps j == some want) = b
        rw [h4, ← hw]
        rfl
      · simp at hw
    · simp at hw

theorem look_put (dst : Option Tmp) (v : V) (e : Env) (f : Fr) (t : Nat) : look (putE dst v e) f t = putT (look e f) dst v t := by
  cases dst with
  | none => rfl
  | some u =>
    show (bif Nat.beq u t then v else look e f t) = (if t = u then v else look e f t)
    cases h : Nat.beq u t
    · have : t ≠ u := fun e2 => by rw [e2] at h; simp at h
      simp [this]
    · have := Nat.eq_of_beq_eq_true h
      simp [this]

theorem evOps_sound {w0 : World} {nb n : Nat} {call : CallFn} (hcall : CallFnOk P w0 call) (hnn : NoNum P) {f : Fr} {ops : Array Oper} {Q : Exit → Act → World → Prop} :
    ∀ (rest : List Oper) (k : Nat) (e e' : Env) (d d' : Ds) (h h' : H) (r : Emb) (a : Act) (w : World), (∀ j, rest[j]? = ops[k + j]?) → rest.all (opOk n) = true → St P w0 nb n r (look e f) d h a w →
      evOps P call f ops.toList rest e d h = .ok e' d' h' →
      (∀ r' a' w', St P w0 nb n r' (look e' f) d' h' a' w' → Step r h w r' h' w' → Q .normal a' w') → wpOps P ops Q ((List.range rest.length).map (k + ·)) a w := by
  intro rest
  induction rest with
  | nil =>
    intro k e e' d d' h h' r a w _ _ hs he hQ
    simp only [evOps, RO.ok.injEq] at he
    obtain ⟨rfl, rfl, rfl⟩ := he
    exact hQ r a w hs (Step.refl hs.rel)
  | cons o rest ih =>
    intro k e e' d d' h h' r a w hops hok hs he hQ
    have h0 : ops[k]? = some o := by simpa using (hops 0).symm
    have hrest : ∀ j, rest[j]? = ops[k + 1 + j]? := fun j => by
      have := hops (j + 1)
      simpa [Nat.add_assoc, Nat.add_comm 1 j] using this
    simp only [List.all_cons, Bool.and_eq_true] at hok
    have hmap : (List.range (o :: rest).length).map (k + ·) = k :: (List.range rest.length).map (k + 1 + ·) := by
      rw [List.length_cons, List.range_succ_eq_map, List.map_cons, List.map_map]
      congr 1
      apply List.map_congr_left
      intro j _
      simp only [Function.comp]
      omega
    rw [hmap]
    simp only [wpOps, h0]
    simp only [evOps] at he
    split at he
    · rename_i hw
      rw [wantedV_sound hs hw]
      simp only [if_true]
      split at he
      · rename_i v d2 h2 h1
        refine .inl (oneOp_sound hcall hnn hs hok.1 h1 (fun r' a' w' T' hT hs' st _ => ?_))
        have e1 : T' = look (putE o.dst v e) f := funext fun t => by rw [hT t, look_put]
        rw [e1] at hs'
        exact ih (k + 1) _ e' d2 d' h2 h' r' a' w' hrest hok.2 hs' he (fun r2 a2 w2 hs2 st2 => hQ r2 a2 w2 hs2 (st.trans st2))
      · simp at he
    · rename_i hw
      rw [wantedV_sound hs hw]
      simp only [Bool.false_eq_true, if_false]
      have hdst : ∀ u, o.dst = some u → u < n := by
        intro u e2
        have := hok.1
        unfold opOk at this
        rw [e2] at this
        simpa [Nat.blt_eq] using this
      exact ih (k + 1) _ e' d d' h h' r _ w hrest hok.2 (hs.put (Step.refl hs.rel) (.tup .nil) hdst (fun t => look_put o.dst (.tup []) e f t)) he hQ
    · simp at he

end Go.Ev
