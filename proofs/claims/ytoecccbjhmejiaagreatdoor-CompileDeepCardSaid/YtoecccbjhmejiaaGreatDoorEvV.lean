/- Regions that draw their order: what an operation hangs on. No condition. -/
import Derived.Test.YtoecccbjhmejiaaGreatDoorEvU
namespace Go.Ev

variable {P : Program}

theorem map_parts_congr {E E' : Operand → V} {l : List (Nat × Operand)} (h : ∀ p ∈ l, E p.2 = E' p.2) : (l.map fun (i, x) => (i, E x)) = l.map fun (i, x) => (i, E' x) := by
  apply List.map_congr_left
  intro p hp
  obtain ⟨i, x⟩ := p
  show (i, E x) = (i, E' x)
  rw [h (i, x) hp]

theorem valOp_congr {h : H} {E E' : Operand → V} {op : Op} (hE : ∀ x ∈ op.operands.toList, E x = E' x) : valOp P h E op = valOp P h E' op := by
  unfold valOp
  split <;> simp only [Op.operands] at hE
  · rw [hE _ (by simp)]
  · rw [hE _ (by simp)]
  · rename_i c a b
    rw [hE c (by simp), hE a (by simp), hE b (by simp)]
  · rw [hE _ (by simp)]
  · rename_i o t x y yt
    unfold binX
    rw [hE x (by simp), hE y (by simp)]
  · rw [hE _ (by simp)]
  · rw [hE _ (by simp)]
  · rw [hE _ (by simp)]
  · rw [hE _ (by simp)]
  · rename_i f first captured
    have h1 : first.toList.map E = first.toList.map E' := List.map_congr_left fun x hx => hE x (by simp at hx ⊢; exact .inl hx)
    have h2 : captured.toList.map E = captured.toList.map E' := List.map_congr_left fun x hx => hE x (by simp at hx ⊢; exact .inr hx)
    rw [h1, h2]
  · rename_i t x lo hi
    have h1 : lo.map E = lo.map E' := by
      cases lo with
      | none => rfl
      | some y => simp only [Option.map_some]; rw [hE y (by simp)]
    have h2 : hi.map E = hi.map E' := by
      cases hi with
      | none => rfl
      | some y => simp only [Option.map_some]; rw [hE y (by simp)]
    rw [hE x (by simp), h1, h2]
  · rw [hE _ (by simp)]
  · rw [hE _ (by simp)]
  · rename_i t x i
    rw [hE x (by simp), hE i (by simp)]
  · rename_i t x i
    rw [hE x (by simp), hE i (by simp)]
  · rw [hE _ (by simp)]
  · rename_i t parts
    rw [map_parts_congr (fun p hp => hE p.2 (by simp; exact ⟨p.1, by simpa using hp⟩))]
  · rw [hE _ (by simp)]
  · rename_i t x i ok
    rw [hE x (by simp), hE i (by simp)]
  · rename_i b args ts
    have h1 : args.toList.map E = args.toList.map E' := List.map_congr_left fun x hx => hE x (by simp [Call.operands] at hx ⊢; exact hx)
    rw [h1]
  · rfl

theorem memOp_congr {h : H} {E E' : Operand → V} {op : Op} (hE : ∀ x ∈ op.operands.toList, E x = E' x) : memOp P h E op = memOp P h E' op := by
  unfold memOp
  split <;> simp only [Op.operands] at hE
  · rfl
  · rw [hE _ (by simp)]
  · rename_i t len parts
    rw [map_parts_congr (fun p hp => hE p.2 (by simp; exact ⟨p.1, by simpa using hp⟩))]
  · rename_i t l c
    rw [hE l (by simp), hE c (by simp)]
  · rename_i t x y
    rw [hE x (by simp), hE y (by simp)]
  · rename_i args ts
    split
    · rename_i x y t tx ha ht
      rw [hE x (by simp [Call.operands]; have : x ∈ args.toList := by rw [ha]; simp
                   simpa using this), hE y (by simp [Call.operands]; have : y ∈ args.toList := by rw [ha]; simp
                                               simpa using this)]
    · rfl
  · rfl
  · rename_i t m k x
    rw [hE m (by simp), hE k (by simp), hE x (by simp)]
  · rename_i t m k x
    rw [hE m (by simp), hE k (by simp), hE x (by simp)]
  · rfl

theorem evO_congr {T T' : Tm} {x : Operand} (h : ∀ t, x = .tmp t → T t = T' t) : evO P T x = evO P T' x := by
  cases x with
  | tmp t => exact h t rfl
  | const v => rfl
  | global g => rfl
  | func f => rfl

theorem newOf_congr {T T' : Tm} {op : Op} (hT : ∀ t, Operand.tmp t ∈ op.operands.toList → T t = T' t) : newOf P (evO P T) op = newOf P (evO P T') op := by
  have hE : ∀ x ∈ op.operands.toList, evO P T x = evO P T' x := fun x hx => evO_congr fun t e => hT t (e ▸ hx)
  unfold newOf
  split <;> simp only [Op.operands] at hE
  · rfl
  · rename_i t len parts
    rw [map_parts_congr (fun p hp => hE p.2 (by simp; exact ⟨p.1, by simpa using hp⟩))]
  · rename_i t x y
    rw [hE x (by simp), hE y (by simp)]
  · rfl

theorem oneOp_congr {call : CallFn} {T T' : Tm} {d : Ds} {h : H} {op : Op} (hT : ∀ t, Operand.tmp t ∈ op.operands.toList → T t = T' t) : oneOp P call op T d h = oneOp P call op T' d h := by
  have hE : ∀ x ∈ op.operands.toList, evO P T x = evO P T' x := fun x hx => evO_congr fun t e => hT t (e ▸ hx)
  unfold oneOp
  split
  · rename_i x args tys
    simp only [Op.operands, Call.operands] at hE
    have h1 : args.toList.map (evO P T) = args.toList.map (evO P T') := List.map_congr_left fun y hy => hE y (by simp at hy ⊢; exact .inr hy)
    unfold callOp
    rw [hE x (by simp), h1]
  · rename_i x name args tys
    simp only [Op.operands, Call.operands] at hE
    have h1 : args.toList.map (evO P T) = args.toList.map (evO P T') := List.map_congr_left fun y hy => hE y (by simp at hy ⊢; exact .inr hy)
    rw [hE x (by simp), h1]
  · rename_i x args tys
    simp only [Op.operands, Call.operands] at hE
    have h1 : args.toList.map (evO P T) = args.toList.map (evO P T') := List.map_congr_left fun y hy => hE y (by simp at hy ⊢; exact .inr hy)
    rw [hE x (by simp), h1]
  · unfold plainOp
    rw [memOp_congr hE, valOp_congr hE]

/-- An operation that does not read hangs on no memory. -/
theorem valOp_heap {h h' : H} {E : Operand → V} {op : Op} (hr : isRead op = false) : valOp P h E op = valOp P h' E op := by
  unfold valOp
  split <;> first
    | rfl
    | skip
  · rename_i o t x y yt
    unfold binX
    split
    · rfl
    unfold binV
    cases o <;> first
      | (simp [isRead] at hr; done)
      | rfl
  · simp [isRead] at hr
  · simp [isRead] at hr
  · simp [isRead] at hr
  · rename_i b args argTypes
    unfold builtinV
    generalize argTypes.toList = ts
    generalize args.toList.map E = xs
    have key : ∀ (b : Builtin), b ≠ .len → builtinV P h b ts xs = builtinV P h' b ts xs := by
      intro b hb
      unfold builtinV
      split
      · exact absurd rfl hb
      · rfl
      · rfl
      · rfl
    refine key b (fun e => ?_)
    subst e
    simp [isRead] at hr

/-- An operation without effect, at any memory. -/
theorem oneOp_noeff {call : CallFn} {T : Tm} {d : Ds} {h : H} {op : Op} (he : isEff op = false) : oneOp P call op T d h = (valOp P h (evO P T) op).map fun v => (v, d, h) := by
  unfold oneOp
  split
  · simp [isEff] at he
  · simp [isEff] at he
  · simp [isEff] at he
  · rename_i h1 h2 h3
    have hm : isMem op = false := by
      unfold isEff at he
      split at he
      · cases he
      · cases he
      · cases he
      · exact he
    unfold plainOp
    rw [hm]
    cases valOp P h (evO P T) op <;> rfl

end Go.Ev
