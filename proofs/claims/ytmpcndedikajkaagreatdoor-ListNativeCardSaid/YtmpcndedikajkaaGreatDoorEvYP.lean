/- A region that draws its order, its operations written in another order. No condition. -/
import Derived.Test.YtmpcndedikajkaaGreatDoorEvY
namespace Go.Ev

variable {P : Program}

structure PermOf (ops ops' : Array Oper) (π σ : List Nat) : Prop where
  size : ops'.size = ops.size
  pi : ∀ k, k < ops.size → π.getD k ops.size < ops.size ∧ σ.getD (π.getD k ops.size) ops.size = k
  si : ∀ k, k < ops.size → σ.getD k ops.size < ops.size ∧ π.getD (σ.getD k ops.size) ops.size = k
  at_ : ∀ (i : Nat) (o : Oper), ops[i]? = some o → ops'[σ.getD i ops.size]? = some (mapEdge σ o)
  edge : ∀ (i : Nat) (o : Oper), ops[i]? = some o → ∀ e ∈ o.after, e.on < ops.size
  guard : ∀ (i : Nat) (o : Oper), ops[i]? = some o → ∀ p, o.guard = some p → p.1 < ops.size
  len : σ.length = ops.size

theorem permOf_of {ops : Array Oper} {π σ : List Nat} (h : permOk ops.toList π σ = true) : PermOf ops (permL ops.toList π σ).toArray π σ := by
  unfold permOk at h
  simp only [Bool.and_eq_true, List.all_eq_true, List.mem_range, Nat.blt_eq] at h
  obtain ⟨⟨⟨h1, h2⟩, h3⟩, h4⟩ := h
  have h1' := Nat.eq_of_beq_eq_true h1
  have h2' := Nat.eq_of_beq_eq_true h2
  have hlen : ops.toList.length = ops.size := by simp
  rw [hlen] at h1' h2' h3
  have hp : ∀ k, k < ops.size → π.getD k ops.size < ops.size ∧ σ.getD (π.getD k ops.size) ops.size = k := fun k hk => ⟨(h3 k hk).1.1.1, Nat.eq_of_beq_eq_true (h3 k hk).1.1.2⟩
  have hs : ∀ k, k < ops.size → σ.getD k ops.size < ops.size ∧ π.getD (σ.getD k ops.size) ops.size = k := fun k hk => ⟨(h3 k hk).1.2, Nat.eq_of_beq_eq_true (h3 k hk).2⟩
  refine ⟨by simp [permL, h1'], hp, hs, fun i o ho => ?_, fun i o ho e he => ?_, fun i o ho p hg => ?_, h2'⟩
  · have hi : i < ops.size := (Array.getElem?_eq_some_iff.1 ho).1
    obtain ⟨g1, g2⟩ := hs i hi
    have hl : σ.getD i ops.size < π.length := by omega
    have e1 : π[σ.getD i ops.size] = i := by
      rw [List.getD_eq_getElem?_getD, List.getElem?_eq_getElem hl] at g2
      exact g2
    have e2 : ops.toList.getD i default = o := by
      rw [List.getD_eq_getElem?_getD, Array.getElem?_toList, ho]
      rfl
    rw [List.getElem?_toArray]
    unfold permL
    rw [List.getElem?_map, List.getElem?_eq_getElem hl, e1]
    show some (mapEdge σ (ops.toList.getD i default)) = _
    rw [e2]
  · have hm : o ∈ ops.toList := by
      rw [← Array.getElem?_toList] at ho
      exact List.mem_of_getElem? ho
    have := (h4 o hm).1 e (by simpa using he)
    omega
  · have hm : o ∈ ops.toList := by
      rw [← Array.getElem?_toList] at ho
      exact List.mem_of_getElem? ho
    have := (h4 o hm).2
    rw [hg] at this
    simp only [Nat.blt_eq] at this
    omega

theorem execOp_mapEdge (σ : List Nat) (ρ : Operand → Value) (o : Oper) : execOp ρ (mapEdge σ o) = execOp ρ o := by
  obtain ⟨dst, op, type, pos, after, guard⟩ := o
  cases op <;> rfl

section
variable {ops ops' : Array Oper} {π σ : List Nat} (hp : PermOf ops ops' π σ) {Q : Exit → Act → World → Prop}
include hp

theorem perm_lt {i : Nat} (h : i < ops.size) : σ.getD i 0 = σ.getD i ops.size := by
  have : i < σ.length := by rw [hp.len]; exact h
  rw [List.getD_eq_getElem?_getD, List.getD_eq_getElem?_getD, List.getElem?_eq_getElem this]
  rfl

theorem perm_yielded {j : Nat} (hj : j < ops.size) (tmps : Array Value) : yielded ops' tmps (σ.getD j 0) = yielded ops tmps j := by
  unfold yielded
  have ho : ops[j]? = some ops[j] := by simp
  rw [perm_lt hp hj, hp.at_ j _ ho, ho]
  rfl

theorem perm_wanted {i : Nat} {o : Oper} (ho : ops[i]? = some o) (tmps : Array Value) : Region.wanted (mapEdge σ o) (yielded ops' tmps) = Region.wanted o (yielded ops tmps) := by
  have hg := hp.guard i o ho
  unfold Region.wanted
  show (match o.guard.map (fun p => (σ.getD p.1 0, p.2)) with | none => true | some (j, w) => _) = _
  cases hgo : o.guard with
  | none => rfl
  | some p =>
    obtain ⟨j, b⟩ := p
    simp only [Option.map_some]
    rw [perm_yielded hp (hg _ hgo)]

theorem perm_wpOp {i : Nat} (hi : i < ops.size) {K : Act → World → Prop} {a : Act} {w : World} (h : wpOp P ops' Q (σ.getD i ops.size) K a w) : wpOp P ops Q i K a w := by
  have ho : ops[i]? = some ops[i] := by simp
  unfold wpOp at h ⊢
  rw [hp.at_ i _ ho] at h
  rw [ho]
  simp only at h ⊢
  rw [perm_wanted hp ho] at h
  have e1 : (mapEdge σ ops[i]).wp P a w K Q = (ops[i]).wp P a w K Q := by
    unfold Oper.wp
    rw [execOp_mapEdge]
    rfl
  have e2 : (mapEdge σ ops[i]).asks P a w = (ops[i]).asks P a w := by
    unfold Oper.asks
    rw [execOp_mapEdge]
  rw [e1, e2] at h
  exact h

theorem perm_ready {listed listed' : Array Bool} (h1 : listed.size = ops.size) (h2 : listed'.size = ops.size) (hl : ∀ i, i < ops.size → listed'.getD (σ.getD i ops.size) false = listed.getD i false) {i : Nat} (hi : i < ops.size) :
    σ.getD i ops.size ∈ Region.ready .any ops' listed' ↔ i ∈ Region.ready .any ops listed := by
  have ho : ops[i]? = some ops[i] := by simp
  have ho' := hp.at_ i _ ho
  have hs := (hp.si i hi).1
  have hv : ∀ (l : Array Bool) k, k < l.size → l.getD k true = l.getD k false := fun l k hk => by
    rw [Array.getD_eq_getD_getElem?, Array.getD_eq_getD_getElem?, Array.getElem?_eq_getElem hk]; rfl
  unfold Region.ready
  rw [List.mem_filter, List.mem_filter, List.mem_range, List.mem_range, ho', ho, hp.size]
  have e1 : listed'.getD (σ.getD i ops.size) true = listed.getD i true := by
    rw [hv _ _ (by omega), hv _ _ (by omega), hl i hi]
  rw [e1]
  have e2 : (mapEdge σ ops[i]).after.all (fun e => !Region.binds .any e || listed'.getD e.on false) = (ops[i]).after.all (fun e => !Region.binds .any e || listed.getD e.on false) := by
    show ((ops[i]).after.map fun e => { e with on := σ.getD e.on 0 }).all (fun e => !Region.binds .any e || listed'.getD e.on false) = _
    rw [Array.all_map]
    have hedge := hp.edge i _ ho
    rw [Bool.eq_iff_iff, Array.all_eq_true_iff_forall_mem, Array.all_eq_true_iff_forall_mem]
    constructor
    · intro h e he
      have h3 := h e he
      have e3 := hl e.on (hedge e he)
      rw [← perm_lt hp (hedge e he)] at e3
      rw [← e3]
      exact h3
    · intro h e he
      have h3 := h e he
      have e3 := hl e.on (hedge e he)
      rw [← perm_lt hp (hedge e he)] at e3
      rw [← e3] at h3
      exact h3
  simp only [Option.map_some, Option.getD_some]
  rw [e2]
  exact ⟨fun h => ⟨hi, h.2⟩, fun h => ⟨hs, h.2⟩⟩

theorem perm_any : ∀ (fuel : Nat) (listed listed' : Array Bool) (a : Act) (w : World), listed.size = ops.size → listed'.size = ops.size → (∀ i, i < ops.size → listed'.getD (σ.getD i ops.size) false = listed.getD i false) →
    wpAny P .any ops' Q fuel listed' a w → wpAny P .any ops Q fuel listed a w := by
  intro fuel
  have hnil : ∀ (listed listed' : Array Bool), listed.size = ops.size → listed'.size = ops.size → (∀ i, i < ops.size → listed'.getD (σ.getD i ops.size) false = listed.getD i false) →
      (Region.ready .any ops' listed' = [] ↔ Region.ready .any ops listed = []) := by
    intro listed listed' h1 h2 hl
    rw [List.eq_nil_iff_forall_not_mem, List.eq_nil_iff_forall_not_mem]
    constructor
    · intro h i hi
      have hlt : i < ops.size := by
        have := (List.mem_filter.1 hi).1
        simpa using this
      exact h _ ((perm_ready hp h1 h2 hl hlt).2 hi)
    · intro h i hi
      have hlt : i < ops.size := by
        have := (List.mem_filter.1 hi).1
        rw [hp.size] at this
        simpa using this
      obtain ⟨g1, g2⟩ := hp.pi i hlt
      rw [← g2] at hi
      exact h _ ((perm_ready hp h1 h2 hl g1).1 hi)
  induction fuel with
  | zero =>
    intro listed listed' a w h1 h2 hl h
    exact ⟨(hnil listed listed' h1 h2 hl).1 h.1, h.2⟩
  | succ fuel ih =>
    intro listed listed' a w h1 h2 hl h
    refine ⟨fun hr => h.1 ((hnil listed listed' h1 h2 hl).2 hr), fun i hi => ?_⟩
    have hlt : i < ops.size := by
      have := (List.mem_filter.1 hi).1
      simpa using this
    refine wpOp_mono ?_ (perm_wpOp hp hlt (h.2 _ ((perm_ready hp h1 h2 hl hlt).2 hi)))
    intro a w hk
    refine ih _ _ a w (by simp [h1]) (by simp [h2]) (fun k hk' => ?_) hk
    obtain ⟨g1, g2⟩ := hp.si i hlt
    obtain ⟨g3, g4⟩ := hp.si k hk'
    rw [Array.getD_eq_getD_getElem?, Array.getD_eq_getD_getElem?]
    by_cases e : i = k
    · subst e
      rw [Array.getElem?_setIfInBounds_self_of_lt (by omega), Array.getElem?_setIfInBounds_self_of_lt (by omega)]
    · have hne : σ.getD i ops.size ≠ σ.getD k ops.size := fun e2 => e (by rw [← g2, ← g4, e2])
      rw [Array.getElem?_setIfInBounds_ne hne, Array.getElem?_setIfInBounds_ne e]
      rw [← Array.getD_eq_getD_getElem?, ← Array.getD_eq_getD_getElem?]
      exact hl k hk'
end

end Go.Ev
