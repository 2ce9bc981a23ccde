/- Regions that draw their order: whatever order is drawn, the same comes out; the evaluator is right. No condition. -/
import Derived.Test.YtoecccbjhmejiaaGreatDoorEvX
namespace Go.Ev

variable {P : Program}

/-- With each effect all that stand before it are done. -/
def EC (L : List Oper) (S : Nat → Bool) : Prop := ∀ x y, x < y → effAt L x = true → effAt L y = true → S y = true → S x = true

section
variable {call : CallFn} {f : Fr} {L : List Oper} {tr : List Tr} {E : Nat → Env} {D : Nat → Ds} {M : Nat → H} {val : Nat → V} {W : Nat → Bool} (ht : Trail P call f L L tr E D M val W)
include ht

/-- From b to i without an effect: the same memory. -/
theorem mem_same {b : Nat} : ∀ i, b ≤ i → i ≤ L.length → (∀ x, b ≤ x → x < i → effAt L x = false) → M i = M b ∧ D i = D b := by
  intro i
  induction i with
  | zero => intro h _ _; have : b = 0 := by omega
            subst this; exact ⟨rfl, rfl⟩
  | succ i ih =>
    intro h1 h2 h3
    by_cases e : b = i + 1
    · subst e; exact ⟨rfl, rfl⟩
    · obtain ⟨g1, g2⟩ := ih (by omega) (by omega) (fun x a b => h3 x a (by omega))
      obtain ⟨k1, k2⟩ := noeff_mem ht (show i < L.length by omega) (h3 i (by omega) (by omega))
      exact ⟨k1.trans g1, k2.trans g2⟩

/-- If what is read is there at each effect from b to i, and at i, it is there at b. -/
theorem scan_back (R : H → Prop) {i : Nat} (hi : i ≤ L.length) (hR : R (M i)) : ∀ n b, b + n = i → (∀ x, b ≤ x → x < i → effAt L x = true → R (M x)) → R (M b) := by
  intro n
  induction n with
  | zero => intro b hb _; have : b = i := by omega
            subst this; exact hR
  | succ n ih =>
    intro b hb h
    cases he : effAt L b
    · rw [← (noeff_mem ht (show b < L.length by omega) he).1]
      exact ih (b + 1) (by omega) (fun x h1 h2 h3 => h x (by omega) h2 h3)
    · exact h b (Nat.le_refl _) (by omega) he

variable {S : Nat → Bool} {i : Nat} (hf : Facts L) (hc : Closed L S) (hr : Ready L S i)
include hf hc hr

omit hf hc in
/-- An effect that comes up finds the memory that it found in the text's order. -/
theorem eff_mem (hec : EC L S) (her : ∀ x, x < i → effAt L x = true → S x = true) (he : effAt L i = true) : M (lastOf L S L.length) = M i ∧ D (lastOf L S L.length) = D i := by
  have hb : lastOf L S L.length ≤ i := by
    rcases last_is L S L.length with h | ⟨y, h1, h2, h3, h4⟩
    · omega
    · by_cases hlt : i < y
      · have := hec i y hlt he h4 h3
        rw [hr.not] at this
        cases this
      · have : y ≠ i := fun e => by rw [e, hr.not] at h3; cases h3
        omega
  obtain ⟨h1, h2⟩ := mem_same ht i hb (Nat.le_of_lt hr.lt) (fun x hx1 hx2 => by
    cases hex : effAt L x
    · rfl
    · have hil := hr.lt
      have hxl : x < L.length := by omega
      have := last_above L S L.length x hxl (her x hx2 hex) hex
      omega)
  exact ⟨h1.symm, h2.symm⟩

omit ht hf hc in
theorem eff_last (hec : EC L S) (he : effAt L i = true) : lastOf L (fun k => Nat.beq k i || S k) L.length = i + 1 := by
  have h1 := last_above L (fun k => Nat.beq k i || S k) L.length i hr.lt (by simp) he
  rcases last_is L (fun k => Nat.beq k i || S k) L.length with h | ⟨y, h2, h3, h4, h5⟩
  · omega
  · by_cases e : y = i
    · omega
    · have hlt : i < y := by omega
      have hb : Nat.beq y i = false := by
        cases hb : Nat.beq y i
        · rfl
        · exact absurd (Nat.eq_of_beq_eq_true hb) e
      have hs : S y = true := by simpa [hb] using h4
      have := hec i y hlt he h5 hs
      rw [hr.not] at this
      cases this

omit ht hf hc hr in
theorem noeff_last (he : effAt L i = false) : lastOf L (fun k => Nat.beq k i || S k) L.length = lastOf L S L.length := by
  apply last_same
  intro x _ hx
  have : x ≠ i := fun e => by rw [e, he] at hx; cases hx
  have hb : Nat.beq x i = false := by
    cases hb : Nat.beq x i
    · rfl
    · exact absurd (Nat.eq_of_beq_eq_true hb) this
  simp [hb]

/-- A read that comes up yields what it yielded in the text's order. -/
theorem read_mem (R : H → Prop) (hR : R (M i)) (hask : ∀ x, x < L.length → effAt L x = true → ahead (masks L []) i x = false → ahead (masks L []) x i = false → R (M x) ∧ R (M (x + 1))) :
    R (M (lastOf L S L.length)) := by
  have hbetween : ∀ b, b = lastOf L S L.length → b ≤ i → R (M b) := by
    intro b hb hle
    refine scan_back ht R (Nat.le_of_lt hr.lt) hR (i - b) b (by omega) (fun x h1 h2 h3 => ?_)
    have hxl : x < L.length := by have := hr.lt; omega
    refine (hask x hxl h3 ?_ ?_).1
    · cases h : ahead (masks L []) i x
      · rfl
      · have := ahead_lt hf x i h; omega
    · cases h : ahead (masks L []) x i
      · rfl
      · have := last_above L S L.length x hxl (hr.before x h) h3
        omega
  rcases last_is L S L.length with h | ⟨y, h1, h2, h3, h4⟩
  · exact hbetween _ rfl (by omega)
  · by_cases hlt : y < i
    · exact hbetween _ rfl (by omega)
    · have hne : y ≠ i := fun e => by rw [e, hr.not] at h3; cases h3
      rw [h1]
      refine (hask y h2 h4 (not_behind hc hr h3) ?_).2
      cases h : ahead (masks L []) y i
      · rfl
      · have := ahead_lt hf i y h; omega
end

theorem pairs_mem {ops : List Oper} {i x : Nat} {o q : Oper} (hi : ops[i]? = some o) (hx : ops[x]? = some q) (hr : isRead o.op = true) (he : isEff q.op = true) (h1 : ahead (masks ops []) i x = false) (h2 : ahead (masks ops []) x i = false) : (i, x) ∈ pairs ops := by
  have hil : i < ops.length := (List.getElem?_eq_some_iff.1 hi).1
  have hxl : x < ops.length := (List.getElem?_eq_some_iff.1 hx).1
  unfold pairs
  simp only [List.mem_flatMap, List.mem_range]
  refine ⟨i, hil, ?_⟩
  rw [hi]
  simp only [hr, cond_true, List.mem_filterMap, List.mem_range]
  refine ⟨x, hxl, ?_⟩
  rw [hx]
  simp [he, h1, h2]

theorem askPairs_mem {f : Fr} {ops : List Oper} {tr : List Tr} : ∀ {ps : List (Nat × Nat)}, askPairs P f ops tr ps = true → ∀ p ∈ ps, askPair P f ops tr p = true
  | [], _, p, hp => by cases hp
  | q :: ps, h, p, hp => by
    unfold askPairs at h
    cases hq : askPair P f ops tr q
    · rw [hq] at h; cases h
    · rw [hq] at h
      rcases List.mem_cons.1 hp with rfl | hp
      · exact hq
      · exact askPairs_mem h p hp

/-! The same operations, written in another order. -/
structure PermOf (ops ops' : Array Oper) (π σ : List Nat) : Prop where
  size : ops'.size = ops.size
  pi : ∀ k, k < ops.size → π.getD k ops.size < ops.size ∧ σ.getD (π.getD k ops.size) ops.size = k
  si : ∀ k, k < ops.size → σ.getD k ops.size < ops.size ∧ π.getD (σ.getD k ops.size) ops.size = k
  at_ : ∀ (i : Nat) (o : Oper), ops[i]? = some o → ops'[σ.getD i ops.size]? = some (mapEdge σ o)
  edge : ∀ (i : Nat) (o : Oper), ops[i]? = some o → ∀ e ∈ o.after, e.on < ops.size
  guard : ∀ (i : Nat) (o : Oper), ops[i]? = some o → ∀ p, o.guard = some p → p.1 < ops.size
  len : σ.length = ops.size

theorem permOf_of {ops : Array Oper} {π σ : List Nat} (h : permOk ops.toList π σ = true) : PermOf ops (permL ops.toList π σ).toArray π σ := by
  unfold permOk at h
  simp only [Bool.and_eq_true, List.all_eq_true, List.mem_range, Nat.blt_eq] at h
  obtain ⟨⟨⟨h1, h2⟩, h3⟩, h4⟩ := h
  have h1' := Nat.eq_of_beq_eq_true h1
  have h2' := Nat.eq_of_beq_eq_true h2
  have hlen : ops.toList.length = ops.size := by simp
  rw [hlen] at h1' h2' h3
  have hp : ∀ k, k < ops.size → π.getD k ops.size < ops.size ∧ σ.getD (π.getD k ops.size) ops.size = k := fun k hk => ⟨(h3 k hk).1.1.1, Nat.eq_of_beq_eq_true (h3 k hk).1.1.2⟩
  have hs : ∀ k, k < ops.size → σ.getD k ops.size < ops.size ∧ π.getD (σ.getD k ops.size) ops.size = k := fun k hk => ⟨(h3 k hk).1.2, Nat.eq_of_beq_eq_true (h3 k hk).2⟩
  refine ⟨by simp [permL, h1'], hp, hs, fun i o ho => ?_, fun i o ho e he => ?_, fun i o ho p hg => ?_, h2'⟩
  · have hi : i < ops.size := (Array.getElem?_eq_some_iff.1 ho).1
    obtain ⟨g1, g2⟩ := hs i hi
    have hl : σ.getD i ops.size < π.length := by omega
    have e1 : π[σ.getD i ops.size] = i := by
      rw [List.getD_eq_getElem?_getD, List.getElem?_eq_getElem hl] at g2
      exact g2
    have e2 : ops.toList.getD i default = o := by
      rw [List.getD_eq_getElem?_getD, Array.getElem?_toList, ho]
      rfl
    rw [List.getElem?_toArray]
    unfold permL
    rw [List.getElem?_map, List.getElem?_eq_getElem hl, e1]
    show some (mapEdge σ (ops.toList.getD i default)) = _
    rw [e2]
  · have hm : o ∈ ops.toList := by
      rw [← Array.getElem?_toList] at ho
      exact List.mem_of_getElem? ho
    have := (h4 o hm).1 e (by simpa using he)
    omega
  · have hm : o ∈ ops.toList := by
      rw [← Array.getElem?_toList] at ho
      exact List.mem_of_getElem? ho
    have := (h4 o hm).2
    rw [hg] at this
    simp only [Nat.blt_eq] at this
    omega

theorem execOp_mapEdge (σ : List Nat) (ρ : Operand → Value) (o : Oper) : execOp ρ (mapEdge σ o) = execOp ρ o := by
  obtain ⟨dst, op, type, pos, after, guard⟩ := o
  cases op <;> rfl

section
variable {ops ops' : Array Oper} {π σ : List Nat} (hp : PermOf ops ops' π σ) {Q : Exit → Act → World → Prop}
include hp

theorem perm_lt {i : Nat} (h : i < ops.size) : σ.getD i 0 = σ.getD i ops.size := by
  have : i < σ.length := by rw [hp.len]; exact h
  rw [List.getD_eq_getElem?_getD, List.getD_eq_getElem?_getD, List.getElem?_eq_getElem this]
  rfl

theorem perm_yielded {j : Nat} (hj : j < ops.size) (tmps : Array Value) : yielded ops' tmps (σ.getD j 0) = yielded ops tmps j := by
  unfold yielded
  have ho : ops[j]? = some ops[j] := by simp
  rw [perm_lt hp hj, hp.at_ j _ ho, ho]
  rfl

theorem perm_wanted {i : Nat} {o : Oper} (ho : ops[i]? = some o) (tmps : Array Value) : Region.wanted (mapEdge σ o) (yielded ops' tmps) = Region.wanted o (yielded ops tmps) := by
  have hg := hp.guard i o ho
  unfold Region.wanted
  show (match o.guard.map (fun p => (σ.getD p.1 0, p.2)) with | none => true | some (j, w) => _) = _
  cases hgo : o.guard with
  | none => rfl
  | some p =>
    obtain ⟨j, b⟩ := p
    simp only [Option.map_some]
    rw [perm_yielded hp (hg _ hgo)]

theorem perm_wpOp {i : Nat} (hi : i < ops.size) {K : Act → World → Prop} {a : Act} {w : World} (h : wpOp P ops' Q (σ.getD i ops.size) K a w) : wpOp P ops Q i K a w := by
  have ho : ops[i]? = some ops[i] := by simp
  unfold wpOp at h ⊢
  rw [hp.at_ i _ ho] at h
  rw [ho]
  simp only at h ⊢
  rw [perm_wanted hp ho] at h
  have e1 : (mapEdge σ ops[i]).wp P a w K Q = (ops[i]).wp P a w K Q := by
    unfold Oper.wp
    rw [execOp_mapEdge]
    rfl
  have e2 : (mapEdge σ ops[i]).asks P a w = (ops[i]).asks P a w := by
    unfold Oper.asks
    rw [execOp_mapEdge]
  rw [e1, e2] at h
  exact h

theorem perm_ready {listed listed' : Array Bool} (h1 : listed.size = ops.size) (h2 : listed'.size = ops.size) (hl : ∀ i, i < ops.size → listed'.getD (σ.getD i ops.size) false = listed.getD i false) {i : Nat} (hi : i < ops.size) :
    σ.getD i ops.size ∈ Region.ready .any ops' listed' ↔ i ∈ Region.ready .any ops listed := by
  have ho : ops[i]? = some ops[i] := by simp
  have ho' := hp.at_ i _ ho
  have hs := (hp.si i hi).1
  have hv : ∀ (l : Array Bool) k, k < l.size → l.getD k true = l.getD k false := fun l k hk => by
    rw [Array.getD_eq_getD_getElem?, Array.getD_eq_getD_getElem?, Array.getElem?_eq_getElem hk]; rfl
  unfold Region.ready
  rw [List.mem_filter, List.mem_filter, List.mem_range, List.mem_range, ho', ho, hp.size]
  have e1 : listed'.getD (σ.getD i ops.size) true = listed.getD i true := by
    rw [hv _ _ (by omega), hv _ _ (by omega), hl i hi]
  rw [e1]
  have e2 : (mapEdge σ ops[i]).after.all (fun e => !Region.binds .any e || listed'.getD e.on false) = (ops[i]).after.all (fun e => !Region.binds .any e || listed.getD e.on false) := by
    show ((ops[i]).after.map fun e => { e with on := σ.getD e.on 0 }).all (fun e => !Region.binds .any e || listed'.getD e.on false) = _
    rw [Array.all_map]
    have hedge := hp.edge i _ ho
    rw [Bool.eq_iff_iff, Array.all_eq_true_iff_forall_mem, Array.all_eq_true_iff_forall_mem]
    constructor
    · intro h e he
      have h3 := h e he
      have e3 := hl e.on (hedge e he)
      rw [← perm_lt hp (hedge e he)] at e3
      rw [← e3]
      exact h3
    · intro h e he
      have h3 := h e he
      have e3 := hl e.on (hedge e he)
      rw [← perm_lt hp (hedge e he)] at e3
      rw [← e3] at h3
      exact h3
  simp only [Option.map_some, Option.getD_some]
  rw [e2]
  exact ⟨fun h => ⟨hi, h.2⟩, fun h => ⟨hs, h.2⟩⟩

theorem perm_any : ∀ (fuel : Nat) (listed listed' : Array Bool) (a : Act) (w : World), listed.size = ops.size → listed'.size = ops.size → (∀ i, i < ops.size → listed'.getD (σ.getD i ops.size) false = listed.getD i false) →
    wpAny P .any ops' Q fuel listed' a w → wpAny P .any ops Q fuel listed a w := by
  intro fuel
  have hnil : ∀ (listed listed' : Array Bool), listed.size = ops.size → listed'.size = ops.size → (∀ i, i < ops.size → listed'.getD (σ.getD i ops.size) false = listed.getD i false) →
      (Region.ready .any ops' listed' = [] ↔ Region.ready .any ops listed = []) := by
    intro listed listed' h1 h2 hl
    rw [List.eq_nil_iff_forall_not_mem, List.eq_nil_iff_forall_not_mem]
    constructor
    · intro h i hi
      have hlt : i < ops.size := by
        have := (List.mem_filter.1 hi).1
        simpa using this
      exact h _ ((perm_ready hp h1 h2 hl hlt).2 hi)
    · intro h i hi
      have hlt : i < ops.size := by
        have := (List.mem_filter.1 hi).1
        rw [hp.size] at this
        simpa using this
      obtain ⟨g1, g2⟩ := hp.pi i hlt
      rw [← g2] at hi
      exact h _ ((perm_ready hp h1 h2 hl g1).1 hi)
  induction fuel with
  | zero =>
    intro listed listed' a w h1 h2 hl h
    exact ⟨(hnil listed listed' h1 h2 hl).1 h.1, h.2⟩
  | succ fuel ih =>
    intro listed listed' a w h1 h2 hl h
    refine ⟨fun hr => h.1 ((hnil listed listed' h1 h2 hl).2 hr), fun i hi => ?_⟩
    have hlt : i < ops.size := by
      have := (List.mem_filter.1 hi).1
      simpa using this
    refine wpOp_mono ?_ (perm_wpOp hp hlt (h.2 _ ((perm_ready hp h1 h2 hl hlt).2 hi)))
    intro a w hk
    refine ih _ _ a w (by simp [h1]) (by simp [h2]) (fun k hk' => ?_) hk
    obtain ⟨g1, g2⟩ := hp.si i hlt
    obtain ⟨g3, g4⟩ := hp.si k hk'
    rw [Array.getD_eq_getD_getElem?, Array.getD_eq_getD_getElem?]
    by_cases e : i = k
    · subst e
      rw [Array.getElem?_setIfInBounds_self_of_lt (by omega), Array.getElem?_setIfInBounds_self_of_lt (by omega)]
    · have hne : σ.getD i ops.size ≠ σ.getD k ops.size := fun e2 => e (by rw [← g2, ← g4, e2])
      rw [Array.getElem?_setIfInBounds_ne hne, Array.getElem?_setIfInBounds_ne e]
      rw [← Array.getD_eq_getD_getElem?, ← Array.getD_eq_getD_getElem?]
      exact hl k hk'
end

end Go.Ev
