/- Regions that draw their order: whatever order is drawn, the same comes out; the evaluator is right. No condition. -/
import Derived.Test.YtmpcndedikajkaaGreatDoorEvX
namespace Go.Ev

variable {P : Program}

/-- With each effect all that stand before it are done. -/
def EC (L : List Oper) (S : Nat → Bool) : Prop := ∀ x y, x < y → effAt L x = true → effAt L y = true → S y = true → S x = true

section
variable {call : CallFn} {f : Fr} {L : List Oper} {tr : List Tr} {E : Nat → Env} {D : Nat → Ds} {M : Nat → H} {val : Nat → V} {W : Nat → Bool} (ht : Trail P call f L L tr E D M val W)
include ht

/-- From b to i without an effect: the same memory. -/
theorem mem_same {b : Nat} : ∀ i, b ≤ i → i ≤ L.length → (∀ x, b ≤ x → x < i → effAt L x = false) → M i = M b ∧ D i = D b := by
  intro i
  induction i with
  | zero => intro h _ _; have : b = 0 := by omega
            subst this; exact ⟨rfl, rfl⟩
  | succ i ih =>
    intro h1 h2 h3
    by_cases e : b = i + 1
    · subst e; exact ⟨rfl, rfl⟩
    · obtain ⟨g1, g2⟩ := ih (by omega) (by omega) (fun x a b => h3 x a (by omega))
      obtain ⟨k1, k2⟩ := noeff_mem ht (show i < L.length by omega) (h3 i (by omega) (by omega))
      exact ⟨k1.trans g1, k2.trans g2⟩

/-- If what is read is there at each effect from b to i, and at i, it is there at b. -/
theorem scan_back (R : H → Prop) {i : Nat} (hi : i ≤ L.length) (hR : R (M i)) : ∀ n b, b + n = i → (∀ x, b ≤ x → x < i → effAt L x = true → R (M x)) → R (M b) := by
  intro n
  induction n with
  | zero => intro b hb _; have : b = i := by omega
            subst this; exact hR
  | succ n ih =>
    intro b hb h
    cases he : effAt L b
    · rw [← (noeff_mem ht (show b < L.length by omega) he).1]
      exact ih (b + 1) (by omega) (fun x h1 h2 h3 => h x (by omega) h2 h3)
    · exact h b (Nat.le_refl _) (by omega) he

variable {S : Nat → Bool} {i : Nat} (hf : Facts L) (hc : Closed L S) (hr : Ready L S i)
include hf hc hr

omit hf hc in
/-- An effect that comes up finds the memory that it found in the text's order. -/
theorem eff_mem (hec : EC L S) (her : ∀ x, x < i → effAt L x = true → S x = true) (he : effAt L i = true) : M (lastOf L S L.length) = M i ∧ D (lastOf L S L.length) = D i := by
  have hb : lastOf L S L.length ≤ i := by
    rcases last_is L S L.length with h | ⟨y, h1, h2, h3, h4⟩
    · omega
    · by_cases hlt : i < y
      · have := hec i y hlt he h4 h3
        rw [hr.not] at this
        cases this
      · have : y ≠ i := fun e => by rw [e, hr.not] at h3; cases h3
        omega
  obtain ⟨h1, h2⟩ := mem_same ht i hb (Nat.le_of_lt hr.lt) (fun x hx1 hx2 => by
    cases hex : effAt L x
    · rfl
    · have hil := hr.lt
      have hxl : x < L.length := by omega
      have := last_above L S L.length x hxl (her x hx2 hex) hex
      omega)
  exact ⟨h1.symm, h2.symm⟩

omit ht hf hc in
theorem eff_last (hec : EC L S) (he : effAt L i = true) : lastOf L (fun k => Nat.beq k i || S k) L.length = i + 1 := by
  have h1 := last_above L (fun k => Nat.beq k i || S k) L.length i hr.lt (by simp) he
  rcases last_is L (fun k => Nat.beq k i || S k) L.length with h | ⟨y, h2, h3, h4, h5⟩
  · omega
  · by_cases e : y = i
    · omega
    · have hlt : i < y := by omega
      have hb : Nat.beq y i = false := by
        cases hb : Nat.beq y i
        · rfl
        · exact absurd (Nat.eq_of_beq_eq_true hb) e
      have hs : S y = true := by simpa [hb] using h4
      have := hec i y hlt he h5 hs
      rw [hr.not] at this
      cases this

omit ht hf hc hr in
theorem noeff_last (he : effAt L i = false) : lastOf L (fun k => Nat.beq k i || S k) L.length = lastOf L S L.length := by
  apply last_same
  intro x _ hx
  have : x ≠ i := fun e => by rw [e, he] at hx; cases hx
  have hb : Nat.beq x i = false := by
    cases hb : Nat.beq x i
    · rfl
    · exact absurd (Nat.eq_of_beq_eq_true hb) this
  simp [hb]

/-- A read that comes up yields what it yielded in the text's order. -/
theorem read_mem (R : H → Prop) (hR : R (M i)) (hask : ∀ x, x < L.length → effAt L x = true → ahead (masks L []) i x = false → ahead (masks L []) x i = false → R (M x) ∧ R (M (x + 1))) :
    R (M (lastOf L S L.length)) := by
  have hbetween : ∀ b, b = lastOf L S L.length → b ≤ i → R (M b) := by
    intro b hb hle
    refine scan_back ht R (Nat.le_of_lt hr.lt) hR (i - b) b (by omega) (fun x h1 h2 h3 => ?_)
    have hxl : x < L.length := by have := hr.lt; omega
    refine (hask x hxl h3 ?_ ?_).1
    · cases h : ahead (masks L []) i x
      · rfl
      · have := ahead_lt hf x i h; omega
    · cases h : ahead (masks L []) x i
      · rfl
      · have := last_above L S L.length x hxl (hr.before x h) h3
        omega
  rcases last_is L S L.length with h | ⟨y, h1, h2, h3, h4⟩
  · exact hbetween _ rfl (by omega)
  · by_cases hlt : y < i
    · exact hbetween _ rfl (by omega)
    · have hne : y ≠ i := fun e => by rw [e, hr.not] at h3; cases h3
      rw [h1]
      refine (hask y h2 h4 (not_behind hc hr h3) ?_).2
      cases h : ahead (masks L []) y i
      · rfl
      · have := ahead_lt hf i y h; omega
end

theorem pairs_mem {ops : List Oper} {i x : Nat} {o q : Oper} (hi : ops[i]? = some o) (hx : ops[x]? = some q) (hr : isRead o.op = true) (he : isEff q.op = true) (h1 : ahead (masks ops []) i x = false) (h2 : ahead (masks ops []) x i = false) : (i, x) ∈ pairs ops := by
  have hil : i < ops.length := (List.getElem?_eq_some_iff.1 hi).1
  have hxl : x < ops.length := (List.getElem?_eq_some_iff.1 hx).1
  unfold pairs
  simp only [List.mem_flatMap, List.mem_range]
  refine ⟨i, hil, ?_⟩
  rw [hi]
  simp only [hr, cond_true, List.mem_filterMap, List.mem_range]
  refine ⟨x, hxl, ?_⟩
  rw [hx]
  simp [he, h1, h2]

theorem askPairs_mem {f : Fr} {ops : List Oper} {tr : List Tr} : ∀ {ps : List (Nat × Nat)}, askPairs P f ops tr ps = true → ∀ p ∈ ps, askPair P f ops tr p = true
  | [], _, p, hp => by cases hp
  | q :: ps, h, p, hp => by
    unfold askPairs at h
    cases hq : askPair P f ops tr q
    · rw [hq] at h; cases h
    · rw [hq] at h
      rcases List.mem_cons.1 hp with rfl | hp
      · exact hq
      · exact askPairs_mem h p hp

end Go.Ev
