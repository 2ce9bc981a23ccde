/- Regions that draw their order: the facts of their text. No condition. -/
import Derived.Test.YtoecccbjhmejiaaGreatDoorEvT
import Derived.Still
namespace Go.Ev

variable {P : Program}

/-! ### What stands ahead of what -/
theorem masks_prefix : ∀ (rest : List Oper) (acc : List Nat) (j : Nat), j < acc.length → (masks rest acc)[j]? = acc[j]?
  | [], _, _, _ => rfl
  | o :: rest, acc, j, h => by
    rw [masks, masks_prefix rest _ j (by simp; omega), List.getElem?_append_left h]

theorem masks_length : ∀ (rest : List Oper) (acc : List Nat), (masks rest acc).length = acc.length + rest.length
  | [], _ => rfl
  | o :: rest, acc => by rw [masks, masks_length]; simp; omega

theorem masks_get : ∀ (rest : List Oper) (acc : List Nat) (k : Nat) (o : Oper), rest[k]? = some o → ∃ acc', (masks rest acc)[acc.length + k]? = some (maskOf acc' o) ∧ ∀ j, acc'[j]? = if j < acc.length + k then (masks rest acc)[j]? else none
  | [], _, _, _, h => by simp at h
  | q :: rest, acc, 0, o, h => by
    simp only [List.getElem?_cons_zero, Option.some.injEq] at h
    subst h
    refine ⟨acc, ?_, fun j => ?_⟩
    · rw [masks, masks_prefix rest _ _ (by simp)]
      simp
    · rw [masks, Nat.add_zero]
      by_cases hj : j < acc.length
      · rw [if_pos hj, masks_prefix rest _ j (by simp; omega), List.getElem?_append_left hj]
      · rw [if_neg hj, List.getElem?_eq_none (by omega)]
  | q :: rest, acc, k + 1, o, h => by
    obtain ⟨acc', h1, h2⟩ := masks_get rest (acc ++ [maskOf acc q]) k o (by simpa using h)
    simp only [List.length_append, List.length_cons, List.length_nil] at h1 h2
    refine ⟨acc', ?_, fun j => ?_⟩
    · rw [masks, show acc.length + (k + 1) = acc.length + 0 + 1 + k by omega]; exact h1
    · rw [masks, h2 j, show acc.length + (k + 1) = acc.length + 0 + 1 + k by omega]

theorem maskOf_bit (acc : List Nat) (o : Oper) (i : Nat) (h : (maskOf acc o).testBit i = true) : ∃ e ∈ o.after.toList, Region.binds .any e = true ∧ (i = e.on ∨ (acc.getD e.on 0).testBit i = true) := by
  unfold maskOf at h
  have key : ∀ (l : List Edge) (s : Nat), (l.foldl (fun s e => if Region.binds .any e then s ||| 2 ^ e.on ||| acc.getD e.on 0 else s) s).testBit i = true →
      s.testBit i = true ∨ ∃ e ∈ l, Region.binds .any e = true ∧ (i = e.on ∨ (acc.getD e.on 0).testBit i = true) := by
    intro l
    induction l with
    | nil => intro s hs; exact .inl hs
    | cons e l ih =>
      intro s hs
      simp only [List.foldl_cons] at hs
      rcases ih _ hs with h1 | ⟨e', he, hb, hx⟩
      · by_cases hb : Region.binds .any e = true
        · rw [if_pos hb] at h1
          simp only [Nat.testBit_or, Bool.or_eq_true, Nat.testBit_two_pow, decide_eq_true_eq] at h1
          rcases h1 with (h1 | h1) | h1
          · exact .inl h1
          · exact .inr ⟨e, by simp, hb, .inl h1.symm⟩
          · exact .inr ⟨e, by simp, hb, .inr h1⟩
        · rw [if_neg hb] at h1
          exact .inl h1
      · exact .inr ⟨e', by simp [he], hb, hx⟩
  rcases key _ 0 h with h1 | h1
  · simp at h1
  · exact h1

/-- If i is ahead of j, then j has an edge to i, or to one that i is ahead of; and that one stands before j. -/
theorem ahead_step {ops : List Oper} {i j : Nat} (h : ahead (masks ops []) i j = true) : ∃ o e, ops[j]? = some o ∧ e ∈ o.after.toList ∧ Region.binds .any e = true ∧ (i = e.on ∨ (e.on < j ∧ ahead (masks ops []) i e.on = true)) := by
  unfold ahead at h
  by_cases hj : j < ops.length
  · obtain ⟨acc', h1, h2⟩ := masks_get ops [] j ops[j] (by simp)
    simp only [List.length_nil, Nat.zero_add] at h1 h2
    rw [List.getD_eq_getElem?_getD, h1] at h
    simp only [Option.getD_some] at h
    obtain ⟨e, he, hb, hx⟩ := maskOf_bit acc' _ i h
    refine ⟨ops[j], e, by simp, he, hb, ?_⟩
    rcases hx with hx | hx
    · exact .inl hx
    · right
      rw [List.getD_eq_getElem?_getD, h2 e.on] at hx
      by_cases hlt : e.on < j
      · rw [if_pos hlt] at hx
        exact ⟨hlt, by unfold ahead; rw [List.getD_eq_getElem?_getD]; exact hx⟩
      · rw [if_neg hlt] at hx
        simp at hx
  · rw [List.getD_eq_getElem?_getD, List.getElem?_eq_none (by rw [masks_length]; simp; omega)] at h
    simp at h

/-- A set of operations that holds with each all that its edges name. -/
def Closed (ops : List Oper) (S : Nat → Bool) : Prop := ∀ j o, ops[j]? = some o → S j = true → ∀ e ∈ o.after.toList, Region.binds .any e = true → S e.on = true

theorem closed_ahead {ops : List Oper} {S : Nat → Bool} (hc : Closed ops S) : ∀ (j i : Nat), ahead (masks ops []) i j = true → S j = true → S i = true := by
  intro j
  induction j using Nat.strongRecOn with
  | _ j ih =>
    intro i h hS
    obtain ⟨o, e, ho, he, hb, hx⟩ := ahead_step h
    have h1 := hc j o ho hS e he hb
    rcases hx with rfl | ⟨hlt, hx⟩
    · exact h1
    · exact ih e.on hlt i hx h1

/-- The facts of a region's text. -/
structure Facts (ops : List Oper) : Prop where
  back : ∀ j o, ops[j]? = some o → ∀ e ∈ o.after.toList, Region.binds .any e = true → e.on < j
  slots : ∀ i j oi oj t, i ≠ j → ops[i]? = some oi → ops[j]? = some oj → oi.dst = some t → (t ∈ readsOf ops oj ∨ oj.dst = some t) → if i < j then ahead (masks ops []) i j = true else ahead (masks ops []) j i = true
  chain : ∀ i j oi oj, i < j → ops[i]? = some oi → ops[j]? = some oj → isEff oi.op = true → isEff oj.op = true → j ≠ floatOf ops → ahead (masks ops []) i j = true
  float : ∀ o, ops[floatOf ops]? = some o → isAlloc o.op = true ∧ o.guard = none ∧ (∃ u, o.dst = some u) ∧
    ∀ k, k < ops.length → ahead (masks ops []) (floatOf ops) k = true → ∀ x q, x < floatOf ops → ops[x]? = some q → isEff q.op = true → ahead (masks ops []) x (floatOf ops) = true ∨ ahead (masks ops []) x k = true

theorem facts_of {ops : List Oper} (h : drawOk ops = true) : Facts ops := by
  unfold drawOk at h
  simp only [Bool.and_eq_true, List.all_eq_true, List.mem_range] at h
  obtain ⟨hfl, h⟩ := h
  have hj : ∀ j oj, ops[j]? = some oj → (∀ e ∈ oj.after.toList, (!(Region.binds .any e) || Nat.blt e.on j) = true) ∧ ∀ i oi, ops[i]? = some oi →
      (Nat.beq i j || ((!(match oi.dst with | some t => (readsOf ops oj).contains t || oj.dst == some t | none => false) || (bif Nat.blt i j then ahead (masks ops []) i j else ahead (masks ops []) j i)) && (!(isEff oi.op && isEff oj.op && Nat.blt i j) || (ahead (masks ops []) i j || Nat.beq j (floatOf ops))))) = true := by
    intro j oj hoj
    have hlt : j < ops.length := (List.getElem?_eq_some_iff.1 hoj).1
    have h1 := h j hlt
    rw [hoj] at h1
    simp only [Bool.and_eq_true, List.all_eq_true, List.mem_range] at h1
    refine ⟨h1.1, fun i oi hoi => ?_⟩
    have hlt' : i < ops.length := (List.getElem?_eq_some_iff.1 hoi).1
    have h2 := h1.2 i hlt'
    rw [hoi] at h2
    exact h2
  refine ⟨fun j o ho e he hb => ?_, fun i j oi oj t hne hoi hoj ht hr => ?_, fun i j oi oj hlt hoi hoj h1 h2 hnf => ?_, fun o ho => ?_⟩
  · have := (hj j o ho).1 e he
    rw [hb] at this
    simpa [Nat.blt_eq] using this
  · have h3 := (hj j oj hoj).2 i oi hoi
    have hb : Nat.beq i j = false := by
      cases hb : Nat.beq i j
      · rfl
      · exact absurd (Nat.eq_of_beq_eq_true hb) hne
    rw [hb, ht] at h3
    simp only [Bool.false_or, Bool.and_eq_true] at h3
    have hcond : ((readsOf ops oj).contains t || oj.dst == some t) = true := by
      rw [Bool.or_eq_true]
      rcases hr with hr | hr
      · left; simpa using hr
      · right; rw [hr]; simp
    have h4 := h3.1
    simp only [hcond, Bool.not_true, Bool.false_or] at h4
    by_cases hlt : i < j
    · rw [if_pos hlt]
      have : Nat.blt i j = true := by rw [Nat.blt_eq]; exact hlt
      rw [this] at h4
      exact h4
    · rw [if_neg hlt]
      have : Nat.blt i j = false := by rw [← Bool.not_eq_true, Nat.blt_eq]; exact hlt
      rw [this] at h4
      exact h4
  · have h3 := (hj j oj hoj).2 i oi hoi
    have hb : Nat.beq i j = false := by
      cases hb : Nat.beq i j
      · rfl
      · have := Nat.eq_of_beq_eq_true hb; omega
    have hl : Nat.blt i j = true := by rw [Nat.blt_eq]; exact hlt
    rw [hb] at h3
    simp only [Bool.false_or, Bool.and_eq_true] at h3
    have h4 := h3.2
    rw [h1, h2, hl] at h4
    have hb2 : Nat.beq j (floatOf ops) = false := by
      cases hb2 : Nat.beq j (floatOf ops)
      · rfl
      · exact absurd (Nat.eq_of_beq_eq_true hb2) hnf
    rw [hb2] at h4
    simpa using h4
  · unfold floatOk at hfl
    rw [ho] at hfl
    simp only [Bool.and_eq_true, List.all_eq_true, List.mem_range] at hfl
    obtain ⟨⟨⟨g1, g2⟩, g3⟩, g4⟩ := hfl
    refine ⟨g1, by simpa using g2, Option.isSome_iff_exists.1 g3, fun k hk ha x q hx hq he => ?_⟩
    have h5 := g4 k hk
    rw [ha] at h5
    simp only [Bool.not_true, Bool.false_or, List.all_eq_true, List.mem_range] at h5
    have h6 := h5 x hx
    rw [hq] at h6
    simp only [he, Bool.not_true, Bool.false_or, Bool.or_eq_true] at h6
    exact h6

theorem ahead_lt {ops : List Oper} (hf : Facts ops) : ∀ (j i : Nat), ahead (masks ops []) i j = true → i < j := by
  intro j
  induction j using Nat.strongRecOn with
  | _ j ih =>
    intro i h
    obtain ⟨o, e, ho, he, hb, hx⟩ := ahead_step h
    have h1 := hf.back j o ho e he hb
    rcases hx with rfl | ⟨hlt, hx⟩
    · exact h1
    · have := ih e.on hlt i hx; omega

end Go.Ev
