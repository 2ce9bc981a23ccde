/- Regions that draw their order: whatever order is drawn, the same comes out. No condition. -/
import Derived.Test.YtoecccbjhmejiaaGreatDoorEvW
namespace Go.Ev

variable {P : Program}

def dstAt (L : List Oper) (k : Nat) : Option Tmp := (L[k]?).bind (·.dst)
def effAt (L : List Oper) (k : Nat) : Bool := match L[k]? with | some o => isEff o.op | none => false

/-- The slots once a set of operations is done. -/
def slotsOf (f : Fr) (L : List Oper) (val : Nat → V) (S : Nat → Bool) : Nat → Tm
  | 0 => fget f
  | k + 1 => bif S k then putT (slotsOf f L val S k) (dstAt L k) (val k) else slotsOf f L val S k
/-- One behind the last effect that is done. -/
def lastOf (L : List Oper) (S : Nat → Bool) : Nat → Nat
  | 0 => 0
  | k + 1 => bif S k && effAt L k then k + 1 else lastOf L S k

theorem putT_ne {T : Tm} {dst : Option Tmp} {v : V} {t : Nat} (h : dst ≠ some t) : putT T dst v t = T t := by
  unfold putT
  cases dst with
  | none => rfl
  | some u =>
    have : t ≠ u := fun e => h (by rw [e])
    simp [this]
theorem putT_eq {T : Tm} {dst : Option Tmp} {v : V} {t : Nat} (h : dst = some t) : putT T dst v t = v := by
  unfold putT
  subst h
  simp

theorem slots_const {f : Fr} {L : List Oper} {val : Nat → V} {S : Nat → Bool} {t : Nat} {a : Nat} : ∀ b, a ≤ b → (∀ k, a ≤ k → k < b → S k = true → dstAt L k ≠ some t) → slotsOf f L val S b t = slotsOf f L val S a t := by
  intro b
  induction b with
  | zero => intro hab _; have : a = 0 := by omega
            subst this; rfl
  | succ b ih =>
    intro hab h
    by_cases e : a = b + 1
    · subst e; rfl
    · have h1 := ih (by omega) (fun k h1 h2 => h k h1 (by omega))
      rw [← h1]
      show (bif S b then _ else _ : Tm) t = _
      cases hs : S b
      · rfl
      · exact putT_ne (h b (by omega) (by omega) hs)

theorem slots_agree {f : Fr} {L : List Oper} {val : Nat → V} {S S' : Nat → Bool} {t : Nat} : ∀ b, (∀ k, k < b → dstAt L k = some t → S k = S' k) → slotsOf f L val S b t = slotsOf f L val S' b t := by
  intro b
  induction b with
  | zero => intro _; rfl
  | succ b ih =>
    intro h
    have h1 := ih (fun k hk => h k (by omega))
    show (bif S b then putT _ _ _ else _ : Tm) t = (bif S' b then putT _ _ _ else _ : Tm) t
    by_cases hd : dstAt L b = some t
    · rw [h b (by omega) hd]
      cases S' b
      · exact h1
      · simp only [cond_true]
        rw [putT_eq hd, putT_eq hd]
    · have e1 : (bif S b then putT (slotsOf f L val S b) (dstAt L b) (val b) else slotsOf f L val S b : Tm) t = slotsOf f L val S b t := by
        cases S b
        · rfl
        · exact putT_ne hd
      have e2 : (bif S' b then putT (slotsOf f L val S' b) (dstAt L b) (val b) else slotsOf f L val S' b : Tm) t = slotsOf f L val S' b t := by
        cases S' b
        · rfl
        · exact putT_ne hd
      rw [e1, e2, h1]

theorem look_slots {call : CallFn} {f : Fr} {all L : List Oper} {tr : List Tr} {E : Nat → Env} {D : Nat → Ds} {M : Nat → H} {val : Nat → V} {W : Nat → Bool} (ht : Trail P call f all L tr E D M val W) (h0 : E 0 = []) (t : Nat) :
    ∀ k, k ≤ L.length → look (E k) f t = slotsOf f L val (fun _ => true) k t := by
  intro k
  induction k with
  | zero => intro _; rw [h0]; rfl
  | succ k ih =>
    intro hk
    have hlt : k < L.length := by omega
    have he := ht.env k L[k] (by simp)
    rw [he, look_put]
    show putT (look (E k) f) L[k].dst (val k) t = putT (slotsOf f L val (fun _ => true) k) (dstAt L k) (val k) t
    have hd : dstAt L k = L[k].dst := by simp [dstAt, hlt]
    rw [hd]
    unfold putT
    cases L[k].dst with
    | none => exact ih (by omega)
    | some u =>
      show (if t = u then _ else _) = (if t = u then _ else _)
      rw [ih (by omega)]

theorem noeff_mem {call : CallFn} {f : Fr} {all L : List Oper} {tr : List Tr} {E : Nat → Env} {D : Nat → Ds} {M : Nat → H} {val : Nat → V} {W : Nat → Bool} (ht : Trail P call f all L tr E D M val W) {k : Nat} (hk : k < L.length) (he : effAt L k = false) :
    M (k + 1) = M k ∧ D (k + 1) = D k := by
  have ho : L[k]? = some L[k] := by simp
  have he' : isEff L[k].op = false := by simpa [effAt, ho] using he
  cases hw : W k
  · obtain ⟨_, h1, h2⟩ := ht.no k _ ho hw
    exact ⟨h2, h1⟩
  · have h1 := ht.yes k _ ho hw
    rw [oneOp_noeff he'] at h1
    cases hv : valOp P (M k) (evO P (look (E k) f)) L[k].op with
    | none => rw [hv] at h1; simp at h1
    | some v =>
      rw [hv] at h1
      simp only [Option.map_some, Option.some.injEq, Prod.mk.injEq] at h1
      exact ⟨h1.2.2.symm, h1.2.1.symm⟩

/-- An operation that may come up. -/
structure Ready (L : List Oper) (S : Nat → Bool) (i : Nat) : Prop where
  not : S i = false
  lt : i < L.length
  before : ∀ x, ahead (masks L []) x i = true → S x = true

section
variable {L : List Oper} {S : Nat → Bool} {i : Nat} (hf : Facts L) (hc : Closed L S) (hr : Ready L S i)
include hf hc hr

omit hf in
/-- No operation that is done, and stands behind i, is one that i is ahead of. -/
theorem not_behind {k : Nat} (hk : S k = true) : ahead (masks L []) i k = false := by
  cases h : ahead (masks L []) i k
  · rfl
  · have := closed_ahead hc k i h hk
    rw [hr.not] at this
    cases this

theorem slots_read {f : Fr} {val : Nat → V} {t : Nat} {oi : Oper} (hoi : L[i]? = some oi) (ht : t ∈ readsOf L oi ∨ oi.dst = some t) : slotsOf f L val S L.length t = slotsOf f L val (fun _ => true) i t := by
  have hconf : ∀ k, k ≠ i → dstAt L k = some t → if k < i then ahead (masks L []) k i = true else ahead (masks L []) i k = true := by
    intro k hne hd
    cases hk : L[k]? with
    | none => simp [dstAt, hk] at hd
    | some ok =>
      have hdk : ok.dst = some t := by simpa [dstAt, hk] using hd
      exact hf.slots k i ok oi t hne hk hoi hdk ht
  rw [slots_const (a := i) L.length (by have := hr.lt; omega) (fun k h1 h2 hs hd => ?_)]
  · apply slots_agree i
    intro k hk hd
    have := hconf k (by omega) hd
    rw [if_pos hk] at this
    exact hr.before k this
  · by_cases e : k = i
    · subst e; rw [hr.not] at hs; cases hs
    · have := hconf k e hd
      rw [if_neg (by omega)] at this
      rw [not_behind hc hr hs] at this
      cases this

theorem slots_put {f : Fr} {val : Nat → V} {oi : Oper} (hoi : L[i]? = some oi) (t : Nat) : slotsOf f L val (fun k => Nat.beq k i || S k) L.length t = putT (slotsOf f L val S L.length) oi.dst (val i) t := by
  have hdi : dstAt L i = oi.dst := by simp [dstAt, hoi]
  by_cases hd : oi.dst = some t
  · rw [putT_eq hd]
    rw [slots_const (a := i + 1) L.length (by have := hr.lt; omega) (fun k h1 h2 hs hdk => ?_)]
    · show (bif (Nat.beq i i || S i) then putT _ _ _ else _ : Tm) t = val i
      have : Nat.beq i i = true := Nat.beq_refl i
      rw [this]
      simp only [Bool.true_or, cond_true]
      exact putT_eq (by rw [hdi]; exact hd)
    · cases hk : L[k]? with
      | none => simp [dstAt, hk] at hdk
      | some ok =>
        have hdk' : ok.dst = some t := by simpa [dstAt, hk] using hdk
        have := hf.slots k i ok oi t (by omega) hk hoi hdk' (.inr hd)
        rw [if_neg (by omega)] at this
        have hb : Nat.beq k i = false := by
          cases hb : Nat.beq k i
          · rfl
          · have := Nat.eq_of_beq_eq_true hb; omega
        rw [hb, Bool.false_or] at hs
        rw [not_behind hc hr hs] at this
        cases this
  · rw [putT_ne hd]
    apply slots_agree
    intro k _ hdk
    have hne : k ≠ i := fun e => hd (by rw [← hdi, ← e]; exact hdk)
    have hb : Nat.beq k i = false := by
      cases hb : Nat.beq k i
      · rfl
      · exact absurd (Nat.eq_of_beq_eq_true hb) hne
    simp [hb]
end

theorem last_le (L : List Oper) (S : Nat → Bool) : ∀ k, lastOf L S k ≤ k := by
  intro k
  induction k with
  | zero => exact Nat.le_refl _
  | succ k ih =>
    unfold lastOf
    cases S k && effAt L k
    · exact Nat.le_succ_of_le ih
    · exact Nat.le_refl _
theorem last_above (L : List Oper) (S : Nat → Bool) : ∀ k x, x < k → S x = true → effAt L x = true → x < lastOf L S k := by
  intro k
  induction k with
  | zero => intro x h; omega
  | succ k ih =>
    intro x hx hs he
    unfold lastOf
    cases hc : (S k && effAt L k)
    · have : x ≠ k := fun e => by rw [← e, hs, he] at hc; cases hc
      exact ih x (by omega) hs he
    · show x < k + 1; omega
theorem last_is (L : List Oper) (S : Nat → Bool) : ∀ k, lastOf L S k = 0 ∨ ∃ y, lastOf L S k = y + 1 ∧ y < k ∧ S y = true ∧ effAt L y = true := by
  intro k
  induction k with
  | zero => exact .inl rfl
  | succ k ih =>
    unfold lastOf
    cases hc : (S k && effAt L k)
    · rcases ih with h | ⟨y, h1, h2, h3⟩
      · exact .inl h
      · exact .inr ⟨y, h1, by omega, h3⟩
    · simp only [Bool.and_eq_true] at hc
      exact .inr ⟨k, rfl, by omega, hc.1, hc.2⟩
theorem last_same (L : List Oper) {S S' : Nat → Bool} : ∀ k, (∀ x, x < k → effAt L x = true → S x = S' x) → lastOf L S k = lastOf L S' k := by
  intro k
  induction k with
  | zero => intro _; rfl
  | succ k ih =>
    intro h
    unfold lastOf
    rw [ih (fun x hx => h x (by omega))]
    cases he : effAt L k
    · simp
    · rw [h k (by omega) he]

end Go.Ev
