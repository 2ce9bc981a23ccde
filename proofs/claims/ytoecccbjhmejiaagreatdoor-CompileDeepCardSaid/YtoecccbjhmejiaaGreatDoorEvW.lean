/- Regions that draw their order: whatever order is drawn, the same comes out. No condition. -/
import Derived.Test.YtoecccbjhmejiaaGreatDoorEvV
namespace Go.Ev

variable {P : Program}

/-- What a region's evaluation came to, place by place. -/
structure Trail (P : Program) (call : CallFn) (f : Fr) (all rest : List Oper) (tr : List Tr) (E : Nat → Env) (D : Nat → Ds) (M : Nat → H) (val : Nat → V) (W : Nat → Bool) : Prop where
  len : tr.length = rest.length
  at_ : ∀ k o, rest[k]? = some o → tr[k]? = some (⟨E k, D k, M k, W k, val k, D (k + 1), M (k + 1)⟩ : Tr)
  want : ∀ k o, rest[k]? = some o → wantedV all (look (E k) f) o.guard = some (W k)
  env : ∀ k o, rest[k]? = some o → E (k + 1) = putE o.dst (val k) (E k)
  yes : ∀ k o, rest[k]? = some o → W k = true → oneOp P call o.op (look (E k) f) (D k) (M k) = some (val k, D (k + 1), M (k + 1))
  no : ∀ k o, rest[k]? = some o → W k = false → val k = .tup [] ∧ D (k + 1) = D k ∧ M (k + 1) = M k

theorem trace_of {call : CallFn} {f : Fr} {all : List Oper} : ∀ (rest : List Oper) (e : Env) (d : Ds) (h : H) (tr : List Tr), evTr P call f all rest e d h = some tr →
    ∃ E D M val W, E 0 = e ∧ D 0 = d ∧ M 0 = h ∧ Trail P call f all rest tr E D M val W := by
  intro rest
  induction rest with
  | nil =>
    intro e d h tr he
    simp only [evTr, Option.some.injEq] at he
    subst he
    exact ⟨fun _ => e, fun _ => d, fun _ => h, fun _ => .any, fun _ => true, rfl, rfl, rfl, rfl, fun k o hk => by simp at hk, fun k o hk => by simp at hk, fun k o hk => by simp at hk, fun k o hk => by simp at hk, fun k o hk => by simp at hk⟩
  | cons o rest ih =>
    intro e d h tr he
    have build : ∀ (w : Bool) (v : V) (d1 : Ds) (h1 : H), wantedV all (look e f) o.guard = some w → (w = true → oneOp P call o.op (look e f) d h = some (v, d1, h1)) → (w = false → v = .tup [] ∧ d1 = d ∧ h1 = h) →
        (evTr P call f all rest (putE o.dst v e) d1 h1).map (fun l => (⟨e, d, h, w, v, d1, h1⟩ : Tr) :: l) = some tr →
        ∃ E D M val W, E 0 = e ∧ D 0 = d ∧ M 0 = h ∧ Trail P call f all (o :: rest) tr E D M val W := by
      intro w v d1 h1 hw hy hn hm
      cases hr : evTr P call f all rest (putE o.dst v e) d1 h1 with
      | none => rw [hr] at hm; simp at hm
      | some l =>
        rw [hr] at hm
        simp only [Option.map_some, Option.some.injEq] at hm
        subst hm
        obtain ⟨E, D, M, val, W, e0, d0, m0, ht⟩ := ih _ _ _ l hr
        refine ⟨fun i => Nat.casesOn i e E, fun i => Nat.casesOn i d D, fun i => Nat.casesOn i h M, fun i => Nat.casesOn i v val, fun i => Nat.casesOn i w W, rfl, rfl, rfl, ?_, ?_, ?_, ?_, ?_, ?_⟩
        · simp [ht.len]
        · intro k q hk
          cases k with
          | zero =>
            show some (⟨e, d, h, w, v, d1, h1⟩ : Tr) = some ⟨e, d, h, w, v, D 0, M 0⟩
            rw [d0, m0]
          | succ k => simpa using ht.at_ k q (by simpa using hk)
        · intro k q hk
          cases k with
          | zero => simp at hk; subst hk; exact hw
          | succ k => exact ht.want k q (by simpa using hk)
        · intro k q hk
          cases k with
          | zero => simp at hk; subst hk; exact e0
          | succ k => exact ht.env k q (by simpa using hk)
        · intro k q hk hwk
          cases k with
          | zero =>
            simp at hk
            subst hk
            show oneOp P call o.op (look e f) d h = some (v, D 0, M 0)
            rw [d0, m0]
            exact hy hwk
          | succ k => exact ht.yes k q (by simpa using hk) hwk
        · intro k q hk hwk
          cases k with
          | zero =>
            show v = .tup [] ∧ D 0 = d ∧ M 0 = h
            rw [d0, m0]
            exact hn hwk
          | succ k => exact ht.no k q (by simpa using hk) hwk
    simp only [evTr] at he
    split at he
    · rename_i hw
      split at he
      · rename_i v d1 h1 h2
        exact build true v d1 h1 hw (fun _ => h2) (fun hh => by cases hh) he
      · simp at he
    · rename_i hw
      exact build false (.tup []) d h hw (fun hh => by cases hh) (fun _ => ⟨rfl, rfl, rfl⟩) he
    · simp at he

theorem lastTr_irrel : ∀ (ops : List Oper) (l : List Tr), l.length = ops.length → ops ≠ [] → ∀ (e e' : Env) (d d' : Ds) (h h' : H), lastTr ops l e d h = lastTr ops l e' d' h'
  | [], _, _, hne => absurd rfl hne
  | [_], [], hl, _ => by simp at hl
  | [_], [_], _, _ => fun _ _ _ _ _ _ => rfl
  | [_], _ :: _ :: _, hl, _ => by simp at hl
  | _ :: _ :: _, [], hl, _ => by simp at hl
  | _ :: q :: ops, _ :: l, hl, _ => fun e e' d d' h h' => lastTr_irrel (q :: ops) l (by simpa using hl) (by simp) e e' d d' h h'

theorem lastTr_cons {o : Oper} {t : Tr} {ops : List Oper} {l : List Tr} {e : Env} {d : Ds} {h : H} (hl : l.length = ops.length) :
    lastTr (o :: ops) (t :: l) e d h = lastTr ops l (putE o.dst t.v t.env) t.ds' t.h' := by
  cases ops with
  | nil =>
    cases l with
    | nil => rfl
    | cons _ _ => simp at hl
  | cons q qs => exact lastTr_irrel (q :: qs) l hl (by simp) e _ d _ h _

theorem lastTr_of {call : CallFn} {f : Fr} {all : List Oper} : ∀ (rest : List Oper) (tr : List Tr) (E : Nat → Env) (D : Nat → Ds) (M : Nat → H) (val : Nat → V) (W : Nat → Bool), Trail P call f all rest tr E D M val W →
    lastTr rest tr (E 0) (D 0) (M 0) = .ok (E rest.length) (D rest.length) (M rest.length) := by
  intro rest
  induction rest with
  | nil =>
    intro tr E D M val W ht
    have : tr = [] := List.eq_nil_of_length_eq_zero (by rw [ht.len]; rfl)
    subst this
    rfl
  | cons o rest ih =>
    intro tr E D M val W ht
    cases tr with
    | nil => have := ht.len; simp at this
    | cons t l =>
      have hlen : l.length = rest.length := by simpa using ht.len
      rw [lastTr_cons hlen]
      have h0 := ht.at_ 0 o rfl
      simp only [List.getElem?_cons_zero, Option.some.injEq] at h0
      subst h0
      have he := ht.env 0 o rfl
      show lastTr rest l (putE o.dst (val 0) (E 0)) (D 1) (M 1) = _
      rw [← he]
      have := ih l (fun i => E (i + 1)) (fun i => D (i + 1)) (fun i => M (i + 1)) (fun i => val (i + 1)) (fun i => W (i + 1)) ⟨hlen, fun k q hk => by simpa using ht.at_ (k + 1) q (by simpa using hk), fun k q hk => ht.want (k + 1) q (by simpa using hk), fun k q hk => ht.env (k + 1) q (by simpa using hk),
        fun k q hk => ht.yes (k + 1) q (by simpa using hk), fun k q hk => ht.no (k + 1) q (by simpa using hk)⟩
      exact this

end Go.Ev
