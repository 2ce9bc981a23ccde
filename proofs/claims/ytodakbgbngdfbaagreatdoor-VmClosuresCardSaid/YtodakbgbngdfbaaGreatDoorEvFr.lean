/- What a call does not come to stays as it was: the blocks of those who called. No condition. -/
import Derived.Test.YtodakbgbngdfbaaGreatDoorEvMi
namespace Go.Ev

variable {P : Program}

/-- The same, and old labels keep their places. -/
theorem snap_sound2 {w0 : World} {nb n mask lo : Nat} {f' : Fr} {h h' : H} {S : Snap} (hb : snaple lo f' h' S = true) {r r' : Emb} {a : Act} {w w' : World} (hlo : h.next ≤ lo) (hrel : Rel r h w) (hg : GRel P r) (hbase : Base w0 r h w)
    (hd : Dim mask f') (hs : St P w0 nb n r' (fget f') [] h' a w') (st : Step r h w r' h' w') : Dim mask S.f ∧ ∃ r2, St P w0 nb n r2 (fget S.f) [] S.h a w' ∧ Step r h w r2 S.h w' ∧ (∀ id, id < lo → r2 id = r' id) ∧ (∀ id, id < lo → Live S.h id → Live h' id ∧ ∃ e, (id, id, e) ∈ S.ents) := by
  unfold snaple at hb
  generalize hsg : sOf lo S.nxt (ntOf lo S.ents n4) = s at hb
  unfold snapleS at hb
  simp only [hsg, Bool.and_eq_true] at hb
  obtain ⟨b1, b2, b3, b4⟩ := hb
  have b1' := Nat.le_of_ble_eq_true b1
  have slow : ∀ id, id < lo → s id = some id := fun id hi => by
    rw [← hsg]
    unfold sOf
    have : Nat.blt id lo = true := by rw [Nat.blt_eq]; exact hi
    rw [this]; rfl
  have shigh : ∀ id, S.nxt ≤ id → s id = none := fun id hi => by
    rw [← hsg]
    unfold sOf
    have e1 : Nat.blt id lo = false := by rw [← Bool.not_eq_true, Nat.blt_eq]; omega
    have e2 : Nat.blt id S.nxt = false := by rw [← Bool.not_eq_true, Nat.blt_eq]; omega
    rw [e1, e2]; rfl
  have hle : r.le (ren s r') := fun id x e => by
    have hlt : id < lo := Nat.lt_of_lt_of_le (hrel.lt_next e) hlo
    show (s id).bind r' = some x
    rw [slow id hlt]
    exact st.le _ _ e
  have slots : ∀ t, vle s 4 (fget S.f t) (fget f' t) = true := frOf_le S.slots fr0 (fun t => by rw [fr0_any]; rfl) b4
  have live : ∀ id, Live S.h id → ∃ old e, (id, old, e) ∈ S.ents ∧ S.h.mem.blk id = e.blk ∧ ren s r' id = r' old ∧ entle s e (h'.mem.blk old) = true ∧ Live h' old := fun id hl => by
    obtain ⟨old, e, q1, q2⟩ := hOf_live b2 hl.1 hl.2
    obtain ⟨q3, q4⟩ := entsle_mem b3 q1
    obtain ⟨_, _, _, q5⟩ := rises_mem b2 q1
    refine ⟨old, e, q1, q2, ?_, q4, q5, (entle_live q4).1⟩
    unfold mapId at q3
    split at q3
    · rename_i c hc
      have := Nat.eq_of_beq_eq_true q3
      subst this
      show (s id).bind r' = r' c
      rw [hc]; rfl
    · cases q3
  have hrel2 : Rel (ren s r') S.h w' := by
    refine ⟨fun id hi hl => ?_, fun id id' b sh m sh' m' hl hl' e1 e2 => ?_, fun id hi => ?_⟩
    · obtain ⟨old, e, q1, q2, q3, q4, q5⟩ := live id ⟨hi, hl⟩
      obtain ⟨b, sh, m, g1, g2⟩ := hs.rel.fit old q5.1 q5.2
      exact ⟨b, sh, m, by rw [q3]; exact g1, by rw [q2]; exact entle_fit q4 g2⟩
    · obtain ⟨old, e, q1, _, q3, _, q5⟩ := live id hl
      obtain ⟨old', e', q1', _, q3', _, q5'⟩ := live id' hl'
      rw [q3] at e1
      rw [q3'] at e2
      have := hs.rel.inj old old' b sh m sh' m' q5 q5' e1 e2
      subst this
      exact rises_inj b2 q1 q1'
    · show (s id).bind r' = none
      rw [shigh id hi]; rfl
  have st2 : Step r h w (ren s r') S.h w' := by
    refine ⟨hle, hrel2, st.size, st.keep, fun b hlt ho => ?_, fun b hlt hh => ?_, st.os, st.out, st.tape⟩
    · obtain ⟨id, sh, m, hi, hb', e1⟩ := ho
      obtain ⟨old, e, q1, q2, q3, q4, q5⟩ := live id ⟨hi, live_of_own hb'⟩
      rw [q2] at hb'
      exact st.own b hlt ⟨old, sh, m, q5.1, (entle_live q4).2 hb', by rw [← q3]; exact e1⟩
    · obtain ⟨id, sh, m, hl, e1⟩ := hh
      obtain ⟨old, e, q1, q2, q3, q4, q5⟩ := live id hl
      exact st.held b hlt ⟨old, sh, m, q5, by rw [← q3]; exact e1⟩
  have hdef : a.defers = [] := by
    have := hs.ds
    cases hq : a.defers with
    | nil => rfl
    | cons _ _ => rw [hq] at this; cases this
  refine ⟨fun t ht => ?_, ren s r', ⟨hrel2, GRel.up hle hg, hbase.step st2, fun t => vle_rel s r' 4 _ _ _ (slots t) (hs.tm t), ?_, ?_, hs.sz⟩, st2, fun id hi => ?_, fun id hi hl => ?_⟩
  · have h1 := slots t
    rw [hd t ht] at h1
    generalize fget S.f t = v at h1
    cases v <;> first | rfl | (simp [vle] at h1; done)
  · rw [hdef]; exact .nil
  · rw [hdef]; exact ⟨hs.mks.1, trivial⟩
  · show (s id).bind r' = r' id
    rw [slow id hi]; rfl
  · obtain ⟨old, e, q1, q2, q3, q4, q5⟩ := live id hl
    have hm := (entsle_mem b3 q1).1
    unfold mapId at hm
    rw [slow id hi] at hm
    have := Nat.eq_of_beq_eq_true hm
    subst this
    exact ⟨q5, e, q1⟩

/-! Blocks that a piece does not come to. -/
def killEs : Rws → Mem → Mem
  | [], m => m
  | (id, _, _) :: l, m => killEs l (m.put id .dead)
theorem killEs_live : ∀ (l : Rws) (m : Mem) (a b : Nat), rises a b l = true → ∀ id, id < 65536 → liveB ((killEs l m).blk id) = true → (killEs l m).blk id = m.blk id ∧ ∀ old e, (id, old, e) ∉ l
  | [], m, _, _, _, id, _, _ => ⟨rfl, fun _ _ h => by cases h⟩
  | (i, o, e) :: l, m, a, b, hb, id, hi, hl => by
    simp only [rises, Bool.and_eq_true, Nat.blt_eq] at hb
    obtain ⟨h1, h2, h3, h4, h5⟩ := hb
    obtain ⟨q1, q2⟩ := killEs_live l (m.put i .dead) _ _ h5 id hi hl
    have hl' : liveB ((killEs l (m.put i .dead)).blk id) = true := hl
    rw [q1] at hl'
    have hne : id ≠ i := fun e0 => by
      subst e0
      rw [Mem.blk_put_same _ _ _ hi] at hl'
      cases hl'
    refine ⟨?_, fun old e' hm => ?_⟩
    · show (killEs l (m.put i .dead)).blk id = m.blk id
      rw [q1, Mem.blk_put_other _ _ _ _ h3 hi hne]
    · rcases List.mem_cons.1 hm with q | q
      · cases q; exact hne rfl
      · exact q2 old e' q
theorem putEs_out : ∀ (l : Rws) (m : Mem) (a b : Nat), rises a b l = true → ∀ id, id < 65536 → (∀ old e, (id, old, e) ∉ l) → (putEs l m).blk id = m.blk id
  | [], m, _, _, _, id, _, _ => rfl
  | (i, o, e) :: l, m, a, b, hb, id, hi, hn => by
    simp only [rises, Bool.and_eq_true, Nat.blt_eq] at hb
    obtain ⟨h1, h2, h3, h4, h5⟩ := hb
    have hne : id ≠ i := fun e0 => hn o e (by rw [e0]; exact .head _)
    show (putEs l (m.put i e.blk)).blk id = m.blk id
    rw [putEs_out l _ _ _ h5 id hi (fun old e' hm => hn old e' (.tail _ hm)), Mem.blk_put_other _ _ _ _ h3 hi hne]
theorem putEs_at : ∀ (l : Rws) (m : Mem) (a b : Nat), rises a b l = true → ∀ id old e, (id, old, e) ∈ l → (putEs l m).blk id = e.blk
  | [], m, _, _, _, id, _, _, hm => by cases hm
  | (i, o, e0) :: l, m, a, b, hb, id, old, e, hm => by
    simp only [rises, Bool.and_eq_true, Nat.blt_eq] at hb
    obtain ⟨h1, h2, h3, h4, h5⟩ := hb
    rcases List.mem_cons.1 hm with q | q
    · simp only [Prod.mk.injEq] at q
      obtain ⟨rfl, rfl, rfl⟩ := q
      show (putEs l (m.put id e.blk)).blk id = e.blk
      rw [putEs_out l _ _ _ h5 id h3 (fun old' e' hm' => by
        have := (rises_mem h5 hm').1
        omega), Mem.blk_put_same _ _ _ h3]
    · exact putEs_at l _ _ _ h5 id old e q

/-- A memory in which the blocks of S were turned into those of T. -/
def overlay (h : H) (S T : Snap) : H := ⟨T.nxt, putEs T.ents (killEs S.ents h.mem)⟩

theorem overlay_live {h : H} {S T : Snap} (hS : rises 0 0 S.ents = true) (hT : rises 0 0 T.ents = true) {id : Nat} (hl : Live (overlay h S T) id) :
    (Live T.h id ∧ (overlay h S T).mem.blk id = T.h.mem.blk id) ∨ ((∀ old e, (id, old, e) ∉ T.ents) ∧ (∀ old e, (id, old, e) ∉ S.ents) ∧ Live h id ∧ (overlay h S T).mem.blk id = h.mem.blk id) := by
  obtain ⟨hi, hb⟩ := hl
  by_cases hm : ∃ old e, (id, old, e) ∈ T.ents
  · obtain ⟨old, e, hm⟩ := hm
    have e1 : (overlay h S T).mem.blk id = e.blk := putEs_at _ _ _ _ hT id old e hm
    have e2 : T.h.mem.blk id = e.blk := putEs_at _ _ _ _ hT id old e hm
    refine .inl ⟨⟨hi, ?_⟩, by rw [e1, e2]⟩
    rw [e2, ← e1]
    exact hb
  · have hm' : ∀ old e, (id, old, e) ∉ T.ents := fun old e h => hm ⟨old, e, h⟩
    have e1 : (overlay h S T).mem.blk id = (killEs S.ents h.mem).blk id := putEs_out _ _ _ _ hT id hi hm'
    have hb' := hb
    rw [e1] at hb'
    obtain ⟨q1, q2⟩ := killEs_live _ _ _ _ hS id hi hb'
    refine .inr ⟨hm', q2, ⟨hi, ?_⟩, by rw [e1, q1]⟩
    rw [← q1]
    exact hb'

/-- What a step from S to T does not come to stays. -/
theorem overlay_sound {lo : Nat} {S T : Snap} {r1 rS rT : Emb} {h1 : H} {w1 wT : World} (hS : rises 0 0 S.ents = true) (hT : rises 0 0 T.ents = true) (hSn : S.nxt ≤ lo)
    (hr : Rel r1 h1 w1) (hrS : Rel rS S.h w1) (h12 : ∀ id, id < lo → rS id = r1 id) (hlv : ∀ id, id < lo → Live S.h id → Live h1 id ∧ ∃ e, (id, id, e) ∈ S.ents) (hr1S : r1.le rS)
    (hown : ∀ b, b < w1.heap.size → Own rS S.h b → Own r1 h1 b) (hheld : ∀ b, b < w1.heap.size → Held rS S.h b → Held r1 h1 b)
    (st : Step rS S.h w1 rT T.h wT) : Step r1 h1 w1 rT (overlay h1 S T) wT := by
  have hleT : r1.le rT := Emb.le_trans hr1S st.le
  -- a label of S
  have hSlt : ∀ id, Live S.h id → ∀ x, rS id = some x → id < lo := fun id hl x e => Nat.lt_of_lt_of_le (hrS.lt_next e) hSn
  have free : ∀ id b sh m, Live h1 id → (∀ old e, (id, old, e) ∉ S.ents) → r1 id = some (b, sh, m) → ¬ Held rS S.h b := fun id b sh m hl hno e hh => by
    obtain ⟨i, sh', m', hl', e'⟩ := hh
    have hilt := hSlt i hl' _ e'
    obtain ⟨g1, e0, g2⟩ := hlv i hilt hl'
    rw [h12 i hilt] at e'
    have := hr.inj i id b sh' m' sh m g1 hl e' e
    subst this
    exact hno i e0 g2
  have same : ∀ id b sh m, Live h1 id → (∀ old e, (id, old, e) ∉ S.ents) → r1 id = some (b, sh, m) → wT.heap[b]? = w1.heap[b]? := fun id b sh m hl hno e =>
    st.keep b (hr.lt hl e) (fun ho => free id b sh m hl hno e ho.held)
  have hrel : Rel rT (overlay h1 S T) wT := by
    refine ⟨fun id hi hl => ?_, fun i i' b sh m sh' m' hl hl' e e' => ?_, fun id hi => ?_⟩
    · rcases overlay_live hS hT ⟨hi, hl⟩ with ⟨g1, g2⟩ | ⟨g1, g2, g3, g4⟩
      · obtain ⟨b, sh, m, k1, k2⟩ := st.rel.fit id g1.1 g1.2
        exact ⟨b, sh, m, k1, by rw [g2]; exact k2⟩
      · obtain ⟨b, sh, m, k1, k2⟩ := hr.fit id g3.1 g3.2
        exact ⟨b, sh, m, hleT _ _ k1, by rw [g4]; exact k2.keep hleT (same id b sh m g3 g2 k1)⟩
    · have key : ∀ i i' b sh m sh' m', Live T.h i → Live h1 i' → (∀ old e, (i', old, e) ∉ S.ents) → rT i = some (b, sh, m) → rT i' = some (b, sh', m') → False := fun i i' b sh m sh' m' g1 g2 g3 e e' => by
        obtain ⟨b2, sh2, m2, k1, k2⟩ := hr.fit i' g2.1 g2.2
        have k3 := hleT _ _ k1
        rw [e'] at k3
        cases k3
        have hlt := hr.lt g2 k1
        exact free i' b sh' m' g2 g3 k1 (st.held b hlt ⟨i, sh, m, g1, e⟩)
      rcases overlay_live hS hT hl with ⟨g1, g2⟩ | ⟨g1, g2, g3, g4⟩ <;> rcases overlay_live hS hT hl' with ⟨g1', g2'⟩ | ⟨g1', g2', g3', g4'⟩
      · exact st.rel.inj i i' b sh m sh' m' g1 g1' e e'
      · exact (key i i' b sh m sh' m' g1 g3' g2' e e').elim
      · exact (key i' i b sh' m' sh m g1' g3 g2 e' e).elim
      · obtain ⟨b2, sh2, m2, k1, _⟩ := hr.fit i g3.1 g3.2
        obtain ⟨b3, sh3, m3, k2, _⟩ := hr.fit i' g3'.1 g3'.2
        have q1 := hleT _ _ k1
        have q2 := hleT _ _ k2
        rw [e] at q1
        rw [e'] at q2
        cases q1
        cases q2
        exact hr.inj i i' b sh m sh' m' g3 g3' k1 k2
    · exact st.rel.new id hi
  refine ⟨hleT, hrel, st.size, fun b hlt hno => st.keep b hlt (fun ho => hno (hown b hlt ho)), fun b hlt ho => ?_, fun b hlt hh => ?_, st.os, st.out, st.tape⟩
  · obtain ⟨id, sh, m, hi, hb, e⟩ := ho
    rcases overlay_live hS hT ⟨hi, live_of_own hb⟩ with ⟨g1, g2⟩ | ⟨g1, g2, g3, g4⟩
    · rw [g2] at hb
      exact hown b hlt (st.own b hlt ⟨id, sh, m, hi, hb, e⟩)
    · rw [g4] at hb
      obtain ⟨b2, sh2, m2, k1, _⟩ := hr.fit id g3.1 g3.2
      have q1 := hleT _ _ k1
      rw [e] at q1
      cases q1
      exact ⟨id, sh, m, hi, hb, k1⟩
  · obtain ⟨id, sh, m, hl, e⟩ := hh
    rcases overlay_live hS hT hl with ⟨g1, g2⟩ | ⟨g1, g2, g3, g4⟩
    · exact hheld b hlt (st.held b hlt ⟨id, sh, m, g1, e⟩)
    · obtain ⟨b2, sh2, m2, k1, _⟩ := hr.fit id g3.1 g3.2
      have q1 := hleT _ _ k1
      rw [e] at q1
      cases q1
      exact ⟨id, sh, m, g3, k1⟩

end Go.Ev
