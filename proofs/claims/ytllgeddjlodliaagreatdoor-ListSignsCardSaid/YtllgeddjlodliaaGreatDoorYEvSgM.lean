/- ListSigns: the loop of all. Condition: what its rounds come to. -/
import Derived.Test.YtllgeddjlodliaaGreatDoorYEvSgL
namespace Go.Proofs.YtllgeddjlodliaaGreatDoor
open Go.Ev

/-- All is done: the signs are there. -/
structure DoneAt (w0 : World) (B : Nat → Prop) (W : World) (nb : Nat) (r0 : Emb) (h0 : H) (base k : Nat) (p22 : Nat × Nat × Nat) (got : List ByteArray) (r : Emb) (a : Act) (w : World) : Prop where
  st : St Tryz.prog W nb 47 r (fget (Sg.doneS k).f) [] (Sg.doneS k).h a w
  step : Step r0 h0 W r (Sg.doneS k).h w
  own : w.ownsRow base 29 3 (a.tmps.getD 4 undef) k (cellsSg got)
  free : ∀ g, (a.tmps.getD 4 undef).ownBlock = some g → ¬ Held r (Sg.doneS k).h g
  t5 : a.tmps.getD 5 undef = .bool true
  bw : base ≤ w.heap.size
  n22 : r 22 = some p22
  kp : Kp w0 B r (Sg.doneS k).h w

theorem tbD_is {a : Nat} : tbOf tbD a = .no ∨ (tbOf tbD a = .num 0 0 1000 ∧ a = 11) := by
  simp only [tbD, tbOf]
  cases h1 : Nat.beq a 11 <;> simp only [cond_true, cond_false]
  · exact .inl (by trivial)
  · exact .inr ⟨by trivial, Nat.eq_of_beq_eq_true h1⟩

section
variable {w0 W : World} {B : Nat → Prop} {nb base x y : Nat} {p22 : Nat × Nat × Nat} {r0 : Emb} {h0 : H}

set_option maxHeartbeats 4000000 in
set_option maxRecDepth 100000 in
theorem done_ok {k pl : Nat} {r : Emb} {got : List ByteArray} {a : Act} {w : World} (hlow : ∀ id, 10 ≤ id → r0 id = none) (hg0 : GRel Tryz.prog r0) (H : HeadAt w0 B W nb r0 h0 base x y k pl p22 got r a w) (hxy : x < 256 ^ y) (hev : (sval x y).size % 2 = 0) (hsz : (sval x y).size ≤ 2000) (hpl : pl ≤ (sval x y).size / 2)
    (hn : signLen (sval x y) pl = 0) (hple : pl ≤ 1000) (hD : fD k = true) {Q : Exit → Act → World → Prop} (hQ : ∀ r' a' w', DoneAt w0 B W nb r0 h0 base k p22 got r' a' w' → Q .ret a' w') : bodyCode.wp Tryz.prog Q a w := by
  obtain ⟨x', y', hxy', ht⟩ := sval_all ((sval x y).extract (2 * pl) (2 * (pl + 0)))
  obtain ⟨l0, l1⟩ := live0 k
  obtain ⟨b, hs1, st1, hh1⟩ := pin_sound (k := 0) (x := x') (y := y') H.st H.step H.n12 H.n13 (head_next k) l0 l1 (fun b => ⟨x, y, pl, x', y', H.n10, hxy, H.n11, rfl, hxy', hev, hsz, hpl, hn, ht⟩)
  have hcall : CallFnOk Tryz.prog W callG := callG_ok
  unfold fD at hD
  split at hD
  · rename_i f d h he
    split at hD
    · simp only [Bool.and_eq_true] at hD
      obtain ⟨⟨hA1, hA2⟩, _⟩ := hD
      have hA2' := veq_eq hA2
      refine body_wp body_shape ?_
      have := denL_sound (Q := PreQ Tryz.prog bodyCode Q) (rest := []) hcall noNum (draws _ hcall) preL (Sg.headS k).f f [] [] (Sg.headH k 0) h .ret _ a w pre_ok (head_dim k) hs1 he (fun e r' a' w' q1 q2 q3 q4 => ?_)
      · rw [List.append_nil] at this
        exact this
      have e1 : e = .ret := q1
      subst e1
      show PreQ Tryz.prog bodyCode Q .ret a' w'
      refine .inr ⟨rfl, ?_⟩
      have p11 : r' 11 = some (pl, 0, 0) := q4.le _ _ H.n11
      obtain ⟨r2, u1, u2, u3, u4, u5, u6⟩ := turn_sound hA1 (nm := fun id => if id = 11 then some (pl, 0, 0) else none) (Nat.le_refl 20) hlow hg0 q3 (st1.trans q4) (fun r2 hr2 =>
        { num := fun a f lb ub e => by
            rcases tbD_is (a := a) with q | ⟨q, rfl⟩
            · rw [q] at e; cases e
            · rw [q] at e
              cases e
              exact ⟨rfl, pl, p11, by rw [hr2 11 rfl]; rfl, Nat.zero_le _, hple⟩
          keep := fun a e => by
            rcases tbD_is (a := a) with q | ⟨q, _⟩ <;> (rw [q] at e; cases e)
          at_ := fun a m e => by
            rcases tbD_is (a := a) with q | ⟨q, _⟩ <;> (rw [q] at e; cases e) })
      have hlst : a'.tmps.getD 4 undef = a.tmps.getD 6 undef := by
        have v1 := H.st.tm 6
        have v2 := q3.tm 4
        rw [hA2'] at v2
        rw [show fget (Sg.headS k).f 6 = Sg.six k from rfl] at v1
        exact six_det (Emb.le_trans (pinR_le H.n12 H.n13) q4.le) v1 v2
      refine hQ r2 a' w' ⟨u3, u4, ?_, ?_, ?_, Nat.le_trans H.bw q4.size, by rw [u6.2 22 22 _ (in_22 rfl)]; exact q4.le _ _ (pinR_le H.n12 H.n13 _ _ H.n22), ((H.kp.go (r' := pinR r x' y' b) (h' := Sg.headH k 0) (fun _ _ _ => rfl) (fun g _ hh => hh1 g hh) (Nat.le_refl _)).step q4).go (fun _ _ _ => rfl) (fun g _ hh => u5 g hh) (Nat.le_refl _)⟩
      · rw [hlst]
        exact ownsRow_at H.own fun g hg => q4.keep g (H.own.lt g hg).2 (fun ho => H.free g hg (hh1 g ho.held))
      · rw [hlst]
        intro g hg hh
        have hlt := (H.own.lt g hg).2
        exact H.free g hg (hh1 g (q4.held g hlt (u5 g hh)))
      · have := u3.tm 5
        rw [show fget (Sg.doneS k).f 5 = .bool true from rfl] at this
        generalize a'.tmps.getD 5 undef = z at this ⊢
        cases this
        rfl
    · cases hD
  · cases hD

/-- What the rounds come to. -/
structure SgFacts : Prop where
  a : ∀ n k, k < 500 → n = 1 ∨ n = 2 → fA n k = true
  c : ∀ k, k < 500 → fC k = true
  d : ∀ k, k ≤ 500 → fD k = true

theorem signLen_le (s : ByteArray) (a : Nat) : signLen s a ≤ s.size / 2 - a ∧ (signLen s a = 0 ∨ signLen s a = 1 ∨ signLen s a = 2) := by
  unfold signLen
  split
  · exact ⟨Nat.zero_le _, .inl rfl⟩
  · split
    · exact ⟨by omega, .inr (.inr rfl)⟩
    · exact ⟨by omega, .inr (.inl rfl)⟩

theorem loop_ok (Fs : SgFacts) (hlow : ∀ id, 10 ≤ id → r0 id = none) (hg0 : GRel Tryz.prog r0) (hW : W.heap.size ≤ base) (hw0 : w0.heap.size ≤ base) (hxy : x < 256 ^ y) (hev : (sval x y).size % 2 = 0) (hsz : (sval x y).size ≤ 1000) :
    ∀ (f pl k : Nat) (got : List ByteArray) (r : Emb) (a : Act) (w : World), (sval x y).size / 2 - pl ≤ f → pl ≤ (sval x y).size / 2 → k + ((sval x y).size / 2 - pl) ≤ 500 → HeadAt w0 B W nb r0 h0 base x y k pl p22 got r a w →
      Code.roundsIn (wideR none) 0 Tryz.prog bodyCode (fun e a' w' => e = .ret ∧ ∃ k' r', k' ≤ 500 ∧ DoneAt w0 B W nb r0 h0 base k' p22 (got ++ sgnL (sval x y) (f + 1) pl) r' a' w') (f + 1) a w := by
  intro f
  induction f with
  | zero =>
    intro pl k got r a w h1 h2 h3 H
    rw [roundsIn_succ]
    obtain ⟨g1, g2⟩ := signLen_le (sval x y) pl
    have hn : signLen (sval x y) pl = 0 := by omega
    refine wpIn_wide.2 (done_ok hlow hg0 H hxy hev (by omega) h2 hn (by omega) (Fs.d k (by omega)) (fun r' a' w' hd => ⟨rfl, k, r', by omega, ?_⟩))
    rw [sgnL, if_pos hn, List.append_nil]
    exact hd
  | succ f ih =>
    intro pl k got r a w h1 h2 h3 H
    rw [roundsIn_succ]
    obtain ⟨g1, g2⟩ := signLen_le (sval x y) pl
    by_cases hn : signLen (sval x y) pl = 0
    · refine wpIn_wide.2 (done_ok hlow hg0 H hxy hev (by omega) h2 hn (by omega) (Fs.d k (by omega)) (fun r' a' w' hd => ⟨rfl, k, r', by omega, ?_⟩))
      rw [sgnL, if_pos hn, List.append_nil]
      exact hd
    · refine wpIn_wide.2 (round_ok hlow hg0 hW hw0 H hxy hev (by omega) h2 (by omega) rfl (by omega) (Fs.a _ k (by omega) (by omega)) (Fs.c k (by omega)) (fun r' a' w' hd => ?_))
      have := ih (pl + signLen (sval x y) pl) (k + 1) _ r' a' w' (by omega) (by omega) (by omega) hd
      rw [List.append_assoc] at this
      rw [sgnL, if_neg hn]
      exact this
end
end Go.Proofs.YtllgeddjlodliaaGreatDoor
