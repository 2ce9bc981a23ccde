/- ListSigns: the append of all, by hand. No condition. -/
import Derived.Test.YtllgeddjlodliaaGreatDoorYEvSgX
import Derived.Test.YtllgeddjlodliaaGreatDoorYEvSgB
import Derived.Deep.AppendLies
namespace Go.Ev

variable {P : Program}

theorem op_value {o : Oper} {a : Act} {w w' : World} {K : Act → World → Prop} {Q : Exit → Act → World → Prop} {z : Value} (hrun : (execOp a.eval o).run P w = .ok (.value z) w') (hK : K (a.put o.dst z) w') : o.wpIn (wideR none) 0 P a w K Q := by
  refine ⟨fun _ _ => trivial, ?_⟩
  show o.uponIn (wideR none) 0 P a K Q ((execOp a.eval o).run P w)
  rw [hrun]
  exact hK
theorem ops_cons {ops : Array Oper} {Q : Exit → Act → World → Prop} {i : Nat} {rest : List Nat} {o : Oper} {a : Act} {w : World} (h : ops[i]? = some o) (hg : o.guard = none) (hw : o.wpIn (wideR none) 0 P a w (wpOpsIn (wideR none) 0 P ops Q rest) Q) :
    wpOpsIn (wideR none) 0 P ops Q (i :: rest) a w := by
  simp only [wpOpsIn, h]
  rw [if_pos (by simp [Region.wanted, hg])]
  exact hw
theorem put_other {a : Act} {u t : Nat} {z : Value} (h : t ≠ u) : (a.put (some u) z).tmps.getD t undef = a.tmps.getD t undef := by
  simp only [Act.put, Array.getD_eq_getD_getElem?]
  rw [Array.getElem?_setIfInBounds_ne (Ne.symm h)]
theorem put_same {a : Act} {u : Nat} {z : Value} (h : u < a.tmps.size) : (a.put (some u) z).tmps.getD u undef = z := by
  simp [Act.put, Array.getD_eq_getD_getElem?, h]
/-- What the labels speak of is as it was; more names. -/
theorem rel_same {r r' : Emb} {h : H} {w w' : World} (hr : Rel r h w) (hle : r.le r') (hnew : ∀ id, h.next ≤ id → r' id = none) (hw : ∀ b, Held r h b → w'.heap[b]? = w.heap[b]?) : Rel r' h w' := by
  have at' : ∀ id, Live h id → ∃ x, r id = some x ∧ r' id = some x := fun id hl => by
    obtain ⟨b, sh, m, g, _⟩ := hr.fit id hl.1 hl.2
    exact ⟨_, g, hle _ _ g⟩
  refine ⟨fun id hi hl => ?_, fun id id' b sh m sh' m' hl hl' ho e e' => ?_, hnew⟩
  · obtain ⟨b, sh, m, g1, g2⟩ := hr.fit id hi hl
    exact ⟨b, sh, m, hle _ _ g1, g2.keep hle (hw b ⟨id, sh, m, ⟨hi, hl⟩, g1⟩)⟩
  · obtain ⟨x, g1, g2⟩ := at' id hl
    obtain ⟨x', g3, g4⟩ := at' id' hl'
    rw [g2] at e
    rw [g4] at e'
    cases e
    cases e'
    exact hr.inj id id' b sh m sh' m' hl hl' ho g1 g3
theorem held_same {r r' : Emb} {h : H} {w : World} (hr : Rel r h w) (hle : r.le r') {b : Nat} (hh : Held r' h b) : Held r h b := by
  obtain ⟨id, sh, m, hl, e⟩ := hh
  obtain ⟨b2, sh2, m2, g, _⟩ := hr.fit id hl.1 hl.2
  have := hle _ _ g
  rw [e] at this
  cases this
  exact ⟨id, sh, m, hl, g⟩
theorem own_same {r r' : Emb} {h : H} {w : World} (hr : Rel r h w) (hle : r.le r') {b : Nat} (hh : Own r' h b) : Own r h b := by
  obtain ⟨id, sh, m, hi, ho, e⟩ := hh
  obtain ⟨b2, sh2, m2, g, _⟩ := hr.fit id hi (live_of_own ho)
  have := hle _ _ g
  rw [e] at this
  cases this
  exact ⟨id, sh, m, hi, ho, g⟩

/-- What was there and what no label spoke of is as it was. -/
structure Kp (w0 : World) (B : Nat → Prop) (r : Emb) (h : H) (w : World) : Prop where
  same : ∀ b, b < w0.heap.size → ¬ B b → w.heap[b]? = w0.heap[b]?
  held : ∀ b, b < w0.heap.size → Held r h b → B b
  size : w0.heap.size ≤ w.heap.size
theorem Kp.go {w0 : World} {B : Nat → Prop} {r r' : Emb} {h h' : H} {w w' : World} (k : Kp w0 B r h w) (h1 : ∀ b, b < w0.heap.size → ¬ Held r h b → w'.heap[b]? = w.heap[b]?) (h2 : ∀ b, b < w0.heap.size → Held r' h' b → Held r h b) (h3 : w.heap.size ≤ w'.heap.size) : Kp w0 B r' h' w' :=
  ⟨fun b hb hn => by rw [h1 b hb (fun hh => hn (k.held b hb hh)), k.same b hb hn], fun b hb hh => k.held b hb (h2 b hb hh), Nat.le_trans k.size h3⟩
theorem Kp.step {w0 : World} {B : Nat → Prop} {r r' : Emb} {h h' : H} {w w' : World} (k : Kp w0 B r h w) (st : Step r h w r' h' w') : Kp w0 B r' h' w' :=
  k.go (fun b hb hn => st.keep b (Nat.lt_of_lt_of_le hb k.size) (fun ho => hn ho.held)) (fun b hb hh => st.held b (Nat.lt_of_lt_of_le hb k.size) hh) st.size

end Go.Ev
namespace Go.Proofs.YtllgeddjlodliaaGreatDoor
open Go.Ev

noncomputable def appOps : Array Oper := match appC with | .region _ ops _ => ops | _ => #[]
theorem app_eq : appC = .region 11 appOps false := by kernel_rfl
theorem app_size : appOps.size = 5 := by kernel_rfl
noncomputable def aop (k : Nat) : Oper := (appOps[k]?).getD default
theorem ap0 : appOps[0]? = some (aop 0) := by kernel_rfl
theorem ap1 : appOps[1]? = some (aop 1) := by kernel_rfl
theorem ap2 : appOps[2]? = some (aop 2) := by kernel_rfl
theorem ap3 : appOps[3]? = some (aop 3) := by kernel_rfl
theorem ap4 : appOps[4]? = some (aop 4) := by kernel_rfl
theorem ad0 : (aop 0).dst = some 41 ∧ (aop 0).guard = none ∧ (aop 0).op = .move (.tmp 6) := ⟨by kernel_rfl, by kernel_rfl, by kernel_rfl⟩
theorem ad1 : (aop 1).dst = some 42 ∧ (aop 1).guard = none ∧ (aop 1).op = .load 29 (.tmp 11) := ⟨by kernel_rfl, by kernel_rfl, by kernel_rfl⟩
theorem ad2 : (aop 2).dst = some 43 ∧ (aop 2).guard = none ∧ (aop 2).op = .buildSlice 32 1 #[(0, .tmp 42)] := ⟨by kernel_rfl, by kernel_rfl, by kernel_rfl⟩
theorem ad3 : (aop 3).dst = some 44 ∧ (aop 3).guard = none ∧ (aop 3).op = .call { callee := .builtin .append, args := #[.tmp 41, .tmp 43], argTypes := #[32, 32] } := ⟨by kernel_rfl, by kernel_rfl, by kernel_rfl⟩
theorem ad4 : (aop 4).dst = some 6 ∧ (aop 4).guard = none ∧ (aop 4).op = .assign (.tmp 44) := ⟨by kernel_rfl, by kernel_rfl, by kernel_rfl⟩
def vE : List V := [Sg.i 7, Sg.i 0, Sg.sgV]
def E1 (x : Operand) : V := match x with | .tmp 11 => .ptr 136 0 | _ => .any
def E2 (x : Operand) : V := match x with | .tmp 42 => .agg vE | _ => .any
set_option maxRecDepth 100000 in
theorem load_at (k : Nat) : loadV Tryz.prog (Sg.midS k).h 29 (.ptr 136 0) = some (.agg vE) := by kernel_rfl
theorem new_at : newOf Tryz.prog E2 (.buildSlice 32 1 #[(0, .tmp 42)]) = some (vE, 29, some (1, 1, 3)) := by kernel_rfl
theorem lay_at (k : Nat) : newV (Sg.midS k).h vE.length 29 vE = some (Sg.newH k) := rfl
theorem int_val {r : Emb} {k : IntKind} {n : Int} {z : Value} (h : VRel r (.int k n) z) : z = .int k n := by cases h; rfl
theorem vE_val {r : Emb} {l : List Value} (h : VsRel r vE l) {x y : Nat} (h12 : r 12 = some (x, y, 0)) : l = [.int .i64 7, .int .i64 0, .string (sval x y)] := by
  cases h with
  | cons h1 h => cases h with
    | cons h2 h => cases h with
      | cons h3 h =>
        cases h
        have e1 := (int_val h1 : _ = Value.int .i64 7)
        have e2 := (int_val h2 : _ = Value.int .i64 0)
        obtain ⟨a, b, c, g1, g2⟩ := name1_inv (q := 97) h3 (by decide)
        rw [show 97 / 8 = 12 from rfl, h12] at g1
        cases g1
        rw [e1, e2, g2]

set_option maxHeartbeats 4000000 in
set_option maxRecDepth 100000 in
theorem app_walk {W : World} {nb k base x y : Nat} {r0 r : Emb} {h0 : H} {a : Act} {w : World} {lst : Value} {xs : List Value}
    (hs : St Tryz.prog W nb 47 r (fget (Sg.midS k).f) [] (Sg.midS k).h a w) (st : Step r0 h0 W r (Sg.midS k).h w) (hk : k ≤ 1000) (hl : a.tmps.getD 6 undef = lst) (hown : w.ownsRow base 29 3 lst k xs) (hbase : W.heap.size ≤ base) (hbw : base ≤ w.heap.size)
    (hfree : ∀ g, lst.ownBlock = some g → ¬ Held r (Sg.midS k).h g) (h12 : r 12 = some (x, y, 0)) (h15 : r 15 = none) (h16 : r 16 = none) (h19 : r 19 = none) {Q : Exit → Act → World → Prop}
    (hQ : ∀ (r' : Emb) (g cap : Nat) (a' : Act) (w' : World), r.le r' → r' 15 = some (g, 0, 0) → r' 16 = some (0, 0, 0) → r' 19 = some (k + 1, cap, 0) → (∀ id, isNam id = true → id ≠ 15 → id ≠ 16 → id ≠ 19 → r' id = r id) →
      St Tryz.prog W nb 47 r' (fget (Sg.newF k)) [] (Sg.newH k) a' w' → Step r0 h0 W r' (Sg.newH k) w' → a'.tmps.getD 6 undef = .slice (some ⟨g, 0, none⟩) (k + 1) cap →
      w'.ownsRow base 29 3 (.slice (some ⟨g, 0, none⟩) (k + 1) cap) (k + 1) (xs ++ [.int .i64 7, .int .i64 0, .string (sval x y)]) → ¬ Held r' (Sg.newH k) g → base ≤ w'.heap.size → (∀ b, b < base → w'.heap[b]? = w.heap[b]?) → (∀ b, b < w.heap.size → Held r' (Sg.newH k) b → Held r (Sg.midS k).h b) → w.heap.size ≤ w'.heap.size → Q .normal a' w') :
    appC.wpIn (wideR none) 0 Tryz.prog Q a w := by
  obtain ⟨i0, hi, hz0, hz1, hz2⟩ := info_at (P := Tryz.prog) (t := 29) (z := .agg #[.int .i64 0, .int .i64 0, .string ByteArray.empty]) (s := 3) (b := 32) (by kernel_rfl) (by kernel_rfl) (by kernel_rfl)
  have hsz : 47 ≤ a.tmps.size := hs.sz
  rw [app_eq]
  refine wpIn_region ?_
  rw [app_size]
  show wpOpsIn (wideR none) 0 Tryz.prog appOps Q [0, 1, 2, 3, 4] a w
  refine ops_cons ap0 ad0.2.1 (op_value (z := lst) (w' := w) ?_ ?_)
  · unfold execOp
    rw [ad0.2.2]
    rw [← hl]
    rfl
  rw [ad0.1]
  obtain ⟨a1, ha1⟩ : ∃ a1, a1 = a.put (some 41) lst := ⟨_, rfl⟩
  rw [← ha1]
  have z1 : 47 ≤ a1.tmps.size := by rw [ha1, put_size]; exact hsz
  have t11 : VRel r (.ptr 136 0) (a1.eval (.tmp 11)) := by
    have := hs.tm 11
    rw [show fget (Sg.midS k).f 11 = .ptr 136 0 from rfl] at this
    show VRel r _ (a1.tmps.getD 11 undef)
    rw [ha1, put_other (by decide)]
    exact this
  obtain ⟨z, hz, hvz⟩ := loadV_sound hs.rel (load_at k) t11
  refine ops_cons ap1 ad1.2.1 (op_value (z := z) (w' := w) ?_ ?_)
  · unfold execOp
    rw [ad1.2.2]
    simp [hz]
  rw [ad1.1]
  obtain ⟨a2, ha2⟩ : ∃ a2, a2 = a1.put (some 42) z := ⟨_, rfl⟩
  rw [← ha2]
  have z2 : 47 ≤ a2.tmps.size := by rw [ha2, put_size]; exact z1
  have hE2 : ERel r E2 a2.eval := fun o => by
    unfold E2
    split
    · show VRel r _ (a2.tmps.getD 42 undef)
      rw [ha2, put_same (by omega)]
      exact hvz
    · exact .any _
  obtain ⟨cs, hcs, hrun, hfit⟩ := newOf_run (w := w) hE2 (o := aop 2) (by rw [ad2.2.2]; exact new_at)
  have hcl : cs.toList = [.int .i64 7, .int .i64 0, .string (sval x y)] := vE_val hcs h12
  refine ops_cons ap2 ad2.2.1 (op_value hrun ?_)
  rw [ad2.1]
  have hnt : newAt (some (1, 1, 3)) w.heap.size = .slice (some ⟨w.heap.size, 0, none⟩) 1 1 := rfl
  rw [hnt]
  obtain ⟨a3, ha3⟩ : ∃ a3, a3 = a2.put (some 43) (.slice (some ⟨w.heap.size, 0, none⟩) 1 1) := ⟨_, rfl⟩
  rw [← ha3]
  have z3 : 47 ≤ a3.tmps.size := by rw [ha3, put_size]; exact z2
  have s1 := newV_sound hs.rel hcs (lay_at k)
  obtain ⟨w1, hw1⟩ : ∃ w1, w1 = w.alloc (.cells cs 29) := ⟨_, rfl⟩
  rw [← hw1] at s1 ⊢
  obtain ⟨r1, hr1⟩ : ∃ r1, r1 = r.put 137 (w.heap.size, 0, cs.size) := ⟨_, rfl⟩
  have s1' : Step r (Sg.midS k).h w r1 (Sg.newH k) w1 := by rw [hr1]; exact s1
  have hg1 : w.grownBy w1 none := by rw [hw1]; exact World.grownBy_alloc w _ none
  have own1 : w1.ownsRow base 29 3 lst k xs := hown.kept hg1 (by cases lst.ownBlock <;> simp)
  have e41 : a3.tmps.getD 41 undef = lst := by
    rw [ha3, put_other (by decide), ha2, put_other (by decide), ha1, put_same (by omega)]
  have e43 : a3.tmps.getD 43 undef = .slice (some ⟨w.heap.size, 0, none⟩) 1 1 := by rw [ha3, put_same (by omega)]
  have hw1size : w1.heap.size = w.heap.size + 1 := by rw [hw1]; simp
  have hcell : w1.heap[w.heap.size]? = some (.cells cs 29 (0, 0)) := by rw [hw1]; exact heap_alloc_new w _
  obtain ⟨g, cap, w4, hrun3, own4, hg4, hor, hlt4⟩ := run_append_lies (P := Tryz.prog) w1 32 (aop 3).type base 29 i0 _ 3 32 Tryz.underlying32 hi hz0 hz1 hz2 (by simp [Value.cells]) (by decide) lst k xs own1 ⟨w.heap.size, 0, none⟩ 1 1 [.int .i64 7, .int .i64 0, .string (sval x y)] rfl
    (fun j u hj => by
      rw [← hcl] at hj
      rw [Addr.add_mid]
      simp only [World.cell?, hcell]
      simpa using hj) (fun u hu => by simp at hu; rcases hu with rfl | rfl | rfl <;> rfl) (by decide) (by simp [maxLen]; omega) (by omega) (by omega) w1.heap.size rfl
  refine ops_cons ap3 ad3.2.1 (op_value (z := .slice (some ⟨g, 0, none⟩) (k + 1) cap) (w' := w4) ?_ ?_)
  · have h41 : a3.eval (.tmp 41) = lst := e41
    have h43 : a3.eval (.tmp 43) = .slice (some ⟨w.heap.size, 0, none⟩) 1 1 := e43
    unfold execOp
    simp only [ad3.2.2, resolve, invoke, builtin, Sem.run_bind, Sem.run_pure, Result.andThen_ok, List.map_toArray, List.map_cons, List.map_nil, h41, h43, hrun3]
  rw [ad3.1]
  obtain ⟨a4, ha4⟩ : ∃ a4, a4 = a3.put (some 44) (.slice (some ⟨g, 0, none⟩) (k + 1) cap) := ⟨_, rfl⟩
  rw [← ha4]
  have z4 : 47 ≤ a4.tmps.size := by rw [ha4, put_size]; exact z3
  refine ops_cons ap4 ad4.2.1 (op_value (z := .slice (some ⟨g, 0, none⟩) (k + 1) cap) (w' := w4) ?_ ?_)
  · have h44 : a4.eval (.tmp 44) = .slice (some ⟨g, 0, none⟩) (k + 1) cap := by
      show a4.tmps.getD 44 undef = _
      rw [ha4, put_same (by omega)]
    unfold execOp
    rw [ad4.2.2]
    rw [← h44]
    rfl
  rw [ad4.1]
  show Q .normal (a4.put (some 6) (.slice (some ⟨g, 0, none⟩) (k + 1) cap)) w4
  obtain ⟨a5, ha5⟩ : ∃ a5, a5 = a4.put (some 6) (.slice (some ⟨g, 0, none⟩) (k + 1) cap) := ⟨_, rfl⟩
  rw [← ha5]
  have z5 : 47 ≤ a5.tmps.size := by rw [ha5, put_size]; exact z4
  have e6 : a5.tmps.getD 6 undef = .slice (some ⟨g, 0, none⟩) (k + 1) cap := by rw [ha5, put_same (by omega)]
  have eo : ∀ t, t ≠ 6 → t ≠ 41 → t ≠ 42 → t ≠ 43 → t ≠ 44 → a5.tmps.getD t undef = a.tmps.getD t undef := fun t q1 q2 q3 q4 q5 => by
    rw [ha5, put_other q1, ha4, put_other q5, ha3, put_other q4, ha2, put_other q3, ha1, put_other q2]
  have hd5 : a5.defers = a.defers := by rw [ha5, put_defers, ha4, put_defers, ha3, put_defers, ha2, put_defers, ha1, put_defers]
  -- names
  have o15 : r1 15 = none := by rw [hr1, Emb.put_other _ _ _ _ (by decide)]; exact h15
  have o16 : (r1.put 15 (g, 0, 0)) 16 = none := by rw [Emb.put_other _ _ _ _ (by decide), hr1, Emb.put_other _ _ _ _ (by decide)]; exact h16
  have o19 : ((r1.put 15 (g, 0, 0)).put 16 (0, 0, 0)) 19 = none := by rw [Emb.put_other _ _ _ _ (by decide), Emb.put_other _ _ _ _ (by decide), hr1, Emb.put_other _ _ _ _ (by decide)]; exact h19
  obtain ⟨r5, hr5⟩ : ∃ r5, r5 = ((r1.put 15 (g, 0, 0)).put 16 (0, 0, 0)).put 19 (k + 1, cap, 0) := ⟨_, rfl⟩
  have le15 : r1.le r5 := by
    rw [hr5]
    exact Emb.le_trans (Emb.le_put _ _ _ o15) (Emb.le_trans (Emb.le_put _ _ _ o16) (Emb.le_put _ _ _ o19))
  have le5 : r.le r5 := Emb.le_trans s1'.le le15
  have heldEq : ∀ b, Held r1 (Sg.newH k) b → w4.heap[b]? = w1.heap[b]? := fun b hh => by
    have hb : b < w1.heap.size := s1'.rel.held_lt hh
    refine hg4.block b hb (fun e => ?_)
    have hbl := (hown.lt b e.symm).2
    exact hfree b e.symm (s1'.held b hbl hh)
  have n5 : ∀ id, (Sg.newH k).next ≤ id → r5 id = none := fun id hid => by
    have hid' : 138 ≤ id := hid
    rw [hr5, Emb.put_other _ _ _ _ (by omega), Emb.put_other _ _ _ _ (by omega), Emb.put_other _ _ _ _ (by omega)]
    exact s1'.rel.new id hid
  have rel5 : Rel r5 (Sg.newH k) w4 := rel_same s1'.rel le15 n5 heldEq
  have hnh : ¬ Held r5 (Sg.newH k) g := fun hh => by
    have hh1 := held_same s1'.rel le15 hh
    have hb : g < w1.heap.size := s1'.rel.held_lt hh1
    rcases hor with e | e
    · exact hfree g e (s1'.held g (hown.lt g e).2 hh1)
    · omega
  have same4 : ∀ b, b < base → w4.heap[b]? = w.heap[b]? := fun b hb => by
    rw [hg4.block b (by omega) (fun e => by have := (hown.lt b e.symm).1; omega), hg1.block b (by omega) (by simp)]
  have own5 : ∀ b, Own r5 (Sg.newH k) b → Own r (Sg.midS k).h b ∨ w.heap.size ≤ b := fun b ho => by
    by_cases hb : b < w.heap.size
    · exact .inl (s1'.own b hb (own_same s1'.rel le15 ho))
    · exact .inr (by omega)
  have hsw : W.heap.size ≤ w.heap.size := by omega
  have step5 : Step r0 h0 W r5 (Sg.newH k) w4 := by
    refine ⟨Emb.le_trans st.le le5, rel5, ?_, fun b hb hn => ?_, fun b hb ho => ?_, fun b hb hh => ?_, ?_, ?_, ?_⟩
    · have := hg4.size; omega
    · rw [same4 b (by omega)]
      exact st.keep b hb hn
    · rcases own5 b ho with q | q
      · exact st.own b hb q
      · omega
    · exact st.held b hb (s1'.held b (by omega) (held_same s1'.rel le15 hh))
    · rw [hg4.os, hg1.os]; exact st.os
    · rw [hg4.output, hg1.output]; exact st.out
    · rw [hg4.tape, hg1.tape]; exact st.tape
  have hdef : a.defers = [] := by
    have := hs.ds
    cases hq : a.defers with
    | nil => rfl
    | cons _ _ => rw [hq] at this; cases this
  refine hQ r5 g cap a5 w4 le5 ?_ ?_ ?_ (fun id hn q1 q2 q3 => ?_) ⟨rel5, GRel.up le5 hs.gl, ⟨fun b hb => ?_, fun b ho => ?_, ?_⟩, fun t => ?_, ?_, ?_, z5⟩ step5 e6 own4 hnh ?_ same4 (fun b hb hh => s1'.held b hb (held_same s1'.rel le15 hh)) (by have := hg4.size; omega)
  · rw [hr5, Emb.put_other _ _ _ _ (by decide), Emb.put_other _ _ _ _ (by decide), Emb.put_same]
  · rw [hr5, Emb.put_other _ _ _ _ (by decide), Emb.put_same]
  · rw [hr5, Emb.put_same]
  · have hid : id < 20 := by
      unfold isNam at hn
      simp only [Bool.and_eq_true, Nat.blt_eq] at hn
      exact hn.2
    rw [hr5, Emb.put_other _ _ _ _ q3, Emb.put_other _ _ _ _ q2, Emb.put_other _ _ _ _ q1, hr1, Emb.put_other _ _ _ _ (by omega)]
  · rw [same4 b (by omega)]
    exact hs.base.same b hb
  · rcases own5 b ho with q | q
    · exact hs.base.own b q
    · omega
  · have := hg4.size; omega
  · have key : ∀ (l : List (Nat × V)) (f : Fr), (∀ t, VRel r5 (fget f t) (a5.tmps.getD t undef)) → (∀ t v, (t, v) ∈ l → t < 4096 ∧ VRel r5 v (a5.tmps.getD t undef)) → ∀ t, VRel r5 (fget (frOf l f) t) (a5.tmps.getD t undef) := by
      intro l
      induction l with
      | nil => intro f hf _ t; exact hf t
      | cons p l ih =>
        intro f hf hl t
        obtain ⟨u, v⟩ := p
        refine ih (fset f u v) (fun t => ?_) (fun t v hm => hl t v (.tail _ hm)) t
        obtain ⟨q1, q2⟩ := hl u v (.head _)
        rw [fget_fset _ _ _ _ q1]
        by_cases e : t = u
        · rw [if_pos e, e]; exact q2
        · rw [if_neg e]; exact hf t
    refine key _ fr0 (fun t => by rw [fr0_any]; exact .any _) (fun t v hm => ?_) t
    have slot : ∀ t, t ≠ 6 → t ≠ 41 → t ≠ 42 → t ≠ 43 → t ≠ 44 → VRel r5 (fget (Sg.midS k).f t) (a5.tmps.getD t undef) := fun t q1 q2 q3 q4 q5 => by
      rw [eo t q1 q2 q3 q4 q5]
      exact (hs.tm t).up le5
    simp only [List.mem_cons, Prod.mk.injEq, List.not_mem_nil, or_false] at hm
    rcases hm with ⟨rfl, rfl⟩ | ⟨rfl, rfl⟩ | ⟨rfl, rfl⟩ | ⟨rfl, rfl⟩ | ⟨rfl, rfl⟩
    · exact ⟨by decide, slot 0 (by decide) (by decide) (by decide) (by decide) (by decide)⟩
    · exact ⟨by decide, slot 1 (by decide) (by decide) (by decide) (by decide) (by decide)⟩
    · exact ⟨by decide, slot 3 (by decide) (by decide) (by decide) (by decide) (by decide)⟩
    · refine ⟨by decide, ?_⟩
      rw [e6]
      refine VRel.sat (r := r5) (L := 15) (id := 16) (iz := 19) (b := g) (o := 0) (x := 0) (m := 0) (by decide) (by decide) ?_ ?_ ?_ (by omega)
      · rw [hr5, Emb.put_other _ _ _ _ (by decide), Emb.put_other _ _ _ _ (by decide), Emb.put_same]
      · rw [hr5, Emb.put_other _ _ _ _ (by decide), Emb.put_same]
      · rw [hr5, Emb.put_same]
    · exact ⟨by decide, slot 13 (by decide) (by decide) (by decide) (by decide) (by decide)⟩
  · rw [hd5, hdef]; exact .nil
  · rw [hd5, hdef]
    refine ⟨?_, trivial⟩
    have := hs.mks.1
    have := hg4.size
    omega
  · have := hg4.size; omega
end Go.Proofs.YtllgeddjlodliaaGreatDoor
