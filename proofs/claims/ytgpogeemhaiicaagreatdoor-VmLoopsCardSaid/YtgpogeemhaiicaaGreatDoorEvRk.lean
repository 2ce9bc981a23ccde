/- VmLoops: what is said otherwise of the loops' numbers is so; the plain law of the loops. No condition. -/
import Derived.Test.YtgpogeemhaiicaaGreatDoorEvCn
set_option linter.all false
namespace Go.Proofs.YtgpogeemhaiicaaGreatDoor.Hd
open Go.Ev Go.Proofs.YtgpogeemhaiicaaGreatDoor.Sn Go.Proofs.YtgpogeemhaiicaaGreatDoor.Cm
set_option maxRecDepth 100000

/-! The plain law. -/
/-- The loops' number after so many rounds. -/
def kAt (X2 : Nat) : Nat → Nat
  | 0 => 1
  | i + 1 => if i = X2 then kAt X2 i else (3 * kAt X2 i + i) % 10007
theorem wantGo_kAt (X1 X2 : Nat) : ∀ m i, i ≤ X1 → wantGo X1 X2 m i (kAt X2 i) = kAt X2 (min (i + m) X1)
  | 0, i, h => by
    rw [wantGo, Nat.add_zero, Nat.min_eq_left h]
  | m + 1, i, h => by
    rw [wantGo]
    by_cases e : i = X1
    · rw [if_pos e, e, Nat.min_eq_right (by omega)]
    · rw [if_neg e]
      have := wantGo_kAt X1 X2 m (i + 1) (by omega)
      rw [show i + (m + 1) = i + 1 + m by omega, ← this]
      rfl
theorem want_kAt (X0 X1 X2 : Nat) : wantOf X0 X1 X2 = kAt X2 (min X0 X1) := by
  have := wantGo_kAt X1 X2 X0 0 (Nat.zero_le _)
  rw [Nat.zero_add] at this
  exact this
def kOkB (X2 i : Nat) : Bool := Nat.ble (kAt X2 i) 10006 && (Nat.beq i X2 || (Nat.beq X2 4 && (Nat.beq i 21 || Nat.beq i 22)) || (Nat.ble 1 (kAt X2 i) && Nat.ble 1 ((3 * kAt X2 i + i) % 10007)))
theorem kOkB_all : (List.range 40).all (fun X2 => (List.range 30).all fun i => kOkB X2 i) = true := by decide +kernel
theorem kAt_ok {X2 i : Nat} (h2 : X2 ≤ 39) (hi : i ≤ 29) : kAt X2 i ≤ 10006 ∧ (i ≠ X2 → ¬ (X2 = 4 ∧ (i = 21 ∨ i = 22)) → 1 ≤ kAt X2 i ∧ 1 ≤ (3 * kAt X2 i + i) % 10007) := by
  have h := List.all_eq_true.1 (List.all_eq_true.1 kOkB_all X2 (List.mem_range.2 (by omega))) i (List.mem_range.2 (by omega))
  unfold kOkB at h
  simp only [Bool.and_eq_true, Bool.or_eq_true, Nat.ble_eq] at h
  refine ⟨h.1, fun a b => ?_⟩
  rcases h.2 with (q | q) | q
  · exact absurd (Nat.eq_of_beq_eq_true q) a
  · exact absurd ⟨Nat.eq_of_beq_eq_true q.1, q.2.imp Nat.eq_of_beq_eq_true Nat.eq_of_beq_eq_true⟩ b
  · exact q
theorem kAt_stay {X2 i : Nat} (h : i = X2) : kAt X2 (i + 1) = kAt X2 i := by rw [kAt, if_pos h]
theorem kAt_go {X2 i : Nat} (h : i ≠ X2) : kAt X2 (i + 1) = (3 * kAt X2 i + i) % 10007 := by rw [kAt, if_neg h]
theorem kAt_21 : kAt 4 21 = 10000 := by decide +kernel
theorem kAt_22 : kAt 4 22 = 0 := by decide +kernel
theorem kAt_23 : kAt 4 23 = 22 := by decide +kernel

/-! Names. -/
def nmF (K I st pt sw : Nat) (id : Nat) : Option (Nat × Nat × Nat) :=
  if id = 40000 then some (K, 0, 0) else if id = 40001 then some (I, 0, 0) else if id = 40002 then some (st, 0, 0) else if id = 40003 then some (pt, 0, 0) else if id = 40004 then some (sw, 0, 0) else none
structure NmR (r : Emb) (K I st pt sw : Nat) : Prop where
  k : r 40000 = some (K, 0, 0)
  i : r 40001 = some (I, 0, 0)
  s : r 40002 = some (st, 0, 0)
  p : r 40003 = some (pt, 0, 0)
  w : r 40004 = some (sw, 0, 0)
theorem nmR_of {r : Emb} {K I st pt sw : Nat} (h : ∀ id x, isNam id = true → nmF K I st pt sw id = some x → r id = some x) : NmR r K I st pt sw :=
  ⟨h _ _ rfl rfl, h _ _ rfl rfl, h _ _ rfl rfl, h _ _ rfl rfl, h _ _ rfl rfl⟩
theorem nmR_of2 {r : Emb} {K I st pt sw : Nat} (h : ∀ id, isNam id = true → r id = nmF K I st pt sw id) : NmR r K I st pt sw :=
  ⟨h _ rfl, h _ rfl, h _ rfl, h _ rfl, h _ rfl⟩
theorem sy_rel {r : Emb} {id x lo hi : Nat} (hid : id < 65536) (hr : r id = some (x, 0, 0)) (h1 : lo ≤ x) (h2 : x ≤ hi) (hl : lo < 4294967296) : VRel r (sy id 0 lo hi) (.int .i64 x) := by
  have e : sy id 0 lo hi = .msk 0 (4 * sPack id 1073741824 1073741824 lo hi + 1) := rfl
  rw [e]
  refine .sym ⟨?_, ?_, .inr ⟨x, 0, 0, ?_, ?_, ?_⟩⟩
  · rw [sPack_lo (by omega) (by omega) (by omega) hl]; omega
  · rw [sPack_hi (by omega) (by omega) (by omega) hl]; omega
  · rw [sPack_id (by omega)]; exact hr
  · rw [sPack_c (by omega) (by omega)]; omega
  · rw [sPack_d (by omega) (by omega) (by omega)]; omega
theorem sy_val {r : Emb} {id x c lo hi : Nat} (hid : id < 65536) (h0 : 0 < id) (hc : c < 1073741824) (hl : lo < 4294967296) (hr : r id = some (x, 0, 0)) {z : Value} (hz : VRel r (sy id c lo hi) z) : z = .int .i64 ((x + c : Nat) : Int) := by
  have e : sy id c lo hi = .msk 0 (4 * sPack id (1073741824 + c) (1073741824 + c) lo hi + 1) := rfl
  rw [e] at hz
  obtain ⟨n, rfl, _, _, h⟩ := symK_inv hz (by omega)
  rw [show (4 * sPack id (1073741824 + c) (1073741824 + c) lo hi + 1) / 4 = sPack id (1073741824 + c) (1073741824 + c) lo hi by omega, sPack_id (by omega), sPack_c (by omega) (by omega), sPack_d (by omega) (by omega) (by omega)] at h
  rcases h with h | ⟨a, b, d, h1, h2, h3⟩
  · omega
  · rw [hr] at h1
    cases h1
    congr 1
    omega
theorem gK_rel {r : Emb} {K : Nat} (hr : r 40000 = some (K, 0, 0)) (hK : K ≤ 10006) : VRel r gK (.int .i64 K) := .nam (c := 13) (by omega) (.inr (.inr (.inr ⟨⟨by omega, by omega⟩, K, hr, hK, rfl⟩)))
theorem gK_val {r : Emb} {K : Nat} (hr : r 40000 = some (K, 0, 0)) {z : Value} (hz : VRel r gK z) : z = .int .i64 K := by
  obtain ⟨_, n, rfl, hn⟩ := nam_inv (c := 13) hz (by decide)
  rcases hn with ⟨q, _⟩ | ⟨q, _⟩ | ⟨q, _⟩ | ⟨q, W, h1, _, rfl⟩
  · omega
  · omega
  · omega
  · have h1' : r 40000 = some (W, 0, 0) := h1
    rw [hr] at h1'
    cases h1'
    rfl
theorem k3_val {r : Emb} {K I : Nat} (hr : r 40000 = some (K, 0, 0)) (hi : r 40001 = some (I, 0, 0)) {z : Value} (hz : VRel r (.cl1 0 11) z) : z = .int .i64 ((3 * K + I) % 10007 : Nat) := by
  obtain ⟨_, n, rfl, hn⟩ := nam_inv (c := 11) hz (by decide)
  rcases hn with ⟨q, K', I', h1, h2, _, _, _, _, rfl⟩ | ⟨q, _⟩ | ⟨q, _⟩ | ⟨q, _⟩
  · have h1' : r 40000 = some (K', 0, 0) := h1
    have h2' : r 40001 = some (I', 0, 0) := h2
    rw [hr] at h1'; rw [hi] at h2'
    cases h1'; cases h2'
    rfl
  · omega
  · omega
  · omega
theorem k0_rel {r : Emb} {K I : Nat} (hr : r 40000 = some (K, 0, 0)) (hi : r 40001 = some (I, 0, 0)) (h1 : 1 ≤ K) (h2 : K ≤ 10006) (h3 : I ≤ 39) (h4 : 1 ≤ (3 * K + I) % 10007) : VRel r (.cl1 0 8) (.int .i64 K) :=
  .nam (c := 8) (by omega) (.inl ⟨by omega, K, I, hr, hi, h1, h2, h3, h4, rfl⟩)
theorem kW_rel {r : Emb} {W : Nat} (hr : r 13 = some (W, 0, 0)) (hW : W ≤ 10006) : VRel r (.cl1 0 12) (.int .i64 W) := .nam (c := 12) (by omega) (.inr (.inr (.inr ⟨⟨by omega, by omega⟩, W, hr, hW, rfl⟩)))
theorem nw_rel {r : Emb} {j w X I : Nat} (hj : j < 3) (hw : w < 4) (hr : r (10 + j) = some (X, 0, 0)) (hi : r 40001 = some (I, 0, 0)) (hX : X ≤ 39) (hI : I ≤ 39) (h : relW w X I) : VRel r (.cl1 0 (16 + 4 * j + w)) (.int .i64 X) := by
  refine .nam (by omega) (.inr (.inl ⟨by omega, by omega, X, I, ?_, hi, hX, hI, ?_, rfl⟩))
  · rw [show (16 + 4 * j + w - 16) / 4 = j by omega]; exact hr
  · rw [show (16 + 4 * j + w - 16) % 4 = w by omega]; exact h
theorem nw_val {r : Emb} {j w X : Nat} (hj : j < 3) (hw : w < 4) (hr : r (10 + j) = some (X, 0, 0)) {z : Value} (hz : VRel r (.cl1 0 (16 + 4 * j + w)) z) : z = .int .i64 X := by
  obtain ⟨_, n, rfl, hn⟩ := nam_inv hz (by
    unfold isNum
    rw [Bool.and_eq_true, Bool.or_eq_true, Nat.ble_eq, Nat.blt_eq]
    exact ⟨by omega, .inl (by omega)⟩)
  rcases hn with ⟨q, _⟩ | ⟨_, _, X', I', h1, _, _, _, _, rfl⟩ | ⟨q, _⟩ | ⟨q, _⟩
  · omega
  · rw [show (16 + 4 * j + w - 16) / 4 = j by omega, hr] at h1
    cases h1
    rfl
  · omega
  · omega
theorem int_val {r : Emb} {n : Nat} {z : Value} (hz : VRel r (Sn.i n) z) : z = .int .i64 n := by
  cases hz
  rfl

/-- A value stands for this number, wherever the names are so. -/
def Is (r : Emb) (K I st pt sw : Nat) (u : V) (n : Nat) : Prop := ∀ r1 z, r.le r1 → NmR r1 K I st pt sw → VRel r1 u z → z = .int .i64 n
def As (r : Emb) (K I st pt sw : Nat) (v : V) (n : Nat) : Prop := ∀ r1, r.le r1 → NmR r1 K I st pt sw → VRel r1 v (.int .i64 n)

theorem cv_nil {r : Emb} {nm nm' : Nat → Option (Nat × Nat × Nat)} : CvOk r nm nm' [] := fun _ _ _ _ _ _ v u x h => by cases h
theorem cv_cons {r : Emb} {K I st pt sw K' I' st' pt' sw' : Nat} {v u : V} {l : List (V × V)} {n : Nat} (h1 : Is r K I st pt sw u n) (h2 : As r K' I' st' pt' sw' v n) (h : CvOk r (nmF K I st pt sw) (nmF K' I' st' pt' sw') l) : CvOk r (nmF K I st pt sw) (nmF K' I' st' pt' sw') ((v, u) :: l) := by
  intro r1 r2 e1 e2 e3 e4 v' u' x hm hv
  rcases List.mem_cons.1 hm with q | q
  · simp only [Prod.mk.injEq] at q
    obtain ⟨rfl, rfl⟩ := q
    rw [h1 r1 x e1 (nmR_of e3) hv]
    exact h2 r2 e2 (nmR_of2 e4)
  · exact h r1 r2 e1 e2 e3 e4 v' u' x q hv
theorem cv_app {r : Emb} {nm nm' : Nat → Option (Nat × Nat × Nat)} {l l' : List (V × V)} (h : CvOk r nm nm' l) (h' : CvOk r nm nm' l') : CvOk r nm nm' (l ++ l') := by
  intro r1 r2 e1 e2 e3 e4 v u x hm hv
  rcases List.mem_append.1 hm with q | q
  · exact h r1 r2 e1 e2 e3 e4 v u x q hv
  · exact h' r1 r2 e1 e2 e3 e4 v u x q hv
theorem cvG_ok {r : Emb} {p X0 X1 X2 : Nat} (hX : NmX r p X0 X1 X2) {K I st pt sw K' I' fs fp fw : Nat} {uK uI u0 u1 u2 : V} (bs : st + fs ≤ 1000000) (bp : pt + fp ≤ 1000000) (bw : sw + fw ≤ 1000000) (bK : K' ≤ 10006) (bI : I' ≤ 39)
    (hK : Is r K I st pt sw uK K') (hI : Is r K I st pt sw uI I') (h0 : Is r K I st pt sw u0 X0) (h1 : Is r K I st pt sw u1 X1) (h2 : Is r K I st pt sw u2 X2) :
    CvOk r (nmF K I st pt sw) (nmF K' I' (st + fs) (pt + fp) (sw + fw)) (cvG fs fp fw uK uI u0 u1 u2) := by
  have b0 := hX.b0
  have b1 := hX.b1
  have b2 := hX.b2
  refine cv_cons (n := st + fs) (fun r1 z _ h hz => sy_val (by decide) (by decide) (by omega) (by omega) h.s hz) (fun r1 _ h => sy_rel (by decide) h.s (by omega) bs (by decide)) ?_
  refine cv_cons (n := pt + fp) (fun r1 z _ h hz => sy_val (by decide) (by decide) (by omega) (by omega) h.p hz) (fun r1 _ h => sy_rel (by decide) h.p (by omega) bp (by decide)) ?_
  refine cv_cons (n := sw + fw) (fun r1 z _ h hz => sy_val (by decide) (by decide) (by omega) (by omega) h.w hz) (fun r1 _ h => sy_rel (by decide) h.w (by omega) bw (by decide)) ?_
  refine cv_cons hK (fun r1 _ h => gK_rel h.k bK) ?_
  refine cv_cons hI (fun r1 _ h => sy_rel (by decide) h.i (by omega) bI (by decide)) ?_
  refine cv_cons h0 (fun r1 e h => nw_rel (j := 0) (w := 0) (by omega) (by omega) (hX.up e).n0 h.i (by omega) bI trivial) ?_
  refine cv_cons h1 (fun r1 e h => nw_rel (j := 1) (w := 0) (by omega) (by omega) (hX.up e).n1 h.i (by omega) bI trivial) ?_
  exact cv_cons h2 (fun r1 e h => nw_rel (j := 2) (w := 0) (by omega) (by omega) (hX.up e).n2 h.i (by omega) bI trivial) cv_nil
theorem cvY_ok {r : Emb} {p X0 X1 X2 : Nat} (hX : NmX r p X0 X1 X2) {K I st pt sw : Nat} {vI vK v0 v1 v2 : V} (bs : st ≤ 1000000) (bp : pt ≤ 1000000) (bw : sw ≤ 1000000)
    (hK : As r K I st pt sw vK K) (hI : As r K I st pt sw vI I) (h0 : As r K I st pt sw v0 X0) (h1 : As r K I st pt sw v1 X1) (h2 : As r K I st pt sw v2 X2) :
    CvOk r (nmF K I st pt sw) (nmF K I st pt sw) (cvY vI vK v0 v1 v2) := by
  refine cv_cons (n := st) (fun r1 z _ h hz => sy_val (c := 0) (by decide) (by decide) (by omega) (by omega) h.s hz) (fun r1 _ h => sy_rel (by decide) h.s (by omega) bs (by decide)) ?_
  refine cv_cons (n := pt) (fun r1 z _ h hz => sy_val (c := 0) (by decide) (by decide) (by omega) (by omega) h.p hz) (fun r1 _ h => sy_rel (by decide) h.p (by omega) bp (by decide)) ?_
  refine cv_cons (n := sw) (fun r1 z _ h hz => sy_val (c := 0) (by decide) (by decide) (by omega) (by omega) h.w hz) (fun r1 _ h => sy_rel (by decide) h.w (by omega) bw (by decide)) ?_
  refine cv_cons (n := I) (fun r1 z _ h hz => sy_val (c := 0) (by decide) (by decide) (by omega) (by omega) h.i hz) hI ?_
  refine cv_cons (n := K) (fun r1 z _ h hz => gK_val h.k hz) hK ?_
  refine cv_cons (n := X0) (fun r1 z e h hz => nw_val (j := 0) (w := 0) (by omega) (by omega) (hX.up e).n0 hz) h0 ?_
  refine cv_cons (n := X1) (fun r1 z e h hz => nw_val (j := 1) (w := 0) (by omega) (by omega) (hX.up e).n1 hz) h1 ?_
  exact cv_cons (n := X2) (fun r1 z e h hz => nw_val (j := 2) (w := 0) (by omega) (by omega) (hX.up e).n2 hz) h2 cv_nil
theorem cvO_ok {r : Emb} {p X0 X1 X2 : Nat} (hX : NmX r p X0 X1 X2) {K I st pt sw K' I' st' pt' sw' : Nat} (hW : K = wantOf X0 X1 X2) (hK : K ≤ 10006) : CvOk r (nmF K I st pt sw) (nmF K' I' st' pt' sw') cvO :=
  cv_cons (n := K) (fun r1 z _ h hz => gK_val h.k hz) (fun r1 e h => by
    have := (hX.up e).n3
    rw [← hW] at this
    exact kW_rel this hK) cv_nil
theorem mkO_put : ∀ (rows : List (Nat × Ent)) (os : List Nat) (m : Mem), putEs (mkO rows os) m = putEs (mkO rows []) m
  | [], os, m => rfl
  | (a, e) :: l, os, m => by
    unfold mkO
    cases Nat.blt a 40040
    · cases os with
      | nil => rfl
      | cons o os =>
        show putEs (mkO l os) _ = putEs (mkO l []) _
        exact mkO_put l os _
    · show putEs (mkO l os) _ = putEs (mkO l []) _
      exact mkO_put l os _
theorem hOf_mkO (n : Nat) (rows : List (Nat × Ent)) (os : List Nat) : hOf n (mkO rows os) = hOf n (mkO rows []) := by
  unfold hOf
  rw [mkO_put]
end Go.Proofs.YtgpogeemhaiicaaGreatDoor.Hd
