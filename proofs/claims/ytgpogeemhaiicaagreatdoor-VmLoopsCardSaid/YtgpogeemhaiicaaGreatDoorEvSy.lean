/- VmLoops: the contract of the scanner's call at the law's text. Condition: the world of EvExt. -/
import Derived.Test.YtgpogeemhaiicaaGreatDoorEvEx
import Derived.Test.YtgpogeemhaiicaaGreatDoorEvMi
import Derived.Test.YtgpogeemhaiicaaGreatDoorEvPy
set_option linter.all false
namespace Go.Proofs.YtgpogeemhaiicaaGreatDoor
open Go.Ev Go.RowKit Go.Proofs.YtgpogeemhaiicaaGreatDoor.Cm
set_option maxRecDepth 1000000

theorem tok_eq : tokC = (pcS.map (fun p => rowZ p.2) ++ [rowZ (.inl (0, 0, 0))]).flatten := by kernel_rfl
theorem rowZ_len (x : Tok ⊕ Nat) : (rowZ x).length = 4 := by cases x <;> rfl
theorem flat_get : ∀ (l : List (Tok ⊕ Nat)) (i k : Nat) (x : Tok ⊕ Nat), l[i]? = some x → k < 4 → ((l.map rowZ).flatten)[i * 4 + k]? = (rowZ x)[k]?
  | [], i, k, x, h, _ => by simp at h
  | y :: l, 0, k, x, h, hk => by
    simp at h
    subst h
    rw [List.map_cons, List.flatten_cons, Nat.zero_mul, Nat.zero_add, List.getElem?_append_left (by rw [rowZ_len]; exact hk)]
  | y :: l, i + 1, k, x, h, hk => by
    have := flat_get l i k x (by simpa using h) hk
    rw [List.map_cons, List.flatten_cons, List.getElem?_append_right (by rw [rowZ_len]; omega), rowZ_len, show (i + 1) * 4 + k - 4 = i * 4 + k by omega]
    exact this
/-- The text's tokens, with its end. -/
def pcE : List (Tok ⊕ Nat) := pcS.map (·.2) ++ [.inl (0, 0, 0)]
theorem tok_eq2 : tokC = (pcE.map rowZ).flatten := by
  rw [tok_eq, pcE, List.map_append, List.map_map]
  rfl
theorem pcE_len : pcE.length = 207 := by rw [pcE, List.length_append, List.length_map, pcS_len]; rfl
theorem tokC_len : tokC.length = 828 := by kernel_rfl
theorem pcE_toks (X0 X1 X2 : Nat) : pcE.map (tokZ X0 X1 X2) = (pcsL X0 X1 X2).map (·.2) ++ [tEnd] := by
  rw [pcs_eq, pcE, List.map_append, List.map_map, List.map_map]
  rfl
def StrOk (x : Tok ⊕ Nat) : Prop := match x with | .inl t => t.2.1 < 256 ^ t.2.2 | .inr j => j < 3
theorem strZ_mem : ∀ {l : List (Bool × (Tok ⊕ Nat))}, strZ l = true → ∀ x ∈ l, StrOk x.2
  | (b, .inl t) :: l, h, x, hx => by
    simp only [strZ, Bool.and_eq_true, Nat.blt_eq] at h
    rcases List.mem_cons.1 hx with rfl | hx
    · exact h.1
    · exact strZ_mem h.2 x hx
  | (b, .inr j) :: l, h, x, hx => by
    simp only [strZ, Bool.and_eq_true, Nat.blt_eq] at h
    rcases List.mem_cons.1 hx with rfl | hx
    · exact h.1
    · exact strZ_mem h.2 x hx
/-- Each cell of a token's is as the evaluator says. -/
theorem row_rel {r : Emb} {X0 X1 X2 : Nat} (hX : NmX r 124 X0 X1 X2) {x : Tok ⊕ Nat} (hx : x ∈ pcE) (z : Int) : ∀ (k : Nat) (v : V), (rowZ x)[k]? = some v → ∃ y, [Value.int .i64 (tokZ X0 X1 X2 x).1, .string (sval (tokZ X0 X1 X2 x).2.1 (tokZ X0 X1 X2 x).2.2), .int .i64 z, .int .i64 (nOf (tokZ X0 X1 X2 x))][k]? = some y ∧ VRel r v y := by
  have b0 := hX.b0
  have b1 := hX.b1
  have b2 := hX.b2
  have hs : StrOk x := by
    unfold pcE at hx
    rcases List.mem_append.1 hx with hx | hx
    · obtain ⟨p, hp, rfl⟩ := List.mem_map.1 hx
      exact strZ_mem strZ_true p hp
    · simp at hx
      subst hx
      exact Nat.one_pos
  intro k v hk
  cases x with
  | inl t =>
    match k, hk with
    | 0, hk => simp [rowZ] at hk; subst hk; exact ⟨_, rfl, .int _ _⟩
    | 1, hk => simp [rowZ] at hk; subst hk; exact ⟨_, rfl, .str hs⟩
    | 2, hk => simp [rowZ] at hk; subst hk; exact ⟨_, rfl, .uint (k := .i64) fun h => by cases h⟩
    | 3, hk =>
      simp [rowZ] at hk
      subst hk
      refine ⟨_, rfl, ?_⟩
      have : nOf t = ((valZ t : Nat) : Int) := by unfold nOf valZ; split <;> rfl
      show VRel r _ (.int .i64 (nOf t))
      rw [this]
      exact .int _ _
    | k + 4, hk => simp [rowZ] at hk
  | inr j =>
    have hx40 : selX j X0 X1 X2 < 40 := by unfold selX; split <;> omega
    obtain ⟨_, n2, n3, _⟩ := nTok_ok _ hx40
    match k, hk with
    | 0, hk =>
      simp [rowZ] at hk
      subst hk
      refine ⟨_, rfl, ?_⟩
      show VRel r _ (.int .i64 ((nTok (selX j X0 X1 X2)).1 : Nat))
      rw [n2]
      exact .int _ _
    | 1, hk => simp [rowZ] at hk; subst hk; exact ⟨_, rfl, .ustr _⟩
    | 2, hk => simp [rowZ] at hk; subst hk; exact ⟨_, rfl, .uint (k := .i64) fun h => by cases h⟩
    | 3, hk =>
      simp [rowZ] at hk
      subst hk
      refine ⟨_, rfl, ?_⟩
      show VRel r _ (.int .i64 (nOf (nTok (selX j X0 X1 X2))))
      rw [n3]
      have := code_rel hX hs
      rwa [show 32 + 4 * 124 + j = 528 + j by omega] at this
    | k + 4, hk => simp [rowZ] at hk
/-- The tables alone are asked of the world. -/
theorem At.os {W : World} (hA : At W) (w : World) : At { w with heap := W.heap } := ⟨hA.tab, hA.max, hA.len0, hA.len1, hA.len2⟩
set_option maxHeartbeats 4000000 in
theorem scan_ok {W : World} (hA : At W) {vs : List V} {h h' : H} {v : V} (he : scanE vs h = some (v, h')) : CallOk Tryz.prog W 40 vs h v h' := by
  intro r w xs hr hg hba hvs
  unfold scanE at he
  split at he
  · rename_i m c
    cases hb : ((Nat.beq m 0 && Nat.beq c 531) && Nat.blt h.next 65536) <;> simp only [hb, cond_true, cond_false, reduceCtorEq, Option.some.injEq, Prod.mk.injEq] at he
    obtain ⟨rfl, rfl⟩ := he
    simp only [Bool.and_eq_true, Nat.blt_eq] at hb
    obtain ⟨⟨b1, b2⟩, b3⟩ := hb
    obtain rfl := Nat.eq_of_beq_eq_true b1
    obtain rfl := Nat.eq_of_beq_eq_true b2
    cases xs with | mk l =>
    cases hvs with
    | cons hz hn =>
      cases hn
      rename_i z
      obtain ⟨s, rfl, _, _, X0, X1, X2, g0, g1, g2, ⟨b0, g3⟩, c1, c2, gp, rfl⟩ := nsrc_inv hz (by decide) (by decide)
      have hX : NmX r 124 X0 X1 X2 := ⟨g0, g1, g2, g3, b0, c1, c2, gp⟩
      have hB : Below ({ w with heap := W.heap } : World).heap.size { w with heap := W.heap } w := ⟨rfl, rfl, rfl, hba.size, hba.same⟩
      have hl206 : (pcsL X0 X1 X2).length = 206 := by rw [pcs_eq, List.length_map]; exact pcS_len
      have sw := scan_walk (hA.os w) (srcOf X0 X1 X2) (pcsL X0 X1 X2) rfl (src_size (by omega) c1 c2) (pcs_ok (by omega) c1 c2) (by omega) hB
      refine sw.mono ?_
      rintro e w' ⟨g, cap, cells, rfl, hown, htc, hk⟩
      rw [hl206] at hown
      obtain ⟨g', cap', cur, q1, q2, q3, q4, q5, q6, q7⟩ : ∃ g' cap' cur, Value.slice (some ⟨g, 0, none⟩) (206 + 1) cap = .slice (some ⟨g', 0, none⟩) (206 + 1) cap' ∧ w.heap.size ≤ g' ∧ w'.heap[g']? = some (.cells cur 151 (0, 0)) ∧ 206 + 1 ≤ cap' ∧ cap' ≤ maxLen ∧ cur.size = cap' * 4 ∧ cur.toList.take ((206 + 1) * 4) = cells := by
        rcases hown.2 with ⟨q, _⟩ | q
        · cases q
        · exact q
      simp only [Value.slice.injEq, Option.some.injEq, Addr.mk.injEq, and_true, true_and] at q1
      obtain ⟨rfl, rfl⟩ := q1
      have st := Step.kept hr hk.size hk.block hk.os hk.output hk.tape
      have hlt : g < w'.heap.size := (Array.getElem?_eq_some_iff.1 q3).1
      have hnh : ¬ Held r h g := fun hh => by
        obtain ⟨id, sh, m, hl, e1⟩ := hh
        have := hr.lt hl e1
        omega
      have hle := r.le_put h.next (g, 0, cap * 4) (hr.new _ (Nat.le_refl _))
      have hX' := hX.up hle
      have hf : Fits (r.put h.next (g, 0, cap * 4)) 828 151 false true (cellsOf tokC) g 0 (cap * 4) w' := by
        refine ⟨⟨cur, (0, 0), ⟨151, q3, fun _ => rfl⟩, q6, fun _ x _ hx => Nat.not_lt_zero _ hx.2, fun _ => rfl, fun o ho => ?_⟩, by omega, by have := cellsOf_room tokC (by rw [tokC_len]; decide); rw [tokC_len] at this; exact this, fun _ h => absurd h (by decide)⟩
        rw [cellsOf_get tokC (by rw [tokC_len]; decide) o (by rw [tokC_len]; exact ho)]
        have hi : o / 4 < pcE.length := by rw [pcE_len]; omega
        have hk4 : o % 4 < 4 := Nat.mod_lt _ (by decide)
        have ho' : o = o / 4 * 4 + o % 4 := by omega
        obtain ⟨x, hx⟩ : ∃ x, pcE[o / 4]? = some x := ⟨pcE[o / 4], List.getElem?_eq_getElem hi⟩
        have e1 : tokC[o]? = (rowZ x)[o % 4]? := by
          have := flat_get pcE (o / 4) (o % 4) x hx hk4
          rw [← tok_eq2, ← ho'] at this
          exact this
        have e2 : tokC[o]? = some (tokC[o]'(by rw [tokC_len]; exact ho)) := List.getElem?_eq_getElem _
        have ht : ((pcsL X0 X1 X2).map (·.2) ++ [tEnd])[o / 4]? = some (tokZ X0 X1 X2 x) := by
          rw [← pcE_toks, List.getElem?_map, hx]
          rfl
        obtain ⟨t1, t2, ⟨zz, t3⟩, t4⟩ := htc.2 _ _ ht
        obtain ⟨y, y1, y2⟩ := row_rel hX' (List.mem_of_getElem? hx) zz (o % 4) _ (e1.symm.trans e2)
        refine ⟨y, ?_, y2⟩
        have hcell : cells[o]? = some y := by
          rw [ho']
          generalize o % 4 = k at y1 hk4
          match k, hk4 with
          | 0, _ => simp at y1; rw [← y1, Nat.add_zero]; exact t1
          | 1, _ => simp at y1; rw [← y1]; exact t2
          | 2, _ => simp at y1; rw [← y1]; exact t3
          | 3, _ => simp at y1; rw [← y1]; exact t4
        rw [← q7, List.getElem?_take_of_lt (by omega)] at hcell
        rw [Nat.add_zero]
        simpa using hcell
      have st2 := Step.adopt st b3 hnh q2 hf
      refine ⟨_, _, rfl, st2, ?_⟩
      refine .tup (.cons (.slice (Emb.put_same _ _ _) (Nat.le_refl _) (by omega) (by omega)) (.cons (.agg (.cons (.int _ _) (.cons (.int _ _) .nil))) .nil))
  · cases he
end Go.Proofs.YtgpogeemhaiicaaGreatDoor
