/- Contracts of single functions in the evaluator's words: a fresh slice, strings.HasPrefix, strings.Contains. No condition. -/
import Derived.Test.YtoecccbjhmejiaaGreatDoorEvAA
import Derived.Lib.IndexMore
namespace Go.Ev

variable {P : Program}

theorem readFrom_at (c : Cells) (n : Nat) : ∀ (o j : Nat), j < n → (readFrom c o n)[j]? = some (c.get (o + j)) := by
  induction n with
  | zero => intro o j h; omega
  | succ n ih =>
    intro o j h
    cases j with
    | zero => rfl
    | succ j =>
      rw [readFrom, List.getElem?_cons_succ, ih (o + 1) j (by omega), show o + 1 + j = o + (j + 1) by omega]

theorem plains_get {vs : List V} (h : plains vs = true) (j : Nat) (hj : j < vs.length) : plain1 vs[j] = true := by
  induction vs generalizing j with
  | nil => simp at hj
  | cons v vs ih =>
    simp only [plains, Bool.and_eq_true] at h
    cases j with
    | zero => exact h.1
    | succ j => exact ih h.2 j (by simpa using hj)

/-- A CALL FROM THE BEGINNING THAT YIELDS A NEW SLICE OF PLAIN CELLS MAY BE USED ANYWHERE. -/
theorem absorb_slice {w0 : World} {r0 : Emb} {h0 h' : H} (hb : Begin P w0 r0 h0) {g : FuncId} {vs cells : List V} {id n esz : Nat} {t : TypeId} {pl : Bool} {c : Cells}
    (hc : CallOk P w0 g vs h0 (.slice id 0 n n esz) h') (hvs : plains vs = true) (hpos : 0 < n) (hid : id < 65536) (hblk : h'.mem.blk id = .live n t false pl c)
    (hcells : veqs (readFrom c 0 n) cells = true) (hpl : plains cells = true) (hlen : Nat.ble n 4096 = true) (h : H) (hnext : Nat.blt h.next 65536 = true) :
    CallOk P w0 g vs h (.slice h.next 0 n n esz) (h.lay n t pl (cellsOf cells)) := by
  have hcl : cells = readFrom c 0 n := (veqs_eq hcells).symm
  have hl : cells.length = n := by rw [hcl, readFrom_length]
  intro r w xs hr hg hba hx
  refine (hc r0 w xs (hb.rel w hba.same) hb.gl (hb.base hba.same hba.size) (plains_turn hvs hx)).mono ?_
  rintro e w' ⟨z, r', rfl, st, hz⟩
  obtain ⟨b, sh, m, hr1, hf⟩ := st.rel.blk id n t false pl c hid hblk
  have hge : w.heap.size ≤ b := by
    apply Nat.le_of_not_lt
    intro hlt
    exact hb.none b (st.own b hlt (own_of hid hblk hr1))
  have hn4 : n ≤ 4096 := Nat.le_of_ble_eq_true hlen
  have hnx : h.next < 65536 := by rwa [Nat.blt_eq] at hnext
  have hle := r.le_put h.next (b, sh, m) (hr.new _ (Nat.le_refl _))
  have hfit : Fits (r.put h.next (b, sh, m)) n t false pl (cellsOf cells) b sh m w' := by
    obtain ⟨⟨cs, fz, h2, h3, h4, h5, h6⟩, h7, h8⟩ := hf
    refine ⟨⟨cs, fz, h2, h3, h4, h5, fun o ho => ?_⟩, h7, by rw [← hl]; exact cellsOf_room _ (by rw [hl]; exact hn4)⟩
    obtain ⟨x, hx1, hx2⟩ := h6 o ho
    refine ⟨x, hx1, ?_⟩
    have ho' : o < cells.length := by rw [hl]; exact ho
    rw [cellsOf_get cells (by rw [hl]; exact hn4) o ho']
    have he : cells[o] = c.get o := by
      have h1 := readFrom_at c n 0 o ho
      rw [← hcl, List.getElem?_eq_getElem ho', Nat.zero_add] at h1
      exact Option.some.inj h1
    have hp := plains_get hpl o ho'
    rw [he] at hp ⊢
    exact plain1_turn hp hx2
  cases hz with
  | slice0 => omega
  | slice g1 g2 g3 g4 =>
    rw [hr1] at g1
    cases g1
    refine ⟨_, r.put h.next (b, sh, m), rfl, ?_, .slice (Emb.put_same _ _ _) g2 g3 g4⟩
    exact Step.lay hr (fun _ ho => ho) (fun _ ho => ho) hnx (fun i sh' m' hl' e => by have := hr.lt hl' e; omega) (fun hlt => by omega) (fun k hk _ => st.keep k hk (hb.none k)) st.size st.os st.out st.tape hfit

/-- strings.HasPrefix of numbers. -/
def prefN (n l m k : Nat) : Bool := bif Nat.ble k l then Nat.beq (Nat.mod n (Nat.pow 256 k)) m else false

theorem prefN_eq {n l m k : Nat} (hm : m < 256 ^ k) : (sdec m k).isPrefixOf (sdec n l) = prefN n l m k := by
  unfold prefN
  rw [Bool.eq_iff_iff, List.isPrefixOf_iff_prefix, List.prefix_iff_eq_take, sdec_length]
  cases hkl : Nat.ble k l
  · have : ¬ k ≤ l := fun h => by rw [Nat.ble_eq_true_of_le h] at hkl; cases hkl
    simp only [cond_false, Bool.false_eq_true, iff_false]
    intro h
    have := congrArg List.length h
    rw [sdec_length, List.length_take, sdec_length] at this
    omega
  · have hk : k ≤ l := Nat.le_of_ble_eq_true hkl
    have hp := sdec_piece n l 0 k hk (Nat.zero_le _)
    simp only [Nat.pow_zero, Nat.div_one, Nat.sub_zero, List.drop_zero] at hp
    rw [← hp]
    simp only [cond_true]
    constructor
    · intro h
      have := sdec_inj k _ _ hm (Nat.mod_lt _ (Nat.pow_pos (by omega))) h
      exact Nat.beq_eq ▸ this.symm
    · intro h
      have := Nat.eq_of_beq_eq_true h
      rw [← this]
      rfl

theorem vsrel2 {r : Emb} {n l m k : Nat} {xs : Array Value} (h : VsRel r [.str n l, .str m k] xs.toList) : n < 256 ^ l ∧ m < 256 ^ k ∧ xs = #[.string (sval n l), .string (sval m k)] := by
  obtain ⟨xs⟩ := xs
  cases h with
  | cons h1 h =>
    cases h with
    | cons h2 h =>
      cases h
      cases h1 with
      | str h1 =>
        cases h2 with
        | str h2 => exact ⟨h1, h2, rfl⟩

def prefV : List V → Option V
  | [.str n l, .str m k] => some (.bool (prefN n l m k))
  | _ => none
theorem prefV_sound {w0 : World} {g : FuncId} (hc : ∀ (s p : ByteArray) (w : World), Calls P g #[.string s, .string p] w fun e w' => e = .returned (.bool (p.data.toList.isPrefixOf s.data.toList)) ∧ w' = w)
    {vs : List V} {v : V} (he : prefV vs = some v) (h : H) : CallOk P w0 g vs h v h := by
  unfold prefV at he
  split at he
  · rename_i n l m k
    simp only [Option.some.injEq] at he
    subst he
    intro r w xs hr hg hba hx
    obtain ⟨h1, h2, rfl⟩ := vsrel2 hx
    refine (hc _ _ w).mono ?_
    rintro e w' ⟨rfl, rfl⟩
    refine ⟨_, r, rfl, Step.refl hr, ?_⟩
    have : (sval m k).data.toList.isPrefixOf (sval n l).data.toList = prefN n l m k := prefN_eq h2
    rw [this]
    exact .bool _
  · cases he

def contV : List V → Option V
  | [.str n l, .str m k] => bif Nat.blt l 4294967281 then some (.bool (Lib.contains (sdec n l) (sdec m k))) else none
  | _ => none
theorem contV_sound {w0 : World} {g : FuncId} (hc : ∀ (s p : ByteArray) (w : World), s.size < 4294967281 → (∀ b, b < w0.heap.size → w.heap[b]? = w0.heap[b]?) →
      Calls P g #[.string s, .string p] w fun e w' => e = .returned (.bool (Lib.contains s.data.toList p.data.toList)) ∧ w' = w)
    {vs : List V} {v : V} (he : contV vs = some v) (h : H) : CallOk P w0 g vs h v h := by
  unfold contV at he
  split at he
  · rename_i n l m k
    cases hb : Nat.blt l 4294967281
    · rw [hb] at he; cases he
    · rw [hb] at he
      simp only [cond_true, Option.some.injEq] at he
      subst he
      intro r w xs hr hg hba hx
      obtain ⟨h1, h2, rfl⟩ := vsrel2 hx
      refine (hc _ _ w (by rw [sval_size]; rwa [Nat.blt_eq] at hb) hba.same).mono ?_
      rintro e w' ⟨rfl, rfl⟩
      exact ⟨_, r, rfl, Step.refl hr, .bool _⟩
  · cases he

def noNumB (fn : Func) : Bool := match fn.body with | some _ => !(fn.name == "runtime.NumGoroutine") | none => true
theorem noNum_of (h : P.funcs.toList.all noNumB = true) : NoNum P := by
  intro f fn hf hb
  have hm : fn ∈ P.funcs.toList := by
    have := Array.mem_of_getElem? hf
    simpa using this
  have := List.all_eq_true.1 h fn hm
  unfold noNumB at this
  cases hbd : fn.body with
  | none => rw [hbd] at hb; cases hb
  | some c => rw [hbd] at this; simpa using this
def progOkB (fn : Func) : Bool := match fn.body with | some c => codeOk fn.ntmps c | none => true
theorem progOk_of (h : P.funcs.toList.all progOkB = true) : ProgOk P := by
  intro f fn c hf hb
  have hm : fn ∈ P.funcs.toList := by
    have := Array.mem_of_getElem? hf
    simpa using this
  have := List.all_eq_true.1 h fn hm
  unfold progOkB at this
  rw [hb] at this
  exact this

end Go.Ev
