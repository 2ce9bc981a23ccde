/- The evaluator's operations that make or write memory, calls aside. The evaluator's make and append. The evaluator's append. The evaluator's copy. No condition. -/
import Derived.Test.YtgpogeemhaiicaaGreatDoorEvMb
import Derived.Laws.MakeOwn
import Derived.Laws.IdiomCopy
set_option linter.all false
namespace Go.Ev

variable {P : Program}

/-- What an operation came to: a value and the memory behind it. -/
def Gives (P : Program) (r : Emb) (h : H) (w : World) (e : Operand → Value) (o : Oper) (v : V) (h' : H) : Prop :=
  ∃ z w' r', ((execOp e o).run P w = .ok (.value z) w' ∨ ((execOp e o).run P w = .ok .skip w' ∧ z = undef)) ∧ Step r h w r' h' w' ∧ VRel r' v z

def newV (h : H) (n : Nat) (t : TypeId) (vs : List V) : Option H :=
  bif Nat.blt h.next 65536 && Nat.ble n 4096 then some (h.lay n t true (cellsOf vs)) else none

theorem newV_sound {r : Emb} {h h' : H} {w : World} (hr : Rel r h w) {t : TypeId} {vs : List V} {xs : Array Value} (hv : VsRel r vs xs.toList) (hn : newV h vs.length t vs = some h') :
    Step r h w (r.put h.next (w.heap.size, 0, xs.size)) h' (w.alloc (.cells xs t)) := by
  unfold newV at hn
  cases hc : (Nat.blt h.next 65536 && Nat.ble vs.length 4096) <;> simp only [hc, cond_true, cond_false, reduceCtorEq, Option.some.injEq] at hn
  subst hn
  simp only [Bool.and_eq_true, Nat.blt_eq] at hc
  exact Step.alloc hr hc.1 t hv (Nat.le_of_ble_eq_true hc.2)

theorem run_newRow (t : TypeId) (xs : Array Value) (w : World) : (newRow t xs).run P w = .ok ⟨w.heap.size, 0, none⟩ (w.alloc (.cells xs t)) := by
  simp [newRow, newObj, Sem.run]

/-- Cells over and over. -/
def repL : Nat → List V → List V
  | 0, _ => []
  | n + 1, zs => zs ++ repL n zs
theorem repL_length (n : Nat) (zs : List V) : (repL n zs).length = n * zs.length := by
  induction n with
  | zero => simp [repL]
  | succ n ih => rw [repL, List.length_append, ih, Nat.add_mul]; omega
theorem repL_get (zs : List V) (n : Nat) : ∀ i, i < n * zs.length → (repL n zs)[i]? = zs[i % zs.length]? := by
  induction n with
  | zero => intro i h; simp at h
  | succ n ih =>
    intro i h
    rw [Nat.add_mul, Nat.one_mul] at h
    rw [repL]
    by_cases hi : i < zs.length
    · rw [List.getElem?_append_left hi, Nat.mod_eq_of_lt hi]
    · rw [List.getElem?_append_right (by omega), ih _ (by omega)]
      congr 1
      exact (Nat.mod_eq_sub_mod (by omega)).symm

theorem vsrel_of_get {r : Emb} {vs : List V} {xs : List Value} (hl : vs.length = xs.length) (h : ∀ (i : Nat) (v : V), vs[i]? = some v → ∃ x, xs[i]? = some x ∧ VRel r v x) : VsRel r vs xs := by
  induction vs generalizing xs with
  | nil => cases xs with
    | nil => exact .nil
    | cons _ _ => simp at hl
  | cons v vs ih =>
    cases xs with
    | nil => simp at hl
    | cons x xs =>
      obtain ⟨x', h1, h2⟩ := h 0 v rfl
      simp at h1
      subst h1
      exact .cons h2 (ih (by simpa using hl) (fun i v' hv => by simpa using h (i + 1) v' (by simpa using hv)))

theorem repL_rel {r : Emb} {zs : List V} {xs : Array Value} (hz : VsRel r zs xs.toList) (n : Nat) : VsRel r (repL n zs) ((Array.range (n * xs.size)).map (xs[· % xs.size]!)).toList := by
  have hl : zs.length = xs.size := by simpa using hz.length
  refine vsrel_of_get (by simp [repL_length, hl]) (fun i v hv => ?_)
  have hi : i < n * zs.length := by
    rw [← repL_length]
    exact (List.getElem?_eq_some_iff.1 hv).1
  rw [repL_get zs n i hi] at hv
  obtain ⟨x, h1, h2⟩ := hz.get _ hv
  refine ⟨x, ?_, h2⟩
  rw [hl] at hi
  rw [hl] at h1
  have h1' : xs[i % xs.size]? = some x := by simpa using h1
  simp [hi, getElem!_def, h1']

def allocV (P : Program) (h : H) (t : TypeId) : Option (V × H) :=
  match zeroV P t with
  | some zs => (newV h zs.length t zs).map fun h' => (.ptr h.next 0, h')
  | none => none

theorem allocV_sound {r : Emb} {h h' : H} {w : World} (hr : Rel r h w) {e : Operand → Value} {o : Oper} {t : TypeId} (ho : o.op = .alloc t) {v : V} (he : allocV P h t = some (v, h')) : Gives P r h w e o v h' := by
  unfold allocV at he
  split at he
  · rename_i zs hz
    cases hn : newV h zs.length t zs with
    | none => rw [hn] at he; simp at he
    | some h2 =>
      rw [hn] at he
      simp only [Option.map_some, Option.some.injEq, Prod.mk.injEq] at he
      obtain ⟨rfl, rfl⟩ := he
      obtain ⟨z, h3, h4⟩ := zeroV_sound (r := r) hz w
      refine ⟨.pointer (some ⟨w.heap.size, 0, none⟩), _, _, .inl ?_, newV_sound hr h4 hn, .ptr (o := 0) (Emb.put_same _ _ _)⟩
      unfold execOp
      simp [ho, Instr.alloc, h3, newVar, run_newRow]
  · simp at he

def boxV (h : H) (t : TypeId) (x : V) : Option (V × H) :=
  match cellsV x with
  | some vs => (newV h vs.length t vs).map fun h' => (.ptr h.next 0, h')
  | none => none

theorem boxV_sound {r : Emb} {h h' : H} {w : World} (hr : Rel r h w) {e : Operand → Value} {o : Oper} {t : TypeId} {x : Operand} (ho : o.op = .box t x) {y v : V} (hy : VRel r y (e x)) (he : boxV h t y = some (v, h')) : Gives P r h w e o v h' := by
  unfold boxV at he
  split at he
  · rename_i vs hc
    cases hn : newV h vs.length t vs with
    | none => rw [hn] at he; simp at he
    | some h2 =>
      rw [hn] at he
      simp only [Option.map_some, Option.some.injEq, Prod.mk.injEq] at he
      obtain ⟨rfl, rfl⟩ := he
      refine ⟨.pointer (some ⟨w.heap.size, 0, none⟩), _, _, .inl ?_, newV_sound hr (cellsV_sound hy hc) hn, .ptr (o := 0) (Emb.put_same _ _ _)⟩
      unfold execOp
      simp [ho, Instr.box, newVar, run_newRow]
  · simp at he

theorem range0 (f : Nat → Value) : (Array.range 0).map f = #[] := by
  apply Array.eq_empty_of_size_eq_zero
  simp

def buildSliceV (P : Program) (h : H) (t : TypeId) (len : Nat) (parts : List (Nat × V)) : Option (V × H) :=
  match P.underlying t with
  | some (.slice e) =>
    match P.info? e, zeroV P e with
    | some i, some zs =>
      bif Nat.beq zs.length i.size && Nat.ble (Nat.mul len i.size) 4096 then
        (fillV (fun j => some (Nat.mul j i.size, i.size)) (repL len zs) parts).bind fun vs => (newV h vs.length e vs).map fun h' => (.slice h.next 0 len len i.size, h')
      else none
    | _, _ => none
  | _ => none

theorem fill_size {place : Nat → Option (Nat × Nat)} {ps : List (Nat × Value)} : ∀ {cs cs' : Array Value}, Instr.fill place cs ps = some cs' → cs'.size = cs.size := by
  induction ps with
  | nil => intro cs cs' h; simp only [Instr.fill, Option.some.injEq] at h; rw [h]
  | cons p ps ih =>
    intro cs cs' h
    obtain ⟨i, v⟩ := p
    simp only [Instr.fill] at h
    split at h
    · simp at h
    · split at h
      · simp at h
      · rw [ih h]
        have hfold : ∀ (k : Nat), (v.cells.zipIdx.foldl (fun (cs : Array Value) (p : Value × Nat) => cs.setIfInBounds (k + p.2) p.1) cs) = setL cs k v.cells.toList := fun k => by
          rw [← Array.foldl_toList, Array.toList_zipIdx, fold_setL]
          rfl
        exact (congrArg Array.size (hfold _)).trans (size_setL _ _ _)

theorem buildSliceV_sound {r : Emb} {h h' : H} {w : World} (hr : Rel r h w) {E : Operand → V} {e : Operand → Value} (hE : ERel r E e) {o : Oper} {t : TypeId} {len : Nat} {parts : Array (Nat × Operand)} (ho : o.op = .buildSlice t len parts)
    {v : V} (he : buildSliceV P h t len (parts.toList.map fun (i, x) => (i, E x)) = some (v, h')) : Gives P r h w e o v h' := by
  unfold buildSliceV at he
  split at he
  · rename_i el hu
    split at he
    · rename_i i zs hi hz
      cases hc : (Nat.beq zs.length i.size && Nat.ble (Nat.mul len i.size) 4096) <;> simp only [hc, cond_true, cond_false, reduceCtorEq] at he
      simp only [Bool.and_eq_true] at hc
      have hzl := Nat.eq_of_beq_eq_true hc.1
      have hle : len * i.size ≤ 4096 := Nat.le_of_ble_eq_true hc.2
      cases hf : fillV (fun j => some (Nat.mul j i.size, i.size)) (repL len zs) (parts.toList.map fun (i, x) => (i, E x)) with
      | none => rw [hf] at he; simp at he
      | some vs =>
        rw [hf] at he
        simp only [Option.bind_some] at he
        cases hn : newV h vs.length el vs with
        | none => rw [hn] at he; simp at he
        | some h2 =>
          rw [hn] at he
          simp only [Option.map_some, Option.some.injEq, Prod.mk.injEq] at he
          obtain ⟨rfl, rfl⟩ := he
          obtain ⟨z, h3, h4⟩ := zeroV_sound (r := r) hz w
          have hsz : z.cells.size = i.size := by rw [← hzl]; simpa using h4.length.symm
          have hrep := repL_rel h4 len
          obtain ⟨cs, g1, g2⟩ := fill_sound hrep (erel_parts hE parts.toList) hf
          have hcs : cs.size = len * i.size := by rw [fill_size g1]; simp [hsz]
          refine ⟨.slice (some ⟨w.heap.size, 0, none⟩) len len, _, _, .inl ?_, newV_sound hr g2 hn, ?_⟩
          · have g1' : Instr.fill (fun j => some (j * i.size, i.size)) ((Array.range (len * i.size)).map (z.cells[· % z.cells.size]!)) (parts.toList.map fun (i, x) => (i, e x)) = some cs := by
              rw [← hsz]; rw [← hsz] at g1; exact g1
            have hno : ¬ (16777216 < len * i.size) := by omega
            unfold execOp
            have hb : Instr.buildSlice t len (parts.map fun (i, x) => (i, e x)) = (do
                let .slice elem ← underlying t | stuck "buildSlice: slice type expected"
                let size ← sizeOf elem
                if len * size > 2 ^ 24 then unsupported (.resourceLimit "buildSlice: more than 2^24 cells")
                let zero ← if len * size = 0 then pure #[] else do pure (← zeroValue elem).cells
                let some cells := Instr.fill (fun i => some (i * size, size)) ((Array.range (len * size)).map (zero[· % zero.size]!)) (parts.map fun (i, x) => (i, e x)).toList
                  | stuck "buildSlice: a part of the wrong size"
                pure (.slice (some (← newRow elem cells)) len len)) := rfl
            have hrun : (Instr.buildSlice t len (parts.map fun (i, x) => (i, e x))).run P w = .ok (.slice (some ⟨w.heap.size, 0, none⟩) len len) (w.alloc (.cells cs el)) := by
              rw [hb]
              by_cases h0 : len * i.size = 0
              · have g3 : Instr.fill (fun j => some (j * i.size, i.size)) #[] (parts.toList.map fun (i, x) => (i, e x)) = some cs := by
                  rw [h0, range0] at g1'
                  exact g1'
                have h16 : ¬ (0 > 2 ^ 24) := by omega
                simp only [Sem.run_bind, run_underlying hu, Result.andThen_ok, sizeOf, typeInfo, program, Sem.run, hi, h0, if_neg h16, if_true, Sem.run_pure, range0]
                have g4 : Instr.fill (fun j => some (j * i.size, i.size)) #[] (parts.map fun (i, x) => (i, e x)).toList = some cs := by
                  rw [Array.toList_map]; exact g3
                have g5 : (match Instr.fill (fun j => some (j * i.size, i.size)) #[] (parts.map fun (i, x) => (i, e x)).toList with
                  | some cells => do pure (.slice (some (← newRow el cells)) len len)
                  | _ => stuck "buildSlice: a part of the wrong size" : Sem Value).run P w = .ok (.slice (some ⟨w.heap.size, 0, none⟩) len len) (w.alloc (.cells cs el)) := by
                  rw [g4]
                  simp [run_newRow]
                exact g5
              · simp only [Sem.run_bind, run_underlying hu, Result.andThen_ok, sizeOf, typeInfo, program, Sem.run, hi]
                simp [h0, hno, h3, g1', run_newRow]
            simp [ho, hrun]
          · exact .slice (o := 0) (Emb.put_same _ _ _) (Nat.le_refl _) (Nat.le_refl _) (by rw [hcs]; omega)
    · simp at he
  · simp at he

def storeV (P : Program) (h : H) (t : TypeId) (x y : V) : Option H :=
  match x, cellsV y, P.info? t with
  | .ptr id o, some vs, some i =>
    match h.mem.blk id with
    | .live n tb false pl c =>
      bif Nat.blt id 65536 && Nat.beq vs.length i.size && Nat.ble (Nat.add o i.size) n && allOne vs then some (h.write id n tb pl (fillFrom vs o c)) else none
    | _ => none
  | _, _, _ => none

theorem run_storeAt {w : World} {b o : Nat} {t : TypeId} {x : Value} {i : TypeInfo} (hi : P.info? t = some i) (hs : x.cells.size = i.size) (ht : w.there b o i.size) (h1 : ∀ u ∈ x.cells.toList, u.oneCell' = true) :
    (Instr.storeAt t (.pointer (some ⟨b, o, none⟩)) x).run P w = .ok () (w.setCells b o x.cells.toList) := by
  have hl : x.cells.toList.length = i.size := by simpa using hs
  have := run_storeCells_cells (P := P) b o x.cells.toList 0 w (fun j hj => by simpa using (ht j (by omega)).1) (fun j hj => by simpa using (ht j (by omega)).2) h1
  simp only [Nat.add_zero] at this
  simp [Instr.storeAt, Instr.sureAddr, storeVar, sizeOf, typeInfo, hi, hs, this]

theorem storeV_sound {r : Emb} {h h' : H} {w : World} (hr : Rel r h w) {e : Operand → Value} {o : Oper} {t : TypeId} {x y : Operand} (ho : o.op = .store t x y) {vx vy : V} (hx : VRel r vx (e x)) (hy : VRel r vy (e y))
    (he : storeV P h t vx vy = some h') : Gives P r h w e o .any h' := by
  unfold storeV at he
  split at he
  · rename_i id off vs i hc hi
    split at he
    · rename_i n tb pl c hb
      cases hk : (Nat.blt id 65536 && Nat.beq vs.length i.size && Nat.ble (Nat.add off i.size) n && allOne vs) <;> simp only [hk, cond_true, cond_false, reduceCtorEq, Option.some.injEq] at he
      subst he
      simp only [Bool.and_eq_true, Nat.blt_eq] at hk
      obtain ⟨⟨⟨k1, k2⟩, k3⟩, k4⟩ := hk
      have k2' := Nat.eq_of_beq_eq_true k2
      have k3' : off + i.size ≤ n := Nat.le_of_ble_eq_true k3
      obtain ⟨b, sh, m, h1, hf⟩ := hr.blk id n tb false pl c k1 hb
      have hcells := cellsV_sound hy hc
      generalize hax : e x = ax at hx
      cases hx with
      | @ptr _ _ b' sh' c' hx =>
        rw [h1] at hx
        cases hx
        have hs : (e y).cells.size = i.size := by rw [← k2']; simpa using hcells.length.symm
        have hrun := run_storeAt (P := P) (x := e y) hi hs (hf.there (off + sh) i.size (by have := hf.fit; omega)) (allOne_sound hcells k4)
        refine ⟨undef, _, r, .inr ⟨?_, rfl⟩, Step.store hr k1 hb h1 hcells (by omega), .any _⟩
        unfold execOp
        simp [ho, hax, hrun]
    · simp at he
  · simp at he

end Go.Ev

namespace Go.Ev

variable {P : Program}

def growTo (n : Nat) (c : Cells) : Cells := bif Nat.ble n c.room then c else (bif Nat.ble n c.grow.room then c.grow else c.grow.grow)
theorem growTo_get (n : Nat) (c : Cells) (p : Nat) (h : p < c.room) : (growTo n c).get p = c.get p := by
  unfold growTo
  cases Nat.ble n c.room
  · cases Nat.ble n c.grow.room
    · show c.grow.grow.get p = _
      rw [Cells.get_grow _ _ (Nat.lt_of_lt_of_le h c.room_grow), Cells.get_grow _ _ h]
    · exact Cells.get_grow _ _ h
  · rfl
theorem growTo_room (n : Nat) (c : Cells) (h : n ≤ 4096) : n ≤ (growTo n c).room := by
  unfold growTo
  cases h1 : Nat.ble n c.room
  · cases h2 : Nat.ble n c.grow.room
    · cases c <;> simp [Cells.grow, Cells.room] at h1 h2 ⊢ <;> omega
    · exact Nat.le_of_ble_eq_true h2
  · exact Nat.le_of_ble_eq_true h1

/-- The cells of a slice that is appended to, with room for so many. -/
def baseCells (c : Cells) (o k n : Nat) : Cells := bif Nat.beq k 0 || Nat.beq o 0 then growTo n c else fillFrom (readFrom c o k) 0 (emptyCells n)

theorem readFrom_get (c : Cells) (k : Nat) : ∀ (o j : Nat) (h : j < (readFrom c o k).length), (readFrom c o k)[j] = c.get (o + j) := by
  induction k with
  | zero => intro o j h; simp [readFrom] at h
  | succ k ih =>
    intro o j h
    cases j with
    | zero => rfl
    | succ j =>
      have h' : j < (readFrom c (o + 1) k).length := by simpa [readFrom] using h
      have := ih (o + 1) j h'
      rw [show o + (j + 1) = o + 1 + j by omega, ← this]
      rfl

theorem baseCells_get (c : Cells) (o k n p : Nat) (hp : p < k) (ho : o + k ≤ c.room) (hk : k ≤ n) (hn : n ≤ 4096) : (baseCells c o k n).get p = c.get (o + p) := by
  unfold baseCells
  cases hc : (Nat.beq k 0 || Nat.beq o 0)
  · show (fillFrom (readFrom c o k) 0 (emptyCells n)).get p = _
    have := fillFrom_in (readFrom c o k) 0 p (emptyCells n) (by rw [readFrom_length]; have := emptyCells_room n hn; omega) (by rw [readFrom_length]; exact hp)
    rw [Nat.zero_add] at this
    rw [this, readFrom_get]
  · have h0 : o = 0 := by
      rw [Bool.or_eq_true] at hc
      rcases hc with h | h
      · have := Nat.eq_of_beq_eq_true h; omega
      · exact Nat.eq_of_beq_eq_true h
    subst h0
    rw [Nat.zero_add]
    exact growTo_get n c p (by omega)
theorem baseCells_room (c : Cells) (o k n : Nat) (hn : n ≤ 4096) : n ≤ (baseCells c o k n).room := by
  unfold baseCells
  cases (Nat.beq k 0 || Nat.beq o 0)
  · show n ≤ (fillFrom _ _ _).room
    rw [fillFrom_room]
    exact emptyCells_room n hn
  · exact growTo_room n c hn

def makeSliceV (P : Program) (h : H) (t : TypeId) (x y : V) : Option (V × H) :=
  match P.underlying t, natV x, natV y with
  | some (.slice e), some l, some c =>
    match P.info? e, zeroV P e with
    | some i, some zs =>
      bif Nat.ble l c && Nat.ble c 4096 && Nat.ble (Nat.mul c i.bytes) 1099511627776 && Nat.beq zs.length i.size && Nat.ble (Nat.mul c i.size) 4096 then
        (newV h (repL c zs).length e (repL c zs)).map fun h' => (.slice h.next 0 l c i.size, h')
      else none
    | _, _ => none
  | _, _, _ => none

theorem zeroV_info {r : Emb} {t : TypeId} {zs : List V} (h : zeroV P t = some zs) : ∃ i z, P.info? t = some i ∧ i.zero = some z ∧ VsRel r zs z.cells.toList := by
  unfold zeroV at h
  split at h
  · rename_i i hi
    split at h
    · rename_i z hz
      exact ⟨i, z, hi, hz, cellsV_sound (vrel_constV r z) h⟩
    · simp at h
  · simp at h

theorem makeSliceV_sound {r : Emb} {h h' : H} {w : World} (hr : Rel r h w) {e : Operand → Value} {o : Oper} {t : TypeId} {x y : Operand} (ho : o.op = .makeSlice t x y) {vx vy v : V} (hx : VRel r vx (e x)) (hy : VRel r vy (e y))
    (he : makeSliceV P h t vx vy = some (v, h')) : Gives P r h w e o v h' := by
  unfold makeSliceV at he
  split at he
  · rename_i el l c hu hl hc
    obtain ⟨k1, e1⟩ := natV_sound hl hx
    obtain ⟨k2, e2⟩ := natV_sound hc hy
    split at he
    · rename_i i zs hi hz
      cases hk : (Nat.ble l c && Nat.ble c 4096 && Nat.ble (Nat.mul c i.bytes) 1099511627776 && Nat.beq zs.length i.size && Nat.ble (Nat.mul c i.size) 4096) <;> simp only [hk, cond_true, cond_false, reduceCtorEq] at he
      simp only [Bool.and_eq_true] at hk
      obtain ⟨⟨⟨⟨g1, g2⟩, g3⟩, g4⟩, g5⟩ := hk
      have g1' := Nat.le_of_ble_eq_true g1
      have g2' := Nat.le_of_ble_eq_true g2
      have g3' : c * i.bytes ≤ 1099511627776 := Nat.le_of_ble_eq_true g3
      have g4' := Nat.eq_of_beq_eq_true g4
      cases hn : newV h (repL c zs).length el (repL c zs) with
      | none => rw [hn] at he; simp at he
      | some h2 =>
        rw [hn] at he
        simp only [Option.map_some, Option.some.injEq, Prod.mk.injEq] at he
        obtain ⟨rfl, rfl⟩ := he
        obtain ⟨i', z, hi', hz', h4⟩ := zeroV_info (r := r) hz
        rw [hi] at hi'
        cases hi'
        have hsz : z.cells.size = i.size := by rw [← g4']; simpa using h4.length.symm
        have hb : (i.bytes : Int) * (Int.ofNat c) ≤ 281474976710656 := by
          have : (i.bytes : Int) * (Int.ofNat c) = ((c * i.bytes : Nat) : Int) := by rw [Nat.mul_comm]; simp
          rw [this]; omega
        have hrun := run_make (P := P) w t el i z hu hi hz' k1 k2 (Int.ofNat l) (Int.ofNat c) (Int.natCast_nonneg l) (Int.ofNat_le.2 g1') hb (by show (c : Int) ≤ _; omega)
        have hrel := repL_rel h4 c
        rw [hsz] at hrel
        refine ⟨.slice (some ⟨w.heap.size, 0, none⟩) l c, _, _, .inl ?_, newV_sound hr (xs := madeCells z.cells (c * i.size)) (by unfold madeCells; rw [hsz]; exact hrel) hn, ?_⟩
        · unfold execOp
          simp only [ho, e1, e2]
          simp only [Sem.run_bind]
          rw [hrun]
          rfl
        · refine .slice (o := 0) (Emb.put_same _ _ _) g1' (Nat.le_refl _) ?_
          rw [size_madeCells]
          omega
    · simp at he
  · simp at he

end Go.Ev

namespace Go.Ev

variable {P : Program}

/-- A text's bytes. -/
def bytesV (n : Nat) : Nat → List V
  | 0 => []
  | l + 1 => .int .u8 (Int.ofNat (Nat.mod n 256)) :: bytesV (Nat.div n 256) l
theorem bytesV_rel {r : Emb} : ∀ (l n : Nat), VsRel r (bytesV n l) ((sdec n l).map fun b => Value.int .u8 b.toNat)
  | 0, _ => .nil
  | l + 1, n => by
    refine .cons ?_ (bytesV_rel l _)
    have e : ((UInt8.ofNat (n % 256)).toNat : Int) = Int.ofNat (Nat.mod n 256) := by
      have h1 : (UInt8.ofNat (n % 256)).toNat = n % 256 % 256 := by simp
      rw [h1, Nat.mod_mod]
      rfl
    show VRel r _ (Value.int .u8 ((UInt8.ofNat (n % 256)).toNat : Int))
    rw [e]
    exact .int _ _

/-- What is appended: so many elements, and their cells. -/
def srcV (P : Program) (h : H) (tx : TypeId) (size : Nat) (y : V) : Option (Nat × List V) :=
  match P.underlying tx, y with
  | some (.slice _), .nils => some (0, [])
  | some (.slice _), .slice id o len _ _ =>
    bif Nat.beq len 0 then some (0, []) else
    match h.mem.blk id with
    | .live n _ _ _ c => bif Nat.blt id 65536 && Nat.ble (Nat.add o (Nat.mul len size)) n then some (len, readFrom c o (Nat.mul len size)) else none
    | _ => none
  | some .string, .str m l => bif Nat.beq size 1 then some (l, bytesV m l) else none
  | _, _ => none

theorem srcV_sound {r : Emb} {h : H} {w : World} (hr : Rel r h w) {tx : TypeId} {size : Nat} {y : V} {n : Nat} {news : List V} (he : srcV P h tx size y = some (n, news)) (h1 : allOne news = true) {a : Value} (hy : VRel r y a) :
    ∃ xs, Src P size tx a n xs w ∧ VsRel r news xs := by
  unfold srcV at he
  split at he
  · rename_i e hu
    simp only [Option.some.injEq, Prod.mk.injEq] at he
    obtain ⟨rfl, rfl⟩ := he
    cases hy
    exact ⟨[], Src.ofNil w hu 0, .nil⟩
  · rename_i e id o len cap esz hu
    cases hz : Nat.beq len 0
    · rw [hz] at he
      simp only [cond_false] at he
      split at he
      · rename_i nb tb ro pl c hb
        cases hk : (Nat.blt id 65536 && Nat.ble (Nat.add o (Nat.mul len size)) nb) <;> simp only [hk, cond_true, cond_false, reduceCtorEq, Option.some.injEq, Prod.mk.injEq] at he
        obtain ⟨rfl, rfl⟩ := he
        simp only [Bool.and_eq_true, Nat.blt_eq] at hk
        have hle : o + len * size ≤ nb := Nat.le_of_ble_eq_true hk.2
        obtain ⟨b, sh, m, h2, hf⟩ := hr.blk id nb tb ro pl c hk.1 hb
        obtain ⟨xs, g1, g2, g3⟩ := hf.read (len * size) o hle
        cases hy with
        | @slice _ _ _ _ _ b' sh' c' cap' hy _ _ _ =>
          rw [h2] at hy
          cases hy
          exact ⟨xs, Src.ofSlice w hu ⟨b, o + sh, none⟩ len cap' xs g2 (fun j u hj => by rw [Addr.add_mid]; exact g3 j u hj) (allOne_sound g1 h1), g1⟩
        | slice0 => simp at hz
      · simp at he
    · rw [hz] at he
      simp only [cond_true, Option.some.injEq, Prod.mk.injEq] at he
      obtain ⟨rfl, rfl⟩ := he
      have hl := Nat.eq_of_beq_eq_true hz
      subst hl
      cases hy with
      | slice hy _ _ _ => exact ⟨[], Src.ofSlice w hu _ 0 _ [] (by simp) (fun j u hj => by simp at hj) (fun u hu => by cases hu), .nil⟩
      | slice0 hy _ => exact ⟨[], Src.ofSlice w hu _ 0 _ [] (by simp) (fun j u hj => by simp at hj) (fun u hu => by cases hu), .nil⟩
  · rename_i m l hu
    cases hz : Nat.beq size 1
    · rw [hz] at he; simp at he
    · rw [hz] at he
      simp only [cond_true, Option.some.injEq, Prod.mk.injEq] at he
      obtain ⟨rfl, rfl⟩ := he
      obtain rfl := Nat.eq_of_beq_eq_true hz
      cases hy with
      | str hm =>
        have h2 := Src.ofString (w := w) hu (sval m l)
        rw [sval_size] at h2
        exact ⟨_, h2, bytesV_rel l m⟩
  · simp at he

/-- Are two values appended, null and undefined? Then what was appended to is still read, and the whole is not written. -/
def shareQ (news : List V) : Bool :=
  match news with
  | [.int .i64 (.ofNat a), .int .i64 (.ofNat b), .str _ c, .int .i64 (.ofNat d), .int .i64 (.ofNat e), .str _ f] => Nat.beq a 1 && (Nat.beq b 0 && (Nat.beq c 0 && (Nat.beq d 0 && (Nat.beq e 0 && Nat.beq f 0))))
  | _ => false
/-- append. -/
def appendV (P : Program) (h : H) (t tx : TypeId) (x y : V) : Option (V × H) :=
  match P.underlying t with
  | some (.slice e) =>
    match P.info? e, zeroV P e with
    | some i, some zs =>
      match srcV P h tx i.size y with
      | some (n, news) =>
        bif allOne news && Nat.beq zs.length i.size && Nat.blt 0 i.size && (Nat.ble i.bytes 65536 && not (Nat.beq e bldT)) then
          match x with
          | .nils =>
            bif Nat.beq n 0 then some (.nils, h)
            else bif Nat.ble (Nat.mul n i.size) 4096 && Nat.blt h.next 65536 then
              some (.slice h.next 0 n n i.size, h.lay (Nat.mul n i.size) e true (fillFrom news 0 (emptyCells (Nat.mul n i.size))))
            else none
          | .slice id o len cap esz =>
            bif Nat.beq esz i.size then
              bif Nat.beq n 0 then some (.slice id o len cap esz, h)
              else match h.mem.blk id with
                | .live nb tb false pl c =>
                  bif Nat.blt id 65536 && Nat.beq tb e && Nat.ble (Nat.mul (Nat.add len n) esz) 4096 && Nat.blt h.next 65536 then
                    bif Nat.ble (Nat.add len n) cap then
                      bif Nat.ble (Nat.add o (Nat.mul (Nat.add len n) esz)) nb then some (.slice id o (Nat.add len n) cap esz, h.write id nb tb pl (fillFrom news (Nat.add o (Nat.mul len esz)) c)) else none
                    else bif shareQ news && (Nat.blt 0 len && Nat.ble (Nat.add o (Nat.mul len esz)) nb) then
                      some (.slice h.next 0 (Nat.add len n) (Nat.add len n) esz,
                        (h.setB id (.live (Nat.add o (Nat.mul len esz)) tb true false c)).layB (.live (Nat.mul (Nat.add len n) esz) tb true false (fillFrom news (Nat.mul len esz) (baseCells c o (Nat.mul len esz) (Nat.mul (Nat.add len n) esz)))))
                    else bif Nat.beq len 0 || Nat.ble (Nat.add o (Nat.mul len esz)) nb then
                      some (.slice h.next 0 (Nat.add len n) (Nat.add len n) esz,
                        (h.kill id).lay (Nat.mul (Nat.add len n) esz) e pl (fillFrom news (Nat.mul len esz) (baseCells c o (Nat.mul len esz) (Nat.mul (Nat.add len n) esz))))
                    else none
                  else none
                | _ => none
            else none
          | _ => none
        else none
      | none => none
    | _, _ => none
  | _ => none

/-- The new row that an append makes. -/
theorem grown_fits {r : Emb} {w : World} {e : TypeId} {news olds : List V} {xs os : List Value} (hne : e ≠ bldT) (hn : VsRel r news xs) (hol : VsRel r olds os) (zc : Array Value) (g k : Nat) (c : Cells) (hc : c.room ≥ olds.length + news.length)
    (hold : ∀ p, (hp : p < olds.length) → c.get p = olds[p]) (pl : Bool) (u : World) (hu : u.heap[w.heap.size]? = some (.cells ((os ++ xs).toArray ++ Builtin.zeroCells zc g) e (0, 0))) (hk : k = olds.length + news.length) :
    Fits r k e false pl (fillFrom news olds.length c) w.heap.size 0 ((os ++ xs).toArray ++ Builtin.zeroCells zc g).size u := by
  have hnl := hn.length
  have hol' := hol.length
  refine ⟨⟨_, (0, 0), ⟨_, hu, fun _ => rfl⟩, rfl, fun _ x _ hx => Nat.not_lt_zero _ hx.2, fun _ => rfl, fun o ho => ?_⟩, by simp; omega, by rw [fillFrom_room]; omega, fun _ e2 => absurd e2 hne⟩
  rw [Nat.add_zero]
  have hlt : o < (os ++ xs).length := by simp; omega
  have hget : ((os ++ xs).toArray ++ Builtin.zeroCells zc g)[o]? = (os ++ xs)[o]? := by
    rw [Array.getElem?_append_left (by simpa using hlt)]
    simp
  rw [hget]
  by_cases h1 : o < olds.length
  · rw [fillFrom_out news olds.length o c (by omega) (by omega) (.inl h1), hold o h1, List.getElem?_append_left (by omega)]
    exact hol.get o (by simp)
  · obtain ⟨j, rfl⟩ : ∃ j, o = olds.length + j := ⟨o - olds.length, by omega⟩
    rw [fillFrom_in news olds.length j c (by omega) (by omega), List.getElem?_append_right (by omega)]
    rw [show olds.length + j - os.length = j by omega]
    exact hn.get j (by simp)

theorem run_append_none0 {w : World} {t tx ty e : TypeId} {i : TypeInfo} (ht : P.underlying t = some (.slice e)) (hi : P.info? e = some i) {a : Value} {xs : List Value} (hs : Src P i.size tx a 0 xs w) :
    (Builtin.append_ #[t, tx] ty #[.slice none 0 0, a]).run P w = .ok (.slice none 0 0) w := by
  rcases hs.kind with ⟨e', hk⟩ | hk <;> simp [Builtin.append_, run_underlying ht, run_underlying hk, sizeOf, typeInfo, hi, hs.len, hs.cells]

theorem run_append_some0 {w : World} {t tx ty e : TypeId} {i : TypeInfo} (ht : P.underlying t = some (.slice e)) (hi : P.info? e = some i) {a : Value} {xs : List Value} (hs : Src P i.size tx a 0 xs w) (b off l c : Nat) (hl : l ≤ c) :
    (Builtin.append_ #[t, tx] ty #[.slice (some ⟨b, off, none⟩) l c, a]).run P w = .ok (.slice (some ⟨b, off, none⟩) l c) w := by
  have h0 : xs = [] := List.eq_nil_of_length_eq_zero (by rw [hs.newsLen]; omega)
  subst h0
  exact run_append_room_src w t tx ty e i ht hi b off l c a 0 [] hs (by omega) (fun j hj => by simp at hj) (fun j hj => by simp at hj)

theorem held_kill {r : Emb} {h : H} {id b : Nat} (hid : id < 65536) (ho : Held r (h.kill id) b) : Held r h b := by
  obtain ⟨i, sh, m, hl, h1⟩ := ho
  exact ⟨i, sh, m, (live_kill hid hl).1, h1⟩

/-- What stands in the model behind an append that is given a new label. -/
theorem relabel_grown {r : Emb} {h0 h : H} {w : World} (hr : Rel r h w) (hsub : ∀ b, Own r h b → Own r h0 b) (hsub2 : ∀ b, Held r h b → Held r h0 b) (hn : h.next < 65536) {e : TypeId} (hne : e ≠ bldT) {news olds : List V} {xs os : List Value} (hv : VsRel r news xs) (hol : VsRel r olds os)
    (zc : Array Value) (g : Nat) {c : Cells} (hc : olds.length + news.length ≤ c.room) (hold : ∀ p, (hp : p < olds.length) → c.get p = olds[p]) (pl : Bool) :
    Step r h0 w (r.put h.next (w.heap.size, 0, ((os ++ xs).toArray ++ Builtin.zeroCells zc g).size)) (h.lay (olds.length + news.length) e pl (fillFrom news olds.length c))
      (w.drew.alloc (.cells ((os ++ xs).toArray ++ Builtin.zeroCells zc g) e)) := by
  have hle := r.le_put h.next (w.heap.size, 0, ((os ++ xs).toArray ++ Builtin.zeroCells zc g).size) (hr.new _ (Nat.le_refl _))
  refine Step.lay hr hsub hsub2 hn (fun id sh' m' hl' e' => Nat.lt_irrefl _ (hr.lt hl' e')) (fun hlt => (Nat.lt_irrefl _ hlt).elim) (fun k hk _ => heap_alloc_old w.drew _ k hk) (by simp) rfl rfl rfl ?_
  exact grown_fits hne (hv.up hle) (hol.up hle) zc g _ c hc hold pl _ (heap_alloc_new w.drew _) rfl

theorem zeroCells_size (zc : Array Value) (g : Nat) : (Builtin.zeroCells zc g).size = g * zc.size := by simp [Builtin.zeroCells]

theorem relabel_room {r : Emb} {h : H} {w : World} (hr : Rel r h w) {id nb : Nat} {tb : TypeId} (hne : tb ≠ bldT) {pl : Bool} {c : Cells} (hid : id < 65536) (hb : h.mem.blk id = .live nb tb false pl c) (hn : h.next < 65536)
    {b sh m : Nat} (h1 : r id = some (b, sh, m)) {news : List V} {xs : List Value} (hv : VsRel r news xs) {off k : Nat} (hk : off + (k + news.length) ≤ m) {c' : Cells} (hroom : k + news.length ≤ c'.room)
    (hold : ∀ p, p < k → ∃ q, q < nb ∧ c'.get p = c.get q ∧ p + off = q + sh) :
    Step r h w (r.put h.next (b, off, m)) ((h.kill id).lay (k + news.length) tb pl (fillFrom news k c')) (w.setCells b (off + k) xs) := by
  have hkill := (Step.kill hr hid).rel
  have hle := r.le_put h.next (b, off, m) (hr.new _ (Nat.le_refl _))
  obtain ⟨b', sh', m', h1', ⟨⟨cs, fz, ⟨ty, g2, hty⟩, g3, g4, g5, g6⟩, g7, g8, g9⟩⟩ := hr.blk id nb tb false pl c hid hb
  rw [hty rfl] at g2
  rw [h1] at h1'
  cases h1'
  have hlen := hv.length
  obtain ⟨f1, f2, f3, f4⟩ := setCells_frame b xs (off + k) w
  refine Step.lay (h0 := h) (h := h.kill id) hkill (fun _ => own_kill hid) (fun _ => held_kill hid) hn (fun i sh' m' hl' e' => ?_) (fun _ => own_of hid hb h1)
    (fun k' _ hne => heap_setCells_other b k' hne xs _ w) (Nat.le_of_eq f1.symm) f2 f3 f4 ?_
  · obtain ⟨hl, hne⟩ := live_kill hid hl'
    exact hne (hr.inj i id b sh' m' sh m hl (live_of hid hb) (.inr (by rw [hb]; rfl)) e' h1)
  · refine ⟨⟨setL cs (off + k) xs, fz, ⟨_, heap_setCells b xs _ w cs _ fz g2, fun _ => rfl⟩, by rw [size_setL]; exact g3, g4, g5, fun p hp => ?_⟩, by omega, by rw [fillFrom_room]; exact hroom, fun _ e2 => absurd e2 hne⟩
    by_cases hin : p < k
    · rw [fillFrom_out news k p c' hroom (by omega) (.inl hin), setL_out xs cs (off + k) (p + off) (by omega)]
      obtain ⟨q, q1, q2, q3⟩ := hold p hin
      obtain ⟨x, hx, hvx⟩ := g6 q q1
      rw [q2, q3]
      exact ⟨x, hx, hvx.up hle⟩
    · obtain ⟨j, rfl⟩ : ∃ j, p = k + j := ⟨p - k, by omega⟩
      rw [fillFrom_in news k j c' hroom (by omega), show k + j + off = off + k + j by omega, setL_in xs cs (off + k) j (by omega) (by omega)]
      obtain ⟨x, hx, hvx⟩ := hv.get j (v := news[j]) (by simp)
      rw [List.getElem?_eq_getElem (by omega)] at hx
      exact ⟨x, hx, hvx.up hle⟩


theorem Fits.toRo {r : Emb} {n : Nat} {t : TypeId} {ro pl : Bool} {c : Cells} {b sh m : Nat} {w : World} (h : Fits r n t ro pl c b sh m w) {k : Nat} (hk : k ≤ n) : Fits r k t true false c b sh m w := by
  obtain ⟨⟨cs, fz, ⟨ty, h2, hty⟩, h3, h4, h5, h6⟩, h7, h8, h9⟩ := h
  exact ⟨⟨cs, fz, ⟨ty, h2, fun e => Bool.noConfusion e⟩, h3, fun e => Bool.noConfusion e, fun e => Bool.noConfusion e, fun o ho => h6 o (by omega)⟩, by omega, by omega, fun e => Bool.noConfusion e⟩

/-- A label more for a block that is not written any more. -/
theorem Step.share {r : Emb} {h : H} {w : World} (hr : Rel r h w) (hn : h.next < 65536) {id b sh m ao : Nat} (hl : Live h id) (h1 : r id = some (b, sh, m))
    (hno : ∀ i, Live h i → ownB (h.mem.blk i) = true → ∀ s1 k1, r i ≠ some (b, s1, k1)) {k : Blk} (hk : ownB k = false) (hf : FitB (r.put h.next (b, ao, m)) k b ao m w) :
    Step r h w (r.put h.next (b, ao, m)) (h.layB k) w := by
  have hle := r.le_put h.next (b, ao, m) (hr.new _ (Nat.le_refl _))
  have hsame : (h.layB k).mem.blk h.next = k := Mem.blk_put_same _ _ _ hn
  have hold : ∀ i, i < 65536 → i ≠ h.next → (h.layB k).mem.blk i = h.mem.blk i := fun i hi hne => Mem.blk_put_other _ _ _ _ hn hi hne
  have hlive : ∀ i, Live (h.layB k) i → i ≠ h.next → Live h i := fun i ⟨hi, hb'⟩ hne => ⟨hi, by rw [hold i hi hne] at hb'; exact hb'⟩
  refine ⟨hle, ⟨fun i hi hb => ?_, fun i i' x s1 k1 s2 k2 hl1 hl2 ho e1 e2 => ?_, fun i hi => ?_⟩, Nat.le_refl _, fun _ _ _ => rfl, fun x _ ho => ?_, fun x _ hh => ?_, rfl, rfl, rfl⟩
  · by_cases e : i = h.next
    · subst e
      rw [hsame]
      exact ⟨b, ao, m, Emb.put_same _ _ _, hf⟩
    · rw [hold i hi e] at hb ⊢
      obtain ⟨b2, sh2, m2, g1, g2⟩ := hr.fit i hi hb
      exact ⟨b2, sh2, m2, hle _ _ g1, g2.keep hle rfl⟩
  · by_cases e : i = h.next
    · by_cases e' : i' = h.next
      · rw [e, e']
      · subst e
        rw [Emb.put_same] at e1
        cases e1
        rw [Emb.put_other _ _ _ _ e'] at e2
        rw [hsame, hold i' hl2.1 e', hk] at ho
        rcases ho with q | q
        · cases q
        · exact (hno i' (hlive i' hl2 e') q _ _ e2).elim
    · by_cases e' : i' = h.next
      · subst e'
        rw [Emb.put_same] at e2
        cases e2
        rw [Emb.put_other _ _ _ _ e] at e1
        rw [hsame, hold i hl1.1 e, hk] at ho
        rcases ho with q | q
        · exact (hno i (hlive i hl1 e) q _ _ e1).elim
        · cases q
      · rw [Emb.put_other _ _ _ _ e] at e1
        rw [Emb.put_other _ _ _ _ e'] at e2
        rw [hold i hl1.1 e, hold i' hl2.1 e'] at ho
        exact hr.inj i i' x s1 k1 s2 k2 (hlive i hl1 e) (hlive i' hl2 e') ho e1 e2
  · have : h.next + 1 ≤ i := hi
    rw [Emb.put_other _ _ _ _ (by omega)]
    exact hr.new i (by omega)
  · obtain ⟨i, s1, k1, hi, hb, e1⟩ := ho
    by_cases e : i = h.next
    · subst e
      rw [hsame, hk] at hb
      cases hb
    · rw [hold i hi e] at hb
      rw [Emb.put_other _ _ _ _ e] at e1
      exact ⟨i, s1, k1, hi, hb, e1⟩
  · obtain ⟨i, s1, k1, hl1, e1⟩ := hh
    by_cases e : i = h.next
    · subst e
      rw [Emb.put_same] at e1
      cases e1
      exact ⟨id, sh, m, hl, h1⟩
    · rw [Emb.put_other _ _ _ _ e] at e1
      exact ⟨i, s1, k1, hlive i hl1 e, e1⟩

theorem append_gives {r : Emb} {h h' : H} {w w' : World} {e : Operand → Value} {o : Oper} {t tx : TypeId} {x y : Operand} (ho : o.op = .call { callee := .builtin .append, args := #[x, y], argTypes := #[t, tx] })
    {z : Value} {v : V} {r' : Emb} (hrun : (Builtin.append_ #[t, tx] o.type #[e x, e y]).run P w = .ok z w') (hs : Step r h w r' h' w') (hv : VRel r' v z) : Gives P r h w e o v h' := by
  refine ⟨z, w', r', .inl ?_, hs, hv⟩
  unfold execOp
  simp [ho, resolve, invoke, builtin, hrun]

theorem appendV_sound {r : Emb} {h h' : H} {w : World} (hr : Rel r h w) {e : Operand → Value} {o : Oper} {t tx : TypeId} {x y : Operand} (ho : o.op = .call { callee := .builtin .append, args := #[x, y], argTypes := #[t, tx] })
    {vx vy v : V} (hx : VRel r vx (e x)) (hy : VRel r vy (e y)) (he : appendV P h t tx vx vy = some (v, h')) : Gives P r h w e o v h' := by
  unfold appendV at he
  split at he
  · rename_i el hu
    split at he
    · rename_i i zs hi hz
      split at he
      · rename_i n news hsrc
        cases hk : (allOne news && Nat.beq zs.length i.size && Nat.blt 0 i.size && (Nat.ble i.bytes 65536 && not (Nat.beq el bldT))) <;> simp only [hk, cond_true, cond_false, reduceCtorEq] at he
        simp only [Bool.and_eq_true, Nat.blt_eq] at hk
        obtain ⟨⟨⟨k1, k2⟩, k3⟩, k4, k5⟩ := hk
        have hel : el ≠ bldT := fun e0 => by rw [e0] at k5; simp at k5
        have k2' := Nat.eq_of_beq_eq_true k2
        have k4' := Nat.le_of_ble_eq_true k4
        obtain ⟨xs, hs, hv⟩ := srcV_sound hr hsrc k1 hy
        obtain ⟨i', z, hi', hz', h4⟩ := zeroV_info (r := r) hz
        rw [hi] at hi'
        cases hi'
        have hsz : z.cells.size = i.size := by rw [← k2']; simpa using h4.length.symm
        have hnl : news.length = n * i.size := by rw [hv.length]; exact hs.newsLen
        split at he
        · -- nil
          generalize hax : e x = ax at hx
          cases hx
          cases h0 : Nat.beq n 0
          · rw [h0] at he
            simp only [cond_false] at he
            cases hk : (Nat.ble (Nat.mul n i.size) 4096 && Nat.blt h.next 65536) <;> simp only [hk, cond_true, cond_false, reduceCtorEq, Option.some.injEq, Prod.mk.injEq] at he
            obtain ⟨rfl, rfl⟩ := he
            simp only [Bool.and_eq_true, Nat.blt_eq] at hk
            have hle : n * i.size ≤ 4096 := Nat.le_of_ble_eq_true hk.1
            have hn0 : 0 < n := Nat.pos_of_ne_zero (fun e0 => by rw [e0] at h0; simp at h0)
            have hn : n ≤ 4096 := Nat.le_trans (Nat.le_mul_of_pos_right n k3) hle
            have hby : (0 + n) * i.bytes ≤ 140737488355328 := by
              have : n * i.bytes ≤ 4096 * 65536 := Nat.mul_le_mul hn k4'
              rw [Nat.zero_add]
              omega
            have hrun := run_append_grow_src w t tx o.type el i z hu hi hz' none 0 0 [] (run_firstCells_none w.drew i.size 0 0 0) (e y) n xs hs (by omega) (by omega) (growslice_fits (by omega) hby)
            have hst := relabel_grown hr (fun _ ho => ho) (fun _ ho => ho) hk.2 (e := el) hel (olds := []) (os := []) hv .nil z.cells (grownCap w (0 + n) 0 el - (0 + n)) (c := emptyCells (n * i.size))
              (by have := emptyCells_room (n * i.size) hle; simpa [hnl] using this) (fun p hp => by simp at hp) true
            have e1 : h.lay (([] : List V).length + news.length) el true (fillFrom news ([] : List V).length (emptyCells (n * i.size))) = h.lay (Nat.mul n i.size) el true (fillFrom news 0 (emptyCells (Nat.mul n i.size))) := by
              rw [List.length_nil, Nat.zero_add, hnl]; rfl
            rw [e1] at hst
            refine append_gives ho (by rw [hax]; exact hrun) hst ?_
            have hge := grownCap_ge w (0 + n) 0 el
            rw [show (.slice (some ⟨w.heap.size, 0, none⟩) (0 + n) (grownCap w (0 + n) 0 el) : Value) = .slice (some ⟨w.heap.size, 0 + 0, none⟩) n (grownCap w (0 + n) 0 el) by rw [Nat.zero_add n]]
            refine .slice (Emb.put_same _ _ _) (Nat.le_refl _) (by omega) ?_
            simp only [Array.size_append, zeroCells_size, hsz, List.nil_append, List.size_toArray]
            rw [hs.newsLen, ← Nat.add_mul]
            have : n + (grownCap w (0 + n) 0 el - (0 + n)) = grownCap w (0 + n) 0 el := by omega
            rw [this]
            omega
          · rw [h0] at he
            simp only [cond_true, Option.some.injEq, Prod.mk.injEq] at he
            obtain ⟨rfl, rfl⟩ := he
            have hn0 := Nat.eq_of_beq_eq_true h0
            subst hn0
            exact append_gives ho (by rw [hax]; exact run_append_none0 hu hi hs) (Step.refl hr) .nils
        · -- a slice
          rename_i id off len cap esz
          cases hes : Nat.beq esz i.size <;> simp only [hes, cond_true, cond_false, reduceCtorEq] at he
          have hes' := Nat.eq_of_beq_eq_true hes
          subst hes'
          cases h0 : Nat.beq n 0
          · rw [h0] at he
            simp only [cond_false] at he
            have hn0 : 0 < n := Nat.pos_of_ne_zero (fun e0 => by rw [e0] at h0; simp at h0)
            split at he
            · rename_i nb tb pl c hb
              cases hk : (Nat.blt id 65536 && Nat.beq tb el && Nat.ble (Nat.mul (Nat.add len n) i.size) 4096 && Nat.blt h.next 65536) <;> simp only [hk, cond_true, cond_false, reduceCtorEq] at he
              simp only [Bool.and_eq_true, Nat.blt_eq] at hk
              obtain ⟨⟨⟨g1, g2⟩, g3⟩, g4⟩ := hk
              have g2' := Nat.eq_of_beq_eq_true g2
              subst g2'
              have g3' : (len + n) * i.size ≤ 4096 := Nat.le_of_ble_eq_true g3
              obtain ⟨b, sh, m, h1, hf⟩ := hr.blk id nb tb false pl c g1 hb
              have hmul : (len + n) * i.size = len * i.size + n * i.size := Nat.add_mul _ _ _
              have hln : len + n ≤ 4096 := Nat.le_trans (Nat.le_mul_of_pos_right _ k3) g3'
              have hby : (len + n) * i.bytes ≤ 140737488355328 := by
                have : (len + n) * i.bytes ≤ 4096 * 65536 := Nat.mul_le_mul hln k4'
                omega
              cases hcap : Nat.ble (Nat.add len n) cap
              · -- what becomes of it hangs on the capacity
                rw [hcap] at he
                simp only [cond_false] at he
                cases hsq : (shareQ news && (Nat.blt 0 len && Nat.ble (Nat.add off (Nat.mul len i.size)) nb))
                rotate_left
                · -- it is still read
                  rw [hsq] at he
                  simp only [cond_true, Option.some.injEq, Prod.mk.injEq] at he
                  obtain ⟨rfl, rfl⟩ := he
                  simp only [Bool.and_eq_true, Nat.blt_eq] at hsq
                  obtain ⟨_, hl0, hnb⟩ := hsq
                  have hnb' : off + len * i.size ≤ nb := Nat.le_of_ble_eq_true hnb
                  have hroomb : (len + n) * i.size ≤ (baseCells c off (len * i.size) ((len + n) * i.size)).room := baseCells_room _ _ _ _ g3'
                  generalize hax : e x = ax at hx
                  cases hx with
                  | slice0 => omega
                  | @slice _ _ _ _ _ b' sh' m' cap' hx q1 q2 q3 =>
                  rw [h1] at hx
                  cases hx
                  have hown0 : ownB (h.mem.blk id) = true := by rw [hb]; rfl
                  have hbase : ∀ p, p < len * i.size → (baseCells c off (len * i.size) ((len + n) * i.size)).get p = c.get (off + p) := fun p hp => baseCells_get c off _ _ p hp (by have := hf.room; omega) (by omega) g3'
                  have hnoA : ∀ (kA : Blk), ownB kA = false → ∀ j, Live (h.setB id kA) j → ownB ((h.setB id kA).mem.blk j) = true → ∀ s1 k1, r j ≠ some (b, s1, k1) := fun kA hA j hj ho s1 k1 e1 => by
                    by_cases ej : j = id
                    · subst ej
                      rw [blk_setB g1, hA] at ho
                      cases ho
                    · have hj2 : (h.setB id kA).mem.blk j = h.mem.blk j := blk_setB_other g1 hj.1 ej
                      have hjl : Live h j := ⟨hj.1, by rw [← hj2]; exact hj.2⟩
                      exact ej (hr.inj j id b s1 k1 sh m hjl (live_of g1 hb) (.inr hown0) e1 h1)
                  by_cases hc2 : len + n ≤ cap'
                  · -- in its place
                    have hm2 : (len + n) * i.size ≤ cap' * i.size := Nat.mul_le_mul_right _ hc2
                    have hth := hf.there (off + sh + len * i.size) (n * i.size) (by omega)
                    have hrun := run_append_room_src w t tx o.type tb i hu hi b (off + sh) len cap' (e y) n xs hs hc2 (fun j hj => (hth j (by rw [← hs.newsLen]; exact hj)).1) (fun j hj => (hth j (by rw [← hs.newsLen]; exact hj)).2)
                    have hf2 := hf
                    obtain ⟨⟨cs, fz, ⟨ty, k2, hty⟩, k3, k4, k5, k6⟩, k7, k8, k9⟩ := hf2
                    have hty' := hty rfl
                    subst hty'
                    obtain ⟨f1, f2, f3, f4⟩ := setCells_frame b xs (off + sh + len * i.size) w
                    have hnl2 := hv.length
                    have hcell := heap_setCells b xs (off + sh + len * i.size) w cs ty fz k2
                    have stA : Step r h w r (h.setB id (.live (off + len * i.size) ty true false c)) (w.setCells b (off + sh + len * i.size) xs) := by
                      refine Step.setB hr g1 hown0 h1 (fun j hj => heap_setCells_other b j hj xs _ w) f1 f2 f3 f4 ?_
                      refine ⟨⟨_, fz, ⟨ty, hcell, fun e0 => Bool.noConfusion e0⟩, by rw [size_setL]; exact k3, fun e0 => Bool.noConfusion e0, fun e0 => Bool.noConfusion e0, fun p hp => ?_⟩, by omega, by omega, fun e0 => Bool.noConfusion e0⟩
                      rw [setL_out xs cs _ _ (by omega)]
                      exact k6 p (by omega)
                    have hlive2 : Live (h.setB id (.live (off + len * i.size) ty true false c)) id := ⟨g1, by rw [blk_setB g1]; rfl⟩
                    have stB := Step.share stA.rel (show (h.setB id (.live (off + len * i.size) ty true false c)).next < 65536 from g4) (ao := off + sh) hlive2 h1 (hnoA _ rfl) (k := .live ((len + n) * i.size) ty true false (fillFrom news (len * i.size) (baseCells c off (len * i.size) ((len + n) * i.size)))) rfl (by
                      refine ⟨⟨_, fz, ⟨ty, hcell, fun e0 => Bool.noConfusion e0⟩, by rw [size_setL]; exact k3, fun e0 => Bool.noConfusion e0, fun e0 => Bool.noConfusion e0, fun p hp => ?_⟩, by omega, by rw [fillFrom_room]; exact hroomb, fun e0 => Bool.noConfusion e0⟩
                      have hle := r.le_put h.next (b, off + sh, m) (hr.new _ (Nat.le_refl _))
                      by_cases hin : p < len * i.size
                      · rw [fillFrom_out news _ p _ (by rw [hnl]; omega) (by omega) (.inl hin), setL_out xs cs _ _ (by omega), hbase p hin]
                        obtain ⟨z, hz, hvz⟩ := k6 (off + p) (by omega)
                        exact ⟨z, by rw [show p + (off + sh) = off + p + sh by omega]; exact hz, hvz.up hle⟩
                      · obtain ⟨j, rfl⟩ : ∃ j, p = len * i.size + j := ⟨p - len * i.size, by omega⟩
                        rw [fillFrom_in news _ j _ (by rw [hnl]; omega) (by omega), show len * i.size + j + (off + sh) = off + sh + len * i.size + j by omega, setL_in xs cs _ j (by omega) (by omega)]
                        obtain ⟨z, hz, hvz⟩ := hv.get j (v := news[j]'(by omega)) (by simp)
                        rw [List.getElem?_eq_getElem (by omega)] at hz
                        exact ⟨z, hz, hvz.up hle⟩)
                    refine append_gives ho (by rw [hax]; exact hrun) (stA.trans stB) ?_
                    rw [show (.slice (some ⟨b, off + sh, none⟩) (len + n) cap' : Value) = .slice (some ⟨b, 0 + (off + sh), none⟩) (Nat.add len n) cap' by rw [Nat.zero_add]; rfl]
                    exact .slice (Emb.put_same _ _ _) (Nat.le_refl _) hc2 (by omega)
                  · -- moved
                    obtain ⟨os, p1, p2, p3⟩ := hf.read (len * i.size) off hnb'
                    have hfirst := run_firstCells_some (P := P) w.drew i.size len ⟨b, off + sh, none⟩ len cap' os p2 (fun j u hj => by rw [Addr.add_mid]; exact p3 j u hj)
                    have hrun := run_append_grow_src w t tx o.type tb i z hu hi hz' (some ⟨b, off + sh, none⟩) len cap' os hfirst (e y) n xs hs (by omega) (by omega) (growslice_fits (by omega) hby)
                    have stA : Step r h w r (h.setB id (.live (off + len * i.size) tb true false c)) w := Step.setB hr g1 hown0 h1 (fun _ _ => rfl) rfl rfl rfl rfl (hf.toRo hnb')
                    have hfresh : ∀ j s1 k1, Live (h.setB id (.live (off + len * i.size) tb true false c)) j → r j ≠ some (w.heap.size, s1, k1) := fun j s1 k1 hj e1 => Nat.lt_irrefl _ (stA.rel.lt hj e1)
                    have hle := r.le_put h.next (w.heap.size, 0, ((os ++ xs).toArray ++ Builtin.zeroCells z.cells (grownCap w (len + n) cap' tb - (len + n))).size) (hr.new _ (Nat.le_refl _))
                    have hgf := grown_fits hel (hv.up hle) (p1.up hle) z.cells (grownCap w (len + n) cap' tb - (len + n)) _ (baseCells c off (len * i.size) ((len + n) * i.size)) (by rw [readFrom_length, hnl]; omega) (fun p hp => by rw [readFrom_length] at hp; rw [hbase p hp, readFrom_get]) false _ (heap_alloc_new w.drew _) rfl
                    rw [readFrom_length, hnl, ← hmul] at hgf
                    have stB := Step.layB (h0 := h.setB id (.live (off + len * i.size) tb true false c)) stA.rel (fun _ ho => ho) (fun _ hh => hh) (show (h.setB id (.live (off + len * i.size) tb true false c)).next < 65536 from g4) (fun j s1 k1 hj => hfresh j s1 k1 hj) (fun hlt => (Nat.lt_irrefl _ hlt).elim) (fun k hk _ => heap_alloc_old w.drew _ k hk) (by simp) rfl rfl rfl
                      (show FitB _ (.live ((len + n) * i.size) tb true false _) w.heap.size 0 _ _ from hgf.toRo (Nat.le_refl _))
                    refine append_gives ho (by rw [hax]; exact hrun) (stA.trans stB) ?_
                    have hge := grownCap_ge w (len + n) cap' tb
                    refine .slice (o := 0) (Emb.put_same _ _ _) (Nat.le_refl _) hge ?_
                    simp only [Array.size_append, zeroCells_size, hsz, List.size_toArray, List.length_append]
                    rw [hs.newsLen, p2, ← Nat.add_mul, ← Nat.add_mul]
                    have : len + n + (grownCap w (len + n) cap' tb - (len + n)) = grownCap w (len + n) cap' tb := by omega
                    rw [this]
                    omega
                rw [hsq] at he
                simp only [cond_false] at he
                cases hk2 : (Nat.beq len 0 || Nat.ble (Nat.add off (Nat.mul len i.size)) nb) <;> simp only [hk2, cond_true, cond_false, reduceCtorEq, Option.some.injEq, Prod.mk.injEq] at he
                obtain ⟨rfl, rfl⟩ := he
                have hlen0 : len = 0 ∨ off + len * i.size ≤ nb := by
                  rw [Bool.or_eq_true] at hk2
                  rcases hk2 with q | q
                  · exact .inl (Nat.eq_of_beq_eq_true q)
                  · exact .inr (Nat.le_of_ble_eq_true q)
                have hroomb : (len + n) * i.size ≤ (baseCells c off (len * i.size) ((len + n) * i.size)).room := baseCells_room _ _ _ _ g3'
                -- the slice's address, its capacity, its cells
                have key : ∀ (ao cap' : Nat), e x = .slice (some ⟨b, ao, none⟩) len cap' → len ≤ cap' → ao + cap' * i.size ≤ m → (len = 0 ∨ ao = off + sh) →
                    Gives P r h w e o (.slice h.next 0 (Nat.add len n) (Nat.add len n) i.size) ((h.kill id).lay (Nat.mul (Nat.add len n) i.size) tb pl (fillFrom news (Nat.mul len i.size) (baseCells c off (Nat.mul len i.size) (Nat.mul (Nat.add len n) i.size)))) := by
                  intro ao cap' hax hlc hbound hao
                  have hcells : ∀ p, p < len * i.size → p + ao = (off + p) + sh ∧ off + p < nb := fun p hp => by
                    rcases hao with q | q
                    · subst q; simp at hp
                    · rcases hlen0 with q2 | q2
                      · subst q2; simp at hp
                      · omega
                  have hlay : (h.kill id).lay (len * i.size + news.length) tb pl (fillFrom news (len * i.size) (baseCells c off (len * i.size) ((len + n) * i.size))) =
                      (h.kill id).lay (Nat.mul (Nat.add len n) i.size) tb pl (fillFrom news (Nat.mul len i.size) (baseCells c off (Nat.mul len i.size) (Nat.mul (Nat.add len n) i.size))) := by
                    rw [hnl, ← hmul]; rfl
                  have hbase : ∀ p, p < len * i.size → (baseCells c off (len * i.size) ((len + n) * i.size)).get p = c.get (off + p) := fun p hp => by
                    rcases hlen0 with q2 | q2
                    · subst q2; simp at hp
                    · exact baseCells_get c off _ _ p hp (by have := hf.room; omega) (by omega) g3'
                  by_cases hc2 : len + n ≤ cap'
                  · have hm2 : (len + n) * i.size ≤ cap' * i.size := Nat.mul_le_mul_right _ hc2
                    have hth := hf.there (ao + len * i.size) (n * i.size) (by omega)
                    have hrun := run_append_room_src w t tx o.type tb i hu hi b ao len cap' (e y) n xs hs hc2 (fun j hj => (hth j (by rw [← hs.newsLen]; exact hj)).1) (fun j hj => (hth j (by rw [← hs.newsLen]; exact hj)).2)
                    have hst := relabel_room hr hel g1 hb g4 h1 (news := news) hv (off := ao) (k := len * i.size) (by rw [hnl]; omega) (c' := baseCells c off (len * i.size) ((len + n) * i.size)) (by rw [hnl]; omega)
                      (fun p hp => ⟨off + p, (hcells p hp).2, hbase p hp, (hcells p hp).1⟩)
                    rw [hlay] at hst
                    refine append_gives ho (by rw [hax]; exact hrun) hst ?_
                    rw [show (.slice (some ⟨b, ao, none⟩) (len + n) cap' : Value) = .slice (some ⟨b, 0 + ao, none⟩) (Nat.add len n) cap' by rw [Nat.zero_add]; rfl]
                    exact .slice (Emb.put_same _ _ _) (Nat.le_refl _) hc2 (by omega)
                  · have hcellr : ∃ os, VsRel r (readFrom c off (len * i.size)) os ∧ os.length = len * i.size ∧ ∀ j u, os[j]? = some u → w.drew.cell? ((⟨b, ao, none⟩ : Addr).add j) = some u := by
                      rcases hao with q | q
                      · subst q
                        simp only [Nat.zero_mul]
                        exact ⟨[], .nil, rfl, fun j u hj => by simp at hj⟩
                      · rcases hlen0 with q2 | q2
                        · subst q2
                          simp only [Nat.zero_mul]
                          exact ⟨[], .nil, rfl, fun j u hj => by simp at hj⟩
                        · obtain ⟨os, p1, p2, p3⟩ := hf.read (len * i.size) off q2
                          exact ⟨os, p1, p2, fun j u hj => by rw [q, Addr.add_mid]; exact p3 j u hj⟩
                    obtain ⟨os, p1, p2, p3⟩ := hcellr
                    have hfirst := run_firstCells_some (P := P) w.drew i.size len ⟨b, ao, none⟩ len cap' os p2 p3
                    have hrun := run_append_grow_src w t tx o.type tb i z hu hi hz' (some ⟨b, ao, none⟩) len cap' os hfirst (e y) n xs hs (by omega) (by omega) (growslice_fits (by omega) hby)
                    have hst := relabel_grown (h0 := h) (h := h.kill id) (Step.kill hr g1).rel (fun _ => own_kill g1) (fun _ => held_kill g1) g4 (e := tb) hel (olds := readFrom c off (len * i.size)) (os := os) hv p1 z.cells (grownCap w (len + n) cap' tb - (len + n)) (c := baseCells c off (len * i.size) ((len + n) * i.size))
                      (by rw [readFrom_length, hnl]; omega) (fun p hp => by rw [readFrom_length] at hp; rw [hbase p hp, readFrom_get]) pl
                    rw [readFrom_length, hlay] at hst
                    refine append_gives ho (by rw [hax]; exact hrun) hst ?_
                    have hge := grownCap_ge w (len + n) cap' tb
                    refine .slice (o := 0) (Emb.put_same _ _ _) (Nat.le_refl _) hge ?_
                    simp only [Array.size_append, zeroCells_size, hsz, List.size_toArray, List.length_append]
                    rw [hs.newsLen, p2, ← Nat.add_mul, ← Nat.add_mul]
                    have : len + n + (grownCap w (len + n) cap' tb - (len + n)) = grownCap w (len + n) cap' tb := by omega
                    rw [this]
                    omega
                generalize hax : e x = ax at hx
                cases hx with
                | @slice _ _ _ _ _ b' sh' m' cap' hx q1 q2 q3 =>
                  rw [h1] at hx
                  cases hx
                  exact key (off + sh) cap' hax (by omega) q3 (.inr rfl)
                | @slice0 _ _ _ b' sh' m' ao cap' hx q3 =>
                  rw [h1] at hx
                  cases hx
                  exact key ao cap' hax (by omega) q3 (.inl rfl)
              · -- there is room, surely
                rw [hcap] at he
                simp only [cond_true] at he
                have hcap' : len + n ≤ cap := Nat.le_of_ble_eq_true hcap
                cases hk2 : Nat.ble (Nat.add off (Nat.mul (Nat.add len n) i.size)) nb <;> simp only [hk2, cond_true, cond_false, reduceCtorEq, Option.some.injEq, Prod.mk.injEq] at he
                obtain ⟨rfl, rfl⟩ := he
                have hk2' : off + (len + n) * i.size ≤ nb := Nat.le_of_ble_eq_true hk2
                generalize hax : e x = ax at hx
                cases hx with
                | @slice _ _ _ _ _ b' sh' m' cap' hx q1 q2 q3 =>
                  rw [h1] at hx
                  cases hx
                  have hfit := hf.fit
                  have hth := hf.there (off + sh + len * i.size) (n * i.size) (by omega)
                  have hrun := run_append_room_src w t tx o.type tb i hu hi b (off + sh) len cap' (e y) n xs hs (by omega) (fun j hj => (hth j (by rw [← hs.newsLen]; exact hj)).1) (fun j hj => (hth j (by rw [← hs.newsLen]; exact hj)).2)
                  have hst := Step.store hr g1 hb h1 (ws := news) hv (o := off + len * i.size) (by rw [hnl]; omega)
                  rw [show off + len * i.size + sh = off + sh + len * i.size by omega] at hst
                  exact append_gives ho (by rw [hax]; exact hrun) hst (.slice h1 hcap' q2 q3)
                | slice0 => omega
            · simp at he
          · rw [h0] at he
            simp only [cond_true, Option.some.injEq, Prod.mk.injEq] at he
            obtain ⟨rfl, rfl⟩ := he
            have hn0 := Nat.eq_of_beq_eq_true h0
            subst hn0
            have hx' := hx
            generalize hax : e x = ax at hx
            cases hx with
            | slice hq q1 q2 q3 => exact append_gives ho (by rw [hax]; exact run_append_some0 hu hi hs _ _ _ _ (by omega)) (Step.refl hr) (by rw [hax] at hx'; exact hx')
            | slice0 hq q3 => exact append_gives ho (by rw [hax]; exact run_append_some0 hu hi hs _ _ _ _ (by omega)) (Step.refl hr) (by rw [hax] at hx'; exact hx')
        · simp at he
      · simp at he
    · simp at he
  · simp at he

end Go.Ev

namespace Go.Ev

variable {P : Program}

/-- So many elements go over. -/
def copyTo (h : H) (size id o id2 o2 k : Nat) : Option (V × H) :=
  bif Nat.beq k 0 then some (.int .i64 (Int.ofNat 0), h) else
  match h.mem.blk id2 with
  | .live n2 _ _ _ c2 =>
    match h.mem.blk id with
    | .live nb tb false pl c =>
      bif Nat.blt id 65536 && (Nat.blt id2 65536 && (Nat.ble (Nat.add o2 (Nat.mul k size)) n2 && (Nat.ble (Nat.add o (Nat.mul k size)) nb && allOne (readFrom c2 o2 (Nat.mul k size))))) then
        some (.int .i64 (Int.ofNat k), h.write id nb tb pl (fillFrom (readFrom c2 o2 (Nat.mul k size)) o c))
      else none
    | _ => none
  | _ => none

def copyV (P : Program) (h : H) (t : TypeId) (x y : V) : Option (V × H) :=
  match P.underlying t with
  | some (.slice e) =>
    match P.info? e with
    | some i =>
      match x, y with
      | .nils, .nils => some (.int .i64 (Int.ofNat 0), h)
      | .nils, .slice _ _ _ _ _ => some (.int .i64 (Int.ofNat 0), h)
      | .slice _ _ _ _ _, .nils => some (.int .i64 (Int.ofNat 0), h)
      | .slice id o len _ _, .slice id2 o2 len2 _ _ => copyTo h i.size id o id2 o2 (bif Nat.ble len2 len then len2 else len)
      | _, _ => none
    | none => none
  | _ => none

theorem run_copy_size (w : World) {dT sT ty e : TypeId} {i : TypeInfo} (hu : P.underlying dT = some (.slice e)) (hi : P.info? e = some i) (b o dLen dCap : Nat) (sa : Option Addr) (sLen sCap k : Nat) (cs : List Value) (hk : Nat.min sLen dLen = k)
    (hsrc : (Builtin.firstCells i.size k (.slice sa sLen sCap)).run P w = .ok cs.toArray w) (hc : ∀ j, j < cs.length → (w.cell? ⟨b, o + j, none⟩).isSome = true) (hf : ∀ j, j < cs.length → w.frozen? ⟨b, o + j, none⟩ = false) (h1 : ∀ v ∈ cs, v.oneCell' = true) :
    (Builtin.copy_ #[dT, sT] ty #[.slice (some ⟨b, o, none⟩) dLen dCap, .slice sa sLen sCap]).run P w = .ok (goInt k) (w.setCells b o cs) := by
  have hst := run_storeCells_cells (P := P) b o cs 0 w (by simpa using hc) (by simpa using hf) h1
  simp [Builtin.copy_, run_underlying hu, Builtin.lenOf, sizeOf, typeInfo, hi, hk, hsrc, hst]

theorem run_copy_zero (w : World) {dT sT ty e : TypeId} {i : TypeInfo} (hu : P.underlying dT = some (.slice e)) (hi : P.info? e = some i) (d a : Option Addr) (dLen dCap sLen sCap : Nat) (hk : Nat.min sLen dLen = 0) :
    (Builtin.copy_ #[dT, sT] ty #[.slice d dLen dCap, .slice a sLen sCap]).run P w = .ok (goInt 0) w := by
  have h0 : (Builtin.firstCells i.size 0 (.slice a sLen sCap)).run P w = .ok #[] w := by
    cases a with
    | none => exact run_firstCells_none w i.size 0 sLen sCap
    | some a => exact run_firstCells_some (P := P) w i.size 0 a sLen sCap [] (by simp) (by simp)
  cases d <;> simp [Builtin.copy_, run_underlying hu, Builtin.lenOf, sizeOf, typeInfo, hi, hk, h0, storeCells]

theorem copy_gives {r : Emb} {h h' : H} {w w' : World} {e : Operand → Value} {o : Oper} {t tx : TypeId} {x y : Operand} (ho : o.op = .call { callee := .builtin .copy, args := #[x, y], argTypes := #[t, tx] })
    {z : Value} {v : V} {r' : Emb} (hrun : (Builtin.copy_ #[t, tx] o.type #[e x, e y]).run P w = .ok z w') (hs : Step r h w r' h' w') (hv : VRel r' v z) : Gives P r h w e o v h' := by
  refine ⟨z, w', r', .inl ?_, hs, hv⟩
  unfold execOp
  simp [ho, resolve, invoke, builtin, hrun]

theorem vrel_slice {r : Emb} {id o len cap esz : Nat} {a : Value} (h : VRel r (.slice id o len cap esz) a) : ∃ ad cap', a = .slice ad len cap' := by
  cases h with
  | slice _ _ _ _ => exact ⟨_, _, rfl⟩
  | slice0 _ _ => exact ⟨_, _, rfl⟩

theorem vrel_slice_pos {r : Emb} {id o len cap esz : Nat} {a : Value} (h : VRel r (.slice id o len cap esz) a) (h0 : 0 < len) : ∃ b sh m cap', r id = some (b, sh, m) ∧ a = .slice (some ⟨b, o + sh, none⟩) len cap' := by
  cases h with
  | slice h1 _ _ _ => exact ⟨_, _, _, _, h1, rfl⟩
  | slice0 _ _ => omega

theorem copyV_sound {r : Emb} {h h' : H} {w : World} (hr : Rel r h w) {e : Operand → Value} {o : Oper} {t tx : TypeId} {x y : Operand} (ho : o.op = .call { callee := .builtin .copy, args := #[x, y], argTypes := #[t, tx] })
    {vx vy v : V} (hx : VRel r vx (e x)) (hy : VRel r vy (e y)) (he : copyV P h t vx vy = some (v, h')) : Gives P r h w e o v h' := by
  unfold copyV at he
  split at he
  · rename_i el hu
    split at he
    · rename_i i hi
      have hz : VRel r (.int .i64 (Int.ofNat 0)) (goInt 0) := .int _ _
      generalize hax : e x = ax at hx
      generalize hay : e y = ay at hy
      have nothing : ∀ {dl dc sl sc : Nat} {d a : Option Addr}, ax = .slice d dl dc → ay = .slice a sl sc → Nat.min sl dl = 0 → v = .int .i64 (Int.ofNat 0) → h' = h → Gives P r h w e o v h' := by
        intro dl dc sl sc d a e1 e2 hk ev eh
        subst ev
        subst eh
        exact copy_gives ho (by rw [hax, hay, e1, e2]; exact run_copy_zero w hu hi d a dl dc sl sc hk) (Step.refl hr) hz
      split at he
      · simp only [Option.some.injEq, Prod.mk.injEq] at he
        cases hx
        cases hy
        exact nothing rfl rfl (by simp) he.1.symm he.2.symm
      · simp only [Option.some.injEq, Prod.mk.injEq] at he
        cases hx
        obtain ⟨ad, cap', rfl⟩ := vrel_slice hy
        exact nothing rfl rfl (by simp) he.1.symm he.2.symm
      · simp only [Option.some.injEq, Prod.mk.injEq] at he
        cases hy
        obtain ⟨ad, cap', rfl⟩ := vrel_slice hx
        exact nothing rfl rfl (by simp) he.1.symm he.2.symm
      · rename_i id off len cap esz id2 o2 len2 cap2 esz2
        have hmin : (bif Nat.ble len2 len then len2 else len) = Nat.min len2 len := by
          cases hb : Nat.ble len2 len
          · have : ¬ len2 ≤ len := fun hle => by rw [Nat.ble_eq_true_of_le hle] at hb; cases hb
            simp only [cond_false]
            exact (Nat.min_eq_right (by omega)).symm
          · simp only [cond_true]
            exact (Nat.min_eq_left (Nat.le_of_ble_eq_true hb)).symm
        rw [hmin] at he
        unfold copyTo at he
        cases hk0 : Nat.beq (Nat.min len2 len) 0
        · rw [hk0] at he
          simp only [cond_false] at he
          have hpos : 0 < Nat.min len2 len := Nat.pos_of_ne_zero (fun e0 => by rw [e0] at hk0; simp at hk0)
          have hp1 : 0 < len := Nat.lt_of_lt_of_le hpos (Nat.min_le_right _ _)
          have hp2 : 0 < len2 := Nat.lt_of_lt_of_le hpos (Nat.min_le_left _ _)
          split at he
          · rename_i n2 t2 ro2 pl2 c2 hb2
            split at he
            · rename_i nb tb pl c hb
              generalize hkk : Nat.min len2 len = k at he
              cases hk : (Nat.blt id 65536 && (Nat.blt id2 65536 && (Nat.ble (Nat.add o2 (Nat.mul k i.size)) n2 && (Nat.ble (Nat.add off (Nat.mul k i.size)) nb && allOne (readFrom c2 o2 (Nat.mul k i.size)))))) <;> simp only [hk, cond_true, cond_false, reduceCtorEq, Option.some.injEq, Prod.mk.injEq] at he
              obtain ⟨rfl, rfl⟩ := he
              simp only [Bool.and_eq_true, Nat.blt_eq] at hk
              obtain ⟨g1, g2, g3, g4, g5⟩ := hk
              have g3' : o2 + k * i.size ≤ n2 := Nat.le_of_ble_eq_true g3
              have g4' : off + k * i.size ≤ nb := Nat.le_of_ble_eq_true g4
              obtain ⟨b2, sh2, m2, q1, hf2⟩ := hr.blk id2 n2 t2 ro2 pl2 c2 g2 hb2
              obtain ⟨b, sh, m, p1, hf⟩ := hr.blk id nb tb false pl c g1 hb
              obtain ⟨xs, x1, x2, x3⟩ := hf2.read (k * i.size) o2 g3'
              obtain ⟨b', sh', m', cap', p1', rfl⟩ := vrel_slice_pos hx hp1
              obtain ⟨b2', sh2', m2', cap2', q1', rfl⟩ := vrel_slice_pos hy hp2
              rw [p1] at p1'
              cases p1'
              rw [q1] at q1'
              cases q1'
              have hl : (readFrom c2 o2 (k * i.size)).length = k * i.size := readFrom_length _ _ _
              have hfit := hf.fit
              have hth := hf.there (off + sh) (k * i.size) (by omega)
              have hsrc : (Builtin.firstCells i.size k (.slice (some ⟨b2, o2 + sh2, none⟩) len2 cap2')).run P w = .ok xs.toArray w :=
                run_firstCells_some (P := P) w i.size k ⟨b2, o2 + sh2, none⟩ len2 cap2' xs x2 (fun j u hj => by rw [Addr.add_mid]; exact x3 j u hj)
              have hrun := run_copy_size (P := P) w (sT := tx) (ty := o.type) hu hi b (off + sh) len cap' (some ⟨b2, o2 + sh2, none⟩) len2 cap2' k xs hkk hsrc
                (fun j hj => (hth j (by omega)).1) (fun j hj => (hth j (by omega)).2) (allOne_sound x1 g5)
              have hst := Step.store hr g1 hb p1 (ws := readFrom c2 o2 (k * i.size)) x1 (o := off) (by rw [hl]; exact g4')
              exact copy_gives ho (by rw [hax, hay]; exact hrun) hst (.int _ _)
            · simp at he
          · simp at he
        · rw [hk0] at he
          simp only [cond_true, Option.some.injEq, Prod.mk.injEq] at he
          obtain ⟨ad, cap', rfl⟩ := vrel_slice hx
          obtain ⟨ad2, cap2', rfl⟩ := vrel_slice hy
          exact nothing rfl rfl (Nat.eq_of_beq_eq_true hk0) he.1.symm he.2.symm
      · simp at he
    · simp at he
  · simp at he

end Go.Ev
