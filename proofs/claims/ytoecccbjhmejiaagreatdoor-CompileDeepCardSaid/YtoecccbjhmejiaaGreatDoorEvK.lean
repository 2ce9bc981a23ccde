/- The evaluator's operations that make or write memory, calls aside. No condition. -/
import Derived.Test.YtoecccbjhmejiaaGreatDoorEvJ
import Derived.Laws.MakeOwn
namespace Go.Ev

variable {P : Program}

/-- What an operation came to: a value and the memory behind it. -/
def Gives (P : Program) (r : Emb) (h : H) (w : World) (e : Operand → Value) (o : Oper) (v : V) (h' : H) : Prop :=
  ∃ z w' r', ((execOp e o).run P w = .ok (.value z) w' ∨ ((execOp e o).run P w = .ok .skip w' ∧ z = undef)) ∧ Step r h w r' h' w' ∧ VRel r' v z

def newV (h : H) (n : Nat) (t : TypeId) (vs : List V) : Option H :=
  bif Nat.blt h.next 65536 && Nat.ble n 4096 then some (h.lay n t true (cellsOf vs)) else none

theorem newV_sound {r : Emb} {h h' : H} {w : World} (hr : Rel r h w) {t : TypeId} {vs : List V} {xs : Array Value} (hv : VsRel r vs xs.toList) (hn : newV h vs.length t vs = some h') :
    Step r h w (r.put h.next (w.heap.size, 0, xs.size)) h' (w.alloc (.cells xs t)) := by
  unfold newV at hn
  cases hc : (Nat.blt h.next 65536 && Nat.ble vs.length 4096) <;> simp only [hc, cond_true, cond_false, reduceCtorEq, Option.some.injEq] at hn
  subst hn
  simp only [Bool.and_eq_true, Nat.blt_eq] at hc
  exact Step.alloc hr hc.1 t hv (Nat.le_of_ble_eq_true hc.2)

theorem run_newRow (t : TypeId) (xs : Array Value) (w : World) : (newRow t xs).run P w = .ok ⟨w.heap.size, 0, none⟩ (w.alloc (.cells xs t)) := by
  simp [newRow, newObj, Sem.run]

/-- Cells over and over. -/
def repL : Nat → List V → List V
  | 0, _ => []
  | n + 1, zs => zs ++ repL n zs
theorem repL_length (n : Nat) (zs : List V) : (repL n zs).length = n * zs.length := by
  induction n with
  | zero => simp [repL]
  | succ n ih => rw [repL, List.length_append, ih, Nat.add_mul]; omega
theorem repL_get (zs : List V) (n : Nat) : ∀ i, i < n * zs.length → (repL n zs)[i]? = zs[i % zs.length]? := by
  induction n with
  | zero => intro i h; simp at h
  | succ n ih =>
    intro i h
    rw [Nat.add_mul, Nat.one_mul] at h
    rw [repL]
    by_cases hi : i < zs.length
    · rw [List.getElem?_append_left hi, Nat.mod_eq_of_lt hi]
    · rw [List.getElem?_append_right (by omega), ih _ (by omega)]
      congr 1
      exact (Nat.mod_eq_sub_mod (by omega)).symm

theorem vsrel_of_get {r : Emb} {vs : List V} {xs : List Value} (hl : vs.length = xs.length) (h : ∀ (i : Nat) (v : V), vs[i]? = some v → ∃ x, xs[i]? = some x ∧ VRel r v x) : VsRel r vs xs := by
  induction vs generalizing xs with
  | nil => cases xs with
    | nil => exact .nil
    | cons _ _ => simp at hl
  | cons v vs ih =>
    cases xs with
    | nil => simp at hl
    | cons x xs =>
      obtain ⟨x', h1, h2⟩ := h 0 v rfl
      simp at h1
      subst h1
      exact .cons h2 (ih (by simpa using hl) (fun i v' hv => by simpa using h (i + 1) v' (by simpa using hv)))

theorem repL_rel {r : Emb} {zs : List V} {xs : Array Value} (hz : VsRel r zs xs.toList) (n : Nat) : VsRel r (repL n zs) ((Array.range (n * xs.size)).map (xs[· % xs.size]!)).toList := by
  have hl : zs.length = xs.size := by simpa using hz.length
  refine vsrel_of_get (by simp [repL_length, hl]) (fun i v hv => ?_)
  have hi : i < n * zs.length := by
    rw [← repL_length]
    exact (List.getElem?_eq_some_iff.1 hv).1
  rw [repL_get zs n i hi] at hv
  obtain ⟨x, h1, h2⟩ := hz.get _ hv
  refine ⟨x, ?_, h2⟩
  rw [hl] at hi
  rw [hl] at h1
  have h1' : xs[i % xs.size]? = some x := by simpa using h1
  simp [hi, getElem!_def, h1']

def allocV (P : Program) (h : H) (t : TypeId) : Option (V × H) :=
  match zeroV P t with
  | some zs => (newV h zs.length t zs).map fun h' => (.ptr h.next 0, h')
  | none => none

theorem allocV_sound {r : Emb} {h h' : H} {w : World} (hr : Rel r h w) {e : Operand → Value} {o : Oper} {t : TypeId} (ho : o.op = .alloc t) {v : V} (he : allocV P h t = some (v, h')) : Gives P r h w e o v h' := by
  unfold allocV at he
  split at he
  · rename_i zs hz
    cases hn : newV h zs.length t zs with
    | none => rw [hn] at he; simp at he
    | some h2 =>
      rw [hn] at he
      simp only [Option.map_some, Option.some.injEq, Prod.mk.injEq] at he
      obtain ⟨rfl, rfl⟩ := he
      obtain ⟨z, h3, h4⟩ := zeroV_sound (r := r) hz w
      refine ⟨.pointer (some ⟨w.heap.size, 0, none⟩), _, _, .inl ?_, newV_sound hr h4 hn, .ptr (o := 0) (Emb.put_same _ _ _)⟩
      unfold execOp
      simp [ho, Instr.alloc, h3, newVar, run_newRow]
  · simp at he

def boxV (h : H) (t : TypeId) (x : V) : Option (V × H) :=
  match cellsV x with
  | some vs => (newV h vs.length t vs).map fun h' => (.ptr h.next 0, h')
  | none => none

theorem boxV_sound {r : Emb} {h h' : H} {w : World} (hr : Rel r h w) {e : Operand → Value} {o : Oper} {t : TypeId} {x : Operand} (ho : o.op = .box t x) {y v : V} (hy : VRel r y (e x)) (he : boxV h t y = some (v, h')) : Gives P r h w e o v h' := by
  unfold boxV at he
  split at he
  · rename_i vs hc
    cases hn : newV h vs.length t vs with
    | none => rw [hn] at he; simp at he
    | some h2 =>
      rw [hn] at he
      simp only [Option.map_some, Option.some.injEq, Prod.mk.injEq] at he
      obtain ⟨rfl, rfl⟩ := he
      refine ⟨.pointer (some ⟨w.heap.size, 0, none⟩), _, _, .inl ?_, newV_sound hr (cellsV_sound hy hc) hn, .ptr (o := 0) (Emb.put_same _ _ _)⟩
      unfold execOp
      simp [ho, Instr.box, newVar, run_newRow]
  · simp at he

theorem range0 (f : Nat → Value) : (Array.range 0).map f = #[] := by
  apply Array.eq_empty_of_size_eq_zero
  simp

def buildSliceV (P : Program) (h : H) (t : TypeId) (len : Nat) (parts : List (Nat × V)) : Option (V × H) :=
  match P.underlying t with
  | some (.slice e) =>
    match P.info? e, zeroV P e with
    | some i, some zs =>
      bif Nat.beq zs.length i.size && Nat.ble (Nat.mul len i.size) 4096 then
        (fillV (fun j => some (Nat.mul j i.size, i.size)) (repL len zs) parts).bind fun vs => (newV h vs.length e vs).map fun h' => (.slice h.next 0 len len i.size, h')
      else none
    | _, _ => none
  | _ => none

theorem fill_size {place : Nat → Option (Nat × Nat)} {ps : List (Nat × Value)} : ∀ {cs cs' : Array Value}, Instr.fill place cs ps = some cs' → cs'.size = cs.size := by
  induction ps with
  | nil => intro cs cs' h; simp only [Instr.fill, Option.some.injEq] at h; rw [h]
  | cons p ps ih =>
    intro cs cs' h
    obtain ⟨i, v⟩ := p
    simp only [Instr.fill] at h
    split at h
    · simp at h
    · split at h
      · simp at h
      · rw [ih h]
        have hfold : ∀ (k : Nat), (v.cells.zipIdx.foldl (fun (cs : Array Value) (p : Value × Nat) => cs.setIfInBounds (k + p.2) p.1) cs) = setL cs k v.cells.toList := fun k => by
          rw [← Array.foldl_toList, Array.toList_zipIdx, fold_setL]
          rfl
        exact (congrArg Array.size (hfold _)).trans (size_setL _ _ _)

theorem buildSliceV_sound {r : Emb} {h h' : H} {w : World} (hr : Rel r h w) {E : Operand → V} {e : Operand → Value} (hE : ERel r E e) {o : Oper} {t : TypeId} {len : Nat} {parts : Array (Nat × Operand)} (ho : o.op = .buildSlice t len parts)
    {v : V} (he : buildSliceV P h t len (parts.toList.map fun (i, x) => (i, E x)) = some (v, h')) : Gives P r h w e o v h' := by
  unfold buildSliceV at he
  split at he
  · rename_i el hu
    split at he
    · rename_i i zs hi hz
      cases hc : (Nat.beq zs.length i.size && Nat.ble (Nat.mul len i.size) 4096) <;> simp only [hc, cond_true, cond_false, reduceCtorEq] at he
      simp only [Bool.and_eq_true] at hc
      have hzl := Nat.eq_of_beq_eq_true hc.1
      have hle : len * i.size ≤ 4096 := Nat.le_of_ble_eq_true hc.2
      cases hf : fillV (fun j => some (Nat.mul j i.size, i.size)) (repL len zs) (parts.toList.map fun (i, x) => (i, E x)) with
      | none => rw [hf] at he; simp at he
      | some vs =>
        rw [hf] at he
        simp only [Option.bind_some] at he
        cases hn : newV h vs.length el vs with
        | none => rw [hn] at he; simp at he
        | some h2 =>
          rw [hn] at he
          simp only [Option.map_some, Option.some.injEq, Prod.mk.injEq] at he
          obtain ⟨rfl, rfl⟩ := he
          obtain ⟨z, h3, h4⟩ := zeroV_sound (r := r) hz w
          have hsz : z.cells.size = i.size := by rw [← hzl]; simpa using h4.length.symm
          have hrep := repL_rel h4 len
          obtain ⟨cs, g1, g2⟩ := fill_sound hrep (erel_parts hE parts.toList) hf
          have hcs : cs.size = len * i.size := by rw [fill_size g1]; simp [hsz]
          refine ⟨.slice (some ⟨w.heap.size, 0, none⟩) len len, _, _, .inl ?_, newV_sound hr g2 hn, ?_⟩
          · have g1' : Instr.fill (fun j => some (j * i.size, i.size)) ((Array.range (len * i.size)).map (z.cells[· % z.cells.size]!)) (parts.toList.map fun (i, x) => (i, e x)) = some cs := by
              rw [← hsz]; rw [← hsz] at g1; exact g1
            have hno : ¬ (16777216 < len * i.size) := by omega
            unfold execOp
            have hb : Instr.buildSlice t len (parts.map fun (i, x) => (i, e x)) = (do
                let .slice elem ← underlying t | stuck "buildSlice: slice type expected"
                let size ← sizeOf elem
                if len * size > 2 ^ 24 then unsupported (.resourceLimit "buildSlice: more than 2^24 cells")
                let zero ← if len * size = 0 then pure #[] else do pure (← zeroValue elem).cells
                let some cells := Instr.fill (fun i => some (i * size, size)) ((Array.range (len * size)).map (zero[· % zero.size]!)) (parts.map fun (i, x) => (i, e x)).toList
                  | stuck "buildSlice: a part of the wrong size"
                pure (.slice (some (← newRow elem cells)) len len)) := rfl
            have hrun : (Instr.buildSlice t len (parts.map fun (i, x) => (i, e x))).run P w = .ok (.slice (some ⟨w.heap.size, 0, none⟩) len len) (w.alloc (.cells cs el)) := by
              rw [hb]
              by_cases h0 : len * i.size = 0
              · have g3 : Instr.fill (fun j => some (j * i.size, i.size)) #[] (parts.toList.map fun (i, x) => (i, e x)) = some cs := by
                  rw [h0, range0] at g1'
                  exact g1'
                have h16 : ¬ (0 > 2 ^ 24) := by omega
                simp only [Sem.run_bind, run_underlying hu, Result.andThen_ok, sizeOf, typeInfo, program, Sem.run, hi, h0, if_neg h16, if_true, Sem.run_pure, range0]
                have g4 : Instr.fill (fun j => some (j * i.size, i.size)) #[] (parts.map fun (i, x) => (i, e x)).toList = some cs := by
                  rw [Array.toList_map]; exact g3
                have g5 : (match Instr.fill (fun j => some (j * i.size, i.size)) #[] (parts.map fun (i, x) => (i, e x)).toList with
                  | some cells => do pure (.slice (some (← newRow el cells)) len len)
                  | _ => stuck "buildSlice: a part of the wrong size" : Sem Value).run P w = .ok (.slice (some ⟨w.heap.size, 0, none⟩) len len) (w.alloc (.cells cs el)) := by
                  rw [g4]
                  simp [run_newRow]
                exact g5
              · simp only [Sem.run_bind, run_underlying hu, Result.andThen_ok, sizeOf, typeInfo, program, Sem.run, hi]
                simp [h0, hno, h3, g1', run_newRow]
            simp [ho, hrun]
          · exact .slice (o := 0) (Emb.put_same _ _ _) (Nat.le_refl _) (Nat.le_refl _) (by rw [hcs]; omega)
    · simp at he
  · simp at he

def storeV (P : Program) (h : H) (t : TypeId) (x y : V) : Option H :=
  match x, cellsV y, P.info? t with
  | .ptr id o, some vs, some i =>
    match h.mem.blk id with
    | .live n tb false pl c =>
      bif Nat.blt id 65536 && Nat.beq vs.length i.size && Nat.ble (Nat.add o i.size) n && allOne vs then some (h.write id n tb pl (fillFrom vs o c)) else none
    | _ => none
  | _, _, _ => none

theorem run_storeAt {w : World} {b o : Nat} {t : TypeId} {x : Value} {i : TypeInfo} (hi : P.info? t = some i) (hs : x.cells.size = i.size) (ht : w.there b o i.size) (h1 : ∀ u ∈ x.cells.toList, u.oneCell' = true) :
    (Instr.storeAt t (.pointer (some ⟨b, o, none⟩)) x).run P w = .ok () (w.setCells b o x.cells.toList) := by
  have hl : x.cells.toList.length = i.size := by simpa using hs
  have := run_storeCells_cells (P := P) b o x.cells.toList 0 w (fun j hj => by simpa using (ht j (by omega)).1) (fun j hj => by simpa using (ht j (by omega)).2) h1
  simp only [Nat.add_zero] at this
  simp [Instr.storeAt, Instr.sureAddr, storeVar, sizeOf, typeInfo, hi, hs, this]

theorem storeV_sound {r : Emb} {h h' : H} {w : World} (hr : Rel r h w) {e : Operand → Value} {o : Oper} {t : TypeId} {x y : Operand} (ho : o.op = .store t x y) {vx vy : V} (hx : VRel r vx (e x)) (hy : VRel r vy (e y))
    (he : storeV P h t vx vy = some h') : Gives P r h w e o .any h' := by
  unfold storeV at he
  split at he
  · rename_i id off vs i hc hi
    split at he
    · rename_i n tb pl c hb
      cases hk : (Nat.blt id 65536 && Nat.beq vs.length i.size && Nat.ble (Nat.add off i.size) n && allOne vs) <;> simp only [hk, cond_true, cond_false, reduceCtorEq, Option.some.injEq] at he
      subst he
      simp only [Bool.and_eq_true, Nat.blt_eq] at hk
      obtain ⟨⟨⟨k1, k2⟩, k3⟩, k4⟩ := hk
      have k2' := Nat.eq_of_beq_eq_true k2
      have k3' : off + i.size ≤ n := Nat.le_of_ble_eq_true k3
      obtain ⟨b, sh, m, h1, hf⟩ := hr.blk id n tb false pl c k1 hb
      have hcells := cellsV_sound hy hc
      generalize hax : e x = ax at hx
      cases hx with
      | @ptr _ _ b' sh' c' hx =>
        rw [h1] at hx
        cases hx
        have hs : (e y).cells.size = i.size := by rw [← k2']; simpa using hcells.length.symm
        have hrun := run_storeAt (P := P) (x := e y) hi hs (hf.there (off + sh) i.size (by have := hf.fit; omega)) (allOne_sound hcells k4)
        refine ⟨undef, _, r, .inr ⟨?_, rfl⟩, Step.store hr k1 hb h1 hcells (by omega), .any _⟩
        unfold execOp
        simp [ho, hax, hrun]
    · simp at he
  · simp at he

end Go.Ev
