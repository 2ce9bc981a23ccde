/- The evaluator's addresses, parts and reads, and all operations that leave memory as it is. No condition. -/
import Derived.Test.YtoecccbjhmejiaaGreatDoorEvH
namespace Go.Ev

variable {P : Program}

/-- A field's place: its offset; none where it takes no cell. -/
def fieldOff (P : Program) (s : TypeId) (f : Nat) : Option Nat :=
  match P.underlying s with
  | some (.struct fs) =>
    match fs[f]? with
    | some fl => match P.info? fl.type with
      | some i => bif Nat.beq i.size 0 then none else some fl.offset
      | none => none
    | none => none
  | _ => none

def fieldAddrV (P : Program) (s : TypeId) (x : V) (f : Nat) : Option V :=
  match x with
  | .ptr id o => (fieldOff P s f).map fun k => .ptr id (Nat.add o k)
  | _ => none

theorem fieldAddrV_sound {r : Emb} {s : TypeId} {x v : V} {f : Nat} (h : fieldAddrV P s x f = some v) {a : Value} (hx : VRel r x a) (w : World) :
    ∃ z, (Instr.fieldAt s a f).run P w = .ok z w ∧ VRel r v z := by
  unfold fieldAddrV at h
  split at h
  · rename_i id o
    cases hk : fieldOff P s f with
    | none => rw [hk] at h; simp at h
    | some k =>
      rw [hk] at h
      simp only [Option.map_some, Option.some.injEq] at h
      subst h
      unfold fieldOff at hk
      split at hk
      · rename_i fs hu
        split at hk
        · rename_i fl hf
          split at hk
          · rename_i i hi
            cases hz : Nat.beq i.size 0 <;> simp only [hz, cond_true, cond_false, reduceCtorEq, Option.some.injEq] at hk
            subst hk
            have hsz : i.size ≠ 0 := fun e0 => by rw [e0] at hz; simp at hz
            cases hx with
            | @ptr _ _ b sh c hx =>
              refine ⟨.pointer (some ⟨b, o + sh + fl.offset, none⟩), ?_, ?_⟩
              · simp [Instr.fieldAt, run_underlying hu, hf, Instr.sureAddr, fieldPlace, sizeOf, typeInfo, hi, hsz, addr_add]
              · rw [show o + sh + fl.offset = (o + fl.offset) + sh by omega]
                exact .ptr hx
          · simp at hk
        · simp at hk
      · simp at hk
  · simp at h

def fieldV (P : Program) (t : TypeId) (x : V) (f : Nat) : Option V :=
  match P.underlying t, x with
  | some (.struct fs), .agg vs =>
    match fs[f]? with
    | some fl => partV P fl.type vs fl.offset
    | none => none
  | _, _ => none

theorem fieldV_sound {r : Emb} {t : TypeId} {x v : V} {f : Nat} (h : fieldV P t x f = some v) {a : Value} (hx : VRel r x a) (w : World) :
    ∃ z, (Instr.field t a f).run P w = .ok z w ∧ VRel r v z := by
  unfold fieldV at h
  split at h
  · rename_i fs vs hu
    split at h
    · rename_i fl hf
      cases hx with
      | @agg _ xs hx =>
        obtain ⟨z, h1, h2⟩ := partV_sound hx h w
        exact ⟨z, by simp [Instr.field, run_underlying hu, hf, asAgg, h1], h2⟩
    · simp at h
  · simp at h

def indexAddrV (P : Program) (t : TypeId) (x i : V) : Option V :=
  match P.underlying t, x, natV i with
  | some (.slice e), .slice id o len _ _, some n =>
    match P.info? e with
    | some inf => bif Nat.blt n len then some (.ptr id (Nat.add o (Nat.mul n inf.size))) else none
    | none => none
  | some (.array len e), .ptr id o, some n =>
    match P.info? e with
    | some inf => bif Nat.blt n len then some (.ptr id (Nat.add o (Nat.mul n inf.size))) else none
    | none => none
  | _, _, _ => none

theorem indexAddrV_sound {r : Emb} {t : TypeId} {x i v : V} (h : indexAddrV P t x i = some v) {a c : Value} (hx : VRel r x a) (hi : VRel r i c) (w : World) :
    ∃ z, (Instr.indexAt t a c).run P w = .ok z w ∧ VRel r v z := by
  unfold indexAddrV at h
  split at h
  · rename_i e id o len cap esz n hu hn
    obtain ⟨k, rfl⟩ := natV_sound hn hi
    split at h
    · rename_i inf hinf
      cases hb : Nat.blt n len <;> simp only [hb, cond_true, cond_false, reduceCtorEq, Option.some.injEq] at h
      subst h
      rw [Nat.blt_eq] at hb
      cases hx with
      | @slice _ _ _ _ _ b sh c cap' hx _ _ _ =>
        refine ⟨.pointer (some ⟨b, o + sh + n * inf.size, none⟩), ?_, ?_⟩
        · have h0 : (0 : Int) ≤ (n : Int) ∧ (n : Int) < (len : Int) := ⟨by omega, by omega⟩
          simp [Instr.indexAt, asIntOf, run_underlying hu, sizeOf, typeInfo, hinf, addr_add, hb]
        · rw [show o + sh + n * inf.size = (o + n * inf.size) + sh by omega]
          exact .ptr hx
      | slice0 hx hx3 => omega
    · simp at h
  · rename_i len e id o n hu hn
    obtain ⟨k, rfl⟩ := natV_sound hn hi
    split at h
    · rename_i inf hinf
      cases hb : Nat.blt n len <;> simp only [hb, cond_true, cond_false, reduceCtorEq, Option.some.injEq] at h
      subst h
      rw [Nat.blt_eq] at hb
      cases hx with
      | @ptr _ _ b sh c hx =>
        refine ⟨.pointer (some ⟨b, o + sh + n * inf.size, none⟩), ?_, ?_⟩
        · simp [Instr.indexAt, asIntOf, run_underlying hu, Instr.sureAddr, sizeOf, typeInfo, hinf, addr_add, hb]
        · rw [show o + sh + n * inf.size = (o + n * inf.size) + sh by omega]
          exact .ptr hx
    · simp at h
  · simp at h

def indexV (P : Program) (t : TypeId) (x i : V) : Option V :=
  match P.underlying t, x, natV i with
  | some .string, .str n l, some j => bif Nat.blt j l then some (.int .u8 (.ofNat (Nat.mod (Nat.div n (Nat.pow 256 j)) 256))) else none
  | some (.array len e), .agg vs, some j =>
    match P.info? e with
    | some inf => bif Nat.blt j len then partV P e vs (Nat.mul j inf.size) else none
    | none => none
  | _, _, _ => none

theorem indexV_sound {r : Emb} {t : TypeId} {x i v : V} (h : indexV P t x i = some v) {a c : Value} (hx : VRel r x a) (hi : VRel r i c) (w : World) :
    ∃ z, (Instr.index t a c).run P w = .ok z w ∧ VRel r v z := by
  unfold indexV at h
  split at h
  · rename_i n l j hu hn
    obtain ⟨k, rfl⟩ := natV_sound hn hi
    cases hb : Nat.blt j l <;> simp only [hb, cond_true, cond_false, reduceCtorEq, Option.some.injEq] at h
    subst h
    rw [Nat.blt_eq] at hb
    cases hx with
    | str hx =>
      have hg : (sval n l)[j]? = some (UInt8.ofNat (n / 256 ^ j % 256)) := by
        have := sdec_get l n j hb
        show (sval n l).data[j]? = _
        simpa [sval] using this
      refine ⟨.int .u8 (UInt8.ofNat (n / 256 ^ j % 256)).toNat, ?_, ?_⟩
      · have h0 : (0 : Int) ≤ Int.ofNat j := Int.natCast_nonneg j
        simp only [Instr.index, asIntOf, Sem.run_bind, Sem.run_pure, Result.andThen_ok, run_underlying hu]
        rw [if_pos h0]
        show (match (sval n l)[j]? with | some b => _ | none => _ : Sem Value).run P w = _
        rw [hg]
        rfl
      · have e : ((UInt8.ofNat (n / 256 ^ j % 256)).toNat : Int) = Int.ofNat (n / 256 ^ j % 256) := by
          simp
        rw [e]
        exact .int _ _
  · rename_i len e vs j hu hn
    obtain ⟨k, rfl⟩ := natV_sound hn hi
    split at h
    · rename_i inf hinf
      cases hb : Nat.blt j len <;> simp only [hb, cond_true, cond_false, reduceCtorEq] at h
      rw [Nat.blt_eq] at hb
      cases hx with
      | @agg _ xs hx =>
        obtain ⟨z, h1, h2⟩ := partV_sound hx h w
        refine ⟨z, ?_, h2⟩
        have h1' : (part e xs (j * inf.size)).run P w = .ok z w := h1
        simp [Instr.index, asIntOf, run_underlying hu, sizeOf, typeInfo, hinf, hb, h1']
    · simp at h
  · simp at h

def extractV (x : V) (i : Nat) : Option V :=
  match x with
  | .tup vs => vs[i]?
  | _ => none
theorem extractV_sound {r : Emb} {x v : V} {i : Nat} (h : extractV x i = some v) {a : Value} (hx : VRel r x a) (w : World) : ∃ z, (Instr.extract a i).run P w = .ok z w ∧ VRel r v z := by
  unfold extractV at h
  split at h
  · cases hx with
    | @tup _ xs hx =>
      obtain ⟨z, hz, hv⟩ := hx.get i h
      have hz' : xs[i]? = some z := by simpa using hz
      exact ⟨z, by simp [Instr.extract, hz'], hv⟩
  · simp at h

def zeroV (P : Program) (t : TypeId) : Option (List V) :=
  match P.info? t with
  | some i => match i.zero with
    | some z => cellsV (constV z)
    | none => none
  | none => none
theorem zeroV_sound {r : Emb} {t : TypeId} {zs : List V} (h : zeroV P t = some zs) (w : World) : ∃ z, (zeroValue t).run P w = .ok z w ∧ VsRel r zs z.cells.toList := by
  unfold zeroV at h
  split at h
  · rename_i i hi
    split at h
    · rename_i z hz
      exact ⟨z, by simp [zeroValue, typeInfo, hi, hz], cellsV_sound (vrel_constV r z) h⟩
    · simp at h
  · simp at h

def structPlaces (P : Program) (fs : List Field) : Option (List (Nat × Nat)) :=
  fs.mapM fun f => (P.info? f.type).map fun i => (f.offset, i.size)

def buildV (P : Program) (t : TypeId) (parts : List (Nat × V)) : Option V :=
  match zeroV P t, P.underlying t with
  | some zs, some (.struct fs) =>
    match structPlaces P fs.toList with
    | some pl => (fillV (pl[·]?) zs parts).map V.agg
    | none => none
  | some zs, some (.array _ e) =>
    match P.info? e with
    | some i => (fillV (fun j => some (Nat.mul j i.size, i.size)) zs parts).map V.agg
    | none => none
  | _, _ => none

theorem run_places (w : World) (fs : List Field) : ∀ pl, structPlaces P fs = some pl → (fs.mapM fun (f : Field) => do pure (f.offset, ← sizeOf f.type) : Sem (List (Nat × Nat))).run P w = .ok pl w := by
  induction fs with
  | nil => intro pl h; simp [structPlaces] at h; subst h; rfl
  | cons f fs ih =>
    intro pl h
    simp only [structPlaces, List.mapM_cons] at h
    cases hi : P.info? f.type with
    | none => rw [hi] at h; simp at h
    | some i =>
      rw [hi] at h
      simp only [Option.map_some, Option.bind_eq_bind, Option.bind_some] at h
      cases hr : List.mapM (fun f => (P.info? f.type).map fun i => (f.offset, i.size)) fs with
      | none => rw [hr] at h; simp at h
      | some pl' =>
        rw [hr] at h
        simp at h
        subst h
        have := ih pl' hr
        simp [List.mapM_cons, sizeOf, typeInfo, hi] at this ⊢
        simp [this]

theorem buildV_sound {r : Emb} {t : TypeId} {parts : List (Nat × V)} {v : V} (h : buildV P t parts = some v) {ps : Array (Nat × Value)} (hp : PsRel r parts ps.toList) (w : World) :
    ∃ z, (Instr.build t ps).run P w = .ok z w ∧ VRel r v z := by
  unfold buildV at h
  split at h
  · rename_i zs fs hz hu
    split at h
    · rename_i pl hpl
      cases hf : fillV (pl[·]?) zs parts with
      | none => rw [hf] at h; simp at h
      | some out =>
        rw [hf] at h
        simp only [Option.map_some, Option.some.injEq] at h
        subst h
        obtain ⟨z, h1, h2⟩ := zeroV_sound (r := r) hz w
        obtain ⟨cs, g1, g2⟩ := fill_sound h2 hp hf
        have hplr := run_places w fs.toList pl hpl
        refine ⟨.agg cs, ?_, .agg g2⟩
        have e : (fs.mapM fun (f : Field) => do pure (f.offset, ← sizeOf f.type) : Sem (Array (Nat × Nat))).run P w = .ok pl.toArray w := by
          rw [Array.mapM_eq_mapM_toList]
          simp only [map_eq_pure_bind, Sem.run_bind, hplr, Result.andThen_ok, Sem.run_pure]
        simp only [Instr.build, Sem.run_bind, h1, Result.andThen_ok, run_underlying hu, e]
        have e2 : Instr.fill (pl.toArray[·]?) z.cells ps.toList = some cs := by
          have : (fun i : Nat => pl.toArray[i]?) = fun i : Nat => pl[i]? := by funext i; simp
          rw [this]; exact g1
        rw [e2]
        rfl
    · simp at h
  · rename_i zs n e hz hu
    split at h
    · rename_i i hi
      cases hf : fillV (fun j => some (Nat.mul j i.size, i.size)) zs parts with
      | none => rw [hf] at h; simp at h
      | some out =>
        rw [hf] at h
        simp only [Option.map_some, Option.some.injEq] at h
        subst h
        obtain ⟨z, h1, h2⟩ := zeroV_sound (r := r) hz w
        obtain ⟨cs, g1, g2⟩ := fill_sound h2 hp hf
        refine ⟨.agg cs, ?_, .agg g2⟩
        have g1' : Instr.fill (fun j => some (j * i.size, i.size)) z.cells ps.toList = some cs := g1
        simp [Instr.build, h1, run_underlying hu, sizeOf, typeInfo, hi, g1']
    · simp at h
  · simp at h

end Go.Ev
