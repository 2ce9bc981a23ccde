/- The evaluator's maps: found, made, written. No condition. -/
import Derived.Test.YtoecccbjhmejiaaGreatDoorEvI
import Derived.MapKept
import Derived.Carry
namespace Go.Ev
open Go.MapKept

variable {P : Program}

/-- Are two keys the same? -/
def keyEq (x y : V) : Option Bool :=
  match x, y with
  | .str n l, .str m k => some (Nat.beq n m && Nat.beq l k)
  | .int k a, .int k' b => bif Nat.beq (kc k) (kc k') then some (eqI a b) else none
  | _, _ => none
def findK (x : V) : List (V × V) → Nat → Option (Option (Nat × V))
  | [], _ => some none
  | (y, v) :: es, i => match keyEq x y with
    | some true => some (some (i, v))
    | some false => findK x es (i + 1)
    | none => none
/-- Is a value a key of that kind? -/
def keyB (d : TypeDesc) (x : V) : Bool :=
  match d, x with
  | .string, .str _ _ => true
  | .int k, .int k' _ => Nat.beq (kc k') (kc k)
  | _, _ => false

theorem keyB_is {r : Emb} {d : TypeDesc} {x : V} {X : Value} (h : keyB d x = true) (hx : VRel r x X) : IsKey d X := by
  unfold keyB at h
  split at h
  · cases hx; trivial
  · cases hx; exact kc_inj h
  · cases h

theorem bytes_beq (a b : ByteArray) : (a == b) = (a.data.toList == b.data.toList) := by
  have h : (a == b) = (a.data == b.data) := by cases a; cases b; rfl
  rw [h, Bool.eq_iff_iff, beq_iff_eq, beq_iff_eq]
  exact ⟨fun e => by rw [e], fun e => Array.toList_inj.1 e⟩

theorem keyEq_sound {r : Emb} {d : TypeDesc} {x y : V} {X Y : Value} {b : Bool} (hd : keyB d x = true) (he : keyEq x y = some b) (hx : VRel r x X) (hy : VRel r y Y) : Instr.sameNow d X Y = some b ∧ (b = true → Instr.sameBits 10000 Y X = true) := by
  unfold keyEq at he
  split at he
  · rename_i n l m k
    simp only [Option.some.injEq] at he
    subst he
    cases hx with
    | str hx =>
      cases hy with
      | str hy =>
        have key : (sval n l == sval m k) = (Nat.beq n m && Nat.beq l k) := by
          rw [sdec_beq hx hy, bytes_beq]; rfl
        have key2 : (sval m k == sval n l) = (sval n l == sval m k) := by
          rw [bytes_beq, bytes_beq, Bool.eq_iff_iff, beq_iff_eq, beq_iff_eq]
          exact ⟨Eq.symm, Eq.symm⟩
        have hd' : d = .string := by
          unfold keyB at hd
          split at hd <;> first | rfl | (rename_i h; cases h; done) | cases hd
        subst hd'
        refine ⟨by rw [← key]; rfl, fun h => ?_⟩
        show (sval m k == sval n l) = true
        rw [key2, key, h]
  · rename_i k a k' b'
    cases hk : Nat.beq (kc k) (kc k') <;> simp only [hk, cond_true, cond_false, reduceCtorEq, Option.some.injEq] at he
    subst he
    have e := kc_inj hk
    subst e
    cases hx; cases hy
    have hd' : ∃ k2, d = .int k2 := by
      unfold keyB at hd
      split at hd <;> first | exact ⟨_, rfl⟩ | (rename_i h; cases h; done) | cases hd
    obtain ⟨k2, rfl⟩ := hd'
    refine ⟨by simp [Instr.sameNow, eqI_eq], fun h => ?_⟩
    rw [eqI_eq] at h
    have e := eq_of_beq h
    subst e
    show (k == k && a == a) = true
    simp
  · cases he

theorem findK_sound {r : Emb} {d : TypeDesc} {x : V} {X : Value} (hd : keyB d x = true) (hx : VRel r x X) : ∀ (es : List (V × V)) (l : List MapEntry) (i : Nat) (q : Option (Nat × V)), EsRel r es l → findK x es i = some q →
    match q with
    | none => Instr.findNow d X l i = some none
    | some (j, v) => ∃ (e : MapEntry) (p : Nat), j = i + p ∧ l[p]? = some e ∧ VRel r v e.val ∧ Instr.findNow d X l i = some (some (j, e.val)) ∧ Instr.sameBits 10000 e.key X = true ∧ p < es.length := by
  intro es
  induction es with
  | nil =>
    intro l i q hl he
    cases hl
    simp only [findK, Option.some.injEq] at he
    subst he
    rfl
  | cons p es ih =>
    intro l i q hl he
    obtain ⟨y, v⟩ := p
    cases hl with
    | @cons _ _ e _ l hk hv hs =>
      simp only [findK] at he
      cases hq : keyEq x y with
      | none => rw [hq] at he; simp at he
      | some b =>
        rw [hq] at he
        obtain ⟨h1, h2⟩ := keyEq_sound hd hq hx hk
        cases b
        · simp only at he
          have := ih l (i + 1) q hs he
          cases q with
          | none =>
            show Instr.findNow d X (e :: l) i = some none
            simp only [Instr.findNow, h1]
            exact this
          | some jv =>
            obtain ⟨j, v'⟩ := jv
            obtain ⟨e', p, g1, g2, g3, g4, g5, g6⟩ := this
            refine ⟨e', p + 1, by omega, by simpa using g2, g3, ?_, g5, by simp; omega⟩
            simp only [Instr.findNow, h1]
            exact g4
        · simp only [Option.some.injEq] at he
          subst he
          refine ⟨e, 0, rfl, rfl, hv, ?_, h2 rfl, by simp⟩
          simp only [Instr.findNow, h1]

/-- A type's zero value. -/
def zeroW (P : Program) (t : TypeId) : Option V :=
  match P.info? t with
  | some i => i.zero.map constV
  | none => none
theorem zeroW_sound {r : Emb} {t : TypeId} {v : V} (h : zeroW P t = some v) (w : World) : ∃ z, (zeroValue t).run P w = .ok z w ∧ VRel r v z := by
  unfold zeroW at h
  split at h
  · rename_i i hi
    cases hz : i.zero with
    | none => rw [hz] at h; simp at h
    | some z =>
      rw [hz] at h
      simp only [Option.map_some, Option.some.injEq] at h
      subst h
      exact ⟨z, by simp [zeroValue, typeInfo, hi, hz], vrel_constV r z⟩
  · cases h

def packOk (ok : Bool) (v : V) (b : Bool) : V := bif ok then .tup [v, .bool b] else v
theorem packOk_rel {r : Emb} {ok : Bool} {v : V} {z : Value} {b : Bool} (h : VRel r v z) : VRel r (packOk ok v b) (if ok then .tuple #[z, .bool b] else z) := by
  cases ok
  · exact h
  · exact .tup (.cons h (.cons (.bool b) .nil))

/-- An entry's value. -/
def lookupV (P : Program) (h : H) (t : TypeId) (x i : V) (ok : Bool) : Option V :=
  match P.underlying t, x with
  | some (.map k e), .mapv id =>
    match P.underlying k, h.mem.blk id with
    | some d, .mapb es => bif keyB d i && Nat.blt id 65536 then
        (match findK i es 0 with
        | some (some (_, v)) => some (packOk ok v true)
        | some none => (zeroW P e).map fun z => packOk ok z false
        | none => none)
      else none
    | _, _ => none
  | _, _ => none

theorem lookupV_sound {r : Emb} {h : H} {w : World} (hr : Rel r h w) {t : TypeId} {x i v : V} {ok : Bool} (he : lookupV P h t x i ok = some v) {a c : Value} (hx : VRel r x a) (hi : VRel r i c) :
    ∃ z, (Instr.lookup t a c ok).run P w = .ok z w ∧ VRel r v z := by
  unfold lookupV at he
  split at he
  · rename_i k e id hu
    split at he
    · rename_i d es hk hb
      cases hc : (keyB d i && Nat.blt id 65536) <;> simp only [hc, cond_true, cond_false, reduceCtorEq] at he
      simp only [Bool.and_eq_true, Nat.blt_eq] at hc
      obtain ⟨b, sh, m, es', clk, h1, h2, h3⟩ := hr.mapb hc.2 hb
      cases hx with
      | mapv hx =>
        rw [h1] at hx
        cases hx
        have hck := fun (q : Bool) => run_checkKey (P := P) (w := w) hk (keyB_is hc.1 hi) q 9999
        cases hf : findK i es 0 with
        | none => rw [hf] at he; simp at he
        | some q =>
          rw [hf] at he
          have hfs := findK_sound hc.1 hi es es'.toList 0 q h3 hf
          cases q with
          | none =>
            simp only at he hfs
            cases hz : zeroW P e with
            | none => rw [hz] at he; simp at he
            | some zv =>
              rw [hz] at he
              simp only [Option.map_some, Option.some.injEq] at he
              subst he
              obtain ⟨z, g1, g2⟩ := zeroW_sound (r := r) hz w
              refine ⟨_, ?_, packOk_rel (b := false) g2⟩
              simp [Instr.lookup, run_underlying hu, MapKept.run_getObj_map h2, hck, run_findKey hk hfs, g1]
          | some jv =>
            obtain ⟨j, v'⟩ := jv
            simp only [Option.some.injEq] at he
            subst he
            obtain ⟨e', p, g1, g2, g3, g4, g5, g6⟩ := hfs
            refine ⟨_, ?_, packOk_rel (b := true) g3⟩
            simp [Instr.lookup, run_underlying hu, MapKept.run_getObj_map h2, hck, run_findKey hk g4]
    · cases he
  · cases he

/-- A new map. -/
def makeMapV (h : H) : Option (V × H) := bif Nat.blt h.next 65536 then some (.mapv h.next, h.layB (.mapb [])) else none
theorem makeMapV_sound {r : Emb} {h h' : H} {w : World} (hr : Rel r h w) {v : V} (he : makeMapV h = some (v, h')) (t : TypeId) :
    ∃ z w' r', (Instr.makeMap t none).run P w = .ok z w' ∧ Step r h w r' h' w' ∧ VRel r' v z := by
  unfold makeMapV at he
  cases hn : Nat.blt h.next 65536 <;> simp only [hn, cond_true, cond_false, reduceCtorEq, Option.some.injEq, Prod.mk.injEq] at he
  obtain ⟨rfl, rfl⟩ := he
  rw [Nat.blt_eq] at hn
  refine ⟨.map (some w.heap.size), w.alloc (.map #[] 0), r.put h.next (w.heap.size, 0, 0), rfl, ?_, .mapv (Emb.put_same _ _ _)⟩
  exact Step.layB hr (fun _ ho => ho) (fun _ ho => ho) hn (fun id sh' m' hl' e => Nat.lt_irrefl _ (hr.lt hl' e)) (fun hlt => (Nat.lt_irrefl _ hlt).elim) (fun k hk _ => (MapKept.heap_alloc w _).2 k hk) (by simp) rfl rfl rfl
    ⟨#[], 0, (MapKept.heap_alloc w _).1, .nil⟩

theorem EsRel.push {r : Emb} {es : List (V × V)} {l : List MapEntry} (h : EsRel r es l) {k v : V} {e : MapEntry} (hk : VRel r k e.key) (hv : VRel r v e.val) : EsRel r (es ++ [(k, v)]) (l ++ [e]) := by
  induction h with
  | nil => exact .cons hk hv .nil
  | cons a b _ ih => exact .cons a b ih
theorem EsRel.set {r : Emb} {es : List (V × V)} {l : List MapEntry} (h : EsRel r es l) {k v : V} {f : MapEntry → MapEntry} : ∀ (p : Nat), (∀ e, l[p]? = some e → VRel r k (f e).key ∧ VRel r v (f e).val) → EsRel r (es.set p (k, v)) (l.modify p f) := by
  induction h with
  | nil => intro p _; cases p <;> exact .nil
  | cons a b hs ih =>
    intro p hp
    cases p with
    | zero =>
      have := hp _ rfl
      exact .cons this.1 this.2 hs
    | succ p => exact .cons a b (ih p (fun e he => hp e (by simpa using he)))

/-- An entry written. -/
def mapUpdV (P : Program) (h : H) (t : TypeId) (x i v : V) : Option H :=
  match P.underlying t, x with
  | some (.map k _), .mapv id =>
    match P.underlying k, h.mem.blk id with
    | some d, .mapb es => bif keyB d i && Nat.blt id 65536 then
        (match findK i es 0 with
        | some (some (j, _)) => some (h.setB id (.mapb (es.set j (i, v))))
        | some none => some (h.setB id (.mapb (es ++ [(i, v)])))
        | none => none)
      else none
    | _, _ => none
  | _, _ => none
theorem mapUpdV_sound {r : Emb} {h h' : H} {w : World} (hr : Rel r h w) {t : TypeId} {x i v : V} (he : mapUpdV P h t x i v = some h') {a c y : Value} (hx : VRel r x a) (hi : VRel r i c) (hv : VRel r v y) :
    ∃ w', (Instr.mapUpdate t a c y).run P w = .ok () w' ∧ Step r h w r h' w' := by
  unfold mapUpdV at he
  split at he
  · rename_i k e id hu
    split at he
    · rename_i d es hk hb
      cases hc : (keyB d i && Nat.blt id 65536) <;> simp only [hc, cond_true, cond_false, reduceCtorEq] at he
      simp only [Bool.and_eq_true, Nat.blt_eq] at hc
      obtain ⟨b, sh, m, es', clk, h1, h2, h3⟩ := hr.mapb hc.2 hb
      cases hx with
      | mapv hx =>
        rw [h1] at hx
        cases hx
        have hck := run_checkKey (P := P) (w := w) hk (keyB_is hc.1 hi) false 9999
        have hown : ownB (h.mem.blk id) = true := by rw [hb]; rfl
        have step : ∀ (es2 : List (V × V)) (o : Array MapEntry) (clk2 : Nat), EsRel r es2 o.toList → Step r h w r (h.setB id (.mapb es2)) { w with heap := w.heap.setIfInBounds b (.map o clk2) } := by
          intro es2 o clk2 ho
          obtain ⟨g1, g2⟩ := MapKept.heap_set (o' := .map o clk2) h2
          exact Step.setB hr hc.2 hown h1 g2 (by simp) rfl rfl rfl ⟨o, clk2, g1, ho⟩
        cases hf : findK i es 0 with
        | none => rw [hf] at he; simp at he
        | some q =>
          rw [hf] at he
          have hfs := findK_sound hc.1 hi es es'.toList 0 q h3 hf
          cases q with
          | none =>
            simp only [Option.some.injEq] at he hfs
            subst he
            refine ⟨_, ?_, step (es ++ [(i, v)]) (es'.push { key := c, val := y, born := clk }) (clk + 1) (by simpa using h3.push (e := { key := c, val := y, born := clk }) hi hv)⟩
            simp [Instr.mapUpdate, run_underlying hu, MapKept.run_getObj_map h2, hck, run_findKey hk hfs, run_setObj_map _ h2]
          | some jv =>
            obtain ⟨j, v'⟩ := jv
            simp only [Option.some.injEq] at he
            subst he
            obtain ⟨e', p, g1, g2, g3, g4, g5, g6⟩ := hfs
            have hp : p = j := by omega
            subst hp
            refine ⟨_, ?_, step (es.set p (i, v)) (es'.modify p fun e => { e with key := c, val := y }) clk (by rw [Array.toList_modify]; exact h3.set p (fun e _ => ⟨hi, hv⟩))⟩
            have hkey : ((es'[p]?).map (·.key)).getD c = e'.key := by
              have : es'[p]? = some e' := by rw [← Array.getElem?_toList]; exact g2
              rw [this]; rfl
            simp [Instr.mapUpdate, run_underlying hu, MapKept.run_getObj_map h2, hck, run_findKey hk g4, hkey, Instr.keyThatStays, g5, run_setObj_map _ h2]
    · cases he
  · cases he

end Go.Ev
