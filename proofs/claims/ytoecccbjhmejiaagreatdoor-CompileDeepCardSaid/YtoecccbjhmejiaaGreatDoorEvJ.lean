/- The evaluator's reads; all operations that leave memory as it is, as one. No condition. -/
import Derived.Test.YtoecccbjhmejiaaGreatDoorEvIM
import Derived.Laws.IdiomStrings
namespace Go.Ev

variable {P : Program}

def isRowT (P : Program) (t : TypeId) : Option Bool := (P.underlying t).map isRow

/-- What lies at an address. -/
def loadV (P : Program) (h : H) (t : TypeId) (x : V) : Option V :=
  match x with
  | .ptr id o =>
    match h.mem.blk id with
    | .live n _ _ _ c =>
      match P.underlying t, P.info? t with
      | some d, some i =>
        bif Nat.blt id 65536 then
          (bif isRow d then (bif Nat.ble (Nat.add o i.size) n then some (.agg (readFrom c o i.size)) else none)
          else (bif Nat.blt o n then some (c.get o) else none))
        else none
      | _, _ => none
    | _ => none
  | _ => none

theorem loadV_sound {r : Emb} {h : H} {w : World} (hr : Rel r h w) {t : TypeId} {x v : V} (he : loadV P h t x = some v) {a : Value} (hx : VRel r x a) :
    ∃ z, (Instr.loadAt t a).run P w = .ok z w ∧ VRel r v z := by
  unfold loadV at he
  split at he
  · rename_i id o
    split at he
    · rename_i n tb ro pl c hb
      split at he
      · rename_i d i hu hi
        cases hid : Nat.blt id 65536 <;> simp only [hid, cond_true, cond_false, reduceCtorEq] at he
        rw [Nat.blt_eq] at hid
        obtain ⟨b, sh, m, h1, hf⟩ := hr.blk id n tb ro pl c hid hb
        cases hx with
        | @ptr _ _ b' sh' c' hx =>
          rw [h1] at hx
          cases hx
          cases hrow : isRow d
          · rw [hrow] at he
            simp only [cond_false] at he
            cases ho : Nat.blt o n <;> simp only [ho, cond_true, cond_false, reduceCtorEq, Option.some.injEq] at he
            subst he
            rw [Nat.blt_eq] at ho
            obtain ⟨cs, fz, ⟨_, g2, _⟩, g3, g4, g5, g6⟩ := hf.block
            obtain ⟨z, hz, hvz⟩ := g6 o ho
            refine ⟨z, ?_, hvz⟩
            have hcell : w.cell? ⟨b, o + sh, none⟩ = some z := by simp [World.cell?, g2, hz]
            cases d <;> simp [isRow] at hrow <;> simp [Instr.loadAt, Instr.sureAddr, loadVar, isAgg, run_underlying hu, load, Sem.run, hcell]
          · rw [hrow] at he
            simp only [cond_true] at he
            cases ho : Nat.ble (Nat.add o i.size) n <;> simp only [ho, cond_true, cond_false, reduceCtorEq, Option.some.injEq] at he
            subst he
            have hle : o + i.size ≤ n := Nat.le_of_ble_eq_true ho
            obtain ⟨xs, g1, g2, g3⟩ := hf.read i.size o hle
            refine ⟨.agg xs.toArray, run_loadAt_mid w b (o + sh) t xs d g3 hu ?_ (by simp [hi, g2]), .agg (by simpa using g1)⟩
            cases d <;> first | rfl | (simp [isRow] at hrow)
      · simp at he
    · simp at he
  · simp at he

def lenV (P : Program) (h : H) (t : TypeId) (x : V) : Option V :=
  match P.underlying t, x with
  | some (.map _ _), .nilm => some (.int .i64 (.ofNat 0))
  | some (.map _ _), .mapv id =>
    match h.mem.blk id with
    | .mapb es => bif Nat.blt id 65536 then some (.int .i64 (.ofNat es.length)) else none
    | _ => none
  | some .string, .str _ l => some (.int .i64 (.ofNat l))
  | some (.slice _), .slice _ _ l _ _ => some (.int .i64 (.ofNat l))
  | some (.slice _), .nils => some (.int .i64 (.ofNat 0))
  | _, _ => none
theorem EsRel.length {r : Emb} {es : List (V × V)} {l : List MapEntry} (h : EsRel r es l) : es.length = l.length := by
  induction h with
  | nil => rfl
  | cons _ _ _ ih => simp [ih]
theorem lenV_sound {r : Emb} {hh : H} {w : World} (hr : Rel r hh w) {t : TypeId} {x v : V} (h : lenV P hh t x = some v) {a : Value} (hx : VRel r x a) (ts : Array TypeId) (hts : ts[0]? = some t) (ty : TypeId) :
    ∃ z, (Builtin.len_ ts ty #[a]).run P w = .ok z w ∧ VRel r v z := by
  unfold lenV at h
  split at h
  · rename_i k e hu
    simp only [Option.some.injEq] at h
    subst h
    cases hx
    exact ⟨.int .i64 (Int.ofNat 0), by simp [Builtin.len_, hts, run_underlying hu, goInt], .int _ _⟩
  · rename_i k e id hu
    split at h
    · rename_i es hb
      cases hlt : Nat.blt id 65536
      · rw [hlt] at h; cases h
      · rw [hlt] at h
        simp only [cond_true, Option.some.injEq] at h
        subst h
        rw [Nat.blt_eq] at hlt
        obtain ⟨b, sh, m, es', clk, h1, h2, h3⟩ := hr.mapb hlt hb
        cases hx with
        | mapv hx =>
          rw [h1] at hx
          cases hx
          refine ⟨.int .i64 (Int.ofNat es'.size), by simp [Builtin.len_, hts, run_underlying hu, MapKept.run_getObj_map h2, goInt], ?_⟩
          rw [h3.length]
          simp only [Array.length_toList]
          exact .int _ _
    · cases h
  · rename_i n l hu
    simp only [Option.some.injEq] at h
    subst h
    cases hx with
    | str hx => exact ⟨.int .i64 (Int.ofNat l), by simp [Builtin.len_, hts, run_underlying hu, sval_size, goInt], .int _ _⟩
  · rename_i e id o l cap esz hu
    simp only [Option.some.injEq] at h
    subst h
    cases hx with
    | slice hx _ _ _ => exact ⟨.int .i64 (Int.ofNat l), by simp [Builtin.len_, hts, run_underlying hu, goInt], .int _ _⟩
    | slice0 hx _ => exact ⟨.int .i64 (Int.ofNat 0), by simp [Builtin.len_, hts, run_underlying hu, goInt], .int _ _⟩
  · rename_i e hu
    simp only [Option.some.injEq] at h
    subst h
    cases hx
    exact ⟨.int .i64 (Int.ofNat 0), by simp [Builtin.len_, hts, run_underlying hu, goInt], .int _ _⟩
  · cases h

def minV (x y : V) : Option V :=
  match x, y with
  | .int k a, .int _ b => some (.int k (bif ltI b a then b else a))
  | _, _ => none
theorem minV_sound {r : Emb} {x y v : V} (h : minV x y = some v) {a c : Value} (hx : VRel r x a) (hy : VRel r y c) (ts : Array TypeId) (ty : TypeId) (w : World) :
    ∃ z, (Builtin.min_ ts ty #[a, c]).run P w = .ok z w ∧ VRel r v z := by
  unfold minV at h
  split at h
  · rename_i k p k' q
    simp only [Option.some.injEq] at h
    subst h
    cases hx; cases hy
    refine ⟨.int k (if q < p then q else p), by simp [Builtin.min_, Builtin.min2], ?_⟩
    rw [ltI_eq]
    by_cases hlt : q < p <;> simp only [hlt, decide_true, decide_false, cond_true, cond_false, if_true, if_false] <;> exact .int _ _
  · simp at h

def maxV (x y : V) : Option V :=
  match x, y with
  | .int k a, .int _ b => some (.int k (bif ltI a b then b else a))
  | _, _ => none
theorem maxV_sound {r : Emb} {x y v : V} (h : maxV x y = some v) {a c : Value} (hx : VRel r x a) (hy : VRel r y c) (ts : Array TypeId) (ty : TypeId) (w : World) :
    ∃ z, (Builtin.max_ ts ty #[a, c]).run P w = .ok z w ∧ VRel r v z := by
  unfold maxV at h
  split at h
  · rename_i k p k' q
    simp only [Option.some.injEq] at h
    subst h
    cases hx; cases hy
    refine ⟨.int k (if q > p then q else p), by simp [Builtin.max_, Builtin.max2], ?_⟩
    rw [ltI_eq]
    by_cases hlt : p < q <;> simp only [gt_iff_lt, hlt, decide_true, decide_false, cond_true, cond_false, if_true, if_false] <;> exact .int _ _
  · simp at h

def builtinV (P : Program) (h : H) (b : Builtin) (ts : List TypeId) (xs : List V) : Option V :=
  match b, ts, xs with
  | .len, t :: _, [x] => lenV P h t x
  | .min, _, [x, y] => minV x y
  | .max, _, [x, y] => maxV x y
  | _, _, _ => none

/-- Bytes in cells, and as a text. -/
def bytesN : List V → Option (List Nat)
  | [] => some []
  | .int .u8 (.ofNat b) :: vs => bif Nat.blt b 256 then (bytesN vs).map fun l => b :: l else none
  | _ :: _ => none
def packN : List Nat → Nat
  | [] => 0
  | b :: l => b + 256 * packN l
theorem bytesN_sound {r : Emb} : ∀ {vs : List V} {xs : List Value} {l : List Nat}, VsRel r vs xs → bytesN vs = some l → xs = l.map (fun (b : Nat) => Value.int .u8 (b : Int)) ∧ (∀ b ∈ l, b < 256) := by
  intro vs
  induction vs with
  | nil => intro xs l h he; cases h; simp only [bytesN, Option.some.injEq] at he; subst he; exact ⟨rfl, fun b h => by cases h⟩
  | cons v vs ih =>
    intro xs l h he
    cases h with
    | cons h hs =>
      unfold bytesN at he
      split at he
      · rename_i heq; cases heq
      · rename_i b vs' heq
        cases heq
        cases hb : Nat.blt b 256 <;> simp only [hb, cond_true, cond_false, reduceCtorEq] at he
        cases hq : bytesN vs with
        | none => rw [hq] at he; simp at he
        | some l' =>
          rw [hq] at he
          simp only [Option.map_some, Option.some.injEq] at he
          subst he
          obtain ⟨h1, h2⟩ := ih hs hq
          cases h
          refine ⟨by rw [h1]; rfl, fun c hc => ?_⟩
          rcases List.mem_cons.1 hc with rfl | hc
          · rwa [Nat.blt_eq] at hb
          · exact h2 c hc
      · cases he
theorem packN_lt : ∀ {l : List Nat}, (∀ b ∈ l, b < 256) → packN l < 256 ^ l.length
  | [], _ => by simp [packN]
  | b :: l, h => by
    have h1 := packN_lt (l := l) (fun c hc => h c (by simp [hc]))
    have h2 := h b (by simp)
    rw [List.length_cons, Nat.pow_succ, packN]
    omega
theorem sdec_packN : ∀ {l : List Nat}, (∀ b ∈ l, b < 256) → sdec (packN l) l.length = l.map UInt8.ofNat
  | [], _ => rfl
  | b :: l, h => by
    have h1 := sdec_packN (l := l) (fun c hc => h c (by simp [hc]))
    have h2 := h b (by simp)
    show UInt8.ofNat ((b + 256 * packN l) % 256) :: sdec ((b + 256 * packN l) / 256) l.length = _
    rw [show (b + 256 * packN l) % 256 = b by omega, show (b + 256 * packN l) / 256 = packN l by omega, h1]
    rfl

def bytesStr (P : Program) (h : H) (s d : TypeId) (id o len : Nat) : Option V :=
  match P.underlying s, P.underlying d with
  | some (.slice e), some .string =>
    match P.underlying e, h.mem.blk id with
    | some (.int .u8), .live n _ _ _ c => bif Nat.blt id 65536 && Nat.ble (Nat.add o len) n then (bytesN (readFrom c o len)).map fun l => .str (packN l) len else none
    | _, _ => none
  | _, _ => none
/-- Conversions; bytes to a text, too. -/
def convA (P : Program) (h : H) (s d : TypeId) (x : V) : Option V :=
  match x with
  | .slice id o len _ _ => bytesStr P h s d id o len
  | x => convV P s d x
theorem convA_sound {r : Emb} {h : H} {w : World} (hr : Rel r h w) {s d : TypeId} {x v : V} (he : convA P h s d x = some v) {a : Value} (hx : VRel r x a) : ∃ z, (convert s d a).run P w = .ok z w ∧ VRel r v z := by
  unfold convA at he
  split at he
  · rename_i id o len cap esz
    unfold bytesStr at he
    split at he
    · rename_i e hs hd
      split at he
      · rename_i n tb ro pl c hu hb
        cases hc : (Nat.blt id 65536 && Nat.ble (Nat.add o len) n) <;> simp only [hc, cond_true, cond_false, reduceCtorEq] at he
        simp only [Bool.and_eq_true, Nat.blt_eq] at hc
        have hle : o + len ≤ n := Nat.le_of_ble_eq_true hc.2
        obtain ⟨b, sh, m, h1, hf⟩ := hr.blk id n tb ro pl c hc.1 hb
        obtain ⟨xs, g1, g2, g3⟩ := hf.read len o hle
        cases hl : bytesN (readFrom c o len) with
        | none => rw [hl] at he; simp at he
        | some l =>
          rw [hl] at he
          simp only [Option.map_some, Option.some.injEq] at he
          subst he
          obtain ⟨k1, k2⟩ := bytesN_sound g1 hl
          have hlen : l.length = len := by
            have := congrArg List.length k1
            rw [g2, List.length_map] at this
            exact this.symm
          have hfin : (⟨(l.map UInt8.ofNat).toArray⟩ : ByteArray) = sval (packN l) len := by
            unfold sval
            rw [← hlen, sdec_packN k2]
          have hlt : packN l < 256 ^ len := by rw [← hlen]; exact packN_lt k2
          have run : ∀ (A : Addr) (cp : Nat), (∀ j (hj : j < (l.map UInt8.ofNat).length), w.cell? (A.add j) = some (.int .u8 (((l.map UInt8.ofNat)[j]'hj).toNat : Int))) →
              (convert s d (.slice (some A) len cp)).run P w = .ok (.string (sval (packN l) len)) w := by
            intro A cp hcell
            have := run_convert_bytes_back (P := P) w s d e A cp (l.map UInt8.ofNat) hs hu hd hcell
            rw [List.length_map, hlen, hfin] at this
            exact this
          cases hx with
          | slice q1 q2 q3 q4 =>
            rw [h1] at q1
            cases q1
            refine ⟨_, run ⟨b, o + sh, none⟩ _ (fun j hj => ?_), .str hlt⟩
            have hj' : j < l.length := by simpa using hj
            have hx1 : xs[j]? = some (.int .u8 (l[j] : Int)) := by rw [k1]; simp [hj']
            have := g3 j _ hx1
            have hb2 := k2 l[j] (by simp)
            have hu8 : (UInt8.ofNat l[j]).toNat = l[j] := by simp; omega
            have ha : (⟨b, o + sh, none⟩ : Addr).add j = ⟨b, o + sh + j, none⟩ := by cases j <;> simp [Addr.add]
            simp only [List.getElem_map, hu8]
            rw [ha]
            simpa using this
          | slice0 q1 q3 =>
            have hl0 : l = [] := List.eq_nil_of_length_eq_zero hlen
            subst hl0
            exact ⟨_, run _ _ (fun j hj => by simp at hj), .str hlt⟩
      · cases he
    · cases he
  · exact convV_sound he hx w

/-- A method's receiver and all that aside: the value in an interface. -/
def ifaceV (P : Program) (t : TypeId) (x : V) : Option V :=
  match P.underlying t with
  | some (.interface _) => none
  | some _ => some (.iface t x)
  | none => none

/-- A type's zero. -/
def zeroOf (P : Program) (t : TypeId) : Option V :=
  match P.info? t with
  | some i => match i.zero with
    | some z => some (constV z)
    | none => none
  | none => none
theorem zeroOf_sound {r : Emb} {t : TypeId} {u : V} (h : zeroOf P t = some u) (w : World) : ∃ z, (zeroValue t).run P w = .ok z w ∧ VRel r u z := by
  unfold zeroOf at h
  split at h
  · rename_i i hi
    split at h
    · rename_i z hz
      simp only [Option.some.injEq] at h
      subst h
      exact ⟨z, by simp [zeroValue, typeInfo, hi, hz], vrel_constV r z⟩
    · simp at h
  · simp at h

/-- A type assertion. -/
def assertV (P : Program) (t : TypeId) (ok : Bool) (x : V) : Option V :=
  match P.underlying t, x with
  | some (.interface _), .nilI => bif ok then (zeroOf P t).map fun z => .tup [z, .bool false] else none
  | some (.interface want), .iface t' u =>
    match P.info? t' with
    | some i => match Instr.missingMethod want i.methods with
      | none => some (bif ok then .tup [.iface t' u, .bool true] else .iface t' u)
      | some _ => bif ok then (zeroOf P t).map fun z => .tup [z, .bool false] else none
    | none => none
  | some _, .nilI => bif ok then (zeroOf P t).map fun z => .tup [z, .bool false] else none
  | some _, .iface t' u => bif Nat.beq t' t then some (bif ok then .tup [u, .bool true] else u) else (bif ok then (zeroOf P t).map fun z => .tup [z, .bool false] else none)
  | _, _ => none

theorem assertV_sound {r : Emb} {t : TypeId} {ok : Bool} {v u : V} (he : assertV P t ok v = some u) {x : Value} (hx : VRel r v x) (xt : TypeId) (w : World) :
    ∃ z, (Instr.typeAssert x xt t ok).run P w = .ok z w ∧ VRel r u z := by
  have fails : ∀ {u : V} (st dy : Option TypeId) (m : String), (bif ok then (zeroOf P t).map fun z => V.tup [z, .bool false] else none) = some u →
      ∃ z, (if ok = true then (do pure (.tuple #[← zeroValue t, .bool false]) : Sem Value) else runtimePanic (.typeAssertion st dy t m)).run P w = .ok z w ∧ VRel r u z := by
    intro u st dy m h
    cases ok
    · simp at h
    · simp only [cond_true] at h
      cases hz : zeroOf P t with
      | none => rw [hz] at h; simp at h
      | some z =>
        rw [hz] at h
        simp only [Option.map_some, Option.some.injEq] at h
        subst h
        obtain ⟨y, h1, h2⟩ := zeroOf_sound (r := r) hz w
        exact ⟨.tuple #[y, .bool false], by simp [h1], .tup (.cons h2 (.cons (.bool _) .nil))⟩
  unfold assertV at he
  split at he
  · rename_i want hu
    cases hx
    obtain ⟨z, h1, h2⟩ := fails none none "" he
    exact ⟨z, by unfold Instr.typeAssert; simp only [Sem.run_bind, run_underlying hu, Result.andThen_ok]; exact h1, h2⟩
  · rename_i want t' u' hu
    cases hx with
    | @iface _ _ y hy =>
      split at he
      · rename_i i hi
        split at he
        · rename_i hm
          simp only [Option.some.injEq] at he
          subst he
          refine ⟨if ok then .tuple #[.iface t' y, .bool true] else .iface t' y, ?_, ?_⟩
          · unfold Instr.typeAssert
            simp only [Sem.run_bind, run_underlying hu, Result.andThen_ok]
            simp [typeInfo, hi, hm]
          · cases ok
            · exact .iface hy
            · exact .tup (.cons (.iface hy) (.cons (.bool _) .nil))
        · rename_i m hm
          obtain ⟨z, h1, h2⟩ := fails none (some t') m he
          refine ⟨z, ?_, h2⟩
          unfold Instr.typeAssert
          simp only [Sem.run_bind, run_underlying hu, Result.andThen_ok]
          simpa [typeInfo, hi, hm] using h1
      · simp at he
  · rename_i d hd hu
    cases hx
    obtain ⟨z, h1, h2⟩ := fails (some xt) none "" he
    refine ⟨z, ?_, h2⟩
    unfold Instr.typeAssert
    simp only [Sem.run_bind, run_underlying hu, Result.andThen_ok]
    cases d <;> first | exact (hd _ rfl).elim | exact h1
  · rename_i d t' u' hd hu
    cases hx with
    | @iface _ _ y hy =>
      cases hb : Nat.beq t' t
      · rw [hb] at he
        simp only [cond_false] at he
        have hne : ¬ t' = t := fun e => by rw [e] at hb; simp at hb
        obtain ⟨z, h1, h2⟩ := fails (some xt) (some t') "" he
        refine ⟨z, ?_, h2⟩
        unfold Instr.typeAssert
        simp only [Sem.run_bind, run_underlying hu, Result.andThen_ok]
        cases d <;> first | exact (hd _ rfl).elim | (simp only [hne, if_false]; exact h1)
      · rw [hb] at he
        simp only [cond_true, Option.some.injEq] at he
        subst he
        have hte := Nat.eq_of_beq_eq_true hb
        refine ⟨if ok then .tuple #[y, .bool true] else y, ?_, ?_⟩
        · unfold Instr.typeAssert
          simp only [Sem.run_bind, run_underlying hu, Result.andThen_ok]
          cases d <;> first | exact (hd _ rfl).elim | simp [hte]
        · cases ok
          · exact hy
          · exact .tup (.cons hy (.cons (.bool _) .nil))
  · simp at he

def isConstO : Operand → Bool
  | .const _ => true
  | _ => false
def eqNeq (o : BinOp) (b : Bool) : Option V :=
  match o with
  | .eql => some (.bool b)
  | .neq => some (.bool (!b))
  | _ => none
/-- An interface held against nil. -/
def ifaceEqV (ms : Array (String × TypeId)) (o : BinOp) (xc yc : Bool) (a b : V) : Option V :=
  match a, b with
  | .nilI, .nilI => bif xc || yc || ms.isEmpty then eqNeq o true else none
  | .nilI, .iface _ _ => eqNeq o false
  | .iface _ _, .nilI => eqNeq o false
  | _, _ => none
def binX (P : Program) (h : H) (E : Operand → V) (o : BinOp) (t : TypeId) (x y : Operand) : Option V :=
  match P.underlying t with
  | some (.interface ms) => ifaceEqV ms o (isConstO x) (isConstO y) (E x) (E y)
  | _ => binV P h o t (E x) (E y)

theorem eqNeq_run {r : Emb} {o : BinOp} {b : Bool} {v : V} (he : eqNeq o b = some v) {t : TypeId} {a c : Value} {w : World} (xo yo : Operand) (hg : ∀ o, o = .eql ∨ o = .neq → (eqGuard o t xo yo a c).run P w = .ok () w)
    (h1 : (Op.equal t a c).run P w = .ok b w) (q1 : ∀ k n, a ≠ .int k n) (q2 : ∀ s, a ≠ .string s) (q3 : ∀ k n, a ≠ .float k n) (q4 : ∀ k n m, a ≠ .complex k n m) :
    ∃ z, (do eqGuard o t xo yo a c; binOp o t a c : Sem Value).run P w = .ok z w ∧ VRel r v z := by
  unfold eqNeq at he
  obtain ⟨e1, e2⟩ := binOp_ptr_eql w h1 q1 q2 q3 q4
  split at he
  · simp only [Option.some.injEq] at he
    subst he
    exact ⟨_, by simp only [Sem.run_bind, hg .eql (.inl rfl), Result.andThen_ok, e1], .bool _⟩
  · simp only [Option.some.injEq] at he
    subst he
    exact ⟨_, by simp only [Sem.run_bind, hg .neq (.inr rfl), Result.andThen_ok, e2], .bool _⟩
  · simp at he

theorem ifaceEqV_sound {r : Emb} {t : TypeId} {ms : Array (String × TypeId)} (hu : P.underlying t = some (.interface ms)) {o : BinOp} {xo yo : Operand} {x y v : V} (he : ifaceEqV ms o (isConstO xo) (isConstO yo) x y = some v)
    {a c : Value} (hx : VRel r x a) (hy : VRel r y c) (w : World) : ∃ z, (do eqGuard o t xo yo a c; binOp o t a c : Sem Value).run P w = .ok z w ∧ VRel r v z := by
  have key : ∀ {a c : Value} {b : Bool}, (∀ d : Nat, (Op.equalIn (d + 1) t a c).run P w = .ok b w) → (Op.equal t a c).run P w = .ok b w := fun h => h 9999
  unfold ifaceEqV at he
  split at he
  · cases hx; cases hy
    cases hc : (isConstO xo || isConstO yo || ms.isEmpty)
    · rw [hc] at he; simp at he
    · rw [hc] at he
      simp only [cond_true] at he
      refine eqNeq_run he xo yo (fun o ho => ?_) (key fun d => by simp [Op.equalIn, run_underlying hu]) (by simp) (by simp) (by simp) (by simp)
      have hgin : ms.isEmpty = true → (Op.eqGuardIn Op.maxDepth t .nilIface .nilIface).run P w = .ok false w := fun hm => by
        have h9 : ∀ d : Nat, (Op.eqGuardIn (d + 1) t .nilIface .nilIface).run P w = .ok false w := fun d => by simp [Op.eqGuardIn, run_underlying hu, hm]
        exact h9 9999
      rcases ho with rfl | rfl
      · cases xo <;> cases yo <;> simp [isConstO] at hc <;> simp [eqGuard, hc, hgin]
      · cases xo <;> cases yo <;> simp [isConstO] at hc <;> simp [eqGuard, hc, hgin]
  · cases hx; cases hy
    exact eqNeq_run he xo yo (fun o ho => by rcases ho with rfl | rfl <;> simp [eqGuard]) (key fun d => by simp [Op.equalIn, run_underlying hu]) (by simp) (by simp) (by simp) (by simp)
  · cases hx; cases hy
    exact eqNeq_run he xo yo (fun o ho => by rcases ho with rfl | rfl <;> simp [eqGuard]) (key fun d => by simp [Op.equalIn, run_underlying hu]) (by simp) (by simp) (by simp) (by simp)
  · simp at he

/-- An operation that leaves memory as it is. -/
def valOp (P : Program) (h : H) (E : Operand → V) (op : Op) : Option V :=
  match op with
  | .move x => some (E x)
  | .assign x => some (E x)
  | .pick c a b => match E c with
    | .bool t => some (bif t then E a else E b)
    | _ => none
  | .nilCheck x => nilV (E x)
  | .binOp o t x y _ => binX P h E o t x y
  | .unOp o _ x => unV o (E x)
  | .convert s d x => convA P h s d (E x)
  | .makeInterface t x => ifaceV P t (E x)
  | .typeAssert x _ t ok => assertV P t ok (E x)
  | .makeFunc f first captured => some (.fn f (first.toList.map E) (captured.toList.map E))
  | .slice t x lo hi none => sliceV P t (E x) (lo.map E) (hi.map E)
  | .fieldAddr s x f => fieldAddrV P s (E x) f
  | .field t x f => fieldV P t (E x) f
  | .indexAddr t x i => indexAddrV P t (E x) (E i)
  | .index t x i => indexV P t (E x) (E i)
  | .extract x i => extractV (E x) i
  | .build t parts => buildV P t (parts.toList.map fun (i, x) => (i, E x))
  | .load t x => loadV P h t (E x)
  | .lookup t x i ok => lookupV P h t (E x) (E i) ok
  | .call { callee := .builtin b, args, argTypes } => builtinV P h b argTypes.toList (args.toList.map E)
  | _ => none

def ERel (r : Emb) (E : Operand → V) (e : Operand → Value) : Prop := ∀ x, VRel r (E x) (e x)

theorem erel_list {r : Emb} {E : Operand → V} {e : Operand → Value} (h : ERel r E e) (l : List Operand) : VsRel r (l.map E) (l.map e) := by
  induction l with
  | nil => exact .nil
  | cons x l ih => exact .cons (h x) ih
theorem erel_parts {r : Emb} {E : Operand → V} {e : Operand → Value} (h : ERel r E e) (l : List (Nat × Operand)) : PsRel r (l.map fun (i, x) => (i, E x)) (l.map fun (i, x) => (i, e x)) := by
  induction l with
  | nil => exact .nil
  | cons x l ih => obtain ⟨i, x⟩ := x; exact .cons (h x) ih
theorem erel_opt {r : Emb} {E : Operand → V} {e : Operand → Value} (h : ERel r E e) (o : Option Operand) : ORel r (o.map E) (o.map e) := by
  cases o with
  | none => exact .none
  | some x => exact .some (h x)

theorem valOp_sound {r : Emb} {h : H} {w : World} (hr : Rel r h w) {E : Operand → V} {e : Operand → Value} (hE : ERel r E e) {o : Oper} {v : V} (he : valOp P h E o.op = some v) :
    ∃ z, (execOp e o).run P w = .ok (.value z) w ∧ VRel r v z := by
  unfold valOp at he
  split at he
  · rename_i x ho
    simp only [Option.some.injEq] at he
    subst he
    exact ⟨e x, by unfold execOp; simp [ho], hE x⟩
  · rename_i x ho
    simp only [Option.some.injEq] at he
    subst he
    exact ⟨e x, by unfold execOp; simp [ho], hE x⟩
  · rename_i c a b ho
    split at he
    · rename_i t hc
      simp only [Option.some.injEq] at he
      subst he
      have h1 := hE c
      rw [hc] at h1
      cases h2 : e c <;> rw [h2] at h1 <;> cases h1
      refine ⟨if t then e a else e b, by unfold execOp; simp [ho, h2, asBool], ?_⟩
      cases t
      · exact hE b
      · exact hE a
    · simp at he
  · rename_i x ho
    obtain ⟨h1, h2⟩ := nilV_sound he (hE x) e o x ho rfl w (P := P)
    exact ⟨_, h1, h2⟩
  · rename_i bo t x y yt ho
    have h0 : ∃ z, (do eqGuard bo t x y (e x) (e y); binOp bo t (e x) (e y) : Sem Value).run P w = .ok z w ∧ VRel r v z := by
      unfold binX at he
      split at he
      · rename_i ms hu
        exact ifaceEqV_sound hu he (hE x) (hE y) w
      · exact binV_sound hr he (hE x) (hE y) x y
    obtain ⟨z, h1, h2⟩ := h0
    refine ⟨z, ?_, h2⟩
    unfold execOp
    simp only [ho]
    simp only [Sem.run_bind] at h1 ⊢
    rw [h1]
    rfl
  · rename_i uo t x ho
    obtain ⟨z, h1, h2⟩ := unV_sound he (hE x) w (P := P)
    exact ⟨z, by unfold execOp; simp [ho, h1], h2⟩
  · rename_i s d x ho
    obtain ⟨z, h1, h2⟩ := convA_sound hr he (hE x)
    exact ⟨z, by unfold execOp; simp [ho, h1], h2⟩
  · rename_i t x ho
    unfold ifaceV at he
    split at he <;> simp only [Option.some.injEq, reduceCtorEq] at he
    rename_i d hd hu
    subst he
    refine ⟨.iface t (e x), ?_, .iface (hE x)⟩
    unfold execOp
    cases d <;> first | (exact absurd rfl (hd _)) | simp [ho, Instr.makeInterface, run_underlying hu]
  · rename_i x xt t ok ho
    obtain ⟨z, h1, h2⟩ := assertV_sound he (hE x) xt w
    exact ⟨z, by unfold execOp; simp [ho, h1], h2⟩
  · rename_i f first captured ho
    simp only [Option.some.injEq] at he
    subst he
    exact ⟨.func f (first.map e) (captured.map e), by unfold execOp; simp [ho, Instr.makeFunc], .fn (by simpa using erel_list hE first.toList) (by simpa using erel_list hE captured.toList)⟩
  · rename_i t x lo hi ho
    obtain ⟨z, h1, h2⟩ := sliceV_sound he (hE x) (erel_opt hE lo) (erel_opt hE hi) w
    exact ⟨z, by unfold execOp; simp [ho, h1], h2⟩
  · rename_i s x f ho
    obtain ⟨z, h1, h2⟩ := fieldAddrV_sound he (hE x) w
    exact ⟨z, by unfold execOp; simp [ho, h1], h2⟩
  · rename_i t x f ho
    obtain ⟨z, h1, h2⟩ := fieldV_sound he (hE x) w
    exact ⟨z, by unfold execOp; simp [ho, h1], h2⟩
  · rename_i t x i ho
    obtain ⟨z, h1, h2⟩ := indexAddrV_sound he (hE x) (hE i) w
    exact ⟨z, by unfold execOp; simp [ho, h1], h2⟩
  · rename_i t x i ho
    obtain ⟨z, h1, h2⟩ := indexV_sound he (hE x) (hE i) w
    exact ⟨z, by unfold execOp; simp [ho, h1], h2⟩
  · rename_i x i ho
    obtain ⟨z, h1, h2⟩ := extractV_sound he (hE x) w (P := P)
    exact ⟨z, by unfold execOp; simp [ho, h1], h2⟩
  · rename_i t parts ho
    obtain ⟨z, h1, h2⟩ := buildV_sound he (ps := parts.map fun (i, x) => (i, e x)) (by simpa using erel_parts hE parts.toList) w
    exact ⟨z, by unfold execOp; simp [ho, h1], h2⟩
  · rename_i t x ho
    obtain ⟨z, h1, h2⟩ := loadV_sound hr he (hE x)
    exact ⟨z, by unfold execOp; simp [ho, h1], h2⟩
  · rename_i t x i ok ho
    obtain ⟨z, h1, h2⟩ := lookupV_sound hr he (hE x) (hE i)
    exact ⟨z, by unfold execOp; simp [ho, h1], h2⟩
  · rename_i b args ts ho
    unfold builtinV at he
    split at he
    · rename_i t tl x hts hxs
      obtain ⟨x', hx'⟩ : ∃ x', args.toList = [x'] := by
        cases ha : args.toList with
        | nil => rw [ha] at hxs; simp at hxs
        | cons p q => cases q with
          | nil => exact ⟨p, rfl⟩
          | cons _ _ => rw [ha] at hxs; simp at hxs
      rw [hx'] at hxs
      simp only [List.map_cons, List.map_nil, List.cons.injEq, and_true] at hxs
      subst hxs
      have ea : args = #[x'] := by rw [← Array.toArray_toList (xs := args), hx']
      have et : ts[0]? = some t := by rw [← Array.getElem?_toList, hts]; rfl
      obtain ⟨z, h1, h2⟩ := lenV_sound hr he (hE x') ts et o.type
      refine ⟨z, ?_, h2⟩
      unfold execOp
      simp [ho, ea, resolve, invoke, builtin, h1]
    · rename_i tl x y hxs
      obtain ⟨x', y', hx'⟩ : ∃ x' y', args.toList = [x', y'] := by
        cases ha : args.toList with
        | nil => rw [ha] at hxs; simp at hxs
        | cons p q => cases q with
          | nil => rw [ha] at hxs; simp at hxs
          | cons p2 q2 => cases q2 with
            | nil => exact ⟨p, p2, rfl⟩
            | cons _ _ => rw [ha] at hxs; simp at hxs
      rw [hx'] at hxs
      simp only [List.map_cons, List.map_nil, List.cons.injEq, and_true] at hxs
      obtain ⟨rfl, rfl⟩ := hxs
      have ea : args = #[x', y'] := by rw [← Array.toArray_toList (xs := args), hx']
      obtain ⟨z, h1, h2⟩ := minV_sound he (hE x') (hE y') ts o.type w (P := P)
      refine ⟨z, ?_, h2⟩
      unfold execOp
      simp [ho, ea, resolve, invoke, builtin, h1]
    · rename_i tl x y hxs
      obtain ⟨x', y', hx'⟩ : ∃ x' y', args.toList = [x', y'] := by
        cases ha : args.toList with
        | nil => rw [ha] at hxs; simp at hxs
        | cons p q => cases q with
          | nil => rw [ha] at hxs; simp at hxs
          | cons p2 q2 => cases q2 with
            | nil => exact ⟨p, p2, rfl⟩
            | cons _ _ => rw [ha] at hxs; simp at hxs
      rw [hx'] at hxs
      simp only [List.map_cons, List.map_nil, List.cons.injEq, and_true] at hxs
      obtain ⟨rfl, rfl⟩ := hxs
      have ea : args = #[x', y'] := by rw [← Array.toArray_toList (xs := args), hx']
      obtain ⟨z, h1, h2⟩ := maxV_sound he (hE x') (hE y') ts o.type w (P := P)
      refine ⟨z, ?_, h2⟩
      unfold execOp
      simp [ho, ea, resolve, invoke, builtin, h1]
    · simp at he
  · simp at he

end Go.Ev
