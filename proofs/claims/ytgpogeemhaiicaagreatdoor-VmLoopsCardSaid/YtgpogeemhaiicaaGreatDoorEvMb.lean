/- The evaluator's numbers that have names: what is known of an operation on them. The evaluator's operations that leave memory as it is, one by one. The evaluator's operations that leave memory as it is, all of them. The evaluator's addresses, parts and reads, and all operations that leave memory as it is. The evaluator's maps: found, made, written. The evaluator's reads; all operations that leave memory as it is, as one. No condition. -/
import Derived.Test.YtgpogeemhaiicaaGreatDoorEvMa
import Derived.Laws.StructEq
import Derived.MapKept
import Derived.Carry
import Derived.Laws.IdiomStrings
set_option linter.all false
namespace Go.Ev

def namLo (c : Nat) : Nat := bif Nat.blt c 12 then 1 else 0
def namHi (c : Nat) : Nat := bif Nat.blt c 12 then 30057 else bif Nat.blt c 16 then 10006 else 39
def litTab (l b : Nat) : Option Bool :=
  match l with
  | 0 => bif Nat.beq b 0 || (Nat.beq b 1 || Nat.beq b 3) then some false else none
  | 1 => some (Nat.beq b 0)
  | 2 => some (Nat.beq b 1)
  | 3 => some (Nat.beq b 3)
  | _ => none
def litD (c : Nat) : Nat := (fun p => match Nat.mod c 4 with | 0 => Nat.mod p 5 | 1 => Nat.mod (Nat.div p 5) 5 | _ => Nat.mod (Nat.div p 25) 5) (Nat.div (Nat.sub c 32) 4)
def pairD (p j k : Nat) : Nat :=
  match j, k with
  | 0, 1 => Nat.mod (Nat.div p 125) 3
  | 1, 0 => Nat.mod (Nat.div p 125) 3
  | 0, 2 => Nat.mod (Nat.div p 375) 3
  | 2, 0 => Nat.mod (Nat.div p 375) 3
  | 1, 2 => Nat.mod (Nat.div p 1125) 3
  | 2, 1 => Nat.mod (Nat.div p 1125) 3
  | _, _ => 0
def litQ (c : Nat) (b : Int) : Option Bool :=
  bif ltI b (.ofNat (namLo c)) || ltI (.ofNat (namHi c)) b then some false else
  match b with
  | .ofNat b => bif Nat.ble 32 c then litTab (litD c) b else none
  | _ => none
def ltN (c : Nat) (b : Int) : Option Bool := bif ltI (.ofNat (namHi c)) b then some true else bif ltI (.ofNat (namLo c)) b then none else some false
def gtN (c : Nat) (b : Int) : Option Bool := bif ltI b (.ofNat (namLo c)) then some true else bif ltI b (.ofNat (namHi c)) then none else some false
def obool (o : Option Bool) : Option V := match o with | some b => some (.bool b) | none => none
def onot (o : Option Bool) : Option V := match o with | some b => some (.bool (!b)) | none => none
def namL (op : BinOp) (c : Nat) (b : Int) : Option V :=
  match op with
  | .mul => bif Nat.beq c 8 && eqI b (.ofNat 3) then some (.cl1 0 9) else none
  | .quo => bif Nat.beq c 9 && eqI b (.ofNat 3) then some (.cl1 0 8) else none
  | .rem => bif Nat.beq c 10 && eqI b (.ofNat 10007) then some (.cl1 0 11) else none
  | .eql => obool (litQ c b)
  | .neq => onot (litQ c b)
  | .lss => obool (ltN c b)
  | .leq => onot (gtN c b)
  | .gtr => obool (gtN c b)
  | .geq => onot (ltN c b)
  | _ => none
def namR (op : BinOp) (c : Nat) (b : Int) : Option V :=
  match op with
  | .eql => obool (litQ c b)
  | .neq => onot (litQ c b)
  | .lss => obool (gtN c b)
  | .leq => onot (ltN c b)
  | .gtr => obool (ltN c b)
  | .geq => onot (gtN c b)
  | _ => none
def eqNN (c c' : Nat) : Option Bool :=
  bif Nat.beq c c' then some true else
  bif Nat.ble 32 c && (Nat.ble 32 c' && Nat.beq (Nat.div (Nat.sub c 32) 4) (Nat.div (Nat.sub c' 32) 4)) then
    match pairD (Nat.div (Nat.sub c 32) 4) (Nat.mod c 4) (Nat.mod c' 4) with | 1 => some true | 2 => some false | _ => none
  else none
def namN (op : BinOp) (c c' : Nat) : Option V :=
  match op with
  | .eql => obool (eqNN c c')
  | .neq => onot (eqNN c c')
  | _ => none
def wOf (c : Nat) : Nat := bif Nat.ble 16 c && Nat.blt c 28 then Nat.mod (Nat.sub c 16) 4 else 0
def eqW (w : Nat) : Option Bool := match w with | 0 => none | 1 => some true | _ => some false
/-- Is the number below the loops' own? Above it? -/
def ltW (w : Nat) : Option Bool := match w with | 1 => some false | 2 => some false | _ => none
def gtW (w : Nat) : Option Bool := match w with | 1 => some false | 2 => some true | _ => none
def namI (op : BinOp) (c : Nat) : Option V :=
  match op with
  | .add => bif Nat.beq c 9 then some (.cl1 0 10) else none
  | .eql => obool (eqW (wOf c))
  | .neq => onot (eqW (wOf c))
  | .lss => obool (ltW (wOf c))
  | .leq => onot (gtW (wOf c))
  | .gtr => obool (gtW (wOf c))
  | .geq => onot (ltW (wOf c))
  | _ => none
def namJ (op : BinOp) (c : Nat) : Option V :=
  match op with
  | .eql => obool (eqW (wOf c))
  | .neq => onot (eqW (wOf c))
  | .lss => obool (gtW (wOf c))
  | .leq => onot (ltW (wOf c))
  | .gtr => obool (ltW (wOf c))
  | .geq => onot (gtW (wOf c))
  | _ => none
/-- A number of which bounds are known, against one that lies outside. -/
def symL (op : BinOp) (q : Nat) (b : Int) : Option V :=
  match op with
  | .gtr => bif ltI (.ofNat (sHi q)) b then some (.bool false) else none
  | .lss => bif ltI b (.ofNat (sLo q)) then some (.bool false) else none
  | _ => none
def isNum (c : Nat) : Bool := Nat.ble 8 c && (Nat.blt c 32 || Nat.blt (Nat.mod c 4) 3)
def isI (q : Nat) : Bool := Nat.beq (Nat.mod q 4) 1 && (Nat.beq (sId (Nat.div q 4)) labI && (Nat.beq (sC (Nat.div q 4)) 1073741824 && Nat.beq (sD (Nat.div q 4)) 1073741824))
def kfB (op : BinOp) (x y : V) : Option V :=
  match x, y with
  | .cl1 m c, .int .i64 b => bif Nat.beq m 0 && isNum c then namL op c b else none
  | .int .i64 b, .cl1 m c => bif Nat.beq m 0 && isNum c then namR op c b else none
  | .cl1 m c, .cl1 m' c' => bif (Nat.beq m 0 && isNum c) && (Nat.beq m' 0 && isNum c') then namN op c c' else none
  | .cl1 m c, .msk m' q => bif (Nat.beq m 0 && isNum c) && (Nat.beq m' 0 && isI q) then namI op c else none
  | .msk m' q, .cl1 m c => bif (Nat.beq m 0 && isNum c) && (Nat.beq m' 0 && isI q) then namJ op c else none
  | .msk m q, .int .i64 b => bif Nat.beq m 0 && Nat.beq (Nat.mod q 4) 1 then symL op (Nat.div q 4) b else none
  | _, _ => none

theorem obool_some {o : Option Bool} {v : V} (h : obool o = some v) : ∃ b, o = some b ∧ v = .bool b := by
  cases o with
  | none => cases h
  | some b => exact ⟨b, rfl, (Option.some.inj h).symm⟩
theorem onot_some {o : Option Bool} {v : V} (h : onot o = some v) : ∃ b, o = some b ∧ v = .bool (!b) := by
  cases o with
  | none => cases h
  | some b => exact ⟨b, rfl, (Option.some.inj h).symm⟩
theorem nam_inv {r : Emb} {c : Nat} {a : Value} (hx : VRel r (.cl1 0 c) a) (hc : isNum c = true) : 8 ≤ c ∧ ∃ n, a = .int .i64 n ∧ NamOk r c n := by
  unfold isNum at hc
  simp only [Bool.and_eq_true, Bool.or_eq_true, Nat.blt_eq] at hc
  have h8 : 8 ≤ c := Nat.le_of_ble_eq_true hc.1
  have hc2 : c < 32 ∨ c % 4 < 3 := hc.2
  refine ⟨h8, ?_⟩
  generalize hv : V.cl1 0 c = v at hx
  cases hx with
  | nam _ h => cases hv; exact ⟨_, rfl, h⟩
  | nsrc _ h =>
    cases hv
    have := h.1
    have := h.2.1
    omega
  | lin hc1 h1 h2 h3 h4 => cases hv; omega
  | cl1 g1 g2 _ => cases hv; omega
  | symb h1 h2 h3 h4 h5 => simp only [V.cl1.injEq] at hv; omega
  | syma h1 h2 h3 h4 h5 => simp only [V.cl1.injEq] at hv; omega
  | _ => cases hv
theorem nsrc_inv {r : Emb} {c : Nat} {a : Value} (hx : VRel r (.cl1 0 c) a) (h8 : 32 ≤ c) (h3 : c % 4 = 3) : ∃ s, a = .string s ∧ SrcOk r c s := by
  generalize hv : V.cl1 0 c = v at hx
  cases hx with
  | nam _ h =>
    cases hv
    rcases h with ⟨h, _⟩ | ⟨h, h', _⟩ | ⟨h, h', _⟩ | ⟨h, _⟩ <;> omega
  | nsrc _ h => cases hv; exact ⟨_, rfl, h⟩
  | lin hc1 h1 h2 h3 h4 => cases hv; omega
  | cl1 g1 g2 _ => cases hv; omega
  | symb h1 h2 h3 h4 h5 => simp only [V.cl1.injEq] at hv; omega
  | syma h1 h2 h3 h4 h5 => simp only [V.cl1.injEq] at hv; omega
  | _ => cases hv
theorem symI_inv {r : Emb} {q : Nat} {a : Value} (hx : VRel r (.msk 0 q) a) (hq : isI q = true) : ∃ I z y : Nat, a = .int .i64 ((I : Int) - z) ∧ r labI = some (I, z, y) := by
  unfold isI at hq
  simp only [Bool.and_eq_true] at hq
  obtain ⟨h1, h2, h3, h4⟩ := hq
  have e1 : q % 4 = 1 := Nat.eq_of_beq_eq_true h1
  have e2 : sId (q / 4) = labI := Nat.eq_of_beq_eq_true h2
  have e3 : sC (q / 4) = 1073741824 := Nat.eq_of_beq_eq_true h3
  have e4 : sD (q / 4) = 1073741824 := Nat.eq_of_beq_eq_true h4
  generalize hv : V.msk 0 q = v at hx
  cases hx with
  | @sym q' n h =>
    cases hv
    have e : (4 * q' + 1) / 4 = q' := by omega
    rw [e] at e2 e3 e4
    obtain ⟨_, _, h | ⟨x, y, z, k1, k2, k3⟩⟩ := h
    · rw [e2] at h; exact absurd h (by decide)
    · rw [e2] at k1
      rw [e3] at k2
      rw [e4] at k3
      exact ⟨x, y, z, by congr 1; omega, k1⟩
  | ssl _ _ _ _ _ _ => simp only [V.msk.injEq] at hv; omega
  | sat _ _ _ _ => simp only [V.msk.injEq] at hv; omega
  | snx _ _ _ _ => simp only [V.msk.injEq] at hv; omega
  | msk hm _ => simp only [V.msk.injEq] at hv; omega
  | _ => cases hv
theorem symK_inv {r : Emb} {q : Nat} {a : Value} (hx : VRel r (.msk 0 q) a) (hq : q % 4 = 1) : ∃ n, a = .int .i64 n ∧ SNum r (q / 4) n := by
  generalize hv : V.msk 0 q = v at hx
  cases hx with
  | @sym q' n h => cases hv; exact ⟨n, rfl, by rw [show (4 * q' + 1) / 4 = q' by omega]; exact h⟩
  | ssl _ _ _ _ _ _ => simp only [V.msk.injEq] at hv; omega
  | sat _ _ _ _ => simp only [V.msk.injEq] at hv; omega
  | snx _ _ _ _ => simp only [V.msk.injEq] at hv; omega
  | msk hm _ => simp only [V.msk.injEq] at hv; omega
  | _ => cases hv
theorem kf_bnd {c K I : Nat} (h1 : 1 ≤ K) (h2 : K ≤ 10006) (h3 : I ≤ 39) (h4 : 1 ≤ (3 * K + I) % 10007) : 1 ≤ kfOf c K I ∧ kfOf c K I ≤ 30057 := by
  unfold kfOf
  split <;> omega
theorem nam_bnd {r : Emb} {c : Nat} {n : Int} (h : NamOk r c n) : (namLo c : Int) ≤ n ∧ n ≤ (namHi c : Int) := by
  rcases h with ⟨h, K, I, _, _, h1, h2, h3, h4, rfl⟩ | ⟨h, h', X, I, _, _, h1, h2, _, rfl⟩ | ⟨h, h', X0, X1, X2, _, _, _, ⟨h1, _⟩, h2, h3, _, rfl⟩ | ⟨h, W, _, h1, rfl⟩
  · have e : Nat.blt c 12 = true := by rw [Nat.blt_eq]; exact h
    unfold namLo namHi
    rw [e]
    have := kf_bnd (c := c - 8) h1 h2 h3 h4
    simp only [cond_true]
    omega
  · have e : Nat.blt c 12 = false := by rw [← Bool.not_eq_true, Nat.blt_eq]; omega
    have e' : Nat.blt c 16 = false := by rw [← Bool.not_eq_true, Nat.blt_eq]; omega
    unfold namLo namHi
    rw [e, e']
    simp only [cond_false]
    omega
  · have e : Nat.blt c 12 = false := by rw [← Bool.not_eq_true, Nat.blt_eq]; omega
    have e' : Nat.blt c 16 = false := by rw [← Bool.not_eq_true, Nat.blt_eq]; omega
    unfold namLo namHi
    rw [e, e']
    have : selX (c % 4) X0 X1 X2 ≤ 39 := by unfold selX; split <;> omega
    simp only [cond_false]
    omega
  · have e : Nat.blt c 12 = false := by rw [← Bool.not_eq_true, Nat.blt_eq]; omega
    have e' : Nat.blt c 16 = true := by rw [Nat.blt_eq]; exact h.2
    unfold namLo namHi
    rw [e, e']
    simp only [cond_false, cond_true]
    omega
theorem ltN_sound {r : Emb} {c : Nat} {n b : Int} (h : NamOk r c n) {t : Bool} (he : ltN c b = some t) : ltI n b = t := by
  obtain ⟨h1, h2⟩ := nam_bnd h
  unfold ltN at he
  simp only [ltI_eq] at he ⊢
  cases h3 : decide (Int.ofNat (namHi c) < b)
  · rw [h3] at he
    simp only [cond_false] at he
    cases h4 : decide (Int.ofNat (namLo c) < b) <;> simp only [h4, cond_true, cond_false, reduceCtorEq, Option.some.injEq] at he
    subst he
    simp at h3 h4 ⊢
    omega
  · rw [h3] at he
    simp only [cond_true, Option.some.injEq] at he
    subst he
    simp at h3 ⊢
    omega
theorem gtN_sound {r : Emb} {c : Nat} {n b : Int} (h : NamOk r c n) {t : Bool} (he : gtN c b = some t) : ltI b n = t := by
  obtain ⟨h1, h2⟩ := nam_bnd h
  unfold gtN at he
  simp only [ltI_eq] at he ⊢
  cases h3 : decide (b < Int.ofNat (namLo c))
  · rw [h3] at he
    simp only [cond_false] at he
    cases h4 : decide (b < Int.ofNat (namHi c)) <;> simp only [h4, cond_true, cond_false, reduceCtorEq, Option.some.injEq] at he
    subst he
    simp at h3 h4 ⊢
    omega
  · rw [h3] at he
    simp only [cond_true, Option.some.injEq] at he
    subst he
    simp at h3 ⊢
    omega
theorem litTab_sound {l X b : Nat} (h : litOk l X) {t : Bool} (he : litTab l b = some t) : (X == b) = t := by
  unfold litTab at he
  unfold litOk at h
  split at he
  · cases hb : (Nat.beq b 0 || (Nat.beq b 1 || Nat.beq b 3)) <;> simp only [hb, cond_true, cond_false, reduceCtorEq, Option.some.injEq] at he
    subst he
    simp only [Bool.or_eq_true] at hb
    simp only [beq_eq_false_iff_ne, ne_eq]
    rcases hb with hb | hb | hb <;> (have := Nat.eq_of_beq_eq_true hb; simp only at h; omega)
  · simp only [Option.some.injEq] at he
    subst he
    simp only at h
    subst h
    rw [Bool.eq_iff_iff, beq_iff_eq]
    exact ⟨fun e => by rw [← e]; rfl, fun e => (Nat.eq_of_beq_eq_true e).symm⟩
  · simp only [Option.some.injEq] at he
    subst he
    simp only at h
    subst h
    rw [Bool.eq_iff_iff, beq_iff_eq]
    exact ⟨fun e => by rw [← e]; rfl, fun e => (Nat.eq_of_beq_eq_true e).symm⟩
  · simp only [Option.some.injEq] at he
    subst he
    simp only at h
    subst h
    rw [Bool.eq_iff_iff, beq_iff_eq]
    exact ⟨fun e => by rw [← e]; rfl, fun e => (Nat.eq_of_beq_eq_true e).symm⟩
  · cases he
theorem litQ_sound {r : Emb} {c : Nat} {n b : Int} (h : NamOk r c n) {t : Bool} (he : litQ c b = some t) : eqI n b = t := by
  obtain ⟨h1, h2⟩ := nam_bnd h
  unfold litQ at he
  simp only [ltI_eq] at he
  rw [eqI_eq]
  cases h3 : (decide (b < Int.ofNat (namLo c)) || decide (Int.ofNat (namHi c) < b))
  · rw [h3] at he
    simp only [cond_false] at he
    split at he
    · rename_i b
      cases h4 : Nat.ble 32 c <;> simp only [h4, cond_true, cond_false, reduceCtorEq] at he
      have h32 := Nat.le_of_ble_eq_true h4
      rcases h with ⟨h, _⟩ | ⟨h, h', _⟩ | ⟨h, h', X0, X1, X2, _, _, _, ⟨k1, _⟩, k2, k3, ⟨⟨p1, p2, p3⟩, _⟩, rfl⟩ | ⟨h, _⟩
      rotate_left 3
      · omega
      · omega
      · omega
      · have key : litOk (litD c) (selX (c % 4) X0 X1 X2) := by
          unfold litD
          have e1 : Nat.mod c 4 = c % 4 := rfl
          have e2 : Nat.div (Nat.sub c 32) 4 = (c - 32) / 4 := rfl
          rw [e1, e2]
          have h3 : c % 4 = 0 ∨ c % 4 = 1 ∨ c % 4 = 2 := by omega
          rcases h3 with h3 | h3 | h3 <;> rw [h3]
          · exact p1
          · exact p2
          · exact p3
        have := litTab_sound key he
        rw [← this]
        rw [Bool.eq_iff_iff, beq_iff_eq, beq_iff_eq]
        constructor
        · intro e; simp at e; omega
        · intro e; simp; omega
    · cases he
  · rw [h3] at he
    simp only [cond_true, Option.some.injEq] at he
    subst he
    simp at h3
    simp only [beq_eq_false_iff_ne, ne_eq]
    omega
theorem eqNN_sound {r : Emb} {c c' : Nat} {n n' : Int} (h : NamOk r c n) (h' : NamOk r c' n') {t : Bool} (he : eqNN c c' = some t) : eqI n n' = t := by
  unfold eqNN at he
  rw [eqI_eq]
  cases h0 : Nat.beq c c'
  · rw [h0] at he
    simp only [cond_false] at he
    cases h1 : (Nat.ble 32 c && (Nat.ble 32 c' && Nat.beq (Nat.div (Nat.sub c 32) 4) (Nat.div (Nat.sub c' 32) 4))) <;> simp only [h1, cond_true, cond_false, reduceCtorEq] at he
    simp only [Bool.and_eq_true] at h1
    have a1 := Nat.le_of_ble_eq_true h1.1
    have a2 := Nat.le_of_ble_eq_true h1.2.1
    have a3 : (c - 32) / 4 = (c' - 32) / 4 := Nat.eq_of_beq_eq_true h1.2.2
    rcases h with ⟨h, _⟩ | ⟨h, q, _⟩ | ⟨h, q, X0, X1, X2, g0, g1, g2, ⟨k1, _⟩, k2, k3, ⟨_, p1, p2, p3⟩, rfl⟩ | ⟨h, _⟩
    rotate_left 3
    · omega
    · omega
    · omega
    rcases h' with ⟨h', _⟩ | ⟨h', q', _⟩ | ⟨h', q', Y0, Y1, Y2, j0, j1, j2, _, _, _, _, rfl⟩ | ⟨h', _⟩
    rotate_left 3
    · omega
    · omega
    · omega
    rw [g0] at j0; rw [g1] at j1; rw [g2] at j2
    cases j0; cases j1; cases j2
    have e1 : ∀ a, Nat.mod a 4 = a % 4 := fun _ => rfl
    have e2 : Nat.div (Nat.sub c 32) 4 = (c - 32) / 4 := rfl
    have e3 : ∀ a b, Nat.mod (Nat.div ((c - 32) / 4) a) b = (c - 32) / 4 / a % b := fun _ _ => rfl
    rw [e1, e1, e2] at he
    have fin : ∀ (e X Y : Nat), eqOk e X Y → (match e with | 1 => some true | 2 => some false | _ => none : Option Bool) = some t → ((X : Int) == (Y : Int)) = t := by
      intro e X Y h1 h2
      unfold eqOk at h1
      split at h2
      · simp only [Option.some.injEq] at h2
        subst h2
        simp only at h1
        simp only [beq_iff_eq]
        omega
      · simp only [Option.some.injEq] at h2
        subst h2
        simp only at h1
        simp only [beq_eq_false_iff_ne, ne_eq]
        omega
      · cases h2
    have sy : ∀ (X Y : Nat), ((X : Int) == (Y : Int)) = t → ((Y : Int) == (X : Int)) = t := fun X Y e => by rw [← e, Bool.eq_iff_iff, beq_iff_eq, beq_iff_eq]; exact eq_comm
    have hj : c % 4 = 0 ∨ c % 4 = 1 ∨ c % 4 = 2 := by omega
    have hk : c' % 4 = 0 ∨ c' % 4 = 1 ∨ c' % 4 = 2 := by omega
    rcases hj with hj | hj | hj <;> rcases hk with hk | hk | hk <;> rw [hj, hk] at he <;> rw [hj, hk] <;> simp only [pairD, e3, reduceCtorEq] at he
    · exact fin _ _ _ p1 he
    · exact fin _ _ _ p2 he
    · exact sy _ _ (fin _ _ _ p1 he)
    · exact fin _ _ _ p3 he
    · exact sy _ _ (fin _ _ _ p2 he)
    · exact sy _ _ (fin _ _ _ p3 he)
  · rw [h0] at he
    simp only [cond_true, Option.some.injEq] at he
    subst he
    obtain rfl := Nat.eq_of_beq_eq_true h0
    have : n = n' := by
      rcases h with ⟨h, K, I, g1, g2, _, _, _, _, rfl⟩ | ⟨h, q, X, I, g1, g2, _, _, _, rfl⟩ | ⟨h, q, X0, X1, X2, g0, g1, g2, _, _, _, _, rfl⟩ | ⟨h, W, g1, _, rfl⟩
      · rcases h' with ⟨h', K', I', j1, j2, _, _, _, _, rfl⟩ | ⟨h', q', _⟩ | ⟨h', q', _⟩ | ⟨h', _⟩
        · rw [g1] at j1; rw [g2] at j2; cases j1; cases j2; rfl
        · omega
        · omega
        · omega
      · rcases h' with ⟨h', _⟩ | ⟨h', q', X', I', j1, j2, _, _, _, rfl⟩ | ⟨h', q', _⟩ | ⟨h', _⟩
        · omega
        · rw [g1] at j1; cases j1; rfl
        · omega
        · omega
      · rcases h' with ⟨h', _⟩ | ⟨h', q', _⟩ | ⟨h', q', Y0, Y1, Y2, j0, j1, j2, _, _, _, _, rfl⟩ | ⟨h', _⟩
        · omega
        · omega
        · rw [g0] at j0; rw [g1] at j1; rw [g2] at j2
          cases j0; cases j1; cases j2; rfl
        · omega
      · rcases h' with ⟨h', _⟩ | ⟨h', q', _⟩ | ⟨h', q', _⟩ | ⟨h', W', j1, _, rfl⟩
        · omega
        · omega
        · omega
        · rw [g1] at j1; cases j1; rfl
    simpa using this
theorem wOf_sound {r : Emb} {c : Nat} {n : Int} {I z y : Nat} (h : NamOk r c n) (hI : r labI = some (I, z, y)) : wOf c = 0 ∨ (z = 0 ∧ ∃ X : Nat, n = X ∧ relW (wOf c) X I) := by
  unfold wOf
  cases h0 : (Nat.ble 16 c && Nat.blt c 28)
  · exact .inl rfl
  · simp only [Bool.and_eq_true, Nat.blt_eq] at h0
    have a1 := Nat.le_of_ble_eq_true h0.1
    rcases h with ⟨h, _⟩ | ⟨h, q, X, I', g1, g2, _, _, g3, rfl⟩ | ⟨h, q, _⟩ | ⟨h, _⟩
    · omega
    · rw [hI] at g2
      cases g2
      exact .inr ⟨rfl, X, rfl, g3⟩
    · omega
    · omega
theorem eqW_sound {w X I : Nat} (h : relW w X I) {t : Bool} (he : eqW w = some t) : eqI (X : Int) (I : Int) = t := by
  rw [eqI_eq]
  unfold eqW at he
  unfold relW at h
  split at he
  · cases he
  · simp only [Option.some.injEq] at he; subst he; simp only at h; simp only [beq_iff_eq]; omega
  · simp only [Option.some.injEq] at he
    subst he
    simp only [beq_eq_false_iff_ne, ne_eq]
    split at h
    · rename_i hn _; exact (hn rfl).elim
    · rename_i hn; exact (hn rfl).elim
    · omega
    · omega
theorem ltW_sound {w X I : Nat} (h : relW w X I) {t : Bool} (he : ltW w = some t) : ltI (X : Int) (I : Int) = t := by
  rw [ltI_eq]
  unfold ltW at he
  unfold relW at h
  split at he
  · simp only [Option.some.injEq] at he; subst he; simp only at h; simp; omega
  · simp only [Option.some.injEq] at he; subst he; simp only at h; simp; omega
  · cases he
theorem gtW_sound {w X I : Nat} (h : relW w X I) {t : Bool} (he : gtW w = some t) : ltI (I : Int) (X : Int) = t := by
  rw [ltI_eq]
  unfold gtW at he
  unfold relW at h
  split at he
  · simp only [Option.some.injEq] at he; subst he; simp only at h; simp; omega
  · simp only [Option.some.injEq] at he; subst he; simp only at h; simp; omega
  · cases he
theorem eqI_comm (a b : Int) : eqI a b = eqI b a := by
  rw [eqI_eq, eqI_eq, Bool.eq_iff_iff, beq_iff_eq, beq_iff_eq]
  exact eq_comm
/-- What is known of an operation is so. -/
theorem kfB_sound {r : Emb} {op : BinOp} {x y v : V} (he : kfB op x y = some v) {a c : Value} (hx : VRel r x a) (hy : VRel r y c) :
    ∃ n m v0, a = .int .i64 n ∧ c = .int .i64 m ∧ intB op .i64 n m = some v0 ∧ ∀ z, VRel r v0 z → VRel r v z := by
  have bo : ∀ {o : Option Bool} {u : Bool}, obool o = some v → (∀ t, o = some t → u = t) → ∀ z, VRel r (.bool u) z → VRel r v z := fun h h' z hz => by
    obtain ⟨b, h1, rfl⟩ := obool_some h
    rw [h' b h1] at hz
    exact hz
  have bn : ∀ {o : Option Bool} {u : Bool}, onot o = some v → (∀ t, o = some t → u = t) → ∀ z, VRel r (.bool (!u)) z → VRel r v z := fun h h' z hz => by
    obtain ⟨b, h1, rfl⟩ := onot_some h
    rw [h' b h1] at hz
    exact hz
  have small : ∀ k : Nat, k < 4294967296 → IntKind.i64.wrap (k : Int) = k := fun k h => wrap_small IntKind.i64 k (by show k ≤ 9223372036854775807; omega)
  unfold kfB at he
  split at he
  · rename_i m c' b
    cases hb : (Nat.beq m 0 && isNum c') <;> simp only [hb, cond_true, cond_false, reduceCtorEq] at he
    simp only [Bool.and_eq_true] at hb
    obtain rfl := Nat.eq_of_beq_eq_true hb.1
    obtain ⟨h8, n, rfl, hn⟩ := nam_inv hx hb.2
    cases hy
    unfold namL at he
    split at he
    · cases hc : (Nat.beq c' 8 && eqI b (.ofNat 3)) <;> simp only [hc, cond_true, cond_false, reduceCtorEq, Option.some.injEq] at he
      subst he
      simp only [Bool.and_eq_true, eqI_eq, beq_iff_eq] at hc
      obtain rfl := Nat.eq_of_beq_eq_true hc.1
      obtain rfl := hc.2
      rcases hn with ⟨h, K, I, g1, g2, g3, g4, g5, g6, rfl⟩ | ⟨h, _⟩ | ⟨h, _⟩ | ⟨h, _⟩
      · refine ⟨_, _, _, rfl, rfl, rfl, fun z hz => ?_⟩
        have e : mulI .i64 ((kfOf (8 - 8) K I : Nat) : Int) (Int.ofNat 3) = ((kfOf (9 - 8) K I : Nat) : Int) := by
          rw [mulI_eq]
          show IntKind.i64.wrap (((K : Nat) : Int) * 3) = (((3 * K : Nat)) : Int)
          rw [← small (3 * K) (by omega)]
          congr 1
          omega
        rw [e] at hz
        cases hz
        exact .nam (by omega) (.inl ⟨by omega, K, I, g1, g2, g3, g4, g5, g6, rfl⟩)
      · omega
      · omega
      · omega
    · cases hc : (Nat.beq c' 9 && eqI b (.ofNat 3)) <;> simp only [hc, cond_true, cond_false, reduceCtorEq, Option.some.injEq] at he
      subst he
      simp only [Bool.and_eq_true, eqI_eq, beq_iff_eq] at hc
      obtain rfl := Nat.eq_of_beq_eq_true hc.1
      obtain rfl := hc.2
      rcases hn with ⟨h, K, I, g1, g2, g3, g4, g5, g6, rfl⟩ | ⟨h, _⟩ | ⟨h, _⟩ | ⟨h, _⟩
      · refine ⟨_, _, .int .i64 ((kfOf (8 - 8) K I : Nat) : Int), rfl, rfl, ?_, fun z hz => ?_⟩
        · have h0 : eqI (.ofNat 3) (.ofNat 0) = false := by rw [eqI_eq]; rfl
          simp only [intB, h0, cond_false, quoI_eq]
          have : Int.tdiv ((kfOf (9 - 8) K I : Nat) : Int) (Int.ofNat 3) = ((K : Nat) : Int) := by
            show Int.tdiv (((3 * K : Nat)) : Int) 3 = _
            rw [Int.tdiv_eq_ediv_of_nonneg (by omega)]
            omega
          rw [this, small K (by omega)]
          rfl
        · cases hz
          exact .nam (by omega) (.inl ⟨by omega, K, I, g1, g2, g3, g4, g5, g6, rfl⟩)
      · omega
      · omega
      · omega
    · cases hc : (Nat.beq c' 10 && eqI b (.ofNat 10007)) <;> simp only [hc, cond_true, cond_false, reduceCtorEq, Option.some.injEq] at he
      subst he
      simp only [Bool.and_eq_true, eqI_eq, beq_iff_eq] at hc
      obtain rfl := Nat.eq_of_beq_eq_true hc.1
      obtain rfl := hc.2
      rcases hn with ⟨h, K, I, g1, g2, g3, g4, g5, g6, rfl⟩ | ⟨h, _⟩ | ⟨h, _⟩ | ⟨h, _⟩
      · refine ⟨_, _, .int .i64 ((kfOf (11 - 8) K I : Nat) : Int), rfl, rfl, ?_, fun z hz => ?_⟩
        · have h0 : eqI (.ofNat 10007) (.ofNat 0) = false := by rw [eqI_eq]; rfl
          simp only [intB, h0, cond_false, remI_eq]
          have : Int.tmod ((kfOf (10 - 8) K I : Nat) : Int) (Int.ofNat 10007) = ((kfOf (11 - 8) K I : Nat) : Int) := by
            show Int.tmod (((3 * K + I : Nat)) : Int) 10007 = (((3 * K + I) % 10007 : Nat) : Int)
            rw [Int.tmod_eq_emod_of_nonneg (by omega)]
            omega
          rw [this]
        · cases hz
          exact .nam (by omega) (.inl ⟨by omega, K, I, g1, g2, g3, g4, g5, g6, rfl⟩)
      · omega
      · omega
      · omega
    · exact ⟨_, _, _, rfl, rfl, rfl, bo he fun t ht => litQ_sound hn ht⟩
    · exact ⟨_, _, _, rfl, rfl, rfl, bn he fun t ht => litQ_sound hn ht⟩
    · exact ⟨_, _, _, rfl, rfl, rfl, bo he fun t ht => ltN_sound hn ht⟩
    · exact ⟨_, _, _, rfl, rfl, rfl, bn he fun t ht => gtN_sound hn ht⟩
    · exact ⟨_, _, _, rfl, rfl, rfl, bo he fun t ht => gtN_sound hn ht⟩
    · exact ⟨_, _, _, rfl, rfl, rfl, bn he fun t ht => ltN_sound hn ht⟩
    · cases he
  · rename_i b m c'
    cases hb : (Nat.beq m 0 && isNum c') <;> simp only [hb, cond_true, cond_false, reduceCtorEq] at he
    simp only [Bool.and_eq_true] at hb
    obtain rfl := Nat.eq_of_beq_eq_true hb.1
    obtain ⟨h8, n, rfl, hn⟩ := nam_inv hy hb.2
    cases hx
    unfold namR at he
    split at he
    · exact ⟨_, _, _, rfl, rfl, rfl, bo he fun t ht => by rw [eqI_comm]; exact litQ_sound hn ht⟩
    · exact ⟨_, _, _, rfl, rfl, rfl, bn he fun t ht => by rw [eqI_comm]; exact litQ_sound hn ht⟩
    · exact ⟨_, _, _, rfl, rfl, rfl, bo he fun t ht => gtN_sound hn ht⟩
    · exact ⟨_, _, _, rfl, rfl, rfl, bn he fun t ht => ltN_sound hn ht⟩
    · exact ⟨_, _, _, rfl, rfl, rfl, bo he fun t ht => ltN_sound hn ht⟩
    · exact ⟨_, _, _, rfl, rfl, rfl, bn he fun t ht => gtN_sound hn ht⟩
    · cases he
  · rename_i m c1 m' c2
    cases hb : ((Nat.beq m 0 && isNum c1) && (Nat.beq m' 0 && isNum c2)) <;> simp only [hb, cond_true, cond_false, reduceCtorEq] at he
    simp only [Bool.and_eq_true] at hb
    obtain rfl := Nat.eq_of_beq_eq_true hb.1.1
    obtain rfl := Nat.eq_of_beq_eq_true hb.2.1
    obtain ⟨_, n, rfl, hn⟩ := nam_inv hx hb.1.2
    obtain ⟨_, n', rfl, hn'⟩ := nam_inv hy hb.2.2
    unfold namN at he
    split at he
    · exact ⟨_, _, _, rfl, rfl, rfl, bo he fun t ht => eqNN_sound hn hn' ht⟩
    · exact ⟨_, _, _, rfl, rfl, rfl, bn he fun t ht => eqNN_sound hn hn' ht⟩
    · cases he
  · rename_i m c1 m' q
    cases hb : ((Nat.beq m 0 && isNum c1) && (Nat.beq m' 0 && isI q)) <;> simp only [hb, cond_true, cond_false, reduceCtorEq] at he
    simp only [Bool.and_eq_true] at hb
    obtain rfl := Nat.eq_of_beq_eq_true hb.1.1
    obtain rfl := Nat.eq_of_beq_eq_true hb.2.1
    obtain ⟨_, n, rfl, hn⟩ := nam_inv hx hb.1.2
    obtain ⟨I, z, y, rfl, hI⟩ := symI_inv hy hb.2.2
    have zero : ∀ {t : Bool} {f : Nat → Option Bool}, f 0 = none → f (wOf c1) = some t → z = 0 ∧ ∃ X : Nat, n = X ∧ relW (wOf c1) X I := fun h0 h => by
      rcases wOf_sound hn hI with e | e
      · rw [e, h0] at h; cases h
      · exact e
    unfold namI at he
    split at he
    · cases hc : Nat.beq c1 9 <;> simp only [hc, cond_true, cond_false, reduceCtorEq, Option.some.injEq] at he
      subst he
      obtain rfl := Nat.eq_of_beq_eq_true hc
      rcases hn with ⟨h, K, I', g1, g2, g3, g4, g5, g6, rfl⟩ | ⟨h, _⟩ | ⟨h, _⟩ | ⟨h, _⟩
      · rw [hI] at g2
        cases g2
        refine ⟨_, _, _, rfl, rfl, rfl, fun z hz => ?_⟩
        have e : addI .i64 ((kfOf (9 - 8) K I : Nat) : Int) ((I : Int) - (0 : Nat)) = ((kfOf (10 - 8) K I : Nat) : Int) := by
          rw [addI_eq]
          show IntKind.i64.wrap ((((3 * K : Nat)) : Int) + ((I : Int) - (0 : Nat))) = (((3 * K + I : Nat)) : Int)
          rw [← small (3 * K + I) (by omega)]
          congr 1
          try omega
        rw [e] at hz
        cases hz
        exact .nam (by omega) (.inl ⟨by omega, K, I, g1, hI, g3, g4, g5, g6, rfl⟩)
      · omega
      · omega
      · omega
    · exact ⟨_, _, _, rfl, rfl, rfl, bo he fun t ht => by obtain ⟨rfl, X, rfl, hw⟩ := zero rfl ht; simpa using eqW_sound hw ht⟩
    · exact ⟨_, _, _, rfl, rfl, rfl, bn he fun t ht => by obtain ⟨rfl, X, rfl, hw⟩ := zero rfl ht; simpa using eqW_sound hw ht⟩
    · exact ⟨_, _, _, rfl, rfl, rfl, bo he fun t ht => by obtain ⟨rfl, X, rfl, hw⟩ := zero rfl ht; simpa using ltW_sound hw ht⟩
    · exact ⟨_, _, _, rfl, rfl, rfl, bn he fun t ht => by obtain ⟨rfl, X, rfl, hw⟩ := zero rfl ht; simpa using gtW_sound hw ht⟩
    · exact ⟨_, _, _, rfl, rfl, rfl, bo he fun t ht => by obtain ⟨rfl, X, rfl, hw⟩ := zero rfl ht; simpa using gtW_sound hw ht⟩
    · exact ⟨_, _, _, rfl, rfl, rfl, bn he fun t ht => by obtain ⟨rfl, X, rfl, hw⟩ := zero rfl ht; simpa using ltW_sound hw ht⟩
    · cases he
  · rename_i m' q m c1
    cases hb : ((Nat.beq m 0 && isNum c1) && (Nat.beq m' 0 && isI q)) <;> simp only [hb, cond_true, cond_false, reduceCtorEq] at he
    simp only [Bool.and_eq_true] at hb
    obtain rfl := Nat.eq_of_beq_eq_true hb.1.1
    obtain rfl := Nat.eq_of_beq_eq_true hb.2.1
    obtain ⟨_, n, rfl, hn⟩ := nam_inv hy hb.1.2
    obtain ⟨I, z, y, rfl, hI⟩ := symI_inv hx hb.2.2
    have zero : ∀ {t : Bool} {f : Nat → Option Bool}, f 0 = none → f (wOf c1) = some t → z = 0 ∧ ∃ X : Nat, n = X ∧ relW (wOf c1) X I := fun h0 h => by
      rcases wOf_sound hn hI with e | e
      · rw [e, h0] at h; cases h
      · exact e
    unfold namJ at he
    split at he
    · exact ⟨_, _, _, rfl, rfl, rfl, bo he fun t ht => by obtain ⟨rfl, X, rfl, hw⟩ := zero rfl ht; rw [eqI_comm]; simpa using eqW_sound hw ht⟩
    · exact ⟨_, _, _, rfl, rfl, rfl, bn he fun t ht => by obtain ⟨rfl, X, rfl, hw⟩ := zero rfl ht; rw [eqI_comm]; simpa using eqW_sound hw ht⟩
    · exact ⟨_, _, _, rfl, rfl, rfl, bo he fun t ht => by obtain ⟨rfl, X, rfl, hw⟩ := zero rfl ht; simpa using gtW_sound hw ht⟩
    · exact ⟨_, _, _, rfl, rfl, rfl, bn he fun t ht => by obtain ⟨rfl, X, rfl, hw⟩ := zero rfl ht; simpa using ltW_sound hw ht⟩
    · exact ⟨_, _, _, rfl, rfl, rfl, bo he fun t ht => by obtain ⟨rfl, X, rfl, hw⟩ := zero rfl ht; simpa using ltW_sound hw ht⟩
    · exact ⟨_, _, _, rfl, rfl, rfl, bn he fun t ht => by obtain ⟨rfl, X, rfl, hw⟩ := zero rfl ht; simpa using gtW_sound hw ht⟩
    · cases he
  · rename_i m q b
    cases hb : (Nat.beq m 0 && Nat.beq (Nat.mod q 4) 1) <;> simp only [hb, cond_true, cond_false, reduceCtorEq] at he
    simp only [Bool.and_eq_true] at hb
    obtain rfl := Nat.eq_of_beq_eq_true hb.1
    obtain ⟨n, rfl, h1, h2, _⟩ := symK_inv hx (Nat.eq_of_beq_eq_true hb.2)
    cases hy
    unfold symL at he
    split at he
    · cases hc : ltI (Int.ofNat (sHi (Nat.div q 4))) b <;> simp only [hc, cond_true, cond_false, reduceCtorEq, Option.some.injEq] at he
      subst he
      refine ⟨_, _, .bool false, rfl, rfl, ?_, fun z hz => hz⟩
      rw [ltI_eq] at hc
      have hc' : (sHi (q / 4) : Int) < b := of_decide_eq_true hc
      simp only [intB, ltI_eq, Option.some.injEq, V.bool.injEq, decide_eq_false_iff_not]
      omega
    · cases hc : ltI b (Int.ofNat (sLo (Nat.div q 4))) <;> simp only [hc, cond_true, cond_false, reduceCtorEq, Option.some.injEq] at he
      subst he
      refine ⟨_, _, .bool false, rfl, rfl, ?_, fun z hz => hz⟩
      rw [ltI_eq] at hc
      have hc' : b < (sLo (q / 4) : Int) := of_decide_eq_true hc
      simp only [intB, ltI_eq, Option.some.injEq, V.bool.injEq, decide_eq_false_iff_not]
      omega
    · cases he
  · cases he

/-- What hangs on the outer names alone. -/
theorem nam_up {r r2 : Emb} {c : Nat} (hc : c = 12 ∨ 32 ≤ c) (h0 : ∀ x, r 10 = some x → r2 10 = some x) (h1 : ∀ x, r 11 = some x → r2 11 = some x) (h2 : ∀ x, r 12 = some x → r2 12 = some x) (h3 : ∀ x, r 13 = some x → r2 13 = some x) {a : Value} (h : VRel r (.cl1 0 c) a) : VRel r2 (.cl1 0 c) a := by
  have key : ∀ {p : Nat} {q : Nat → Nat → Nat → Prop}, NpOk r p q → NpOk r2 p q := fun ⟨X0, X1, X2, g0, g1, g2, ⟨g3, g5⟩, g4⟩ => ⟨X0, X1, X2, h0 _ g0, h1 _ g1, h2 _ g2, ⟨g3, h3 _ g5⟩, g4⟩
  by_cases h3' : c % 4 = 3 ∧ 32 ≤ c
  · obtain ⟨s, rfl, hs⟩ := nsrc_inv h h3'.2 h3'.1
    exact .nsrc (by omega) ⟨hs.1, hs.2.1, key hs.2.2⟩
  · obtain ⟨h8, n, rfl, hn⟩ := nam_inv h (by
      unfold isNum
      have e1 : Nat.ble 8 c = true := by rw [Nat.ble_eq]; omega
      rw [e1, Bool.true_and, Bool.or_eq_true]
      rcases hc with rfl | hc
      · exact .inl rfl
      · refine .inr ?_
        rw [Nat.blt_eq]
        have : c % 4 < 3 := by omega
        exact this)
    refine .nam h8 ?_
    rcases hn with ⟨q, _⟩ | ⟨q, q', _⟩ | ⟨q, q', hn⟩ | ⟨q, W, hn, hw⟩
    · omega
    · omega
    · exact .inr (.inr (.inl ⟨q, q', key hn⟩))
    · have e : c = 12 := by omega
      subst e
      exact .inr (.inr (.inr ⟨q, W, h3 _ hn, hw⟩))

end Go.Ev

namespace Go.Ev

variable {P : Program}

def kc (k : IntKind) : Nat := IntKind.casesOn k 0 1 2 3 4 5 6 7
theorem kc_inj {k k' : IntKind} (h : Nat.beq (kc k) (kc k') = true) : k = k' := by
  have := Nat.eq_of_beq_eq_true h
  cases k <;> cases k' <;> first | rfl | (simp [kc] at this)

def isShift (op : BinOp) : Bool := match op with | .shl | .shr => true | _ => false

/-- Are two addresses one? -/
def sameV (h : H) (id o id' o' : Nat) : Option Bool :=
  bif Nat.beq id id' then some (Nat.beq o o')
  else match h.mem.blk id, h.mem.blk id' with
    | .live _ _ ro1 true _, .live _ _ ro2 true _ => bif Nat.blt id 65536 && (Nat.blt id' 65536 && !(ro1 && ro2)) then some false else none
    | _, _ => none

def ptrEq (P : Program) (h : H) (t : TypeId) (x y : V) : Option Bool :=
  match P.underlying t with
  | some (.pointer e) =>
    match x, y with
    | .nilp, .nilp => some true
    | .nilp, .ptr _ _ => some false
    | .ptr _ _, .nilp => some false
    | .ptr id o, .ptr id' o' =>
      match P.info? e with
      | some i => bif Nat.beq i.size 0 then none else sameV h id o id' o'
      | none => none
    | _, _ => none
  | _ => none

theorem sameV_sound {r : Emb} {h : H} {w : World} (hr : Rel r h w) {id o id' o' : Nat} {b : Bool} (he : sameV h id o id' o' = some b) {x y : Addr}
    (hx : VRel r (.ptr id o) (.pointer (some x))) (hy : VRel r (.ptr id' o') (.pointer (some y))) : (sameAddr x y).run P w = .ok b w := by
  cases hx with
  | @ptr _ _ b1 sh1 c1 h1 =>
    cases hy with
    | @ptr _ _ b2 sh2 c2 h2 =>
      unfold sameV at he
      cases e : Nat.beq id id'
      · rw [e] at he
        simp only [cond_false] at he
        split at he
        · rename_i n1 t1 ro1 ce1 n2 t2 ro2 ce2 hb1 hb2
          cases hlt : (Nat.blt id 65536 && (Nat.blt id' 65536 && !(ro1 && ro2))) <;> simp only [hlt, cond_true, cond_false, reduceCtorEq, Option.some.injEq] at he
          subst he
          simp only [Bool.and_eq_true, Nat.blt_eq] at hlt
          obtain ⟨hlt1, hlt2, hro⟩ := hlt
          have hlt : id < 65536 ∧ id' < 65536 := ⟨hlt1, hlt2⟩
          have hro : ro1 = false ∨ ro2 = false := by cases ro1 <;> cases ro2 <;> simp at hro ⊢
          obtain ⟨b1', sh1', c1', g1, ⟨⟨cs1, fz1, ⟨_, g2, _⟩, _, _, g5, _⟩, _, _⟩⟩ := hr.blk id n1 t1 ro1 true ce1 hlt.1 hb1
          obtain ⟨b2', sh2', c2', k1, ⟨⟨cs2, fz2, ⟨_, k2, _⟩, _, _, k5, _⟩, _, _⟩⟩ := hr.blk id' n2 t2 ro2 true ce2 hlt.2 hb2
          rw [h1] at g1
          cases g1
          rw [h2] at k1
          cases k1
          have hne : b1 ≠ b2 := fun e2 => by
            have := hr.inj id id' b1 sh1 c1 sh2 c2 (live_of hlt.1 hb1) (live_of hlt.2 hb2) (by
              rw [hb1, hb2]
              simp only [ownB, Bool.not_eq_true']
              simpa using hro) h1 (by rw [e2]; exact h2)
            subst this
            simp at e
          rw [g5 rfl] at g2
          rw [k5 rfl] at k2
          exact run_sameAddr_other w (a := ⟨b1, o + sh1, none⟩) (b := ⟨b2, o' + sh2, none⟩) (by intro e3; exact hne (congrArg Addr.block e3)) g2 k2
        · simp at he
      · rw [e] at he
        simp only [cond_true, Option.some.injEq] at he
        have e' := Nat.eq_of_beq_eq_true e
        subst e'
        rw [h1] at h2
        cases h2
        subst he
        have : (({ block := b1, off := o + sh1, spot := none } : Addr) == { block := b1, off := o' + sh1, spot := none }) = Nat.beq o o' := by
          rw [Bool.eq_iff_iff, beq_iff_eq]
          constructor
          · intro h
            have e3 : o + sh1 = o' + sh1 := congrArg Addr.off h
            have : o = o' := by omega
            subst this; exact Nat.beq_refl o
          · intro h; rw [Nat.eq_of_beq_eq_true h]
        simp [sameAddr, this]

theorem ptrEq_sound {r : Emb} {h : H} {w : World} (hr : Rel r h w) {t : TypeId} {x y : V} {b : Bool} (he : ptrEq P h t x y = some b) {a c : Value} (hx : VRel r x a) (hy : VRel r y c) :
    (Op.equal t a c).run P w = .ok b w := by
  unfold ptrEq at he
  split at he
  · rename_i e hu
    have key : ∀ d : Nat, (Op.equalIn (d + 1) t a c).run P w = .ok b w := by
      intro d
      split at he
      · cases hx; cases hy
        simp only [Option.some.injEq] at he
        subst he
        simp [Op.equalIn, run_underlying hu]
      · cases hx; cases hy
        simp only [Option.some.injEq] at he
        subst he
        simp [Op.equalIn, run_underlying hu]
      · cases hx; cases hy
        simp only [Option.some.injEq] at he
        subst he
        simp [Op.equalIn, run_underlying hu]
      · split at he
        · rename_i i hi
          cases hz : Nat.beq i.size 0 <;> simp only [hz, cond_true, cond_false, reduceCtorEq] at he
          have hsz : i.size ≠ 0 := fun e0 => by rw [e0] at hz; simp at hz
          cases hx with
          | ptr h1 =>
            cases hy with
            | ptr h2 =>
              have := sameV_sound hr he (.ptr h1) (.ptr h2) (P := P)
              simp [Op.equalIn, run_underlying hu, sizeOf, typeInfo, hi, hsz, this]
        · simp at he
      · simp at he
    simp [Op.equal, Op.maxDepth, key 9999]
  · simp at he

/-- Structs of numbers, texts, bools: equal? -/
def scalEq (P : Program) (t : TypeId) (x y : V) : Option Bool :=
  match P.underlying t, x, y with
  | some (.int _), .int k a, .int k' b => bif Nat.beq (kc k) (kc k') then some (eqI a b) else none
  | some .string, .str n l, .str m k => some (Nat.beq n m && Nat.beq l k)
  | some .bool, .bool a, .bool b => some (a == b)
  | some (.int _), .cl1 0 c, .cl1 0 c' => bif Nat.beq c c' && Nat.blt c 4 then some true else (match kfB .eql (.cl1 0 c) (.cl1 0 c') with | some (.bool b) => some b | _ => none)
  | some (.int _), .cls 0 q, .cls 0 q' => bif Nat.beq q q' && (Nat.beq (Nat.mod q 8) 0 || Nat.beq (Nat.mod q 8) 2) then some true else none
  | some .string, .cls 0 q, .cls 0 q' => bif Nat.beq q q' && Nat.beq (Nat.mod q 8) 1 then some true else none
  | some (.int _), x, y => (match kfB .eql x y with | some (.bool b) => some b | _ => none)
  | _, _, _ => none
def fieldsEqV (P : Program) (xs ys : List V) : List Field → Option Bool
  | [] => some true
  | f :: fs =>
    bif f.name == "_" then none else
    match partV P f.type xs f.offset, partV P f.type ys f.offset with
    | some a, some b => (match scalEq P f.type a b with
      | some true => fieldsEqV P xs ys fs
      | some false => some false
      | none => none)
    | _, _ => none
def structEqV (P : Program) (t : TypeId) (xs ys : List V) : Option Bool :=
  match P.underlying t with
  | some (.struct fs) => bif P.stoodInHeld t || P.eqGuardType P.depth t then none else fieldsEqV P xs ys fs.toList
  | _ => none

/-- What has a name. -/
theorem name0_inv {r : Emb} {q : Nat} {a : Value} (hx : VRel r (.cls 0 q) a) (hq : q % 8 = 0) : ∃ x y z, r (q / 8) = some (x, y, z) ∧ a = .int .i64 ((x : Int) - y) := by
  generalize hv : V.cls 0 q = v at hx
  cases hx with
  | cls hm _ => cases hv; omega
  | @nint id x y z h => cases hv; exact ⟨x, y, z, by rw [show 8 * id / 8 = id by omega]; exact h, rfl⟩
  | nstr _ _ => cases hv; omega
  | nkind _ _ => cases hv; omega
  | nshort _ _ _ => cases hv; omega
  | nlong _ _ => cases hv; omega
  | nle _ => cases hv; omega
  | ngt _ => cases hv; omega
  | _ => cases hv
theorem name1_inv {r : Emb} {q : Nat} {a : Value} (hx : VRel r (.cls 0 q) a) (hq : q % 8 = 1) : ∃ x y z, r (q / 8) = some (x, y, z) ∧ a = .string (sval x y) := by
  generalize hv : V.cls 0 q = v at hx
  cases hx with
  | cls hm _ => cases hv; omega
  | nint _ => cases hv; omega
  | @nstr id x y z h _ => cases hv; exact ⟨x, y, z, by rw [show (8 * id + 1) / 8 = id by omega]; exact h, rfl⟩
  | nkind _ _ => cases hv; omega
  | nshort _ _ _ => cases hv; omega
  | nlong _ _ => cases hv; omega
  | nle _ => cases hv; omega
  | ngt _ => cases hv; omega
  | _ => cases hv
theorem name2_inv {r : Emb} {q : Nat} {a : Value} (hx : VRel r (.cls 0 q) a) (hq : q % 8 = 2) : ∃ x y z, r (q / 8) = some (x, y, z) ∧ x ≤ 7 ∧ a = .int .i64 x := by
  generalize hv : V.cls 0 q = v at hx
  cases hx with
  | cls hm _ => cases hv; omega
  | nint _ => cases hv; omega
  | nstr _ _ => cases hv; omega
  | @nkind id x y z h h7 => cases hv; exact ⟨x, y, z, by rw [show (8 * id + 2) / 8 = id by omega]; exact h, h7, rfl⟩
  | nshort _ _ _ => cases hv; omega
  | nlong _ _ => cases hv; omega
  | nle _ => cases hv; omega
  | ngt _ => cases hv; omega
  | _ => cases hv
theorem name3_inv {r : Emb} {q : Nat} {a : Value} (hx : VRel r (.cls 0 q) a) (hq : q % 8 = 3) : ∃ x y c z o cap, r (q / 8) = some (x, y, c) ∧ z ≤ 50 ∧ ((o = some ⟨x, y, none⟩ ∧ y + cap ≤ c ∧ z ≤ cap) ∨ (z = 0 ∧ cap = 0)) ∧ a = .slice o z cap := by
  generalize hv : V.cls 0 q = v at hx
  cases hx with
  | cls hm _ => cases hv; omega
  | nint _ => cases hv; omega
  | nstr _ _ => cases hv; omega
  | nkind _ _ => cases hv; omega
  | @nshort id x y c z cap o h hz ha => cases hv; exact ⟨x, y, c, z, o, cap, by rw [show (8 * id + 3) / 8 = id by omega]; exact h, hz, ha, rfl⟩
  | nlong _ _ => cases hv; omega
  | nle _ => cases hv; omega
  | ngt _ => cases hv; omega
  | _ => cases hv
theorem name4_inv {r : Emb} {q : Nat} {a : Value} (hx : VRel r (.cls 0 q) a) (hq : q % 8 = 4) : ∃ x y z o cap, r (q / 8) = some (x, y, z) ∧ 50 < z ∧ a = .slice o z cap := by
  generalize hv : V.cls 0 q = v at hx
  cases hx with
  | cls hm _ => cases hv; omega
  | nint _ => cases hv; omega
  | nstr _ _ => cases hv; omega
  | nkind _ _ => cases hv; omega
  | nshort _ _ _ => cases hv; omega
  | @nlong id x y z cap o h hz => cases hv; exact ⟨x, y, z, o, cap, by rw [show (8 * id + 4) / 8 = id by omega]; exact h, hz, rfl⟩
  | nle _ => cases hv; omega
  | ngt _ => cases hv; omega
  | _ => cases hv
theorem name5_inv {r : Emb} {a : Value} (hx : VRel r (.cls 0 5) a) : ∃ n : Nat, n ≤ 50 ∧ a = .int .i64 n := by
  generalize hv : V.cls 0 5 = v at hx
  cases hx with
  | cls hm _ => simp only [V.cls.injEq] at hv; omega
  | nint _ => simp only [V.cls.injEq] at hv; omega
  | nstr _ _ => simp only [V.cls.injEq] at hv; omega
  | nkind _ _ => simp only [V.cls.injEq] at hv; omega
  | nshort _ _ _ => simp only [V.cls.injEq] at hv; omega
  | nlong _ _ => simp only [V.cls.injEq] at hv; omega
  | nle hn => exact ⟨_, hn, rfl⟩
  | ngt _ => simp only [V.cls.injEq] at hv; omega
  | _ => cases hv
theorem name6_inv {r : Emb} {a : Value} (hx : VRel r (.cls 0 6) a) : ∃ n : Nat, 50 < n ∧ a = .int .i64 n := by
  generalize hv : V.cls 0 6 = v at hx
  cases hx with
  | cls hm _ => simp only [V.cls.injEq] at hv; omega
  | nint _ => simp only [V.cls.injEq] at hv; omega
  | nstr _ _ => simp only [V.cls.injEq] at hv; omega
  | nkind _ _ => simp only [V.cls.injEq] at hv; omega
  | nshort _ _ _ => simp only [V.cls.injEq] at hv; omega
  | nlong _ _ => simp only [V.cls.injEq] at hv; omega
  | nle _ => simp only [V.cls.injEq] at hv; omega
  | ngt hn => exact ⟨_, hn, rfl⟩
  | _ => cases hv
theorem llen_inv {r : Emb} {q : Nat} {a : Value} (hx : VRel r (.cl2 0 q) a) (hq : q < 60) : ∃ z : Nat, q < z ∧ z ≤ 60 ∧ a = .int .i64 z := by
  generalize hv : V.cl2 0 q = v at hx
  cases hx with
  | cl2 hm _ => cases hv; omega
  | lslice hL _ _ _ _ => simp only [V.cl2.injEq] at hv; omega
  | llen hj hz _ => cases hv; exact ⟨_, hj, hz, rfl⟩
  | lbig _ => simp only [V.cl2.injEq] at hv; omega
  | lbigl _ => simp only [V.cl2.injEq] at hv; omega
  | lvoid => simp only [V.cl2.injEq] at hv; omega
  | @uint k n _ => simp only [V.cl2.injEq] at hv; have := kq_mod k; omega
  | ustr _ => simp only [V.cl2.injEq] at hv; omega
  | _ => cases hv
theorem lbigl_inv {r : Emb} {a : Value} (hx : VRel r (.cl2 0 62) a) : ∃ z : Nat, 60 < z ∧ a = .int .i64 z := by
  generalize hv : V.cl2 0 62 = v at hx
  cases hx with
  | cl2 hm _ => cases hv; omega
  | lslice hL _ _ _ _ => simp only [V.cl2.injEq] at hv; omega
  | llen _ _ _ => simp only [V.cl2.injEq] at hv; omega
  | lbig _ => simp only [V.cl2.injEq] at hv; omega
  | lbigl hz => exact ⟨_, hz, rfl⟩
  | lvoid => simp only [V.cl2.injEq] at hv; omega
  | @uint k n _ => simp only [V.cl2.injEq] at hv; have := kq_mod k; omega
  | ustr _ => simp only [V.cl2.injEq] at hv; omega
  | _ => cases hv
theorem lvoid_inv {r : Emb} {a : Value} (hx : VRel r (.cl2 0 60) a) : ∃ o : Option Addr, a = .slice o 0 0 := by
  generalize hv : V.cl2 0 60 = v at hx
  cases hx with
  | cl2 hm _ => cases hv; omega
  | lslice hL _ _ _ _ => simp only [V.cl2.injEq] at hv; omega
  | llen _ _ _ => simp only [V.cl2.injEq] at hv; omega
  | lbig _ => simp only [V.cl2.injEq] at hv; omega
  | lbigl _ => simp only [V.cl2.injEq] at hv; omega
  | lvoid => exact ⟨_, rfl⟩
  | @uint k n _ => simp only [V.cl2.injEq] at hv; have := kq_mod k; omega
  | ustr _ => simp only [V.cl2.injEq] at hv; omega
  | _ => cases hv
theorem lbig_inv {r : Emb} {a : Value} (hx : VRel r (.cl2 0 61) a) : ∃ (o : Option Addr) (z cap : Nat), 60 < z ∧ a = .slice o z cap := by
  generalize hv : V.cl2 0 61 = v at hx
  cases hx with
  | cl2 hm _ => cases hv; omega
  | lslice hL _ _ _ _ => simp only [V.cl2.injEq] at hv; omega
  | llen _ _ _ => simp only [V.cl2.injEq] at hv; omega
  | lbig hz => exact ⟨_, _, _, hz, rfl⟩
  | lbigl _ => simp only [V.cl2.injEq] at hv; omega
  | lvoid => simp only [V.cl2.injEq] at hv; omega
  | @uint k n _ => simp only [V.cl2.injEq] at hv; have := kq_mod k; omega
  | ustr _ => simp only [V.cl2.injEq] at hv; omega
  | _ => cases hv
theorem lslice_inv {r : Emb} {q : Nat} {a : Value} (hx : VRel r (.cl2 0 q) a) (hq : 64 ≤ q) (hq2 : q % 64 < 60) : ∃ b o z cap m, r (q / 64) = some (b, o, m) ∧ q % 64 < z ∧ z ≤ 60 ∧ q % 64 < 60 ∧ a = .slice (some ⟨b, o, none⟩) z cap := by
  generalize hv : V.cl2 0 q = v at hx
  cases hx with
  | cl2 hm _ => cases hv; omega
  | @lslice L j b o z cap m hL h hj hz hj6 =>
    cases hv
    have e1 : (64 * L + j) / 64 = L := by omega
    have e2 : (64 * L + j) % 64 = j := by omega
    exact ⟨b, o, z, cap, m, by rw [e1]; exact h, by rw [e2]; exact hj, hz, by rw [e2]; exact hj6, rfl⟩
  | llen _ _ _ => simp only [V.cl2.injEq] at hv; omega
  | lbig _ => simp only [V.cl2.injEq] at hv; omega
  | lbigl _ => simp only [V.cl2.injEq] at hv; omega
  | lvoid => simp only [V.cl2.injEq] at hv; omega
  | @uint k n _ => simp only [V.cl2.injEq] at hv; have := kq_mod k; omega
  | ustr _ => simp only [V.cl2.injEq] at hv; omega
  | _ => cases hv
theorem lin_inv {r : Emb} {c : Nat} {a : Value} (hx : VRel r (.cl1 0 c) a) (hc : c < 4) : ∃ x y, a = .int .i64 (linOf c x y) ∧ r symA = some (x, 0, 0) ∧ r symB = some (y, 0, 0) ∧ x ≤ 1998 ∧ y ≤ 1998 := by
  generalize hv : V.cl1 0 c = v at hx
  cases hx with
  | lin hc1 h1 h2 h3 h4 => cases hv; exact ⟨_, _, rfl, h1, h2, h3, h4⟩
  | cl1 g1 g2 _ => cases hv; omega
  | syma _ _ _ _ _ => cases hv; omega
  | symb _ _ _ _ _ => cases hv; omega
  | nam _ _ => simp only [V.cl1.injEq] at hv; omega
  | nsrc _ _ => simp only [V.cl1.injEq] at hv; omega
  | _ => cases hv
theorem syma_inv {r : Emb} {a : Value} (hx : VRel r (.cl1 0 5) a) : ∃ n x y, a = .int .i64 n ∧ r symA = some (x, 0, 0) ∧ r symB = some (y, 0, 0) ∧ x ≤ 1998 ∧ y ≤ 1998 ∧ n.tmod 1000 = (x : Int) - 999 := by
  generalize hv : V.cl1 0 5 = v at hx
  cases hx with
  | lin hc1 h1 h2 h3 h4 => cases hv; omega
  | cl1 g1 g2 _ => cases hv; omega
  | syma h1 h2 h3 h4 h5 => exact ⟨_, _, _, rfl, h1, h2, h3, h4, h5⟩
  | symb _ _ _ _ _ => cases hv
  | nam _ _ => simp only [V.cl1.injEq] at hv; omega
  | nsrc _ _ => simp only [V.cl1.injEq] at hv; omega
  | _ => cases hv
theorem symb_inv {r : Emb} {a : Value} (hx : VRel r (.cl1 0 6) a) : ∃ n x y, a = .int .i64 n ∧ r symA = some (x, 0, 0) ∧ r symB = some (y, 0, 0) ∧ x ≤ 1998 ∧ y ≤ 1998 ∧ n.tmod 1000 = (y : Int) - 999 := by
  generalize hv : V.cl1 0 6 = v at hx
  cases hx with
  | lin hc1 h1 h2 h3 h4 => cases hv; omega
  | cl1 g1 g2 _ => cases hv; omega
  | symb h1 h2 h3 h4 h5 => exact ⟨_, _, _, rfl, h1, h2, h3, h4, h5⟩
  | syma _ _ _ _ _ => cases hv
  | nam _ _ => simp only [V.cl1.injEq] at hv; omega
  | nsrc _ _ => simp only [V.cl1.injEq] at hv; omega
  | _ => cases hv
theorem lin_same {r : Emb} {c : Nat} {a b : Value} (hx : VRel r (.cl1 0 c) a) (hy : VRel r (.cl1 0 c) b) (hc : c < 4) : ∃ n, a = .int .i64 n ∧ b = .int .i64 n := by
  obtain ⟨x, y, rfl, h1, h2, _⟩ := lin_inv hx hc
  obtain ⟨x', y', rfl, h3, h4, _⟩ := lin_inv hy hc
  rw [h1] at h3
  cases h3
  rw [h2] at h4
  cases h4
  exact ⟨_, rfl, rfl⟩

theorem scalEq_sound {r : Emb} {t : TypeId} {x y : V} {b : Bool} (he : scalEq P t x y = some b) {a c : Value} (hx : VRel r x a) (hy : VRel r y c) (d : Nat) (w : World) : (Op.equalIn (d + 1) t a c).run P w = .ok b w := by
  unfold scalEq at he
  split at he
  · rename_i k0 k a' k' b' hu
    cases hk : Nat.beq (kc k) (kc k') <;> simp only [hk, cond_true, cond_false, reduceCtorEq, Option.some.injEq] at he
    subst he
    have e := kc_inj hk
    subst e
    cases hx; cases hy
    rw [eqI_eq]
    exact run_equalIn_int w d t k k0 a' b' hu
  · rename_i n l m k hu
    simp only [Option.some.injEq] at he
    subst he
    cases hx with
    | str hx =>
      cases hy with
      | str hy =>
        rw [run_equalIn_string w d t _ _ hu, toList_sval, toList_sval, sdec_beq hx hy]
  · rename_i p q hu
    simp only [Option.some.injEq] at he
    subst he
    cases hx; cases hy
    exact run_equalIn_bool w d t p q hu
  · rename_i k0 c c' hu
    cases hk : (Nat.beq c c' && Nat.blt c 4)
    · rw [hk] at he
      simp only [cond_false] at he
      split at he
      · rename_i b' hk
        simp only [Option.some.injEq] at he
        subst he
        obtain ⟨n, m, v0, rfl, rfl, h1, h2⟩ := kfB_sound hk hx hy
        simp only [intB, Option.some.injEq] at h1
        subst h1
        have := h2 _ (.bool _)
        cases this
        rw [eqI_eq]
        exact run_equalIn_int w d t .i64 k0 n m hu
      · cases he
    rw [hk] at he
    simp only [cond_true, Option.some.injEq] at he
    subst he
    simp only [Bool.and_eq_true, Nat.blt_eq] at hk
    obtain rfl := Nat.eq_of_beq_eq_true hk.1
    obtain ⟨n, rfl, rfl⟩ := lin_same hx hy hk.2
    have := run_equalIn_int w d t .i64 k0 n n hu
    simpa using this
  · rename_i k0 q q' hu
    cases hk : (Nat.beq q q' && (Nat.beq (Nat.mod q 8) 0 || Nat.beq (Nat.mod q 8) 2)) <;> simp only [hk, cond_true, cond_false, reduceCtorEq, Option.some.injEq] at he
    subst he
    simp only [Bool.and_eq_true, Bool.or_eq_true] at hk
    obtain rfl := Nat.eq_of_beq_eq_true hk.1
    rcases hk.2 with h8 | h8
    · have h8' : q % 8 = 0 := Nat.eq_of_beq_eq_true h8
      obtain ⟨x1, y1, z1, g1, rfl⟩ := name0_inv hx h8'
      obtain ⟨x2, y2, z2, g2, rfl⟩ := name0_inv hy h8'
      rw [g1] at g2
      cases g2
      have := run_equalIn_int w d t .i64 k0 ((x1 : Int) - y1) ((x1 : Int) - y1) hu
      simpa using this
    · have h8' : q % 8 = 2 := Nat.eq_of_beq_eq_true h8
      obtain ⟨x1, y1, z1, g1, _, rfl⟩ := name2_inv hx h8'
      obtain ⟨x2, y2, z2, g2, _, rfl⟩ := name2_inv hy h8'
      rw [g1] at g2
      cases g2
      have := run_equalIn_int w d t .i64 k0 (x1 : Int) (x1 : Int) hu
      simpa using this
  · rename_i q q' hu
    cases hk : (Nat.beq q q' && Nat.beq (Nat.mod q 8) 1) <;> simp only [hk, cond_true, cond_false, reduceCtorEq, Option.some.injEq] at he
    subst he
    simp only [Bool.and_eq_true] at hk
    obtain rfl := Nat.eq_of_beq_eq_true hk.1
    have h8' : q % 8 = 1 := Nat.eq_of_beq_eq_true hk.2
    obtain ⟨x1, y1, z1, g1, rfl⟩ := name1_inv hx h8'
    obtain ⟨x2, y2, z2, g2, rfl⟩ := name1_inv hy h8'
    rw [g1] at g2
    cases g2
    rw [run_equalIn_string w d t _ _ hu]
    simp
  · rename_i k0 hu _ _ _
    split at he
    · rename_i b' hk
      simp only [Option.some.injEq] at he
      subst he
      obtain ⟨n, m, v0, rfl, rfl, h1, h2⟩ := kfB_sound hk hx hy
      simp only [intB, Option.some.injEq] at h1
      subst h1
      have := h2 _ (.bool _)
      cases this
      rw [eqI_eq]
      exact run_equalIn_int w d t .i64 k0 n m hu
    · cases he
  · cases he

theorem fieldsEqV_sound {r : Emb} {xs ys : List V} {as cs : Array Value} (hx : VsRel r xs as.toList) (hy : VsRel r ys cs.toList) (d : Nat) (w : World) : ∀ (fs : List Field) (b : Bool), fieldsEqV P xs ys fs = some b → (Op.eqFields (d + 1) as cs fs).run P w = .ok b w := by
  intro fs
  induction fs with
  | nil =>
    intro b he
    simp only [fieldsEqV, Option.some.injEq] at he
    subst he
    rfl
  | cons f fs ih =>
    intro b he
    simp only [fieldsEqV] at he
    cases hn : (f.name == "_") <;> simp only [hn, cond_true, cond_false, reduceCtorEq] at he
    have hne : f.name ≠ "_" := by simpa using hn
    split at he
    · rename_i p q hp hq
      obtain ⟨p', h1, h2⟩ := partV_sound hx hp w
      obtain ⟨q', h3, h4⟩ := partV_sound hy hq w
      split at he
      · rename_i hs
        have h5 := scalEq_sound hs h2 h4 d w
        have h6 := ih b he
        simp [Op.eqFields, hne, h1, h3, h5, h6]
      · rename_i hs
        simp only [Option.some.injEq] at he
        subst he
        have h5 := scalEq_sound hs h2 h4 d w
        simp [Op.eqFields, hne, h1, h3, h5]
      · cases he
    · cases he

/-- Are two values that are no numbers, texts, bools, equal? -/
def eqAll (P : Program) (h : H) (t : TypeId) (x y : V) : Option Bool :=
  match x, y with
  | .agg xs, .agg ys => structEqV P t xs ys
  | .nils, .nils => (match P.underlying t with | some (.slice _) => some true | _ => none)
  | .nils, .slice _ _ _ _ _ => (match P.underlying t with | some (.slice _) => some false | _ => none)
  | .slice _ _ _ _ _, .nils => (match P.underlying t with | some (.slice _) => some false | _ => none)
  | .nilFn, .nilFn => (match P.underlying t with | some (.func _ _ _) => some true | _ => none)
  | .nilFn, .fn _ _ _ => (match P.underlying t with | some (.func _ _ _) => some false | _ => none)
  | .fn _ _ _, .nilFn => (match P.underlying t with | some (.func _ _ _) => some false | _ => none)
  | x, y => ptrEq P h t x y

/-- Numbers of which a remainder, or some bits, are known. -/
def clsB (op : BinOp) (x y : V) : Option V :=
  match op, x, y with
  | .rem, .cls m q, .int .i64 (.ofNat b) => bif Nat.beq b m && Nat.blt 0 m then some (.cl1 m q) else none
  | .add, .cl1 m q, .int .i64 (.ofNat b) => bif Nat.beq b m && (Nat.ble m 1000000 && Nat.blt 0 m) then some (.cl2 m q) else none
  | .rem, .cl1 m q, .int .i64 (.ofNat b) => bif Nat.beq m 0 && Nat.beq b 1000 then (bif Nat.beq q 5 then some (.cl1 0 1) else bif Nat.beq q 6 then some (.cl1 0 2) else none) else none
  | .lss, .cl1 m q, .int .i64 b => bif Nat.beq m 0 && Nat.blt q 4 then (bif ltI (.ofNat 1998) b then some (.bool true) else bif ltI (.negSucc 1997) b then none else some (.bool false)) else none
  | .gtr, .cl1 m q, .int .i64 b => bif Nat.beq m 0 && Nat.blt q 4 then (bif ltI b (.negSucc 1997) then some (.bool true) else bif ltI b (.ofNat 1998) then none else some (.bool false)) else none
  | .rem, .cl2 m q, .int .i64 (.ofNat b) => bif Nat.beq b m && Nat.blt 0 m then some (.int .i64 (.ofNat q)) else none
  | .and, .msk m q, .int .i64 (.ofNat b) => bif Nat.beq b m && Nat.blt 0 m then some (.int .i64 (.ofNat q)) else none
  | .eql, .cls m q, .int .i64 (.ofNat b) => bif Nat.beq m 0 && (Nat.beq (Nat.mod q 8) 2 && Nat.blt 7 b) then some (.bool false) else none
  | .gtr, .cl2 m q, .int .i64 (.ofNat b) => bif Nat.beq m 0 && Nat.beq b 60 then (bif Nat.blt q 60 then some (.bool false) else bif Nat.beq q 62 then some (.bool true) else none) else none
  | .lss, .int .i64 (.ofNat i), .cl2 m q => bif Nat.beq m 0 && (Nat.blt q 60 && Nat.ble i q) then some (.bool true) else none
  | .gtr, .cls m q, .int .i64 (.ofNat b) => bif Nat.beq m 0 && Nat.beq b 50 then (bif Nat.beq q 5 then some (.bool false) else bif Nat.beq q 6 then some (.bool true) else none) else none
  | _, _, _ => none

/-- Does an operation of two numbers always answer with a number? -/
def okU (op : BinOp) (b : Int) : Bool :=
  match op with
  | .add => true
  | .sub => true
  | .mul => true
  | .and => true
  | .quo => !(eqI b (.ofNat 0))
  | .rem => !(eqI b (.ofNat 0))
  | _ => false
/-- A number of which nothing is known, and one that is known. -/
def unkB (op : BinOp) (x y : V) : Option V :=
  match x, y with
  | .cl2 m q, .int .i64 b => bif Nat.beq m 0 && (Nat.beq q (kq .i64) && okU op b) then some (.cl2 0 (kq .i64)) else none
  | .int .i64 b, .cl2 m q => bif Nat.beq m 0 && (Nat.beq q (kq .i64) && okU op (.ofNat 0)) then (bif eqI b b then some (.cl2 0 (kq .i64)) else none) else none
  | _, _ => none
/-! Numbers of which bounds are known. -/
def mkS (id c d lo hi : Nat) : Option V :=
  bif Nat.blt id 65536 && (Nat.blt c 4294967296 && (Nat.blt d 4294967296 && (Nat.blt lo 4294967296 && Nat.blt hi 4294967296))) then some (.msk 0 (Nat.succ (Nat.mul 4 (sPack id c d lo hi)))) else none
def sameS (a b : Nat) : Bool := Nat.beq (sId a) (sId b) && Nat.blt 0 (sId a)
def ltQ (a b : Nat) : Option Bool :=
  bif Nat.blt (sHi a) (sLo b) then some true
  else bif Nat.ble (sHi b) (sLo a) then some false
  else bif sameS a b then (bif Nat.blt (sD a) (sC b) then some true else bif Nat.ble (sD b) (sC a) then some false else none)
  else none
def eqQ (a b : Nat) : Option Bool :=
  bif Nat.blt (sHi a) (sLo b) || Nat.blt (sHi b) (sLo a) then some false
  else bif Nat.beq (sLo a) (sHi a) && (Nat.beq (sLo b) (sHi b) && Nat.beq (sLo a) (sLo b)) then some true
  else bif sameS a b then (bif Nat.blt (sD a) (sC b) || Nat.blt (sD b) (sC a) then some false else bif Nat.beq (sC a) (sD a) && (Nat.beq (sC b) (sD b) && Nat.beq (sC a) (sC b)) then some true else none)
  else none
def symOp (op : BinOp) (a b : Nat) : Option V :=
  match op with
  | .add =>
    bif Nat.beq (sId a) 0 then mkS (sId b) (Nat.add (sC b) (sLo a)) (Nat.add (sD b) (sHi a)) (Nat.add (sLo a) (sLo b)) (Nat.add (sHi a) (sHi b))
    else bif Nat.beq (sId b) 0 then mkS (sId a) (Nat.add (sC a) (sLo b)) (Nat.add (sD a) (sHi b)) (Nat.add (sLo a) (sLo b)) (Nat.add (sHi a) (sHi b))
    else none
  | .sub =>
    bif Nat.ble (sHi b) (sLo a) then
      (bif Nat.beq (sId b) 0 && (Nat.ble (sHi b) (sC a) && Nat.ble (sLo b) (sD a)) then mkS (sId a) (Nat.sub (sC a) (sHi b)) (Nat.sub (sD a) (sLo b)) (Nat.sub (sLo a) (sHi b)) (Nat.sub (sHi a) (sLo b))
      else mkS 0 1073741824 1073741824 (Nat.sub (sLo a) (sHi b)) (Nat.sub (sHi a) (sLo b)))
    else none
  | .quo => bif Nat.beq (sLo b) (sHi b) && Nat.blt 0 (sLo b) then mkS 0 1073741824 1073741824 (Nat.div (sLo a) (sLo b)) (Nat.div (sHi a) (sLo b)) else none
  | .lss => (ltQ a b).map V.bool
  | .gtr => (ltQ b a).map V.bool
  | .leq => (ltQ b a).map fun x => V.bool (!x)
  | .geq => (ltQ a b).map fun x => V.bool (!x)
  | .eql => (eqQ a b).map V.bool
  | .neq => (eqQ a b).map fun x => V.bool (!x)
  | _ => none
def bndB (op : BinOp) (x y : V) : Option V :=
  match x, y with
  | .msk m q, .msk m' q' => bif (Nat.beq m 0 && Nat.beq m' 0) && (Nat.beq (Nat.mod q 4) 1 && Nat.beq (Nat.mod q' 4) 1) then symOp op (Nat.div q 4) (Nat.div q' 4)
    else bif ((Nat.beq m 0 && Nat.beq m' 0) && (Nat.beq (Nat.mod q 4) 1 && Nat.beq (Nat.mod q' 4) 0)) && ((Nat.beq (sId (Nat.div q 4)) (Nat.div (Nat.div q' 4) 65536) && Nat.blt 0 (sId (Nat.div q 4))) && (Nat.beq (sC (Nat.div q 4)) 1073741824 && Nat.beq (sD (Nat.div q 4)) 1073741824)) then
      (match op with | .lss => some (.bool true) | _ => none)
    else none
  | .msk m q, .int .i64 (.ofNat k) => bif Nat.beq m 0 && (Nat.beq (Nat.mod q 4) 1 && Nat.blt k 4294967296) then symOp op (Nat.div q 4) (sPack 0 1073741824 1073741824 k k) else none
  | .int .i64 (.ofNat k), .msk m q => bif Nat.beq m 0 && (Nat.beq (Nat.mod q 4) 1 && Nat.blt k 4294967296) then symOp op (sPack 0 1073741824 1073741824 k k) (Nat.div q 4) else none
  | _, _ => none
def clsU (op : BinOp) (x y : V) : Option V := match clsB op x y with | some v => some v | none => (match unkB op x y with | some v => some v | none => bndB op x y)
theorem okU_int {op : BinOp} {b : Int} (h : okU op b = true) (n : Int) : ∃ q, intB op .i64 n b = some (.int .i64 q) := by
  cases op <;> simp only [okU, Bool.false_eq_true, Bool.not_eq_true'] at h
  case add => exact ⟨_, rfl⟩
  case sub => exact ⟨_, rfl⟩
  case mul => exact ⟨_, rfl⟩
  case quo => exact ⟨quoI .i64 n b, by simp only [intB, h, cond_false]⟩
  case rem => exact ⟨remI n b, by simp only [intB, h, cond_false]⟩
  case and =>
    simp only [intB, bitI, Option.map_some]
    exact ⟨_, rfl⟩
theorem okU_zero {op : BinOp} (h : okU op (.ofNat 0) = true) (b : Int) : okU op b = true := by
  cases op <;> first | rfl | (simp [okU, eqI] at h)

/-- Numbers that are not known, of which two are compared, or the one and the other added. -/
def linB (op : BinOp) (m c m' c' : Nat) : Option V :=
  bif Nat.beq m 0 && Nat.beq m' 0 then
    match op with
    | .eql => bif Nat.beq c c' && Nat.blt c 4 then some (.bool true) else none
    | .neq => bif Nat.beq c c' && Nat.blt c 4 then some (.bool false) else none
    | .add => bif Nat.beq c 1 && Nat.beq c' 2 then some (.cl1 0 3) else none
    | _ => none
  else none

/-- A binary operation. -/
def binV (P : Program) (h : H) (op : BinOp) (t : TypeId) (x y : V) : Option V :=
  match x, y with
  | .int k a, .int k' b => bif isShift op then shiftB op k a b else bif Nat.beq (kc k) (kc k') then intB op k a b else none
  | .str n l, .str m k => strB op n l m k
  | .bool a, .bool b =>
    match op, P.underlying t with
    | .eql, some .bool => some (.bool (a == b))
    | .neq, some .bool => some (.bool (!(a == b)))
    | _, _ => none
  | .cl1 m c, .cl1 m' c' => (match kfB op (.cl1 m c) (.cl1 m' c') with | some v => some v | none => linB op m c m' c')
  | .cls m q, y => clsB op (.cls m q) y
  | x, y =>
    match kfB op x y with
    | some v => some v
    | none =>
    match op with
    | .eql => (match bndB .eql x y with | some v => some v | none => (eqAll P h t x y).map V.bool)
    | .neq => (match bndB .neq x y with | some v => some v | none => (eqAll P h t x y).map fun b => V.bool (!b))
    | op => clsU op x y

theorem eqGuard_plain {op : BinOp} {t : TypeId} {x y : Operand} {a b : Value} (w : World) (h1 : a ≠ .nilIface) (h2 : ∀ cs, a ≠ .agg cs) : (eqGuard op t x y a b).run P w = .ok () w := by
  cases a <;> first
    | exact absurd rfl h1
    | exact absurd rfl (h2 _)
    | (cases op <;> simp [eqGuard])

theorem binOp_ptr_eql {t : TypeId} {a c : Value} {b : Bool} (w : World) (h : (Op.equal t a c).run P w = .ok b w) (ha : ∀ k n, a ≠ .int k n) (hs : ∀ s, a ≠ .string s) (hf : ∀ k n, a ≠ .float k n) (hc : ∀ k n m, a ≠ .complex k n m) :
    (binOp .eql t a c).run P w = .ok (.bool b) w ∧ (binOp .neq t a c).run P w = .ok (.bool (!b)) w := by
  cases a <;> first
    | exact absurd rfl (ha _ _)
    | exact absurd rfl (hs _)
    | exact absurd rfl (hf _ _)
    | exact absurd rfl (hc _ _ _)
    | (constructor <;> (unfold binOp; simp [h]))

theorem equal_bool {t : TypeId} (hu : P.underlying t = some .bool) (p q : Bool) (w : World) : (Op.equal t (.bool p) (.bool q)).run P w = .ok (p == q) w := by
  have key : ∀ d : Nat, (Op.equalIn (d + 1) t (.bool p) (.bool q)).run P w = .ok (p == q) w := fun d => by simp only [Op.equalIn, Sem.run_bind, run_underlying hu, Result.andThen_ok, Sem.run_pure]
  simp [Op.equal, Op.maxDepth, key 9999]

theorem clsB_sound {r : Emb} {op : BinOp} {x y v : V} (he : clsB op x y = some v) {a c : Value} (hx : VRel r x a) (hy : VRel r y c) (t : TypeId) (w : World) (xo yo : Operand) :
    ∃ z, (do eqGuard op t xo yo a c; binOp op t a c : Sem Value).run P w = .ok z w ∧ VRel r v z := by
  have int : ∀ (op : BinOp) (n b q : Int), intB op .i64 n b = some (.int .i64 q) → (do eqGuard op t xo yo (.int .i64 n) (.int .i64 b); binOp op t (.int .i64 n) (.int .i64 b) : Sem Value).run P w = .ok (.int .i64 q) w := by
    intro op n b q h
    obtain ⟨z, h1, h2⟩ := intB_sound h t w (P := P)
    have hg : (eqGuard op t xo yo (.int .i64 n) (.int .i64 b)).run P w = .ok () w := eqGuard_plain w (by simp) (by simp)
    have := h2 r
    cases this
    simp [hg, h1]
  have intb : ∀ (op : BinOp) (n b : Int) (q : Bool), intB op .i64 n b = some (.bool q) → (do eqGuard op t xo yo (.int .i64 n) (.int .i64 b); binOp op t (.int .i64 n) (.int .i64 b) : Sem Value).run P w = .ok (.bool q) w := by
    intro op n b q h
    obtain ⟨z, h1, h2⟩ := intB_sound h t w (P := P)
    have hg : (eqGuard op t xo yo (.int .i64 n) (.int .i64 b)).run P w = .ok () w := eqGuard_plain w (by simp) (by simp)
    have := h2 r
    cases this
    simp [hg, h1]
  unfold clsB at he
  split at he
  · rename_i m q b
    cases hb : (Nat.beq b m && Nat.blt 0 m) <;> simp only [hb, cond_true, cond_false, reduceCtorEq, Option.some.injEq] at he
    subst he
    simp only [Bool.and_eq_true, Nat.blt_eq] at hb
    obtain rfl := Nat.eq_of_beq_eq_true hb.1
    cases hx with
    | nint _ => omega
    | nstr _ _ => omega
    | nkind _ _ => omega
    | nshort _ _ _ => omega
    | nlong _ _ => omega
    | nle _ => omega
    | ngt _ => omega
    | @cls _ _ n _ h =>
      cases hy
      refine ⟨_, int .rem n (.ofNat b) (n.tmod b) ?_, .cl1 (Int.lt_tmod_of_pos n (by omega)) (Int.tmod_lt_of_pos n (by omega)) h⟩
      have : eqI (.ofNat b) (.ofNat 0) = false := by rw [eqI_eq]; simp; omega
      simp only [intB, this, cond_false, remI_eq]
      rfl
  · rename_i m q b
    cases hb : (Nat.beq b m && (Nat.ble m 1000000 && Nat.blt 0 m)) <;> simp only [hb, cond_true, cond_false, reduceCtorEq, Option.some.injEq] at he
    subst he
    simp only [Bool.and_eq_true, Nat.blt_eq] at hb
    obtain rfl := Nat.eq_of_beq_eq_true hb.1
    have hm := Nat.le_of_ble_eq_true hb.2.1
    cases hx with
    | nam _ _ => exact absurd hb.2.2 (by omega)
    | nsrc _ _ => exact absurd hb.2.2 (by omega)
    | syma _ _ _ _ _ => exact absurd hb.2.2 (by omega)
    | symb _ _ _ _ _ => exact absurd hb.2.2 (by omega)
    | lin _ _ _ _ _ => exact absurd hb.2.2 (by omega)
    | @cl1 _ _ n h1 h2 h =>
      cases hy
      refine ⟨_, int .add n (.ofNat b) (n + b) ?_, .cl2 hb.2.2 h⟩
      simp only [intB, addI_eq]
      obtain ⟨k, hk⟩ : ∃ k : Nat, n + (b : Int) = Int.ofNat k := ⟨(n + b).toNat, by simp only [Int.ofNat_eq_natCast]; omega⟩
      have hk2 : k ≤ lim .i64 := by
        have : (k : Int) < 2000000 := by simp only [Int.ofNat_eq_natCast] at hk; omega
        show k ≤ 9223372036854775807
        omega
      have e1 : n + Int.ofNat b = Int.ofNat k := hk
      rw [e1, wrap_small IntKind.i64 k hk2, ← hk]
  · rename_i m q b
    cases hb : (Nat.beq m 0 && Nat.beq b 1000)
    · rw [hb] at he; simp at he
    · rw [hb] at he
      simp only [cond_true] at he
      simp only [Bool.and_eq_true] at hb
      obtain rfl := Nat.eq_of_beq_eq_true hb.1
      obtain rfl := Nat.eq_of_beq_eq_true hb.2
      have hz : eqI (.ofNat 1000) (.ofNat 0) = false := by rw [eqI_eq]; simp
      cases h5 : Nat.beq q 5
      · rw [h5] at he
        simp only [cond_false] at he
        cases h6 : Nat.beq q 6
        · rw [h6] at he; simp at he
        · rw [h6] at he
          simp only [cond_true, Option.some.injEq] at he
          subst he
          obtain rfl := Nat.eq_of_beq_eq_true h6
          cases hy
          obtain ⟨n, x, y, rfl, r1, r2, r3, r4, r5⟩ := symb_inv hx
          refine ⟨_, int .rem n (.ofNat 1000) (n.tmod 1000) ?_, ?_⟩
          · simp only [intB, hz, cond_false, remI_eq]
            rfl
          · rw [r5]
            exact .lin (code := 2) (by omega) r1 r2 r3 r4
      · rw [h5] at he
        simp only [cond_true, Option.some.injEq] at he
        subst he
        obtain rfl := Nat.eq_of_beq_eq_true h5
        cases hy
        obtain ⟨n, x, y, rfl, r1, r2, r3, r4, r5⟩ := syma_inv hx
        refine ⟨_, int .rem n (.ofNat 1000) (n.tmod 1000) ?_, ?_⟩
        · simp only [intB, hz, cond_false, remI_eq]
          rfl
        · rw [r5]
          exact .lin (code := 1) (by omega) r1 r2 r3 r4
  · rename_i m q b
    cases hb : (Nat.beq m 0 && Nat.blt q 4)
    · rw [hb] at he; simp at he
    · rw [hb] at he
      simp only [cond_true] at he
      simp only [Bool.and_eq_true, Nat.blt_eq] at hb
      obtain rfl := Nat.eq_of_beq_eq_true hb.1
      obtain ⟨x, y, rfl, r1, r2, r3, r4⟩ := lin_inv hx hb.2
      obtain ⟨b1, b2⟩ := linOf_bound q r3 r4
      cases hy
      cases k1 : ltI (.ofNat 1998) b
      · rw [k1] at he
        simp only [cond_false] at he
        cases k2 : ltI (.negSucc 1997) b
        · rw [k2] at he
          simp only [cond_false, Option.some.injEq] at he
          subst he
          refine ⟨_, intb .lss _ b false ?_, .bool _⟩
          rw [ltI_eq] at k2
          simp only [intB, ltI_eq, Option.some.injEq, V.bool.injEq]
          simp only [decide_eq_false_iff_not] at k2 ⊢
          have e : (Int.negSucc 1997) = -1998 := rfl
          rw [e] at k2
          omega
        · rw [k2] at he; simp at he
      · rw [k1] at he
        simp only [cond_true, Option.some.injEq] at he
        subst he
        refine ⟨_, intb .lss _ b true ?_, .bool _⟩
        rw [ltI_eq] at k1
        simp only [intB, ltI_eq, Option.some.injEq, V.bool.injEq]
        simp only [decide_eq_true_eq] at k1 ⊢
        have e : (Int.ofNat 1998) = 1998 := rfl
        rw [e] at k1
        omega
  · rename_i m q b
    cases hb : (Nat.beq m 0 && Nat.blt q 4)
    · rw [hb] at he; simp at he
    · rw [hb] at he
      simp only [cond_true] at he
      simp only [Bool.and_eq_true, Nat.blt_eq] at hb
      obtain rfl := Nat.eq_of_beq_eq_true hb.1
      obtain ⟨x, y, rfl, r1, r2, r3, r4⟩ := lin_inv hx hb.2
      obtain ⟨b1, b2⟩ := linOf_bound q r3 r4
      cases hy
      cases k1 : ltI b (.negSucc 1997)
      · rw [k1] at he
        simp only [cond_false] at he
        cases k2 : ltI b (.ofNat 1998)
        · rw [k2] at he
          simp only [cond_false, Option.some.injEq] at he
          subst he
          refine ⟨_, intb .gtr _ b false ?_, .bool _⟩
          rw [ltI_eq] at k2
          simp only [intB, ltI_eq, Option.some.injEq, V.bool.injEq]
          simp only [decide_eq_false_iff_not] at k2 ⊢
          have e : (Int.ofNat 1998) = 1998 := rfl
          rw [e] at k2
          omega
        · rw [k2] at he; simp at he
      · rw [k1] at he
        simp only [cond_true, Option.some.injEq] at he
        subst he
        refine ⟨_, intb .gtr _ b true ?_, .bool _⟩
        rw [ltI_eq] at k1
        simp only [intB, ltI_eq, Option.some.injEq, V.bool.injEq]
        simp only [decide_eq_true_eq] at k1 ⊢
        have e : (Int.negSucc 1997) = -1998 := rfl
        rw [e] at k1
        omega
  · rename_i m q b
    cases hb : (Nat.beq b m && Nat.blt 0 m) <;> simp only [hb, cond_true, cond_false, reduceCtorEq, Option.some.injEq] at he
    subst he
    simp only [Bool.and_eq_true, Nat.blt_eq] at hb
    obtain rfl := Nat.eq_of_beq_eq_true hb.1
    cases hx with
    | lslice _ _ _ _ _ => omega
    | llen _ _ _ => omega
    | lbig _ => omega
    | lbigl _ => omega
    | lvoid => omega
    | uint _ => omega
    | ustr _ => omega
    | @cl2 _ _ n _ h =>
      cases hy
      refine ⟨_, int .rem n (.ofNat b) (.ofNat q) ?_, .int _ _⟩
      have : eqI (.ofNat b) (.ofNat 0) = false := by rw [eqI_eq]; simp; omega
      simp only [intB, this, cond_false, remI_eq]
      have e1 : n.tmod (Int.ofNat b) = Int.ofNat q := h
      rw [e1]
  · rename_i m q b
    cases hb : (Nat.beq b m && Nat.blt 0 m) <;> simp only [hb, cond_true, cond_false, reduceCtorEq, Option.some.injEq] at he
    subst he
    simp only [Bool.and_eq_true, Nat.blt_eq] at hb
    obtain rfl := Nat.eq_of_beq_eq_true hb.1
    cases hx with
    | sym _ => exact absurd hb.2 (by omega)
    | ssl _ _ _ _ _ _ => exact absurd hb.2 (by omega)
    | sat _ _ _ _ => exact absurd hb.2 (by omega)
    | snx _ _ _ _ => exact absurd hb.2 (by omega)
    | @msk _ _ n hm h =>
      cases hy
      refine ⟨_, int .and n (.ofNat b) (.ofNat q) ?_, .int _ _⟩
      have e1 : IntKind.i64.wrap (BitVec.ofInt IntKind.i64.bits n &&& BitVec.ofInt IntKind.i64.bits (Int.ofNat b)).toNat = Int.ofNat q := h
      simp only [intB, bitI, Option.map_some]
      cases hs : (smallI .i64 n && smallI .i64 (Int.ofNat b))
      · simp only [cond_false, e1]
      · simp only [cond_true]
        rw [andI_eq IntKind.i64 n (Int.ofNat b) hs, e1]
  · rename_i m q b
    cases hb : (Nat.beq m 0 && (Nat.beq (Nat.mod q 8) 2 && Nat.blt 7 b)) <;> simp only [hb, cond_true, cond_false, reduceCtorEq, Option.some.injEq] at he
    subst he
    simp only [Bool.and_eq_true, Nat.blt_eq] at hb
    obtain ⟨h0, h8, h7⟩ := hb
    obtain rfl := Nat.eq_of_beq_eq_true h0
    obtain ⟨x, _, _, _, hx7, rfl⟩ := name2_inv hx (Nat.eq_of_beq_eq_true h8)
    cases hy
    refine ⟨_, intb .eql x (.ofNat b) false ?_, .bool _⟩
    have : eqI (x : Int) (.ofNat b) = false := by rw [eqI_eq]; simp; omega
    simp only [intB, this]
  · rename_i m q b
    cases hb : (Nat.beq m 0 && Nat.beq b 60)
    · rw [hb] at he; cases he
    rw [hb] at he
    simp only [cond_true] at he
    simp only [Bool.and_eq_true] at hb
    obtain rfl := Nat.eq_of_beq_eq_true hb.1
    obtain rfl := Nat.eq_of_beq_eq_true hb.2
    cases h5 : Nat.blt q 60
    · rw [h5] at he
      simp only [cond_false] at he
      cases h6 : Nat.beq q 62 <;> simp only [h6, cond_true, cond_false, reduceCtorEq, Option.some.injEq] at he
      subst he
      obtain rfl := Nat.eq_of_beq_eq_true h6
      obtain ⟨n, hn, rfl⟩ := lbigl_inv hx
      cases hy
      refine ⟨_, intb .gtr n (.ofNat 60) true ?_, .bool _⟩
      have : ltI (.ofNat 60) (n : Int) = true := by rw [ltI_eq]; simp; omega
      simp only [intB, this]
    · rw [h5] at he
      simp only [cond_true, Option.some.injEq] at he
      subst he
      rw [Nat.blt_eq] at h5
      obtain ⟨n, hn, hn2, rfl⟩ := llen_inv hx h5
      cases hy
      refine ⟨_, intb .gtr n (.ofNat 60) false ?_, .bool _⟩
      have : ltI (.ofNat 60) (n : Int) = false := by rw [ltI_eq]; simp; omega
      simp only [intB, this]
  · rename_i i m q
    cases hb : (Nat.beq m 0 && (Nat.blt q 60 && Nat.ble i q)) <;> simp only [hb, cond_true, cond_false, reduceCtorEq, Option.some.injEq] at he
    subst he
    simp only [Bool.and_eq_true, Nat.blt_eq] at hb
    obtain ⟨h0, h6, hi⟩ := hb
    have hi' := Nat.le_of_ble_eq_true hi
    obtain rfl := Nat.eq_of_beq_eq_true h0
    obtain ⟨n, hn, hn2, rfl⟩ := llen_inv hy h6
    cases hx
    refine ⟨_, intb .lss (.ofNat i) n true ?_, .bool _⟩
    have : ltI (.ofNat i) (n : Int) = true := by rw [ltI_eq]; simp; omega
    simp only [intB, this]
  · rename_i m q b
    cases hb : (Nat.beq m 0 && Nat.beq b 50)
    · rw [hb] at he; cases he
    rw [hb] at he
    simp only [cond_true] at he
    simp only [Bool.and_eq_true] at hb
    obtain rfl := Nat.eq_of_beq_eq_true hb.1
    obtain rfl := Nat.eq_of_beq_eq_true hb.2
    cases h5 : Nat.beq q 5
    · rw [h5] at he
      simp only [cond_false] at he
      cases h6 : Nat.beq q 6 <;> simp only [h6, cond_true, cond_false, reduceCtorEq, Option.some.injEq] at he
      subst he
      obtain rfl := Nat.eq_of_beq_eq_true h6
      obtain ⟨n, hn, rfl⟩ := name6_inv hx
      cases hy
      refine ⟨_, intb .gtr n (.ofNat 50) true ?_, .bool _⟩
      have : ltI (.ofNat 50) (n : Int) = true := by rw [ltI_eq]; simp; omega
      simp only [intB, this]
    · rw [h5] at he
      simp only [cond_true, Option.some.injEq] at he
      subst he
      obtain rfl := Nat.eq_of_beq_eq_true h5
      obtain ⟨n, hn, rfl⟩ := name5_inv hx
      cases hy
      refine ⟨_, intb .gtr n (.ofNat 50) false ?_, .bool _⟩
      have : ltI (.ofNat 50) (n : Int) = false := by rw [ltI_eq]; simp; omega
      simp only [intB, this]
  · cases he


theorem uint_inv {r : Emb} {a : Value} (hx : VRel r (.cl2 0 (kq .i64)) a) : ∃ n : Int, a = .int .i64 n := by
  generalize hv : V.cl2 0 (kq .i64) = v at hx
  have h1 := kq_mod .i64
  cases hx with
  | cl2 hm _ => cases hv; omega
  | @lslice L j b o z cap m hL h hj hz hj6 => simp only [V.cl2.injEq] at hv; omega
  | llen _ _ _ => simp only [V.cl2.injEq] at hv; omega
  | lbig _ => simp only [V.cl2.injEq] at hv; omega
  | lbigl _ => simp only [V.cl2.injEq] at hv; omega
  | lvoid => simp only [V.cl2.injEq] at hv; omega
  | @uint k n _ =>
    simp only [V.cl2.injEq] at hv
    obtain rfl := kq_inj hv.2
    exact ⟨n, rfl⟩
  | ustr _ => simp only [V.cl2.injEq] at hv; omega
  | _ => cases hv
theorem ustr_inv {r : Emb} {a : Value} (hx : VRel r (.cl2 0 63) a) : ∃ s : ByteArray, a = .string s := by
  generalize hv : V.cl2 0 63 = v at hx
  cases hx with
  | cl2 hm _ => cases hv; omega
  | @lslice L j b o z cap m hL h hj hz hj6 => simp only [V.cl2.injEq] at hv; omega
  | llen _ _ _ => simp only [V.cl2.injEq] at hv; omega
  | lbig _ => simp only [V.cl2.injEq] at hv; omega
  | lbigl _ => simp only [V.cl2.injEq] at hv; omega
  | lvoid => simp only [V.cl2.injEq] at hv; omega
  | @uint k n _ => simp only [V.cl2.injEq] at hv; have := kq_mod k; omega
  | ustr s => exact ⟨s, rfl⟩
  | _ => cases hv
theorem unkB_sound {r : Emb} {op : BinOp} {x y v : V} (he : unkB op x y = some v) {a c : Value} (hx : VRel r x a) (hy : VRel r y c) (t : TypeId) (w : World) (xo yo : Operand) :
    ∃ z, (do eqGuard op t xo yo a c; binOp op t a c : Sem Value).run P w = .ok z w ∧ VRel r v z := by
  have int : ∀ (n b : Int), okU op b = true → ∃ z, (do eqGuard op t xo yo (.int .i64 n) (.int .i64 b); binOp op t (.int .i64 n) (.int .i64 b) : Sem Value).run P w = .ok z w ∧ VRel r (.cl2 0 (kq .i64)) z := by
    intro n b h
    obtain ⟨q, hq⟩ := okU_int h n
    obtain ⟨z, h1, h2⟩ := intB_sound hq t w (P := P)
    have hg : (eqGuard op t xo yo (.int .i64 n) (.int .i64 b)).run P w = .ok () w := eqGuard_plain w (by simp) (by simp)
    have := h2 r
    cases this
    exact ⟨.int .i64 q, by simp [hg, h1], .uint (fun h => by cases h)⟩
  unfold unkB at he
  split at he
  · rename_i m q b
    cases hb : (Nat.beq m 0 && (Nat.beq q (kq .i64) && okU op b)) <;> simp only [hb, cond_true, cond_false, reduceCtorEq, Option.some.injEq] at he
    subst he
    simp only [Bool.and_eq_true] at hb
    obtain ⟨h0, h1, h2⟩ := hb
    obtain rfl := Nat.eq_of_beq_eq_true h0
    obtain rfl := Nat.eq_of_beq_eq_true h1
    obtain ⟨n, rfl⟩ := uint_inv hx
    cases hy
    exact int n b h2
  · rename_i b m q
    cases hb : (Nat.beq m 0 && (Nat.beq q (kq .i64) && okU op (.ofNat 0))) <;> simp only [hb, cond_true, cond_false, reduceCtorEq] at he
    cases hb2 : eqI b b <;> simp only [hb2, cond_true, cond_false, reduceCtorEq, Option.some.injEq] at he
    subst he
    simp only [Bool.and_eq_true] at hb
    obtain ⟨h0, h1, h2⟩ := hb
    obtain rfl := Nat.eq_of_beq_eq_true h0
    obtain rfl := Nat.eq_of_beq_eq_true h1
    obtain ⟨n, rfl⟩ := uint_inv hy
    cases hx
    exact int b n (okU_zero h2 n)
  · cases he
theorem sym_inv {r : Emb} {q : Nat} {a : Value} (hx : VRel r (.msk 0 q) a) (hq : q % 4 = 1) : ∃ n, a = .int .i64 n ∧ SNum r (q / 4) n := by
  generalize hv : V.msk 0 q = v at hx
  cases hx with
  | @sym q' n h => cases hv; exact ⟨n, rfl, by rw [show (4 * q' + 1) / 4 = q' by omega]; exact h⟩
  | ssl _ _ _ _ _ _ => simp only [V.msk.injEq] at hv; omega
  | sat _ _ _ _ => simp only [V.msk.injEq] at hv; omega
  | snx _ _ _ _ => simp only [V.msk.injEq] at hv; omega
  | msk hm _ => simp only [V.msk.injEq] at hv; omega
  | _ => cases hv
theorem ssl_inv {r : Emb} {q : Nat} {a : Value} (hx : VRel r (.msk 0 q) a) (hq : q % 4 = 2) : ∃ b o z cap m, a = .slice (some ⟨b, o, none⟩) z cap ∧ r (q / 4 % 65536) = some (b, o, m) ∧ SNum r (q / 4 / 65536 / 16) (z : Int) ∧ (z ≤ cap ∧ 0 < cap) ∧ o + cap * (q / 4 / 65536 % 16) ≤ m := by
  generalize hv : V.msk 0 q = v at hx
  cases hx with
  | @sym q' n h => simp only [V.msk.injEq] at hv; omega
  | @ssl L e q' b o z cap m hL he hr hz hc hm =>
    cases hv
    have e1 : (4 * (L + 65536 * (e + 16 * q')) + 2) / 4 = L + 65536 * (e + 16 * q') := by omega
    rw [e1, show (L + 65536 * (e + 16 * q')) % 65536 = L by omega, show (L + 65536 * (e + 16 * q')) / 65536 = e + 16 * q' by omega, show (e + 16 * q') / 16 = q' by omega, show (e + 16 * q') % 16 = e by omega]
    exact ⟨b, o, z, cap, m, rfl, hr, hz, hc, hm⟩
  | sat _ _ _ _ => simp only [V.msk.injEq] at hv; omega
  | snx _ _ _ _ => simp only [V.msk.injEq] at hv; omega
  | msk hm _ => simp only [V.msk.injEq] at hv; omega
  | _ => cases hv
theorem sat_inv {r : Emb} {q : Nat} {a : Value} (hx : VRel r (.msk 0 q) a) (hq : q % 4 = 3) : ∃ b o z cap c0, a = .slice (some ⟨b, o, none⟩) z cap ∧ SatOk r (q / 4 % 65536) (q / 4 / 65536 % 65536) b o z ∧ r (q / 4 / 65536 / 65536) = some (z, c0, 0) := by
  generalize hv : V.msk 0 q = v at hx
  cases hx with
  | @sym q' n h => simp only [V.msk.injEq] at hv; omega
  | ssl _ _ _ _ _ _ => simp only [V.msk.injEq] at hv; omega
  | @sat L id iz b o z cap c0 hL hid hj hz =>
    cases hv
    have e : (4 * (L + 65536 * (id + 65536 * iz)) + 3) / 4 = L + 65536 * (id + 65536 * iz) := by omega
    rw [e, show (L + 65536 * (id + 65536 * iz)) % 65536 = L by omega, show (L + 65536 * (id + 65536 * iz)) / 65536 = id + 65536 * iz by omega, show (id + 65536 * iz) % 65536 = id by omega, show (id + 65536 * iz) / 65536 = iz by omega]
    exact ⟨b, o, z, cap, c0, rfl, hj, hz⟩
  | snx _ _ _ _ => simp only [V.msk.injEq] at hv; omega
  | msk hm _ => simp only [V.msk.injEq] at hv; omega
  | _ => cases hv
theorem snx_inv {r : Emb} {q : Nat} {a : Value} (hx : VRel r (.msk 0 q) a) (hq : q % 4 = 0) : ∃ x y : Nat, a = .int .i64 x ∧ r (q / 4 % 65536) = some (x, 0, 0) ∧ r (q / 4 / 65536) = some (y, 0, 0) ∧ y < x := by
  generalize hv : V.msk 0 q = v at hx
  cases hx with
  | sym _ => simp only [V.msk.injEq] at hv; omega
  | ssl _ _ _ _ _ _ => simp only [V.msk.injEq] at hv; omega
  | sat _ _ _ _ => simp only [V.msk.injEq] at hv; omega
  | @snx id id2 x y hid h h2 hlt =>
    cases hv
    have e : 4 * (id + 65536 * id2) / 4 = id + 65536 * id2 := by omega
    rw [e, show (id + 65536 * id2) % 65536 = id by omega, show (id + 65536 * id2) / 65536 = id2 by omega]
    exact ⟨x, y, rfl, h, h2, hlt⟩
  | msk hm _ => simp only [V.msk.injEq] at hv; omega
  | _ => cases hv
theorem snum_const (r : Emb) {k : Nat} (hk : k < 4294967296) : SNum r (sPack 0 1073741824 1073741824 k k) (k : Int) := by
  refine ⟨?_, ?_, .inl (sPack_id (by omega))⟩
  · rw [sPack_lo (by omega) (by omega) (by omega) hk]; exact Int.le_refl _
  · rw [sPack_hi (by omega) (by omega) (by omega) hk]; exact Int.le_refl _
theorem mkS_sound {r : Emb} {id c d lo hi : Nat} {v : V} (h : mkS id c d lo hi = some v) {n : Int} (h1 : (lo : Int) ≤ n) (h2 : n ≤ hi) (h3 : id = 0 ∨ ∃ x y z, r id = some (x, y, z) ∧ (x : Int) - y + c - 1073741824 ≤ n ∧ n ≤ (x : Int) - y + d - 1073741824) :
    VRel r v (.int .i64 n) ∧ 0 ≤ n ∧ n < 4294967296 := by
  unfold mkS at h
  cases hb : (Nat.blt id 65536 && (Nat.blt c 4294967296 && (Nat.blt d 4294967296 && (Nat.blt lo 4294967296 && Nat.blt hi 4294967296)))) <;> simp only [hb, cond_true, cond_false, reduceCtorEq, Option.some.injEq] at h
  subst h
  simp only [Bool.and_eq_true, Nat.blt_eq] at hb
  obtain ⟨g1, g2, g3, g4, g5⟩ := hb
  refine ⟨.sym (q := sPack id c d lo hi) ⟨?_, ?_, ?_⟩, by omega, by omega⟩
  · rw [sPack_lo g1 g2 g3 g4]; exact h1
  · rw [sPack_hi g1 g2 g3 g4]; exact h2
  · rw [sPack_id g1, sPack_c g1 g2, sPack_d g1 g2 g3]; exact h3
theorem ltQ_sound {r : Emb} {a b : Nat} {n m : Int} (ha : SNum r a n) (hb : SNum r b m) {t : Bool} (h : ltQ a b = some t) : ltI n m = t := by
  unfold ltQ at h
  rw [ltI_eq]
  obtain ⟨a1, a2, a3⟩ := ha
  obtain ⟨b1, b2, b3⟩ := hb
  cases h1 : Nat.blt (sHi a) (sLo b)
  · rw [h1] at h
    simp only [cond_false] at h
    cases h2 : Nat.ble (sHi b) (sLo a)
    · rw [h2] at h
      simp only [cond_false] at h
      cases h3 : sameS a b
      · rw [h3] at h; cases h
      · rw [h3] at h
        simp only [cond_true] at h
        simp only [sameS, Bool.and_eq_true, Nat.blt_eq] at h3
        have e := Nat.eq_of_beq_eq_true h3.1
        rcases a3 with a3 | ⟨x, y, z, a3, a4, a5⟩
        · omega
        rcases b3 with b3 | ⟨x', y', z', b3, b4, b5⟩
        · omega
        rw [e, b3] at a3
        cases a3
        cases h4 : Nat.blt (sD a) (sC b)
        · rw [h4] at h
          simp only [cond_false] at h
          cases h5 : Nat.ble (sD b) (sC a) <;> simp only [h5, cond_true, cond_false, reduceCtorEq, Option.some.injEq] at h
          subst h
          have h5' : sD b ≤ sC a := Nat.le_of_ble_eq_true h5
          simp; omega
        · rw [h4] at h
          simp only [cond_true, Option.some.injEq] at h
          subst h
          rw [Nat.blt_eq] at h4
          simp; omega
    · rw [h2] at h
      simp only [cond_true, Option.some.injEq] at h
      subst h
      have h2' : sHi b ≤ sLo a := Nat.le_of_ble_eq_true h2
      simp; omega
  · rw [h1] at h
    simp only [cond_true, Option.some.injEq] at h
    subst h
    rw [Nat.blt_eq] at h1
    simp; omega
theorem eqQ_sound {r : Emb} {a b : Nat} {n m : Int} (ha : SNum r a n) (hb : SNum r b m) {t : Bool} (h : eqQ a b = some t) : eqI n m = t := by
  unfold eqQ at h
  rw [eqI_eq]
  obtain ⟨a1, a2, a3⟩ := ha
  obtain ⟨b1, b2, b3⟩ := hb
  cases h1 : (Nat.blt (sHi a) (sLo b) || Nat.blt (sHi b) (sLo a))
  · rw [h1] at h
    simp only [cond_false] at h
    cases h2 : (Nat.beq (sLo a) (sHi a) && (Nat.beq (sLo b) (sHi b) && Nat.beq (sLo a) (sLo b)))
    · rw [h2] at h
      simp only [cond_false] at h
      cases h3 : sameS a b
      · rw [h3] at h; cases h
      · rw [h3] at h
        simp only [cond_true] at h
        simp only [sameS, Bool.and_eq_true, Nat.blt_eq] at h3
        have e := Nat.eq_of_beq_eq_true h3.1
        rcases a3 with a3 | ⟨x, y, z, a3, a4, a5⟩
        · omega
        rcases b3 with b3 | ⟨x', y', z', b3, b4, b5⟩
        · omega
        rw [e, b3] at a3
        cases a3
        cases h4 : (Nat.blt (sD a) (sC b) || Nat.blt (sD b) (sC a))
        · rw [h4] at h
          simp only [cond_false] at h
          cases h5 : (Nat.beq (sC a) (sD a) && (Nat.beq (sC b) (sD b) && Nat.beq (sC a) (sC b))) <;> simp only [h5, cond_true, cond_false, reduceCtorEq, Option.some.injEq] at h
          subst h
          simp only [Bool.and_eq_true] at h5
          have e1 := Nat.eq_of_beq_eq_true h5.1
          have e2 := Nat.eq_of_beq_eq_true h5.2.1
          have e3 := Nat.eq_of_beq_eq_true h5.2.2
          simp; omega
        · rw [h4] at h
          simp only [cond_true, Option.some.injEq] at h
          subst h
          simp only [Bool.or_eq_true, Nat.blt_eq] at h4
          simp; omega
    · rw [h2] at h
      simp only [cond_true, Option.some.injEq] at h
      subst h
      simp only [Bool.and_eq_true] at h2
      have e1 := Nat.eq_of_beq_eq_true h2.1
      have e2 := Nat.eq_of_beq_eq_true h2.2.1
      have e3 := Nat.eq_of_beq_eq_true h2.2.2
      simp; omega
  · rw [h1] at h
    simp only [cond_true, Option.some.injEq] at h
    subst h
    simp only [Bool.or_eq_true, Nat.blt_eq] at h1
    simp; omega
theorem symOp_sound {r : Emb} {op : BinOp} {a b : Nat} {v : V} (h : symOp op a b = some v) {n m : Int} (ha : SNum r a n) (hb : SNum r b m) : ∃ v0, intB op .i64 n m = some v0 ∧ ∀ z, VRel r v0 z → VRel r v z := by
  have small : ∀ k : Int, 0 ≤ k → k < 4294967296 → IntKind.i64.wrap k = k := fun k h1 h2 => by
    obtain ⟨j, rfl⟩ := Int.eq_ofNat_of_zero_le h1
    exact wrap_small IntKind.i64 j (by show j ≤ 9223372036854775807; omega)
  have b1 := ha.1
  have b2 := ha.2.1
  have b3 := hb.1
  have b4 := hb.2.1
  unfold symOp at h
  split at h
  · have key : ∀ (id : Nat) (c d : Nat), mkS id c d (Nat.add (sLo a) (sLo b)) (Nat.add (sHi a) (sHi b)) = some v → (id = 0 ∨ ∃ x y z, r id = some (x, y, z) ∧ (x : Int) - y + c - 1073741824 ≤ n + m ∧ n + m ≤ (x : Int) - y + d - 1073741824) →
        ∃ v0, intB .add .i64 n m = some v0 ∧ ∀ z, VRel r v0 z → VRel r v z := fun id c d h h3 => by
      obtain ⟨g1, g2, g3⟩ := mkS_sound h (n := n + m) (by show ((sLo a + sLo b : Nat) : Int) ≤ _; omega) (by show _ ≤ ((sHi a + sHi b : Nat) : Int); omega) h3
      refine ⟨_, rfl, fun z hz => ?_⟩
      rw [addI_eq, small _ g2 g3] at hz
      cases hz
      exact g1
    cases h1 : Nat.beq (sId a) 0
    · rw [h1] at h
      simp only [cond_false] at h
      cases h2 : Nat.beq (sId b) 0 <;> simp only [h2, cond_true, cond_false, reduceCtorEq] at h
      refine key _ _ _ h ?_
      rcases ha.2.2 with q | ⟨x, y, z, q1, q2, q3⟩
      · exact .inl q
      · exact .inr ⟨x, y, z, q1, by show _ + ((sC a + sLo b : Nat) : Int) - _ ≤ _; omega, by show _ ≤ _ + ((sD a + sHi b : Nat) : Int) - _; omega⟩
    · rw [h1] at h
      simp only [cond_true] at h
      refine key _ _ _ h ?_
      rcases hb.2.2 with q | ⟨x, y, z, q1, q2, q3⟩
      · exact .inl q
      · exact .inr ⟨x, y, z, q1, by show _ + ((sC b + sLo a : Nat) : Int) - _ ≤ _; omega, by show _ ≤ _ + ((sD b + sHi a : Nat) : Int) - _; omega⟩
  · cases h0 : Nat.ble (sHi b) (sLo a) <;> simp only [h0, cond_true, cond_false, reduceCtorEq] at h
    have h0' : sHi b ≤ sLo a := Nat.le_of_ble_eq_true h0
    have key : ∀ (id : Nat) (c d : Nat), mkS id c d (Nat.sub (sLo a) (sHi b)) (Nat.sub (sHi a) (sLo b)) = some v → (id = 0 ∨ ∃ x y z, r id = some (x, y, z) ∧ (x : Int) - y + c - 1073741824 ≤ n - m ∧ n - m ≤ (x : Int) - y + d - 1073741824) →
        ∃ v0, intB .sub .i64 n m = some v0 ∧ ∀ z, VRel r v0 z → VRel r v z := fun id c d h h3 => by
      obtain ⟨g1, g2, g3⟩ := mkS_sound h (n := n - m) (by show ((sLo a - sHi b : Nat) : Int) ≤ _; omega) (by show _ ≤ ((sHi a - sLo b : Nat) : Int); omega) h3
      refine ⟨_, rfl, fun z hz => ?_⟩
      rw [subI_eq, small _ g2 g3] at hz
      cases hz
      exact g1
    cases h1 : (Nat.beq (sId b) 0 && (Nat.ble (sHi b) (sC a) && Nat.ble (sLo b) (sD a)))
    · rw [h1] at h
      exact key _ _ _ h (.inl rfl)
    · rw [h1] at h
      simp only [cond_true] at h
      simp only [Bool.and_eq_true] at h1
      have k1 : sHi b ≤ sC a := Nat.le_of_ble_eq_true h1.2.1
      have k2 : sLo b ≤ sD a := Nat.le_of_ble_eq_true h1.2.2
      refine key _ _ _ h ?_
      rcases ha.2.2 with q | ⟨x, y, z, q1, q2, q3⟩
      · exact .inl q
      · exact .inr ⟨x, y, z, q1, by show _ + ((sC a - sHi b : Nat) : Int) - _ ≤ _; omega, by show _ ≤ _ + ((sD a - sLo b : Nat) : Int) - _; omega⟩
  · cases h1 : (Nat.beq (sLo b) (sHi b) && Nat.blt 0 (sLo b)) <;> simp only [h1, cond_true, cond_false, reduceCtorEq] at h
    simp only [Bool.and_eq_true, Nat.blt_eq] at h1
    have e := Nat.eq_of_beq_eq_true h1.1
    have em : m = (sLo b : Int) := by omega
    subst em
    obtain ⟨k, rfl⟩ := Int.eq_ofNat_of_zero_le (show 0 ≤ n by omega)
    have hk1 : sLo a ≤ k := by omega
    have hk2 : k ≤ sHi a := by omega
    have q1 : sLo a / sLo b ≤ k / sLo b := Nat.div_le_div_right hk1
    have q2 : k / sLo b ≤ sHi a / sLo b := Nat.div_le_div_right hk2
    obtain ⟨g1, g2, g3⟩ := mkS_sound h (n := ((k / sLo b : Nat) : Int)) (by show ((sLo a / sLo b : Nat) : Int) ≤ _; omega) (by show _ ≤ ((sHi a / sLo b : Nat) : Int); omega) (.inl rfl)
    have hz0 : eqI (sLo b : Int) (.ofNat 0) = false := by rw [eqI_eq]; simp; omega
    refine ⟨.int .i64 (quoI .i64 k (sLo b : Int)), by simp only [intB, hz0, cond_false], fun z hz => ?_⟩
    have e2 : quoI .i64 (k : Int) (sLo b : Int) = ((k / sLo b : Nat) : Int) := by
      rw [quoI_eq]
      have : ((k : Int).tdiv (sLo b : Int)) = ((k / sLo b : Nat) : Int) := by
        rw [Int.ofNat_tdiv]
      rw [this]
      exact small _ g2 g3
    rw [e2] at hz
    cases hz
    exact g1
  · obtain ⟨t, ht, rfl⟩ := Option.map_eq_some_iff.1 h
    exact ⟨_, rfl, fun z hz => by rw [ltQ_sound ha hb ht] at hz; exact hz⟩
  · obtain ⟨t, ht, rfl⟩ := Option.map_eq_some_iff.1 h
    exact ⟨_, rfl, fun z hz => by rw [ltQ_sound hb ha ht] at hz; exact hz⟩
  · obtain ⟨t, ht, rfl⟩ := Option.map_eq_some_iff.1 h
    exact ⟨_, rfl, fun z hz => by rw [ltQ_sound hb ha ht] at hz; exact hz⟩
  · obtain ⟨t, ht, rfl⟩ := Option.map_eq_some_iff.1 h
    exact ⟨_, rfl, fun z hz => by rw [ltQ_sound ha hb ht] at hz; exact hz⟩
  · obtain ⟨t, ht, rfl⟩ := Option.map_eq_some_iff.1 h
    exact ⟨_, rfl, fun z hz => by rw [eqQ_sound ha hb ht] at hz; exact hz⟩
  · obtain ⟨t, ht, rfl⟩ := Option.map_eq_some_iff.1 h
    exact ⟨_, rfl, fun z hz => by rw [eqQ_sound ha hb ht] at hz; exact hz⟩
  · cases h
theorem bndB_sound {r : Emb} {op : BinOp} {x y v : V} (he : bndB op x y = some v) {a c : Value} (hx : VRel r x a) (hy : VRel r y c) (t : TypeId) (w : World) (xo yo : Operand) :
    ∃ z, (do eqGuard op t xo yo a c; binOp op t a c : Sem Value).run P w = .ok z w ∧ VRel r v z := by
  have fin : ∀ (p q : Nat) (n m : Int), symOp op p q = some v → SNum r p n → SNum r q m → ∃ z, (do eqGuard op t xo yo (.int .i64 n) (.int .i64 m); binOp op t (.int .i64 n) (.int .i64 m) : Sem Value).run P w = .ok z w ∧ VRel r v z := by
    intro p q n m h h1 h2
    obtain ⟨v0, g1, g2⟩ := symOp_sound h h1 h2
    obtain ⟨z, k1, k2⟩ := intB_sound g1 t w (P := P)
    have hg : (eqGuard op t xo yo (.int .i64 n) (.int .i64 m)).run P w = .ok () w := eqGuard_plain w (by simp) (by simp)
    exact ⟨z, by simp [hg, k1], g2 z (k2 r)⟩
  unfold bndB at he
  split at he
  · rename_i m q m' q'
    cases hb : ((Nat.beq m 0 && Nat.beq m' 0) && (Nat.beq (Nat.mod q 4) 1 && Nat.beq (Nat.mod q' 4) 1))
    · rw [hb] at he
      simp only [cond_false] at he
      cases hc : (((Nat.beq m 0 && Nat.beq m' 0) && (Nat.beq (Nat.mod q 4) 1 && Nat.beq (Nat.mod q' 4) 0)) && ((Nat.beq (sId (Nat.div q 4)) (Nat.div (Nat.div q' 4) 65536) && Nat.blt 0 (sId (Nat.div q 4))) && (Nat.beq (sC (Nat.div q 4)) 1073741824 && Nat.beq (sD (Nat.div q 4)) 1073741824)))
      · rw [hc] at he; cases he
      · rw [hc] at he
        simp only [cond_true] at he
        split at he
        · obtain rfl := Option.some.inj he
          simp only [Bool.and_eq_true, Nat.blt_eq] at hc
          obtain ⟨⟨⟨g1, g2⟩, g3, g4⟩, ⟨g5, g6⟩, g7, g8⟩ := hc
          obtain rfl := Nat.eq_of_beq_eq_true g1
          obtain rfl := Nat.eq_of_beq_eq_true g2
          obtain ⟨n, rfl, h1, h2, h3⟩ := sym_inv hx (Nat.eq_of_beq_eq_true g3)
          obtain ⟨u, v, rfl, k1, k2, k3⟩ := snx_inv hy (Nat.eq_of_beq_eq_true g4)
          have e5 : sId (q / 4) = q' / 4 / 65536 := Nat.eq_of_beq_eq_true g5
          have e6 : 0 < sId (q / 4) := g6
          have e7 : sC (q / 4) = 1073741824 := Nat.eq_of_beq_eq_true g7
          have e8 : sD (q / 4) = 1073741824 := Nat.eq_of_beq_eq_true g8
          rcases h3 with h3 | ⟨x', y', z', j1, j2, j3⟩
          · omega
          rw [e5, k2] at j1
          cases j1
          rw [e7] at j2
          rw [e8] at j3
          obtain ⟨z, i1, i2⟩ := intB_sound (P := P) (op := .lss) (k := .i64) (a := n) (b := (u : Int)) (v := .bool true) (by
            simp only [intB, ltI_eq, Option.some.injEq, V.bool.injEq, decide_eq_true_eq]
            omega) t w
          have hg : (eqGuard .lss t xo yo (.int .i64 n) (.int .i64 (u : Int))).run P w = .ok () w := eqGuard_plain w (by simp) (by simp)
          exact ⟨z, by simp [hg, i1], i2 r⟩
        · cases he
    · rw [hb] at he
      simp only [cond_true] at he
      simp only [Bool.and_eq_true] at hb
      obtain ⟨⟨g1, g2⟩, g3, g4⟩ := hb
      obtain rfl := Nat.eq_of_beq_eq_true g1
      obtain rfl := Nat.eq_of_beq_eq_true g2
      obtain ⟨n, rfl, h1⟩ := sym_inv hx (Nat.eq_of_beq_eq_true g3)
      obtain ⟨n', rfl, h2⟩ := sym_inv hy (Nat.eq_of_beq_eq_true g4)
      exact fin _ _ n n' he h1 h2
  · rename_i m q k
    cases hb : (Nat.beq m 0 && (Nat.beq (Nat.mod q 4) 1 && Nat.blt k 4294967296)) <;> simp only [hb, cond_true, cond_false, reduceCtorEq] at he
    simp only [Bool.and_eq_true, Nat.blt_eq] at hb
    obtain ⟨g1, g2, g3⟩ := hb
    obtain rfl := Nat.eq_of_beq_eq_true g1
    obtain ⟨n, rfl, h1⟩ := sym_inv hx (Nat.eq_of_beq_eq_true g2)
    cases hy
    exact fin _ _ n (Int.ofNat k) he h1 (snum_const r g3)
  · rename_i k m q
    cases hb : (Nat.beq m 0 && (Nat.beq (Nat.mod q 4) 1 && Nat.blt k 4294967296)) <;> simp only [hb, cond_true, cond_false, reduceCtorEq] at he
    simp only [Bool.and_eq_true, Nat.blt_eq] at hb
    obtain ⟨g1, g2, g3⟩ := hb
    obtain rfl := Nat.eq_of_beq_eq_true g1
    obtain ⟨n, rfl, h1⟩ := sym_inv hy (Nat.eq_of_beq_eq_true g2)
    cases hx
    exact fin _ _ (Int.ofNat k) n he (snum_const r g3) h1
  · cases he
theorem clsU_sound {r : Emb} {op : BinOp} {x y v : V} (he : clsU op x y = some v) {a c : Value} (hx : VRel r x a) (hy : VRel r y c) (t : TypeId) (w : World) (xo yo : Operand) :
    ∃ z, (do eqGuard op t xo yo a c; binOp op t a c : Sem Value).run P w = .ok z w ∧ VRel r v z := by
  unfold clsU at he
  split at he
  · rename_i v' h
    obtain rfl := Option.some.inj he
    exact clsB_sound h hx hy t w xo yo
  · split at he
    · rename_i v' h
      obtain rfl := Option.some.inj he
      exact unkB_sound h hx hy t w xo yo
    · exact bndB_sound he hx hy t w xo yo
theorem eqAll_sound {r : Emb} {h : H} {w : World} (hr : Rel r h w) {t : TypeId} {x y : V} {b : Bool} (he : eqAll P h t x y = some b) {a c : Value} (hx : VRel r x a) (hy : VRel r y c) (xo yo : Operand) :
    ((eqGuard .eql t xo yo a c).run P w = .ok () w ∧ (binOp .eql t a c).run P w = .ok (.bool b) w) ∧ ((eqGuard .neq t xo yo a c).run P w = .ok () w ∧ (binOp .neq t a c).run P w = .ok (.bool (!b)) w) := by
  have fin : ∀ (h1 : (Op.equal t a c).run P w = .ok b w), (∀ k n, a ≠ .int k n) → (∀ s, a ≠ .string s) → (∀ k n, a ≠ .float k n) → (∀ k n m, a ≠ .complex k n m) → a ≠ .nilIface → (∀ cs, a ≠ .agg cs) →
      ((eqGuard .eql t xo yo a c).run P w = .ok () w ∧ (binOp .eql t a c).run P w = .ok (.bool b) w) ∧ ((eqGuard .neq t xo yo a c).run P w = .ok () w ∧ (binOp .neq t a c).run P w = .ok (.bool (!b)) w) := fun h1 q1 q2 q3 q4 q5 q6 =>
    ⟨⟨eqGuard_plain w q5 q6, (binOp_ptr_eql w h1 q1 q2 q3 q4).1⟩, ⟨eqGuard_plain w q5 q6, (binOp_ptr_eql w h1 q1 q2 q3 q4).2⟩⟩
  have eq1 : ∀ (_ : ∀ d : Nat, (Op.equalIn (d + 1) t a c).run P w = .ok b w), (Op.equal t a c).run P w = .ok b w := fun h1 => h1 9999
  unfold eqAll at he
  split at he
  · rename_i xs ys
    cases hx with
    | agg hx =>
      cases hy with
      | agg hy =>
        rename_i as cs
        unfold structEqV at he
        split at he
        · rename_i fs hu
          cases hs : (P.stoodInHeld t || P.eqGuardType P.depth t) <;> simp only [hs, cond_true, cond_false, reduceCtorEq] at he
          simp only [Bool.or_eq_false_iff] at hs
          have hf : P.fieldsOf t = fs := by simp [Program.fieldsOf, hu]
          have h1 := fieldsEqV_sound hx hy 9998 w fs.toList b he
          have h2 : (Op.equalIn 10000 t (.agg as) (.agg cs)).run P w = .ok b w := by
            rw [run_equalIn_struct w 9999 t as cs (by rw [hf]; exact hu) hs.1, hf]
            exact h1
          exact ⟨⟨run_eqGuard_agg w .eql t xo yo as cs hs.2, by rw [run_eql_struct, h2]; rfl⟩, ⟨run_eqGuard_agg w .neq t xo yo as cs hs.2, by rw [run_neq_struct, h2]; rfl⟩⟩
        · cases he
  · split at he
    · rename_i e hu
      simp only [Option.some.injEq] at he
      subst he
      cases hx; cases hy
      exact fin (eq1 (fun d => by simp [Op.equalIn, run_underlying hu])) (by simp) (by simp) (by simp) (by simp) (by simp) (by simp)
    · cases he
  · split at he
    · rename_i e hu
      simp only [Option.some.injEq] at he
      subst he
      cases hx; cases hy <;> exact fin (eq1 (fun d => by simp [Op.equalIn, run_underlying hu])) (by simp) (by simp) (by simp) (by simp) (by simp) (by simp)
    · cases he
  · split at he
    · rename_i e hu
      simp only [Option.some.injEq] at he
      subst he
      cases hy; cases hx <;> exact fin (eq1 (fun d => by simp [Op.equalIn, run_underlying hu])) (by simp) (by simp) (by simp) (by simp) (by simp) (by simp)
    · cases he
  · split at he
    · rename_i e1 e2 e3 hu
      simp only [Option.some.injEq] at he
      subst he
      cases hx <;> cases hy
      all_goals exact fin (eq1 (fun d => by simp [Op.equalIn, run_underlying hu])) (by simp) (by simp) (by simp) (by simp) (by simp) (by simp)
    · cases he
  · split at he
    · rename_i e1 e2 e3 hu
      simp only [Option.some.injEq] at he
      subst he
      cases hx <;> cases hy
      all_goals exact fin (eq1 (fun d => by simp [Op.equalIn, run_underlying hu])) (by simp) (by simp) (by simp) (by simp) (by simp) (by simp)
    · cases he
  · split at he
    · rename_i e1 e2 e3 hu
      simp only [Option.some.injEq] at he
      subst he
      cases hx <;> cases hy
      all_goals exact fin (eq1 (fun d => by simp [Op.equalIn, run_underlying hu])) (by simp) (by simp) (by simp) (by simp) (by simp) (by simp)
    · cases he
  · have h1 := ptrEq_sound hr he hx hy
    have hptr : ∃ q, a = .pointer q := by
      unfold ptrEq at he
      split at he
      · split at he <;> first | (simp at he; done) | (cases hx; exact ⟨_, rfl⟩)
      · simp at he
    obtain ⟨q, rfl⟩ := hptr
    exact fin h1 (by simp) (by simp) (by simp) (by simp) (by simp) (by simp)

theorem wrap_mid (n : Int) (h1 : -100000 ≤ n) (h2 : n ≤ 100000) : IntKind.i64.wrap n = n := by
  by_cases h : 0 ≤ n
  · obtain ⟨k, rfl⟩ := Int.eq_ofNat_of_zero_le h
    exact wrap_small .i64 k (by show k ≤ 9223372036854775807; omega)
  · simp [IntKind.wrap, IntKind.bits, IntKind.signed]
    omega

theorem linB_sound {r : Emb} {op : BinOp} {t : TypeId} {m c m' c' : Nat} {v : V} (he : linB op m c m' c' = some v) {a b : Value} (hx : VRel r (.cl1 m c) a) (hy : VRel r (.cl1 m' c') b) (w : World) (xo yo : Operand) :
    ∃ z, (do eqGuard op t xo yo a b; binOp op t a b : Sem Value).run P w = .ok z w ∧ VRel r v z := by
  have int : ∀ (op : BinOp) (n b : Int) (v0 : V), intB op .i64 n b = some v0 → ∃ z, (do eqGuard op t xo yo (.int .i64 n) (.int .i64 b); binOp op t (.int .i64 n) (.int .i64 b) : Sem Value).run P w = .ok z w ∧ VRel r v0 z := by
    intro op n b v0 h
    obtain ⟨z, h1, h2⟩ := intB_sound h t w (P := P)
    have hg : (eqGuard op t xo yo (.int .i64 n) (.int .i64 b)).run P w = .ok () w := eqGuard_plain w (by simp) (by simp)
    exact ⟨z, by simp [hg, h1], h2 r⟩
  unfold linB at he
  cases hb : (Nat.beq m 0 && Nat.beq m' 0)
  · rw [hb] at he; simp at he
  · rw [hb] at he
    simp only [cond_true] at he
    simp only [Bool.and_eq_true] at hb
    obtain rfl := Nat.eq_of_beq_eq_true hb.1
    obtain rfl := Nat.eq_of_beq_eq_true hb.2
    split at he
    · cases hk : (Nat.beq c c' && Nat.blt c 4) <;> simp only [hk, cond_true, cond_false, reduceCtorEq, Option.some.injEq] at he
      subst he
      simp only [Bool.and_eq_true, Nat.blt_eq] at hk
      obtain rfl := Nat.eq_of_beq_eq_true hk.1
      obtain ⟨n, rfl, rfl⟩ := lin_same hx hy hk.2
      exact int .eql n n _ (by simp [intB, eqI_eq])
    · cases hk : (Nat.beq c c' && Nat.blt c 4) <;> simp only [hk, cond_true, cond_false, reduceCtorEq, Option.some.injEq] at he
      subst he
      simp only [Bool.and_eq_true, Nat.blt_eq] at hk
      obtain rfl := Nat.eq_of_beq_eq_true hk.1
      obtain ⟨n, rfl, rfl⟩ := lin_same hx hy hk.2
      exact int .neq n n _ (by simp [intB, eqI_eq])
    · cases hk : (Nat.beq c 1 && Nat.beq c' 2) <;> simp only [hk, cond_true, cond_false, reduceCtorEq, Option.some.injEq] at he
      subst he
      simp only [Bool.and_eq_true] at hk
      obtain rfl := Nat.eq_of_beq_eq_true hk.1
      obtain rfl := Nat.eq_of_beq_eq_true hk.2
      obtain ⟨x, y, rfl, r1, r2, r3, r4⟩ := lin_inv hx (by omega)
      obtain ⟨x', y', rfl, r5, r6, r7, r8⟩ := lin_inv hy (by omega)
      rw [r1] at r5
      cases r5
      rw [r2] at r6
      cases r6
      obtain ⟨z, hz1, hz2⟩ := int .add (linOf 1 x y) (linOf 2 x y) _ rfl
      refine ⟨z, hz1, ?_⟩
      have e : addI .i64 (linOf 1 x y) (linOf 2 x y) = linOf 3 x y := by
        rw [addI_eq]
        show IntKind.i64.wrap (((x : Int) - 999) + ((y : Int) - 999)) = ((x : Int) - 999) + ((y : Int) - 999)
        exact wrap_mid _ (by omega) (by omega)
      rw [e] at hz2
      cases hz2
      exact .lin (by omega) r1 r2 r3 r4
    · cases he

theorem binV_sound {r : Emb} {h : H} {w : World} (hr : Rel r h w) {op : BinOp} {t : TypeId} {x y v : V} (he : binV P h op t x y = some v) {a c : Value} (hx : VRel r x a) (hy : VRel r y c) (xo yo : Operand) :
    ∃ z, (do eqGuard op t xo yo a c; binOp op t a c : Sem Value).run P w = .ok z w ∧ VRel r v z := by
  have kf : ∀ {v : V}, kfB op x y = some v → ∃ z, (do eqGuard op t xo yo a c; binOp op t a c : Sem Value).run P w = .ok z w ∧ VRel r v z := by
    intro v hk
    obtain ⟨n, m, v0, rfl, rfl, h1, h2⟩ := kfB_sound hk hx hy
    obtain ⟨z, k1, k2⟩ := intB_sound h1 t w (P := P)
    have hg : (eqGuard op t xo yo (.int .i64 n) (.int .i64 m)).run P w = .ok () w := eqGuard_plain w (by simp) (by simp)
    exact ⟨z, by simp [hg, k1], h2 z (k2 r)⟩
  unfold binV at he
  split at he
  · rename_i k a' k' b'
    cases hx; cases hy
    have hg : (eqGuard op t xo yo (.int k a') (.int k' b')).run P w = .ok () w := eqGuard_plain w (by simp) (by simp)
    cases hs : isShift op
    · rw [hs] at he
      simp only [cond_false] at he
      cases hk : Nat.beq (kc k) (kc k') <;> simp only [hk, cond_true, cond_false, reduceCtorEq] at he
      have e := kc_inj hk
      subst e
      obtain ⟨z, h1, h2⟩ := intB_sound he t w (P := P)
      exact ⟨z, by simp [hg, h1], h2 r⟩
    · rw [hs] at he
      simp only [cond_true] at he
      obtain ⟨z, h1, h2⟩ := shiftB_sound he t w (P := P) (k' := k')
      exact ⟨z, by simp [hg, h1], h2 r⟩
  · rename_i n l m k
    cases hx with
    | str hx =>
      cases hy with
      | str hy =>
        have hg : (eqGuard op t xo yo (.string (sval n l)) (.string (sval m k))).run P w = .ok () w := eqGuard_plain w (by simp) (by simp)
        obtain ⟨z, h1, h2⟩ := strB_sound he hx hy t w (P := P)
        exact ⟨z, by simp [hg, h1], h2 r⟩
  · rename_i p q
    cases hx; cases hy
    have hg : (eqGuard op t xo yo (.bool p) (.bool q)).run P w = .ok () w := eqGuard_plain w (by simp) (by simp)
    split at he
    · rename_i hu
      simp only [Option.some.injEq] at he
      subst he
      refine ⟨.bool (p == q), ?_, .bool _⟩
      have := equal_bool hu p q w
      simp [hg, (binOp_ptr_eql w this (by simp) (by simp) (by simp) (by simp)).1]
    · rename_i hu
      simp only [Option.some.injEq] at he
      subst he
      refine ⟨.bool (!(p == q)), ?_, .bool _⟩
      have := equal_bool hu p q w
      simp [hg, (binOp_ptr_eql w this (by simp) (by simp) (by simp) (by simp)).2]
    · simp at he
  · split at he
    · rename_i v' hk
      simp only [Option.some.injEq] at he
      subst he
      exact kf hk
    · exact linB_sound he hx hy w xo yo
  · exact clsB_sound he hx hy t w xo yo
  · split at he
    · rename_i v' hk
      simp only [Option.some.injEq] at he
      subst he
      exact kf hk
    split at he
    · split at he
      · rename_i v' h
        obtain rfl := Option.some.inj he
        exact bndB_sound h hx hy t w xo yo
      · cases hp : eqAll P h t x y with
        | none => rw [hp] at he; simp at he
        | some b =>
          rw [hp] at he
          simp only [Option.map_some, Option.some.injEq] at he
          subst he
          obtain ⟨⟨g1, g2⟩, _⟩ := eqAll_sound hr hp hx hy xo yo
          exact ⟨.bool b, by simp [g1, g2], .bool _⟩
    · split at he
      · rename_i v' h
        obtain rfl := Option.some.inj he
        exact bndB_sound h hx hy t w xo yo
      · cases hp : eqAll P h t x y with
        | none => rw [hp] at he; simp at he
        | some b =>
          rw [hp] at he
          simp only [Option.map_some, Option.some.injEq] at he
          subst he
          obtain ⟨_, ⟨g1, g2⟩⟩ := eqAll_sound hr hp hx hy xo yo
          exact ⟨.bool (!b), by simp [g1, g2], .bool _⟩
    · exact clsU_sound he hx hy t w xo yo

end Go.Ev

namespace Go.Ev

variable {P : Program}

def nilV (x : V) : Option V :=
  match x with
  | .ptr id o => some (.ptr id o)
  | .iface t v => some (.iface t v)
  | .fn (.func f) a b => some (.fn (.func f) a b)
  | _ => none

theorem nilV_sound {r : Emb} {x v : V} (h : nilV x = some v) {a : Value} (hx : VRel r x a) (e : Operand → Value) (o : Oper) (y : Operand) (ho : o.op = .nilCheck y) (hy : e y = a) (w : World) :
    (execOp e o).run P w = .ok (.value a) w ∧ VRel r v a := by
  unfold nilV at h
  split at h <;> simp only [Option.some.injEq, reduceCtorEq] at h <;> subst h
  · refine ⟨?_, hx⟩
    cases hx
    unfold execOp
    simp [ho, hy]
  · refine ⟨?_, hx⟩
    cases hx
    unfold execOp
    simp [ho, hy]
  · refine ⟨?_, hx⟩
    cases hx
    unfold execOp
    simp [ho, hy]

def unV (op : UnOp) (x : V) : Option V :=
  match op, x with
  | .not, .bool b => some (.bool (!b))
  | .neg, .int k n => some (.int k (subI k (.ofNat 0) n))
  | .xor, .int k n => (bitI .xor k (if k.signed then -1 else k.max) n).map (V.int k)
  | _, _ => none

theorem unV_sound {r : Emb} {op : UnOp} {x v : V} (h : unV op x = some v) {a : Value} (hx : VRel r x a) (w : World) : ∃ z, (Op.unary op a).run P w = .ok z w ∧ VRel r v z := by
  unfold unV at h
  split at h <;> simp only [Option.some.injEq, reduceCtorEq, bitI, Option.map_some] at h <;> subst h
  · cases hx; exact ⟨_, rfl, .bool _⟩
  · rename_i k n
    cases hx
    exact ⟨.int k (k.wrap (0 - n)), by simp [Op.unary, Op.intArith], by rw [subI_eq]; exact .int k _⟩
  · rename_i k n
    cases hx
    exact ⟨.int k (k.wrap (BitVec.ofInt k.bits (if k.signed then -1 else k.max) ^^^ BitVec.ofInt k.bits n).toNat), by simp [Op.unary, Op.intBits], .int k _⟩

def convV (P : Program) (src dst : TypeId) (x : V) : Option V :=
  match P.underlying src, P.underlying dst, x with
  | some _, some (.int k), .int _ n => some (.int k (convI k n))
  | some _, some .string, .str n l => some (.str n l)
  | some _, some (.int .i64), .cl1 0 c => bif Nat.blt c 4 then some (.cl1 0 c) else none
  | some _, some (.int k), .cl2 m q => bif Nat.beq m 0 && (Nat.beq (Nat.mod q 64) 60 && Nat.ble 64 q) then some (.cl2 0 (kq k)) else none
  | _, _, _ => none
theorem uint_some {r : Emb} {q : Nat} {a : Value} (hx : VRel r (.cl2 0 q) a) (h1 : q % 64 = 60) (h2 : 64 ≤ q) : ∃ (k : IntKind) (n : Int), q = kq k ∧ a = .int k n ∧ (k = .u8 → 0 ≤ n ∧ n < 256) := by
  generalize hv : V.cl2 0 q = v at hx
  cases hx with
  | cl2 hm _ => cases hv; omega
  | @lslice L j b o z cap m hL h hj hz hj6 => simp only [V.cl2.injEq] at hv; omega
  | llen _ _ _ => simp only [V.cl2.injEq] at hv; omega
  | lbig _ => simp only [V.cl2.injEq] at hv; omega
  | lbigl _ => simp only [V.cl2.injEq] at hv; omega
  | lvoid => simp only [V.cl2.injEq] at hv; omega
  | @uint k n hn =>
    simp only [V.cl2.injEq] at hv
    exact ⟨k, n, hv.2, rfl, hn⟩
  | ustr _ => simp only [V.cl2.injEq] at hv; omega
  | _ => cases hv
theorem wrap_u8 (n : Int) : 0 ≤ IntKind.u8.wrap n ∧ IntKind.u8.wrap n < 256 := by
  have e : IntKind.u8.wrap n = n % 256 := by
    simp [IntKind.wrap, IntKind.signed, IntKind.bits]
  rw [e]
  omega

theorem convV_sound {r : Emb} {src dst : TypeId} {x v : V} (h : convV P src dst x = some v) {a : Value} (hx : VRel r x a) (w : World) : ∃ z, (convert src dst a).run P w = .ok z w ∧ VRel r v z := by
  unfold convV at h
  split at h <;> first | (simp only [Option.some.injEq, reduceCtorEq] at h; first | (subst h) | skip) | skip
  · rename_i d k k' n h1 h2
    cases hx
    refine ⟨.int k (k.wrap n), by simp [convert, run_underlying h1, run_underlying h2, Conv.intToInt], by rw [convI_eq]; exact .int k _⟩
  · rename_i d n l h1 h2
    cases hx with
    | str hx => exact ⟨.string (sval n l), by simp [convert, run_underlying h1, run_underlying h2], .str hx⟩
  · rename_i d c h1 h2
    cases hk : Nat.blt c 4 <;> simp only [hk, cond_true, cond_false, reduceCtorEq, Option.some.injEq] at h
    subst h
    rw [Nat.blt_eq] at hk
    obtain ⟨x, y, rfl, r1, r2, r3, r4⟩ := lin_inv hx hk
    obtain ⟨b1, b2⟩ := linOf_bound c r3 r4
    exact ⟨.int .i64 (IntKind.i64.wrap (linOf c x y)), by simp [convert, run_underlying h1, run_underlying h2, Conv.intToInt], by rw [wrap_mid _ (by omega) (by omega)]; exact .lin hk r1 r2 r3 r4⟩
  · rename_i d k m q h1 h2
    cases hk : (Nat.beq m 0 && (Nat.beq (Nat.mod q 64) 60 && Nat.ble 64 q)) <;> simp only [hk, cond_true, cond_false, reduceCtorEq, Option.some.injEq] at h
    subst h
    simp only [Bool.and_eq_true] at hk
    obtain ⟨g0, g1, g2⟩ := hk
    obtain rfl := Nat.eq_of_beq_eq_true g0
    obtain ⟨k', n, _, rfl, _⟩ := uint_some hx (Nat.eq_of_beq_eq_true g1) (Nat.le_of_ble_eq_true g2)
    refine ⟨.int k (k.wrap n), by simp [convert, run_underlying h1, run_underlying h2, Conv.intToInt], .uint (fun hk => ?_)⟩
    subst hk
    exact wrap_u8 n

/-- A bound: a number not below 0. -/
def natV (x : V) : Option Nat :=
  match x with
  | .int _ n => Int.casesOn n (fun m => some m) (fun _ => none)
  | _ => none
theorem natV_sound {r : Emb} {x : V} {m : Nat} (h : natV x = some m) {a : Value} (hx : VRel r x a) : ∃ k, a = .int k (Int.ofNat m) := by
  unfold natV at h
  split at h
  · rename_i k n
    cases hx
    cases n with
    | ofNat i => simp only [Option.some.injEq] at h; subst h; exact ⟨k, rfl⟩
    | negSucc i => simp at h
  · simp at h

/-- The bounds of a piece; none: not within. -/
def loV (lo : Option V) (h : Nat) : Option Nat :=
  match lo with
  | none => some 0
  | some x => (natV x).bind fun n => bif Nat.ble n h then some n else none
def hiV (hi : Option V) (len cap : Nat) : Option Nat :=
  match hi with
  | none => some len
  | some x => (natV x).bind fun n => bif Nat.ble n cap then some n else none

inductive ORel (r : Emb) : Option V → Option Value → Prop where
  | none : ORel r none none
  | some {v : V} {x : Value} (h : VRel r v x) : ORel r (some v) (some x)

theorem run_sliceBound {x : V} {m y : Nat} {r : Emb} (h : natV x = some m) (hm : m ≤ y) {a : Value} (hx : VRel r x a) (c : BoundsCode) (w : World) : (Instr.sliceBound a y c).run P w = .ok m w := by
  obtain ⟨k, rfl⟩ := natV_sound h hx
  have h1 : (0 : Int) ≤ Int.ofNat m ∧ Int.ofNat m ≤ (y : Int) := ⟨Int.natCast_nonneg m, Int.ofNat_le.2 hm⟩
  simp only [Instr.sliceBound, asIntOf, Sem.run_bind, Sem.run_pure, Result.andThen_ok]
  rw [if_pos h1]
  rfl

theorem sliceBounds_sound {r : Emb} {lo hi : Option V} {a b : Option Value} (h1 : ORel r lo a) (h2 : ORel r hi b) {len cap cap' l h : Nat} (hc : cap ≤ cap') (hh : hiV hi len cap = some h) (hl : loV lo h = some l) (s : Bool) (w : World) :
    (Instr.sliceBounds s len cap' a b none).run P w = .ok (l, h, cap') w := by
  have g2 : ∀ (c : BoundsCode), (match b with | some v => Instr.sliceBound v cap' c | none => pure len : Sem Nat).run P w = .ok h w := by
    intro c
    cases h2 with
    | none => simp only [hiV, Option.some.injEq] at hh; subst hh; rfl
    | some h2 =>
      simp only [hiV] at hh
      cases hn : natV _ with
      | none => rw [hn] at hh; simp at hh
      | some m =>
        rw [hn] at hh
        simp only [Option.bind_some] at hh
        cases hb : Nat.ble m cap <;> simp only [hb, cond_true, cond_false, reduceCtorEq, Option.some.injEq] at hh
        subst hh
        exact run_sliceBound hn (Nat.le_trans (Nat.le_of_ble_eq_true hb) hc) h2 c w
  have g1 : ∀ (c : BoundsCode), (match a with | some v => Instr.sliceBound v h c | none => pure 0 : Sem Nat).run P w = .ok l w := by
    intro c
    cases h1 with
    | none => simp only [loV, Option.some.injEq] at hl; subst hl; rfl
    | some h1 =>
      simp only [loV] at hl
      cases hn : natV _ with
      | none => rw [hn] at hl; simp at hl
      | some m =>
        rw [hn] at hl
        simp only [Option.bind_some] at hl
        cases hb : Nat.ble m h <;> simp only [hb, cond_true, cond_false, reduceCtorEq, Option.some.injEq] at hl
        subst hl
        exact run_sliceBound hn (Nat.le_of_ble_eq_true hb) h1 c w
  cases h2 with
  | none =>
    simp only [hiV, Option.some.injEq] at hh
    subst hh
    cases h1 with
    | none =>
      simp only [loV, Option.some.injEq] at hl
      subst hl
      simp [Instr.sliceBounds]
    | some h1 =>
      have := g1 .sliceB
      simp only at this
      simp [Instr.sliceBounds, this]
  | some h2 =>
    have e2 := g2 (if s then .sliceAcap else .sliceAlen)
    simp only at e2
    cases h1 with
    | none =>
      simp only [loV, Option.some.injEq] at hl
      subst hl
      simp [Instr.sliceBounds, e2]
    | some h1 =>
      have := g1 .sliceB
      simp only at this
      simp [Instr.sliceBounds, e2, this]

def sliceV (P : Program) (t : TypeId) (x : V) (lo hi : Option V) : Option V :=
  match P.underlying t, x with
  | some .string, .str n len =>
    (hiV hi len len).bind fun h => (loV lo h).map fun l => .str (Nat.mod (Nat.div n (Nat.pow 256 l)) (Nat.pow 256 (Nat.sub h l))) (Nat.sub h l)
  | some (.slice e), .slice id o len cap esz =>
    match P.info? e with
    | some i => bif Nat.beq i.size esz then (hiV hi len cap).bind fun h => (loV lo h).map fun l => .slice id (Nat.add o (Nat.mul l esz)) (Nat.sub h l) (Nat.sub cap l) esz else none
    | none => none
  | some (.slice e), .nils => match P.info? e with
    | some _ => (hiV hi 0 0).bind fun h => (loV lo h).map fun _ => .nils
    | none => none
  | _, _ => none

theorem sval_piece (n l a b : Nat) (hb : b ≤ l) (hab : a ≤ b) : (sval n l).extract a b = sval (n / 256 ^ a % 256 ^ (b - a)) (b - a) := by
  rw [Lib.extract_eq]
  show (⟨(((sdec n l).toArray.toList.drop a).take (b - a)).toArray⟩ : ByteArray) = ⟨(sdec _ _).toArray⟩
  rw [sdec_piece n l a b hb hab]

theorem bounds_le {lo hi : Option V} {len cap l h : Nat} (hh : hiV hi len cap = some h) (hl : loV lo h = some l) : l ≤ h ∧ (h ≤ cap ∨ h = len) := by
  constructor
  · unfold loV at hl
    split at hl
    · simp only [Option.some.injEq] at hl; omega
    · cases hn : natV _ with
      | none => rw [hn] at hl; simp at hl
      | some m =>
        rw [hn] at hl
        simp only [Option.bind_some] at hl
        cases hb : Nat.ble m h <;> simp only [hb, cond_true, cond_false, reduceCtorEq, Option.some.injEq] at hl
        subst hl
        exact Nat.le_of_ble_eq_true hb
  · unfold hiV at hh
    split at hh
    · simp only [Option.some.injEq] at hh; exact .inr hh.symm
    · cases hn : natV _ with
      | none => rw [hn] at hh; simp at hh
      | some m =>
        rw [hn] at hh
        simp only [Option.bind_some] at hh
        cases hb : Nat.ble m cap <;> simp only [hb, cond_true, cond_false, reduceCtorEq, Option.some.injEq] at hh
        subst hh
        exact .inl (Nat.le_of_ble_eq_true hb)

theorem addr_add (b o n : Nat) : (⟨b, o, none⟩ : Addr).add n = ⟨b, o + n, none⟩ := Addr.add_mid b o n

theorem sliceV_sound {r : Emb} {t : TypeId} {x v : V} {lo hi : Option V} (h : sliceV P t x lo hi = some v) {a : Value} {p q : Option Value} (hx : VRel r x a) (h1 : ORel r lo p) (h2 : ORel r hi q) (w : World) : ∃ z, (Instr.sliceAt t a p q none).run P w = .ok z w ∧ VRel r v z := by
  unfold sliceV at h
  split at h
  · rename_i n len hu
    cases hh : hiV hi len len with
    | none => rw [hh] at h; simp at h
    | some e =>
      cases hl : loV lo e with
      | none => rw [hh] at h; simp [hl] at h
      | some l =>
        rw [hh] at h
        simp only [Option.bind_some, hl, Option.map_some, Option.some.injEq] at h
        subst h
        cases hx with
        | str hx =>
          have hb := bounds_le hh hl
          have hsb := sliceBounds_sound (P := P) h1 h2 (Nat.le_refl len) hh hl false w
          refine ⟨.string ((sval n len).extract l e), ?_, ?_⟩
          · simp [Instr.sliceAt, Instr.slice, run_underlying hu, sval_size, hsb]
          · rw [sval_piece n len l e (by omega) hb.1]
            exact .str (Nat.mod_lt _ (Nat.pow_pos (by omega)))
  · rename_i e id o len cap esz hu
    split at h
    · rename_i i hi'
      cases hz : Nat.beq i.size esz <;> simp only [hz, cond_true, cond_false, reduceCtorEq] at h
      have hsz := Nat.eq_of_beq_eq_true hz
      cases hh : hiV hi len cap with
      | none => rw [hh] at h; simp at h
      | some e' =>
        cases hl : loV lo e' with
        | none => rw [hh] at h; simp [hl] at h
        | some l =>
          rw [hh] at h
          simp only [Option.bind_some, hl, Option.map_some, Option.some.injEq] at h
          subst h
          have hb := bounds_le hh hl
          cases hx with
          | @slice _ _ _ _ _ b sh c cap' hx hle1 hle2 hx3 =>
            have hsb := sliceBounds_sound (P := P) h1 h2 hle2 hh hl true w
            by_cases hm : cap' = l
            · subst hm
              refine ⟨.slice (some ⟨b, o + sh, none⟩) (e' - cap') (cap' - cap'), ?_, ?_⟩
              · simp [Instr.sliceAt, Instr.slice, run_underlying hu, hsb, sizeOf, typeInfo, hi']
              · have e1 : e' - cap' = 0 := by omega
                have e2 : cap - cap' = 0 := by omega
                show VRel r (.slice id _ (e' - cap') (cap - cap') esz) _
                rw [e1, e2]
                exact .slice0 hx (by simp only [Nat.sub_self, Nat.zero_mul, Nat.add_zero]; omega)
            · refine ⟨.slice (some ⟨b, o + sh + l * i.size, none⟩) (e' - l) (cap' - l), ?_, ?_⟩
              · simp [Instr.sliceAt, Instr.slice, run_underlying hu, hsb, sizeOf, typeInfo, hi', hm, addr_add]
              · rw [hsz, show o + sh + l * esz = (o + l * esz) + sh by omega]
                refine .slice hx ?_ ?_ ?_
                · show e' - l ≤ cap - l; omega
                · show cap - l ≤ cap' - l; omega
                · have : l * esz + (cap' - l) * esz = cap' * esz := by rw [← Nat.add_mul]; congr 1; omega
                  show o + l * esz + sh + (cap' - l) * esz ≤ c
                  omega
          | @slice0 _ _ _ b sh c off cap' hx hx3 =>
            have e0 : e' = 0 := by omega
            have l0 : l = 0 := by omega
            subst e0
            subst l0
            have hsb := sliceBounds_sound (P := P) h1 h2 (Nat.zero_le cap') hh hl true w
            refine ⟨.slice (some ⟨b, off, none⟩) 0 cap', ?_, ?_⟩
            · by_cases hm : cap' = 0
              · subst hm
                simp [Instr.sliceAt, Instr.slice, run_underlying hu, hsb, sizeOf, typeInfo, hi']
              · simp [Instr.sliceAt, Instr.slice, run_underlying hu, hsb, sizeOf, typeInfo, hi', hm, Addr.add]
            · exact .slice0 hx hx3
    · simp at h
  · rename_i e hu
    split at h
    · rename_i i hi'
      cases hh : hiV hi 0 0 with
      | none => rw [hh] at h; simp at h
      | some e' =>
        cases hl : loV lo e' with
        | none => rw [hh] at h; simp [hl] at h
        | some l =>
          rw [hh] at h
          simp only [Option.bind_some, hl, Option.map_some, Option.some.injEq] at h
          subst h
          have hb := bounds_le hh hl
          have e0 : e' = 0 := by omega
          have l0 : l = 0 := by omega
          subst e0
          subst l0
          cases hx
          have hsb := sliceBounds_sound (P := P) h1 h2 (Nat.zero_le 0) hh hl true w
          exact ⟨.slice none 0 0, by simp [Instr.sliceAt, Instr.slice, run_underlying hu, hsb, sizeOf, typeInfo, hi'], .nils⟩
    · simp at h
  · simp at h

end Go.Ev

namespace Go.Ev

variable {P : Program}

/-- A field's place: its offset; none where it takes no cell. -/
def fieldOff (P : Program) (s : TypeId) (f : Nat) : Option Nat :=
  match P.underlying s with
  | some (.struct fs) =>
    match fs[f]? with
    | some fl => match P.info? fl.type with
      | some i => bif Nat.beq i.size 0 then none else some fl.offset
      | none => none
    | none => none
  | _ => none

def fieldAddrV (P : Program) (s : TypeId) (x : V) (f : Nat) : Option V :=
  match x with
  | .ptr id o => (fieldOff P s f).map fun k => .ptr id (Nat.add o k)
  | _ => none

theorem fieldAddrV_sound {r : Emb} {s : TypeId} {x v : V} {f : Nat} (h : fieldAddrV P s x f = some v) {a : Value} (hx : VRel r x a) (w : World) :
    ∃ z, (Instr.fieldAt s a f).run P w = .ok z w ∧ VRel r v z := by
  unfold fieldAddrV at h
  split at h
  · rename_i id o
    cases hk : fieldOff P s f with
    | none => rw [hk] at h; simp at h
    | some k =>
      rw [hk] at h
      simp only [Option.map_some, Option.some.injEq] at h
      subst h
      unfold fieldOff at hk
      split at hk
      · rename_i fs hu
        split at hk
        · rename_i fl hf
          split at hk
          · rename_i i hi
            cases hz : Nat.beq i.size 0 <;> simp only [hz, cond_true, cond_false, reduceCtorEq, Option.some.injEq] at hk
            subst hk
            have hsz : i.size ≠ 0 := fun e0 => by rw [e0] at hz; simp at hz
            cases hx with
            | @ptr _ _ b sh c hx =>
              refine ⟨.pointer (some ⟨b, o + sh + fl.offset, none⟩), ?_, ?_⟩
              · simp [Instr.fieldAt, run_underlying hu, hf, Instr.sureAddr, fieldPlace, sizeOf, typeInfo, hi, hsz, addr_add]
              · rw [show o + sh + fl.offset = (o + fl.offset) + sh by omega]
                exact .ptr hx
          · simp at hk
        · simp at hk
      · simp at hk
  · simp at h

def fieldV (P : Program) (t : TypeId) (x : V) (f : Nat) : Option V :=
  match P.underlying t, x with
  | some (.struct fs), .agg vs =>
    match fs[f]? with
    | some fl => partV P fl.type vs fl.offset
    | none => none
  | _, _ => none

theorem fieldV_sound {r : Emb} {t : TypeId} {x v : V} {f : Nat} (h : fieldV P t x f = some v) {a : Value} (hx : VRel r x a) (w : World) :
    ∃ z, (Instr.field t a f).run P w = .ok z w ∧ VRel r v z := by
  unfold fieldV at h
  split at h
  · rename_i fs vs hu
    split at h
    · rename_i fl hf
      cases hx with
      | @agg _ xs hx =>
        obtain ⟨z, h1, h2⟩ := partV_sound hx h w
        exact ⟨z, by simp [Instr.field, run_underlying hu, hf, asAgg, h1], h2⟩
    · simp at h
  · simp at h

def indexAddrV (P : Program) (t : TypeId) (x i : V) : Option V :=
  match P.underlying t, x, natV i with
  | some (.slice e), .slice id o len _ _, some n =>
    match P.info? e with
    | some inf => bif Nat.blt n len then some (.ptr id (Nat.add o (Nat.mul n inf.size))) else none
    | none => none
  | some (.array len e), .ptr id o, some n =>
    match P.info? e with
    | some inf => bif Nat.blt n len then some (.ptr id (Nat.add o (Nat.mul n inf.size))) else none
    | none => none
  | some (.slice e), .cl2 m q, some n =>
    match P.info? e with
    | some inf => bif Nat.beq m 0 && (Nat.ble 64 q && (Nat.blt (Nat.mod q 64) 60 && Nat.ble n (Nat.mod q 64))) then some (.ptr (Nat.div q 64) (Nat.mul n inf.size)) else none
    | none => none
  | some (.slice e), .msk m q, some n =>
    match P.info? e with
    | some inf => bif Nat.beq m 0 && (Nat.beq (Nat.mod q 4) 2 && Nat.blt n (sLo (Nat.div (Nat.div (Nat.div q 4) 65536) 16))) then some (.ptr (Nat.mod (Nat.div q 4) 65536) (Nat.mul n inf.size)) else none
    | none => none
  | some (.slice e), .msk m q, none =>
    match P.info? e, i with
    | some inf, .msk m' q' =>
      bif ((Nat.beq m 0 && Nat.beq m' 0) && (Nat.beq (Nat.mod q 4) 3 && Nat.beq (Nat.mod q' 4) 1)) && (Nat.beq inf.size 3 && ((Nat.ble (Nat.mod (Nat.div (Nat.div q 4) 65536) 65536) (sId (Nat.div q' 4)) && Nat.blt (Nat.sub (sId (Nat.div q' 4)) (Nat.mod (Nat.div (Nat.div q 4) 65536) 65536)) 10) &&
        (Nat.beq (sC (Nat.div q' 4)) 1073741824 && (Nat.beq (sD (Nat.div q' 4)) 1073741824 && Nat.blt 0 (sId (Nat.div q' 4)))))) then some (.ptr (Nat.add (Nat.mod (Nat.div q 4) 65536) (Nat.sub (sId (Nat.div q' 4)) (Nat.mod (Nat.div (Nat.div q 4) 65536) 65536))) 0) else none
    | _, _ => none
  | _, _, _ => none

theorem indexAddrV_sound {r : Emb} {t : TypeId} {x i v : V} (h : indexAddrV P t x i = some v) {a c : Value} (hx : VRel r x a) (hi : VRel r i c) (w : World) :
    ∃ z, (Instr.indexAt t a c).run P w = .ok z w ∧ VRel r v z := by
  unfold indexAddrV at h
  split at h
  · rename_i e id o len cap esz n hu hn
    obtain ⟨k, rfl⟩ := natV_sound hn hi
    split at h
    · rename_i inf hinf
      cases hb : Nat.blt n len <;> simp only [hb, cond_true, cond_false, reduceCtorEq, Option.some.injEq] at h
      subst h
      rw [Nat.blt_eq] at hb
      cases hx with
      | @slice _ _ _ _ _ b sh c cap' hx _ _ _ =>
        refine ⟨.pointer (some ⟨b, o + sh + n * inf.size, none⟩), ?_, ?_⟩
        · have h0 : (0 : Int) ≤ (n : Int) ∧ (n : Int) < (len : Int) := ⟨by omega, by omega⟩
          simp [Instr.indexAt, asIntOf, run_underlying hu, sizeOf, typeInfo, hinf, addr_add, hb]
        · rw [show o + sh + n * inf.size = (o + n * inf.size) + sh by omega]
          exact .ptr hx
      | slice0 hx hx3 => omega
    · simp at h
  · rename_i len e id o n hu hn
    obtain ⟨k, rfl⟩ := natV_sound hn hi
    split at h
    · rename_i inf hinf
      cases hb : Nat.blt n len <;> simp only [hb, cond_true, cond_false, reduceCtorEq, Option.some.injEq] at h
      subst h
      rw [Nat.blt_eq] at hb
      cases hx with
      | @ptr _ _ b sh c hx =>
        refine ⟨.pointer (some ⟨b, o + sh + n * inf.size, none⟩), ?_, ?_⟩
        · simp [Instr.indexAt, asIntOf, run_underlying hu, Instr.sureAddr, sizeOf, typeInfo, hinf, addr_add, hb]
        · rw [show o + sh + n * inf.size = (o + n * inf.size) + sh by omega]
          exact .ptr hx
    · simp at h
  · rename_i e m q n hu hn
    obtain ⟨k, rfl⟩ := natV_sound hn hi
    split at h
    · rename_i inf hinf
      cases hb : (Nat.beq m 0 && (Nat.ble 64 q && (Nat.blt (Nat.mod q 64) 60 && Nat.ble n (Nat.mod q 64)))) <;> simp only [hb, cond_true, cond_false, reduceCtorEq, Option.some.injEq] at h
      subst h
      simp only [Bool.and_eq_true] at hb
      obtain ⟨h0, h64, h60, hle⟩ := hb
      rw [Nat.blt_eq] at h60
      obtain rfl := Nat.eq_of_beq_eq_true h0
      have hle' : n ≤ q % 64 := Nat.le_of_ble_eq_true hle
      obtain ⟨b, o, z, cap, m, hr, hz, _, _, rfl⟩ := lslice_inv hx (Nat.le_of_ble_eq_true h64) h60
      have hlt : n < z := by omega
      refine ⟨.pointer (some ⟨b, o + n * inf.size, none⟩), ?_, ?_⟩
      · simp [Instr.indexAt, asIntOf, run_underlying hu, sizeOf, typeInfo, hinf, addr_add, hlt]
      · rw [show o + n * inf.size = n * inf.size + o by omega]
        exact .ptr hr
    · simp at h
  · rename_i e m q n hu hn
    obtain ⟨k, rfl⟩ := natV_sound hn hi
    split at h
    · rename_i inf hinf
      cases hb : (Nat.beq m 0 && (Nat.beq (Nat.mod q 4) 2 && Nat.blt n (sLo (Nat.div (Nat.div (Nat.div q 4) 65536) 16)))) <;> simp only [hb, cond_true, cond_false, reduceCtorEq, Option.some.injEq] at h
      subst h
      simp only [Bool.and_eq_true, Nat.blt_eq] at hb
      obtain ⟨h0, h2, hlt⟩ := hb
      obtain rfl := Nat.eq_of_beq_eq_true h0
      obtain ⟨b, o, z, cap, m', rfl, hr, hz, _, _⟩ := ssl_inv hx (Nat.eq_of_beq_eq_true h2)
      have hz1 := hz.1
      have hlt' : n < z := by
        have : n < sLo (q / 4 / 65536 / 16) := hlt
        omega
      refine ⟨.pointer (some ⟨b, o + n * inf.size, none⟩), ?_, ?_⟩
      · simp [Instr.indexAt, asIntOf, run_underlying hu, sizeOf, typeInfo, hinf, addr_add, hlt']
      · rw [show o + n * inf.size = n * inf.size + o by omega]
        exact .ptr hr
    · simp at h
  · rename_i e m q hu hn
    split at h
    · rename_i inf m' q' hinf
      cases hb : (((Nat.beq m 0 && Nat.beq m' 0) && (Nat.beq (Nat.mod q 4) 3 && Nat.beq (Nat.mod q' 4) 1)) && (Nat.beq inf.size 3 && ((Nat.ble (Nat.mod (Nat.div (Nat.div q 4) 65536) 65536) (sId (Nat.div q' 4)) && Nat.blt (Nat.sub (sId (Nat.div q' 4)) (Nat.mod (Nat.div (Nat.div q 4) 65536) 65536)) 10) &&
        (Nat.beq (sC (Nat.div q' 4)) 1073741824 && (Nat.beq (sD (Nat.div q' 4)) 1073741824 && Nat.blt 0 (sId (Nat.div q' 4))))))) <;> simp only [hb, cond_true, cond_false, reduceCtorEq, Option.some.injEq] at h
      subst h
      simp only [Bool.and_eq_true, Nat.blt_eq] at hb
      obtain ⟨⟨⟨g1, g2⟩, g3, g4⟩, g5, ⟨g6, g10⟩, g7, g8, g9⟩ := hb
      obtain rfl := Nat.eq_of_beq_eq_true g1
      obtain rfl := Nat.eq_of_beq_eq_true g2
      obtain ⟨b, o, z, cap, _, rfl, hj, _⟩ := sat_inv hx (Nat.eq_of_beq_eq_true g3)
      obtain ⟨n, rfl, hn1, hn2, hn3⟩ := sym_inv hi (Nat.eq_of_beq_eq_true g4)
      have e5 : inf.size = 3 := Nat.eq_of_beq_eq_true g5
      have e6 : q / 4 / 65536 % 65536 ≤ sId (q' / 4) := Nat.le_of_ble_eq_true g6
      have e10 : sId (q' / 4) - q / 4 / 65536 % 65536 < 10 := g10
      have e7 : sC (q' / 4) = 1073741824 := Nat.eq_of_beq_eq_true g7
      have e8 : sD (q' / 4) = 1073741824 := Nat.eq_of_beq_eq_true g8
      have e9 : 0 < sId (q' / 4) := g9
      obtain ⟨x, mm, hr, hid, hlt⟩ := hj _ e10
      rw [show q / 4 / 65536 % 65536 + (sId (q' / 4) - q / 4 / 65536 % 65536) = sId (q' / 4) by omega] at hid
      rcases hn3 with hn3 | ⟨x', y', z', k1, k2, k3⟩
      · omega
      rw [hid] at k1
      cases k1
      rw [e7] at k2
      rw [e8] at k3
      have en : n = (x : Int) := by omega
      subst en
      refine ⟨.pointer (some ⟨b, o + x * inf.size, none⟩), ?_, ?_⟩
      · simp [Instr.indexAt, asIntOf, run_underlying hu, sizeOf, typeInfo, hinf, addr_add, hlt]
      · rw [e5, show o + x * 3 = 0 + (o + x * 3) by omega]
        exact .ptr hr
    · simp at h
  · simp at h

def indexV (P : Program) (t : TypeId) (x i : V) : Option V :=
  match P.underlying t, x, natV i with
  | some .string, .str n l, some j => bif Nat.blt j l then some (.int .u8 (.ofNat (Nat.mod (Nat.div n (Nat.pow 256 j)) 256))) else none
  | some (.array len e), .agg vs, some j =>
    match P.info? e with
    | some inf => bif Nat.blt j len then partV P e vs (Nat.mul j inf.size) else none
    | none => none
  | _, _, _ => none

theorem indexV_sound {r : Emb} {t : TypeId} {x i v : V} (h : indexV P t x i = some v) {a c : Value} (hx : VRel r x a) (hi : VRel r i c) (w : World) :
    ∃ z, (Instr.index t a c).run P w = .ok z w ∧ VRel r v z := by
  unfold indexV at h
  split at h
  · rename_i n l j hu hn
    obtain ⟨k, rfl⟩ := natV_sound hn hi
    cases hb : Nat.blt j l <;> simp only [hb, cond_true, cond_false, reduceCtorEq, Option.some.injEq] at h
    subst h
    rw [Nat.blt_eq] at hb
    cases hx with
    | str hx =>
      have hg : (sval n l)[j]? = some (UInt8.ofNat (n / 256 ^ j % 256)) := by
        have := sdec_get l n j hb
        show (sval n l).data[j]? = _
        simpa [sval] using this
      refine ⟨.int .u8 (UInt8.ofNat (n / 256 ^ j % 256)).toNat, ?_, ?_⟩
      · have h0 : (0 : Int) ≤ Int.ofNat j := Int.natCast_nonneg j
        simp only [Instr.index, asIntOf, Sem.run_bind, Sem.run_pure, Result.andThen_ok, run_underlying hu]
        rw [if_pos h0]
        show (match (sval n l)[j]? with | some b => _ | none => _ : Sem Value).run P w = _
        rw [hg]
        rfl
      · have e : ((UInt8.ofNat (n / 256 ^ j % 256)).toNat : Int) = Int.ofNat (n / 256 ^ j % 256) := by
          simp
        rw [e]
        exact .int _ _
  · rename_i len e vs j hu hn
    obtain ⟨k, rfl⟩ := natV_sound hn hi
    split at h
    · rename_i inf hinf
      cases hb : Nat.blt j len <;> simp only [hb, cond_true, cond_false, reduceCtorEq] at h
      rw [Nat.blt_eq] at hb
      cases hx with
      | @agg _ xs hx =>
        obtain ⟨z, h1, h2⟩ := partV_sound hx h w
        refine ⟨z, ?_, h2⟩
        have h1' : (part e xs (j * inf.size)).run P w = .ok z w := h1
        simp [Instr.index, asIntOf, run_underlying hu, sizeOf, typeInfo, hinf, hb, h1']
    · simp at h
  · simp at h

def extractV (x : V) (i : Nat) : Option V :=
  match x with
  | .tup vs => vs[i]?
  | _ => none
theorem extractV_sound {r : Emb} {x v : V} {i : Nat} (h : extractV x i = some v) {a : Value} (hx : VRel r x a) (w : World) : ∃ z, (Instr.extract a i).run P w = .ok z w ∧ VRel r v z := by
  unfold extractV at h
  split at h
  · cases hx with
    | @tup _ xs hx =>
      obtain ⟨z, hz, hv⟩ := hx.get i h
      have hz' : xs[i]? = some z := by simpa using hz
      exact ⟨z, by simp [Instr.extract, hz'], hv⟩
  · simp at h

def zeroV (P : Program) (t : TypeId) : Option (List V) :=
  match P.info? t with
  | some i => match i.zero with
    | some z => cellsV (constV z)
    | none => none
  | none => none
theorem zeroV_sound {r : Emb} {t : TypeId} {zs : List V} (h : zeroV P t = some zs) (w : World) : ∃ z, (zeroValue t).run P w = .ok z w ∧ VsRel r zs z.cells.toList := by
  unfold zeroV at h
  split at h
  · rename_i i hi
    split at h
    · rename_i z hz
      exact ⟨z, by simp [zeroValue, typeInfo, hi, hz], cellsV_sound (vrel_constV r z) h⟩
    · simp at h
  · simp at h

def structPlaces (P : Program) (fs : List Field) : Option (List (Nat × Nat)) :=
  fs.mapM fun f => (P.info? f.type).map fun i => (f.offset, i.size)

def buildV (P : Program) (t : TypeId) (parts : List (Nat × V)) : Option V :=
  match zeroV P t, P.underlying t with
  | some zs, some (.struct fs) =>
    match structPlaces P fs.toList with
    | some pl => (fillV (pl[·]?) zs parts).map V.agg
    | none => none
  | some zs, some (.array _ e) =>
    match P.info? e with
    | some i => (fillV (fun j => some (Nat.mul j i.size, i.size)) zs parts).map V.agg
    | none => none
  | _, _ => none

theorem run_places (w : World) (fs : List Field) : ∀ pl, structPlaces P fs = some pl → (fs.mapM fun (f : Field) => do pure (f.offset, ← sizeOf f.type) : Sem (List (Nat × Nat))).run P w = .ok pl w := by
  induction fs with
  | nil => intro pl h; simp [structPlaces] at h; subst h; rfl
  | cons f fs ih =>
    intro pl h
    simp only [structPlaces, List.mapM_cons] at h
    cases hi : P.info? f.type with
    | none => rw [hi] at h; simp at h
    | some i =>
      rw [hi] at h
      simp only [Option.map_some, Option.bind_eq_bind, Option.bind_some] at h
      cases hr : List.mapM (fun f => (P.info? f.type).map fun i => (f.offset, i.size)) fs with
      | none => rw [hr] at h; simp at h
      | some pl' =>
        rw [hr] at h
        simp at h
        subst h
        have := ih pl' hr
        simp [List.mapM_cons, sizeOf, typeInfo, hi] at this ⊢
        simp [this]

theorem buildV_sound {r : Emb} {t : TypeId} {parts : List (Nat × V)} {v : V} (h : buildV P t parts = some v) {ps : Array (Nat × Value)} (hp : PsRel r parts ps.toList) (w : World) :
    ∃ z, (Instr.build t ps).run P w = .ok z w ∧ VRel r v z := by
  unfold buildV at h
  split at h
  · rename_i zs fs hz hu
    split at h
    · rename_i pl hpl
      cases hf : fillV (pl[·]?) zs parts with
      | none => rw [hf] at h; simp at h
      | some out =>
        rw [hf] at h
        simp only [Option.map_some, Option.some.injEq] at h
        subst h
        obtain ⟨z, h1, h2⟩ := zeroV_sound (r := r) hz w
        obtain ⟨cs, g1, g2⟩ := fill_sound h2 hp hf
        have hplr := run_places w fs.toList pl hpl
        refine ⟨.agg cs, ?_, .agg g2⟩
        have e : (fs.mapM fun (f : Field) => do pure (f.offset, ← sizeOf f.type) : Sem (Array (Nat × Nat))).run P w = .ok pl.toArray w := by
          rw [Array.mapM_eq_mapM_toList]
          simp only [map_eq_pure_bind, Sem.run_bind, hplr, Result.andThen_ok, Sem.run_pure]
        simp only [Instr.build, Sem.run_bind, h1, Result.andThen_ok, run_underlying hu, e]
        have e2 : Instr.fill (pl.toArray[·]?) z.cells ps.toList = some cs := by
          have : (fun i : Nat => pl.toArray[i]?) = fun i : Nat => pl[i]? := by funext i; simp
          rw [this]; exact g1
        rw [e2]
        rfl
    · simp at h
  · rename_i zs n e hz hu
    split at h
    · rename_i i hi
      cases hf : fillV (fun j => some (Nat.mul j i.size, i.size)) zs parts with
      | none => rw [hf] at h; simp at h
      | some out =>
        rw [hf] at h
        simp only [Option.map_some, Option.some.injEq] at h
        subst h
        obtain ⟨z, h1, h2⟩ := zeroV_sound (r := r) hz w
        obtain ⟨cs, g1, g2⟩ := fill_sound h2 hp hf
        refine ⟨.agg cs, ?_, .agg g2⟩
        have g1' : Instr.fill (fun j => some (j * i.size, i.size)) z.cells ps.toList = some cs := g1
        simp [Instr.build, h1, run_underlying hu, sizeOf, typeInfo, hi, g1']
    · simp at h
  · simp at h

end Go.Ev

namespace Go.Ev
open Go.MapKept

variable {P : Program}

/-- Are two keys the same? -/
def keyEq (x y : V) : Option Bool :=
  match x, y with
  | .str n l, .str m k => some (Nat.beq n m && Nat.beq l k)
  | .int k a, .int k' b => bif Nat.beq (kc k) (kc k') then some (eqI a b) else none
  | _, _ => none
def findK (x : V) : List (V × V) → Nat → Option (Option (Nat × V))
  | [], _ => some none
  | (y, v) :: es, i => match keyEq x y with
    | some true => some (some (i, v))
    | some false => findK x es (i + 1)
    | none => none
/-- Is a value a key of that kind? -/
def keyB (d : TypeDesc) (x : V) : Bool :=
  match d, x with
  | .string, .str _ _ => true
  | .int k, .int k' _ => Nat.beq (kc k') (kc k)
  | _, _ => false

theorem keyB_is {r : Emb} {d : TypeDesc} {x : V} {X : Value} (h : keyB d x = true) (hx : VRel r x X) : IsKey d X := by
  unfold keyB at h
  split at h
  · cases hx; trivial
  · cases hx; exact kc_inj h
  · cases h

theorem bytes_beq (a b : ByteArray) : (a == b) = (a.data.toList == b.data.toList) := by
  have h : (a == b) = (a.data == b.data) := by cases a; cases b; rfl
  rw [h, Bool.eq_iff_iff, beq_iff_eq, beq_iff_eq]
  exact ⟨fun e => by rw [e], fun e => Array.toList_inj.1 e⟩

theorem keyEq_sound {r : Emb} {d : TypeDesc} {x y : V} {X Y : Value} {b : Bool} (hd : keyB d x = true) (he : keyEq x y = some b) (hx : VRel r x X) (hy : VRel r y Y) : Instr.sameNow d X Y = some b ∧ (b = true → Instr.sameBits 10000 Y X = true) := by
  unfold keyEq at he
  split at he
  · rename_i n l m k
    simp only [Option.some.injEq] at he
    subst he
    cases hx with
    | str hx =>
      cases hy with
      | str hy =>
        have key : (sval n l == sval m k) = (Nat.beq n m && Nat.beq l k) := by
          rw [sdec_beq hx hy, bytes_beq]; rfl
        have key2 : (sval m k == sval n l) = (sval n l == sval m k) := by
          rw [bytes_beq, bytes_beq, Bool.eq_iff_iff, beq_iff_eq, beq_iff_eq]
          exact ⟨Eq.symm, Eq.symm⟩
        have hd' : d = .string := by
          unfold keyB at hd
          split at hd <;> first | rfl | (rename_i h; cases h; done) | cases hd
        subst hd'
        refine ⟨by rw [← key]; rfl, fun h => ?_⟩
        show (sval m k == sval n l) = true
        rw [key2, key, h]
  · rename_i k a k' b'
    cases hk : Nat.beq (kc k) (kc k') <;> simp only [hk, cond_true, cond_false, reduceCtorEq, Option.some.injEq] at he
    subst he
    have e := kc_inj hk
    subst e
    cases hx; cases hy
    have hd' : ∃ k2, d = .int k2 := by
      unfold keyB at hd
      split at hd <;> first | exact ⟨_, rfl⟩ | (rename_i h; cases h; done) | cases hd
    obtain ⟨k2, rfl⟩ := hd'
    refine ⟨by simp [Instr.sameNow, eqI_eq], fun h => ?_⟩
    rw [eqI_eq] at h
    have e := eq_of_beq h
    subst e
    show (k == k && a == a) = true
    simp
  · cases he

theorem findK_sound {r : Emb} {d : TypeDesc} {x : V} {X : Value} (hd : keyB d x = true) (hx : VRel r x X) : ∀ (es : List (V × V)) (l : List MapEntry) (i : Nat) (q : Option (Nat × V)), EsRel r es l → findK x es i = some q →
    match q with
    | none => Instr.findNow d X l i = some none
    | some (j, v) => ∃ (e : MapEntry) (p : Nat), j = i + p ∧ l[p]? = some e ∧ VRel r v e.val ∧ Instr.findNow d X l i = some (some (j, e.val)) ∧ Instr.sameBits 10000 e.key X = true ∧ p < es.length := by
  intro es
  induction es with
  | nil =>
    intro l i q hl he
    cases hl
    simp only [findK, Option.some.injEq] at he
    subst he
    rfl
  | cons p es ih =>
    intro l i q hl he
    obtain ⟨y, v⟩ := p
    cases hl with
    | @cons _ _ e _ l hk hv hs =>
      simp only [findK] at he
      cases hq : keyEq x y with
      | none => rw [hq] at he; simp at he
      | some b =>
        rw [hq] at he
        obtain ⟨h1, h2⟩ := keyEq_sound hd hq hx hk
        cases b
        · simp only at he
          have := ih l (i + 1) q hs he
          cases q with
          | none =>
            show Instr.findNow d X (e :: l) i = some none
            simp only [Instr.findNow, h1]
            exact this
          | some jv =>
            obtain ⟨j, v'⟩ := jv
            obtain ⟨e', p, g1, g2, g3, g4, g5, g6⟩ := this
            refine ⟨e', p + 1, by omega, by simpa using g2, g3, ?_, g5, by simp; omega⟩
            simp only [Instr.findNow, h1]
            exact g4
        · simp only [Option.some.injEq] at he
          subst he
          refine ⟨e, 0, rfl, rfl, hv, ?_, h2 rfl, by simp⟩
          simp only [Instr.findNow, h1]

/-- A type's zero value. -/
def zeroW (P : Program) (t : TypeId) : Option V :=
  match P.info? t with
  | some i => i.zero.map constV
  | none => none
theorem zeroW_sound {r : Emb} {t : TypeId} {v : V} (h : zeroW P t = some v) (w : World) : ∃ z, (zeroValue t).run P w = .ok z w ∧ VRel r v z := by
  unfold zeroW at h
  split at h
  · rename_i i hi
    cases hz : i.zero with
    | none => rw [hz] at h; simp at h
    | some z =>
      rw [hz] at h
      simp only [Option.map_some, Option.some.injEq] at h
      subst h
      exact ⟨z, by simp [zeroValue, typeInfo, hi, hz], vrel_constV r z⟩
  · cases h

def packOk (ok : Bool) (v : V) (b : Bool) : V := bif ok then .tup [v, .bool b] else v
theorem packOk_rel {r : Emb} {ok : Bool} {v : V} {z : Value} {b : Bool} (h : VRel r v z) : VRel r (packOk ok v b) (if ok then .tuple #[z, .bool b] else z) := by
  cases ok
  · exact h
  · exact .tup (.cons h (.cons (.bool b) .nil))

/-- An entry's value. -/
def lookupV (P : Program) (h : H) (t : TypeId) (x i : V) (ok : Bool) : Option V :=
  match P.underlying t, x with
  | some (.map k e), .mapv id =>
    match P.underlying k, h.mem.blk id with
    | some d, .mapb es => bif keyB d i && Nat.blt id 65536 then
        (match findK i es 0 with
        | some (some (_, v)) => some (packOk ok v true)
        | some none => (zeroW P e).map fun z => packOk ok z false
        | none => none)
      else none
    | _, _ => none
  | _, _ => none

theorem lookupV_sound {r : Emb} {h : H} {w : World} (hr : Rel r h w) {t : TypeId} {x i v : V} {ok : Bool} (he : lookupV P h t x i ok = some v) {a c : Value} (hx : VRel r x a) (hi : VRel r i c) :
    ∃ z, (Instr.lookup t a c ok).run P w = .ok z w ∧ VRel r v z := by
  unfold lookupV at he
  split at he
  · rename_i k e id hu
    split at he
    · rename_i d es hk hb
      cases hc : (keyB d i && Nat.blt id 65536) <;> simp only [hc, cond_true, cond_false, reduceCtorEq] at he
      simp only [Bool.and_eq_true, Nat.blt_eq] at hc
      obtain ⟨b, sh, m, es', clk, h1, h2, h3⟩ := hr.mapb hc.2 hb
      cases hx with
      | mapv hx =>
        rw [h1] at hx
        cases hx
        have hck := fun (q : Bool) => run_checkKey (P := P) (w := w) hk (keyB_is hc.1 hi) q 9999
        cases hf : findK i es 0 with
        | none => rw [hf] at he; simp at he
        | some q =>
          rw [hf] at he
          have hfs := findK_sound hc.1 hi es es'.toList 0 q h3 hf
          cases q with
          | none =>
            simp only at he hfs
            cases hz : zeroW P e with
            | none => rw [hz] at he; simp at he
            | some zv =>
              rw [hz] at he
              simp only [Option.map_some, Option.some.injEq] at he
              subst he
              obtain ⟨z, g1, g2⟩ := zeroW_sound (r := r) hz w
              refine ⟨_, ?_, packOk_rel (b := false) g2⟩
              simp [Instr.lookup, run_underlying hu, MapKept.run_getObj_map h2, hck, run_findKey hk hfs, g1]
          | some jv =>
            obtain ⟨j, v'⟩ := jv
            simp only [Option.some.injEq] at he
            subst he
            obtain ⟨e', p, g1, g2, g3, g4, g5, g6⟩ := hfs
            refine ⟨_, ?_, packOk_rel (b := true) g3⟩
            simp [Instr.lookup, run_underlying hu, MapKept.run_getObj_map h2, hck, run_findKey hk g4]
    · cases he
  · cases he

/-- A new map. -/
def makeMapV (h : H) : Option (V × H) := bif Nat.blt h.next 65536 then some (.mapv h.next, h.layB (.mapb [])) else none
theorem makeMapV_sound {r : Emb} {h h' : H} {w : World} (hr : Rel r h w) {v : V} (he : makeMapV h = some (v, h')) (t : TypeId) :
    ∃ z w' r', (Instr.makeMap t none).run P w = .ok z w' ∧ Step r h w r' h' w' ∧ VRel r' v z := by
  unfold makeMapV at he
  cases hn : Nat.blt h.next 65536 <;> simp only [hn, cond_true, cond_false, reduceCtorEq, Option.some.injEq, Prod.mk.injEq] at he
  obtain ⟨rfl, rfl⟩ := he
  rw [Nat.blt_eq] at hn
  refine ⟨.map (some w.heap.size), w.alloc (.map #[] 0), r.put h.next (w.heap.size, 0, 0), rfl, ?_, .mapv (Emb.put_same _ _ _)⟩
  exact Step.layB hr (fun _ ho => ho) (fun _ ho => ho) hn (fun id sh' m' hl' e => Nat.lt_irrefl _ (hr.lt hl' e)) (fun hlt => (Nat.lt_irrefl _ hlt).elim) (fun k hk _ => (MapKept.heap_alloc w _).2 k hk) (by simp) rfl rfl rfl
    ⟨#[], 0, (MapKept.heap_alloc w _).1, .nil⟩

theorem EsRel.push {r : Emb} {es : List (V × V)} {l : List MapEntry} (h : EsRel r es l) {k v : V} {e : MapEntry} (hk : VRel r k e.key) (hv : VRel r v e.val) : EsRel r (es ++ [(k, v)]) (l ++ [e]) := by
  induction h with
  | nil => exact .cons hk hv .nil
  | cons a b _ ih => exact .cons a b ih
theorem EsRel.set {r : Emb} {es : List (V × V)} {l : List MapEntry} (h : EsRel r es l) {k v : V} {f : MapEntry → MapEntry} : ∀ (p : Nat), (∀ e, l[p]? = some e → VRel r k (f e).key ∧ VRel r v (f e).val) → EsRel r (es.set p (k, v)) (l.modify p f) := by
  induction h with
  | nil => intro p _; cases p <;> exact .nil
  | cons a b hs ih =>
    intro p hp
    cases p with
    | zero =>
      have := hp _ rfl
      exact .cons this.1 this.2 hs
    | succ p => exact .cons a b (ih p (fun e he => hp e (by simpa using he)))

/-- An entry written. -/
def mapUpdV (P : Program) (h : H) (t : TypeId) (x i v : V) : Option H :=
  match P.underlying t, x with
  | some (.map k _), .mapv id =>
    match P.underlying k, h.mem.blk id with
    | some d, .mapb es => bif keyB d i && Nat.blt id 65536 then
        (match findK i es 0 with
        | some (some (j, _)) => some (h.setB id (.mapb (es.set j (i, v))))
        | some none => some (h.setB id (.mapb (es ++ [(i, v)])))
        | none => none)
      else none
    | _, _ => none
  | _, _ => none
theorem mapUpdV_sound {r : Emb} {h h' : H} {w : World} (hr : Rel r h w) {t : TypeId} {x i v : V} (he : mapUpdV P h t x i v = some h') {a c y : Value} (hx : VRel r x a) (hi : VRel r i c) (hv : VRel r v y) :
    ∃ w', (Instr.mapUpdate t a c y).run P w = .ok () w' ∧ Step r h w r h' w' := by
  unfold mapUpdV at he
  split at he
  · rename_i k e id hu
    split at he
    · rename_i d es hk hb
      cases hc : (keyB d i && Nat.blt id 65536) <;> simp only [hc, cond_true, cond_false, reduceCtorEq] at he
      simp only [Bool.and_eq_true, Nat.blt_eq] at hc
      obtain ⟨b, sh, m, es', clk, h1, h2, h3⟩ := hr.mapb hc.2 hb
      cases hx with
      | mapv hx =>
        rw [h1] at hx
        cases hx
        have hck := run_checkKey (P := P) (w := w) hk (keyB_is hc.1 hi) false 9999
        have hown : ownB (h.mem.blk id) = true := by rw [hb]; rfl
        have step : ∀ (es2 : List (V × V)) (o : Array MapEntry) (clk2 : Nat), EsRel r es2 o.toList → Step r h w r (h.setB id (.mapb es2)) { w with heap := w.heap.setIfInBounds b (.map o clk2) } := by
          intro es2 o clk2 ho
          obtain ⟨g1, g2⟩ := MapKept.heap_set (o' := .map o clk2) h2
          exact Step.setB hr hc.2 hown h1 g2 (by simp) rfl rfl rfl ⟨o, clk2, g1, ho⟩
        cases hf : findK i es 0 with
        | none => rw [hf] at he; simp at he
        | some q =>
          rw [hf] at he
          have hfs := findK_sound hc.1 hi es es'.toList 0 q h3 hf
          cases q with
          | none =>
            simp only [Option.some.injEq] at he hfs
            subst he
            refine ⟨_, ?_, step (es ++ [(i, v)]) (es'.push { key := c, val := y, born := clk }) (clk + 1) (by simpa using h3.push (e := { key := c, val := y, born := clk }) hi hv)⟩
            simp [Instr.mapUpdate, run_underlying hu, MapKept.run_getObj_map h2, hck, run_findKey hk hfs, run_setObj_map _ h2]
          | some jv =>
            obtain ⟨j, v'⟩ := jv
            simp only [Option.some.injEq] at he
            subst he
            obtain ⟨e', p, g1, g2, g3, g4, g5, g6⟩ := hfs
            have hp : p = j := by omega
            subst hp
            refine ⟨_, ?_, step (es.set p (i, v)) (es'.modify p fun e => { e with key := c, val := y }) clk (by rw [Array.toList_modify]; exact h3.set p (fun e _ => ⟨hi, hv⟩))⟩
            have hkey : ((es'[p]?).map (·.key)).getD c = e'.key := by
              have : es'[p]? = some e' := by rw [← Array.getElem?_toList]; exact g2
              rw [this]; rfl
            simp [Instr.mapUpdate, run_underlying hu, MapKept.run_getObj_map h2, hck, run_findKey hk g4, hkey, Instr.keyThatStays, g5, run_setObj_map _ h2]
    · cases he
  · cases he

end Go.Ev

namespace Go.Ev

variable {P : Program}

def isRowT (P : Program) (t : TypeId) : Option Bool := (P.underlying t).map isRow

/-- What lies at an address. -/
def loadV (P : Program) (h : H) (t : TypeId) (x : V) : Option V :=
  match x with
  | .ptr id o =>
    match h.mem.blk id with
    | .live n _ _ _ c =>
      match P.underlying t, P.info? t with
      | some d, some i =>
        bif Nat.blt id 65536 then
          (bif isRow d then (bif Nat.ble (Nat.add o i.size) n then some (.agg (readFrom c o i.size)) else none)
          else (bif Nat.blt o n then some (c.get o) else none))
        else none
      | _, _ => none
    | _ => none
  | _ => none

theorem loadV_sound {r : Emb} {h : H} {w : World} (hr : Rel r h w) {t : TypeId} {x v : V} (he : loadV P h t x = some v) {a : Value} (hx : VRel r x a) :
    ∃ z, (Instr.loadAt t a).run P w = .ok z w ∧ VRel r v z := by
  unfold loadV at he
  split at he
  · rename_i id o
    split at he
    · rename_i n tb ro pl c hb
      split at he
      · rename_i d i hu hi
        cases hid : Nat.blt id 65536 <;> simp only [hid, cond_true, cond_false, reduceCtorEq] at he
        rw [Nat.blt_eq] at hid
        obtain ⟨b, sh, m, h1, hf⟩ := hr.blk id n tb ro pl c hid hb
        cases hx with
        | @ptr _ _ b' sh' c' hx =>
          rw [h1] at hx
          cases hx
          cases hrow : isRow d
          · rw [hrow] at he
            simp only [cond_false] at he
            cases ho : Nat.blt o n <;> simp only [ho, cond_true, cond_false, reduceCtorEq, Option.some.injEq] at he
            subst he
            rw [Nat.blt_eq] at ho
            obtain ⟨cs, fz, ⟨_, g2, _⟩, g3, g4, g5, g6⟩ := hf.block
            obtain ⟨z, hz, hvz⟩ := g6 o ho
            refine ⟨z, ?_, hvz⟩
            have hcell : w.cell? ⟨b, o + sh, none⟩ = some z := by simp [World.cell?, g2, hz]
            cases d <;> simp [isRow] at hrow <;> simp [Instr.loadAt, Instr.sureAddr, loadVar, isAgg, run_underlying hu, load, Sem.run, hcell]
          · rw [hrow] at he
            simp only [cond_true] at he
            cases ho : Nat.ble (Nat.add o i.size) n <;> simp only [ho, cond_true, cond_false, reduceCtorEq, Option.some.injEq] at he
            subst he
            have hle : o + i.size ≤ n := Nat.le_of_ble_eq_true ho
            obtain ⟨xs, g1, g2, g3⟩ := hf.read i.size o hle
            refine ⟨.agg xs.toArray, run_loadAt_mid w b (o + sh) t xs d g3 hu ?_ (by simp [hi, g2]), .agg (by simpa using g1)⟩
            cases d <;> first | rfl | (simp [isRow] at hrow)
      · simp at he
    · simp at he
  · simp at he

def lenV (P : Program) (h : H) (t : TypeId) (x : V) : Option V :=
  match P.underlying t, x with
  | some (.map _ _), .nilm => some (.int .i64 (.ofNat 0))
  | some (.map _ _), .mapv id =>
    match h.mem.blk id with
    | .mapb es => bif Nat.blt id 65536 then some (.int .i64 (.ofNat es.length)) else none
    | _ => none
  | some .string, .str _ l => some (.int .i64 (.ofNat l))
  | some (.slice _), .slice _ _ l _ _ => some (.int .i64 (.ofNat l))
  | some (.slice _), .nils => some (.int .i64 (.ofNat 0))
  | some (.slice _), .cl2 m q => bif Nat.beq m 0 then (bif Nat.ble 64 q && Nat.blt (Nat.mod q 64) 60 then some (.cl2 0 (Nat.mod q 64)) else bif Nat.beq q 61 then some (.cl2 0 62) else bif Nat.beq q 60 then some (.int .i64 (.ofNat 0)) else none) else none
  | some (.slice _), .msk m q => bif Nat.beq m 0 && Nat.beq (Nat.mod q 4) 2 then some (.msk 0 (Nat.succ (Nat.mul 4 (Nat.div (Nat.div (Nat.div q 4) 65536) 16)))) else none
  | some (.slice _), .cls m q => bif Nat.beq m 0 then (bif Nat.beq (Nat.mod q 8) 3 then some (.cls 0 5) else bif Nat.beq (Nat.mod q 8) 4 then some (.cls 0 6) else none) else none
  | _, _ => none
theorem EsRel.length {r : Emb} {es : List (V × V)} {l : List MapEntry} (h : EsRel r es l) : es.length = l.length := by
  induction h with
  | nil => rfl
  | cons _ _ _ ih => simp [ih]
theorem lenV_sound {r : Emb} {hh : H} {w : World} (hr : Rel r hh w) {t : TypeId} {x v : V} (h : lenV P hh t x = some v) {a : Value} (hx : VRel r x a) (ts : Array TypeId) (hts : ts[0]? = some t) (ty : TypeId) :
    ∃ z, (Builtin.len_ ts ty #[a]).run P w = .ok z w ∧ VRel r v z := by
  unfold lenV at h
  split at h
  · rename_i k e hu
    simp only [Option.some.injEq] at h
    subst h
    cases hx
    exact ⟨.int .i64 (Int.ofNat 0), by simp [Builtin.len_, hts, run_underlying hu, goInt], .int _ _⟩
  · rename_i k e id hu
    split at h
    · rename_i es hb
      cases hlt : Nat.blt id 65536
      · rw [hlt] at h; cases h
      · rw [hlt] at h
        simp only [cond_true, Option.some.injEq] at h
        subst h
        rw [Nat.blt_eq] at hlt
        obtain ⟨b, sh, m, es', clk, h1, h2, h3⟩ := hr.mapb hlt hb
        cases hx with
        | mapv hx =>
          rw [h1] at hx
          cases hx
          refine ⟨.int .i64 (Int.ofNat es'.size), by simp [Builtin.len_, hts, run_underlying hu, MapKept.run_getObj_map h2, goInt], ?_⟩
          rw [h3.length]
          simp only [Array.length_toList]
          exact .int _ _
    · cases h
  · rename_i n l hu
    simp only [Option.some.injEq] at h
    subst h
    cases hx with
    | str hx => exact ⟨.int .i64 (Int.ofNat l), by simp [Builtin.len_, hts, run_underlying hu, sval_size, goInt], .int _ _⟩
  · rename_i e id o l cap esz hu
    simp only [Option.some.injEq] at h
    subst h
    cases hx with
    | slice hx _ _ _ => exact ⟨.int .i64 (Int.ofNat l), by simp [Builtin.len_, hts, run_underlying hu, goInt], .int _ _⟩
    | slice0 hx _ => exact ⟨.int .i64 (Int.ofNat 0), by simp [Builtin.len_, hts, run_underlying hu, goInt], .int _ _⟩
  · rename_i e hu
    simp only [Option.some.injEq] at h
    subst h
    cases hx
    exact ⟨.int .i64 (Int.ofNat 0), by simp [Builtin.len_, hts, run_underlying hu, goInt], .int _ _⟩
  · rename_i e m q hu
    cases h0 : Nat.beq m 0
    · rw [h0] at h; cases h
    rw [h0] at h
    simp only [cond_true] at h
    obtain rfl := Nat.eq_of_beq_eq_true h0
    cases h3 : (Nat.ble 64 q && Nat.blt (Nat.mod q 64) 60)
    · rw [h3] at h
      simp only [cond_false] at h
      cases h4 : Nat.beq q 61
      · rw [h4] at h
        simp only [cond_false] at h
        cases h5 : Nat.beq q 60 <;> simp only [h5, cond_true, cond_false, reduceCtorEq, Option.some.injEq] at h
        subst h
        obtain rfl := Nat.eq_of_beq_eq_true h5
        obtain ⟨o, rfl⟩ := lvoid_inv hx
        exact ⟨.int .i64 (Int.ofNat 0), by simp [Builtin.len_, hts, run_underlying hu, goInt], .int _ _⟩
      · rw [h4] at h
        simp only [cond_true, Option.some.injEq] at h
        subst h
        obtain rfl := Nat.eq_of_beq_eq_true h4
        obtain ⟨o, z, cap, hz, rfl⟩ := lbig_inv hx
        exact ⟨.int .i64 (Int.ofNat z), by simp [Builtin.len_, hts, run_underlying hu, goInt], .lbigl hz⟩
    · rw [h3] at h
      simp only [cond_true, Option.some.injEq] at h
      subst h
      simp only [Bool.and_eq_true] at h3
      obtain ⟨_, _, z, cap, _, _, hz, hz6, hj6, rfl⟩ := lslice_inv hx (Nat.le_of_ble_eq_true h3.1) (by rw [← Nat.blt_eq]; exact h3.2)
      exact ⟨.int .i64 (Int.ofNat z), by simp [Builtin.len_, hts, run_underlying hu, goInt], .llen hz hz6 hj6⟩
  · rename_i e m q hu
    cases hb : (Nat.beq m 0 && Nat.beq (Nat.mod q 4) 2) <;> simp only [hb, cond_true, cond_false, reduceCtorEq, Option.some.injEq] at h
    subst h
    simp only [Bool.and_eq_true] at hb
    obtain rfl := Nat.eq_of_beq_eq_true hb.1
    obtain ⟨b, o, z, cap, m', rfl, _, hz, _, _⟩ := ssl_inv hx (Nat.eq_of_beq_eq_true hb.2)
    exact ⟨.int .i64 (Int.ofNat z), by simp [Builtin.len_, hts, run_underlying hu, goInt], .sym hz⟩
  · rename_i e m q hu
    cases h0 : Nat.beq m 0
    · rw [h0] at h; cases h
    rw [h0] at h
    simp only [cond_true] at h
    obtain rfl := Nat.eq_of_beq_eq_true h0
    cases h3 : Nat.beq (Nat.mod q 8) 3
    · rw [h3] at h
      simp only [cond_false] at h
      cases h4 : Nat.beq (Nat.mod q 8) 4 <;> simp only [h4, cond_true, cond_false, reduceCtorEq, Option.some.injEq] at h
      subst h
      obtain ⟨_, _, z, o, cap, _, hz, rfl⟩ := name4_inv hx (Nat.eq_of_beq_eq_true h4)
      exact ⟨.int .i64 (Int.ofNat z), by simp [Builtin.len_, hts, run_underlying hu, goInt], .ngt hz⟩
    · rw [h3] at h
      simp only [cond_true, Option.some.injEq] at h
      subst h
      obtain ⟨_, _, _, z, o, cap, _, hz, _, rfl⟩ := name3_inv hx (Nat.eq_of_beq_eq_true h3)
      exact ⟨.int .i64 (Int.ofNat z), by simp [Builtin.len_, hts, run_underlying hu, goInt], .nle hz⟩
  · cases h

def minV (x y : V) : Option V :=
  match x, y with
  | .int k a, .int _ b => some (.int k (bif ltI b a then b else a))
  | _, _ => none
theorem minV_sound {r : Emb} {x y v : V} (h : minV x y = some v) {a c : Value} (hx : VRel r x a) (hy : VRel r y c) (ts : Array TypeId) (ty : TypeId) (w : World) :
    ∃ z, (Builtin.min_ ts ty #[a, c]).run P w = .ok z w ∧ VRel r v z := by
  unfold minV at h
  split at h
  · rename_i k p k' q
    simp only [Option.some.injEq] at h
    subst h
    cases hx; cases hy
    refine ⟨.int k (if q < p then q else p), by simp [Builtin.min_, Builtin.min2], ?_⟩
    rw [ltI_eq]
    by_cases hlt : q < p <;> simp only [hlt, decide_true, decide_false, cond_true, cond_false, if_true, if_false] <;> exact .int _ _
  · simp at h

def maxV (x y : V) : Option V :=
  match x, y with
  | .int k a, .int _ b => some (.int k (bif ltI a b then b else a))
  | _, _ => none
theorem maxV_sound {r : Emb} {x y v : V} (h : maxV x y = some v) {a c : Value} (hx : VRel r x a) (hy : VRel r y c) (ts : Array TypeId) (ty : TypeId) (w : World) :
    ∃ z, (Builtin.max_ ts ty #[a, c]).run P w = .ok z w ∧ VRel r v z := by
  unfold maxV at h
  split at h
  · rename_i k p k' q
    simp only [Option.some.injEq] at h
    subst h
    cases hx; cases hy
    refine ⟨.int k (if q > p then q else p), by simp [Builtin.max_, Builtin.max2], ?_⟩
    rw [ltI_eq]
    by_cases hlt : p < q <;> simp only [gt_iff_lt, hlt, decide_true, decide_false, cond_true, cond_false, if_true, if_false] <;> exact .int _ _
  · simp at h

def builtinV (P : Program) (h : H) (b : Builtin) (ts : List TypeId) (xs : List V) : Option V :=
  match b, ts, xs with
  | .len, t :: _, [x] => lenV P h t x
  | .min, _, [x, y] => minV x y
  | .max, _, [x, y] => maxV x y
  | _, _, _ => none

/-- Bytes in cells, and as a text. -/
def bytesN : List V → Option (List Nat)
  | [] => some []
  | .int .u8 (.ofNat b) :: vs => bif Nat.blt b 256 then (bytesN vs).map fun l => b :: l else none
  | _ :: _ => none
def packN : List Nat → Nat
  | [] => 0
  | b :: l => b + 256 * packN l
theorem bytesN_sound {r : Emb} : ∀ {vs : List V} {xs : List Value} {l : List Nat}, VsRel r vs xs → bytesN vs = some l → xs = l.map (fun (b : Nat) => Value.int .u8 (b : Int)) ∧ (∀ b ∈ l, b < 256) := by
  intro vs
  induction vs with
  | nil => intro xs l h he; cases h; simp only [bytesN, Option.some.injEq] at he; subst he; exact ⟨rfl, fun b h => by cases h⟩
  | cons v vs ih =>
    intro xs l h he
    cases h with
    | cons h hs =>
      unfold bytesN at he
      split at he
      · rename_i heq; cases heq
      · rename_i b vs' heq
        cases heq
        cases hb : Nat.blt b 256 <;> simp only [hb, cond_true, cond_false, reduceCtorEq] at he
        cases hq : bytesN vs with
        | none => rw [hq] at he; simp at he
        | some l' =>
          rw [hq] at he
          simp only [Option.map_some, Option.some.injEq] at he
          subst he
          obtain ⟨h1, h2⟩ := ih hs hq
          cases h
          refine ⟨by rw [h1]; rfl, fun c hc => ?_⟩
          rcases List.mem_cons.1 hc with rfl | hc
          · rwa [Nat.blt_eq] at hb
          · exact h2 c hc
      · cases he
theorem packN_lt : ∀ {l : List Nat}, (∀ b ∈ l, b < 256) → packN l < 256 ^ l.length
  | [], _ => by simp [packN]
  | b :: l, h => by
    have h1 := packN_lt (l := l) (fun c hc => h c (by simp [hc]))
    have h2 := h b (by simp)
    rw [List.length_cons, Nat.pow_succ, packN]
    omega
theorem sdec_packN : ∀ {l : List Nat}, (∀ b ∈ l, b < 256) → sdec (packN l) l.length = l.map UInt8.ofNat
  | [], _ => rfl
  | b :: l, h => by
    have h1 := sdec_packN (l := l) (fun c hc => h c (by simp [hc]))
    have h2 := h b (by simp)
    show UInt8.ofNat ((b + 256 * packN l) % 256) :: sdec ((b + 256 * packN l) / 256) l.length = _
    rw [show (b + 256 * packN l) % 256 = b by omega, show (b + 256 * packN l) / 256 = packN l by omega, h1]
    rfl

/-- Is a value a byte, known or not? -/
def isU8 (v : V) : Bool :=
  match v with
  | .int .u8 (.ofNat b) => Nat.blt b 256
  | .cl2 0 q => Nat.beq q (kq .u8)
  | _ => false
theorem isU8_sound {r : Emb} {v : V} {x : Value} (h : isU8 v = true) (hx : VRel r v x) : ∃ b : UInt8, x = .int .u8 (b.toNat : Int) := by
  unfold isU8 at h
  split at h
  · rename_i b
    cases hx
    rw [Nat.blt_eq] at h
    exact ⟨UInt8.ofNat b, by simp; omega⟩
  · rename_i q
    obtain rfl := Nat.eq_of_beq_eq_true h
    obtain ⟨k, n, h1, rfl, h2⟩ := uint_some hx (by decide) (by decide)
    obtain rfl := kq_inj h1
    obtain ⟨h3, h4⟩ := h2 rfl
    refine ⟨UInt8.ofNat n.toNat, ?_⟩
    have : (UInt8.ofNat n.toNat).toNat = n.toNat := by simp; omega
    rw [this]
    congr 1
    omega
  · cases h
theorem allU8_sound {r : Emb} {vs : List V} {xs : List Value} (h : vs.all isU8 = true) (hx : VsRel r vs xs) : ∃ l : List UInt8, xs = l.map fun b => .int .u8 (b.toNat : Int) := by
  induction vs generalizing xs with
  | nil => cases hx; exact ⟨[], rfl⟩
  | cons v vs ih =>
    cases hx with
    | cons h1 h2 =>
      simp only [List.all_cons, Bool.and_eq_true] at h
      obtain ⟨b, rfl⟩ := isU8_sound h.1 h1
      obtain ⟨l, rfl⟩ := ih h.2 h2
      exact ⟨b :: l, rfl⟩

def bytesStr (P : Program) (h : H) (s d : TypeId) (id o len : Nat) : Option V :=
  match P.underlying s, P.underlying d with
  | some (.slice e), some .string =>
    match P.underlying e, h.mem.blk id with
    | some (.int .u8), .live n _ _ _ c => bif Nat.blt id 65536 && Nat.ble (Nat.add o len) n then (match bytesN (readFrom c o len) with | some l => some (.str (packN l) len) | none => bif (readFrom c o len).all isU8 then some (.cl2 0 63) else none) else none
    | _, _ => none
  | _, _ => none
/-- Conversions; bytes to a text, too. -/
def convA (P : Program) (h : H) (s d : TypeId) (x : V) : Option V :=
  match x with
  | .slice id o len _ _ => bytesStr P h s d id o len
  | x => convV P s d x
theorem convA_sound {r : Emb} {h : H} {w : World} (hr : Rel r h w) {s d : TypeId} {x v : V} (he : convA P h s d x = some v) {a : Value} (hx : VRel r x a) : ∃ z, (convert s d a).run P w = .ok z w ∧ VRel r v z := by
  unfold convA at he
  split at he
  · rename_i id o len cap esz
    unfold bytesStr at he
    split at he
    · rename_i e hs hd
      split at he
      · rename_i n tb ro pl c hu hb
        cases hc : (Nat.blt id 65536 && Nat.ble (Nat.add o len) n) <;> simp only [hc, cond_true, cond_false, reduceCtorEq] at he
        simp only [Bool.and_eq_true, Nat.blt_eq] at hc
        have hle : o + len ≤ n := Nat.le_of_ble_eq_true hc.2
        obtain ⟨b, sh, m, h1, hf⟩ := hr.blk id n tb ro pl c hc.1 hb
        obtain ⟨xs, g1, g2, g3⟩ := hf.read len o hle
        cases hl : bytesN (readFrom c o len) with
        | none =>
          rw [hl] at he
          cases hall : (readFrom c o len).all isU8 <;> simp only [hall, cond_true, cond_false, reduceCtorEq, Option.some.injEq] at he
          subst he
          obtain ⟨l, k1⟩ := allU8_sound hall g1
          have hlen : l.length = len := by
            have := congrArg List.length k1
            rw [g2, List.length_map] at this
            exact this.symm
          have run : ∀ (A : Addr) (cp : Nat), (∀ j (hj : j < l.length), w.cell? (A.add j) = some (.int .u8 ((l[j]'hj).toNat : Int))) →
              (convert s d (.slice (some A) len cp)).run P w = .ok (.string ⟨l.toArray⟩) w := by
            intro A cp hcell
            have := run_convert_bytes_back (P := P) w s d e A cp l hs hu hd hcell
            rw [hlen] at this
            exact this
          cases hx with
          | slice q1 q2 q3 q4 =>
            rw [h1] at q1
            cases q1
            refine ⟨_, run ⟨b, o + sh, none⟩ _ (fun j hj => ?_), .ustr _⟩
            have hx1 : xs[j]? = some (.int .u8 ((l[j]'hj).toNat : Int)) := by rw [k1]; simp [hj]
            have := g3 j _ hx1
            have ha : (⟨b, o + sh, none⟩ : Addr).add j = ⟨b, o + sh + j, none⟩ := by cases j <;> simp [Addr.add]
            rw [ha]
            simpa using this
          | slice0 q1 q3 =>
            have hl0 : l = [] := List.eq_nil_of_length_eq_zero hlen
            subst hl0
            exact ⟨_, run _ _ (fun j hj => by simp at hj), .ustr _⟩
        | some l =>
          rw [hl] at he
          simp only [Option.some.injEq] at he
          subst he
          obtain ⟨k1, k2⟩ := bytesN_sound g1 hl
          have hlen : l.length = len := by
            have := congrArg List.length k1
            rw [g2, List.length_map] at this
            exact this.symm
          have hfin : (⟨(l.map UInt8.ofNat).toArray⟩ : ByteArray) = sval (packN l) len := by
            unfold sval
            rw [← hlen, sdec_packN k2]
          have hlt : packN l < 256 ^ len := by rw [← hlen]; exact packN_lt k2
          have run : ∀ (A : Addr) (cp : Nat), (∀ j (hj : j < (l.map UInt8.ofNat).length), w.cell? (A.add j) = some (.int .u8 (((l.map UInt8.ofNat)[j]'hj).toNat : Int))) →
              (convert s d (.slice (some A) len cp)).run P w = .ok (.string (sval (packN l) len)) w := by
            intro A cp hcell
            have := run_convert_bytes_back (P := P) w s d e A cp (l.map UInt8.ofNat) hs hu hd hcell
            rw [List.length_map, hlen, hfin] at this
            exact this
          cases hx with
          | slice q1 q2 q3 q4 =>
            rw [h1] at q1
            cases q1
            refine ⟨_, run ⟨b, o + sh, none⟩ _ (fun j hj => ?_), .str hlt⟩
            have hj' : j < l.length := by simpa using hj
            have hx1 : xs[j]? = some (.int .u8 (l[j] : Int)) := by rw [k1]; simp [hj']
            have := g3 j _ hx1
            have hb2 := k2 l[j] (by simp)
            have hu8 : (UInt8.ofNat l[j]).toNat = l[j] := by simp; omega
            have ha : (⟨b, o + sh, none⟩ : Addr).add j = ⟨b, o + sh + j, none⟩ := by cases j <;> simp [Addr.add]
            simp only [List.getElem_map, hu8]
            rw [ha]
            simpa using this
          | slice0 q1 q3 =>
            have hl0 : l = [] := List.eq_nil_of_length_eq_zero hlen
            subst hl0
            exact ⟨_, run _ _ (fun j hj => by simp at hj), .str hlt⟩
      · cases he
    · cases he
  · exact convV_sound he hx w

/-- A method's receiver and all that aside: the value in an interface. -/
def ifaceV (P : Program) (t : TypeId) (x : V) : Option V :=
  match P.underlying t with
  | some (.interface _) => none
  | some _ => some (.iface t x)
  | none => none

/-- A type's zero. -/
def zeroOf (P : Program) (t : TypeId) : Option V :=
  match P.info? t with
  | some i => match i.zero with
    | some z => some (constV z)
    | none => none
  | none => none
theorem zeroOf_sound {r : Emb} {t : TypeId} {u : V} (h : zeroOf P t = some u) (w : World) : ∃ z, (zeroValue t).run P w = .ok z w ∧ VRel r u z := by
  unfold zeroOf at h
  split at h
  · rename_i i hi
    split at h
    · rename_i z hz
      simp only [Option.some.injEq] at h
      subst h
      exact ⟨z, by simp [zeroValue, typeInfo, hi, hz], vrel_constV r z⟩
    · simp at h
  · simp at h

/-- The methods that are not there. -/
def lackOf (want : Array (String × TypeId)) (got : Array Method) : List (String × TypeId) := want.toList.filter fun p => !got.any fun m => m.name == p.1 && m.sig == p.2
theorem least_some {x : String} {l : List String} : ∃ m, Instr.least (x :: l) = some m := ⟨_, rfl⟩
theorem lackOf_nil {want : Array (String × TypeId)} {got : Array Method} (h : lackOf want got = []) : Instr.missingMethod want got = none := by
  have h' : (want.toList.filter fun p => !got.any fun m => m.name == p.1 && m.sig == p.2) = [] := h
  unfold Instr.missingMethod
  simp only [h']
  rfl
theorem lackOf_cons {want : Array (String × TypeId)} {got : Array Method} {p : String × TypeId} {l : List (String × TypeId)} (h : lackOf want got = p :: l) : ∃ m, Instr.missingMethod want got = some m := by
  have h' : (want.toList.filter fun p => !got.any fun m => m.name == p.1 && m.sig == p.2) = p :: l := h
  unfold Instr.missingMethod
  simp only [h', List.partition_eq_filter_filter, List.map_cons]
  cases he : (List.filter (fun x => !(x.contains '.')) (p.1 :: l.map (·.1))) with
  | cons x r =>
    obtain ⟨m, hm⟩ := least_some (x := x) (l := r)
    refine ⟨m, ?_⟩
    have e2 : (List.filter (not ∘ fun x => String.contains x '.') (p.1 :: l.map (·.1))) = x :: r := he
    rw [e2, hm]
    rfl
  | nil =>
    have e2 : (List.filter (not ∘ fun x => String.contains x '.') (p.1 :: l.map (·.1))) = [] := he
    rw [e2]
    have hp : String.contains p.1 '.' = true := by
      have := List.filter_eq_nil_iff.1 he p.1 (by simp)
      simpa using this
    rw [List.filter_cons, if_pos hp, List.map_cons]
    exact least_some

/-- A type assertion. -/
def assertV (P : Program) (t : TypeId) (ok : Bool) (x : V) : Option V :=
  match P.underlying t, x with
  | some (.interface _), .nilI => bif ok then (zeroOf P t).map fun z => .tup [z, .bool false] else none
  | some (.interface want), .iface t' u =>
    match P.info? t' with
    | some i => match lackOf want i.methods with
      | [] => some (bif ok then .tup [.iface t' u, .bool true] else .iface t' u)
      | _ :: _ => bif ok then (zeroOf P t).map fun z => .tup [z, .bool false] else none
    | none => none
  | some _, .nilI => bif ok then (zeroOf P t).map fun z => .tup [z, .bool false] else none
  | some _, .iface t' u => bif Nat.beq t' t then some (bif ok then .tup [u, .bool true] else u) else (bif ok then (zeroOf P t).map fun z => .tup [z, .bool false] else none)
  | _, _ => none

theorem assertV_sound {r : Emb} {t : TypeId} {ok : Bool} {v u : V} (he : assertV P t ok v = some u) {x : Value} (hx : VRel r v x) (xt : TypeId) (w : World) :
    ∃ z, (Instr.typeAssert x xt t ok).run P w = .ok z w ∧ VRel r u z := by
  have fails : ∀ {u : V} (st dy : Option TypeId) (m : String), (bif ok then (zeroOf P t).map fun z => V.tup [z, .bool false] else none) = some u →
      ∃ z, (if ok = true then (do pure (.tuple #[← zeroValue t, .bool false]) : Sem Value) else runtimePanic (.typeAssertion st dy t m)).run P w = .ok z w ∧ VRel r u z := by
    intro u st dy m h
    cases ok
    · simp at h
    · simp only [cond_true] at h
      cases hz : zeroOf P t with
      | none => rw [hz] at h; simp at h
      | some z =>
        rw [hz] at h
        simp only [Option.map_some, Option.some.injEq] at h
        subst h
        obtain ⟨y, h1, h2⟩ := zeroOf_sound (r := r) hz w
        exact ⟨.tuple #[y, .bool false], by simp [h1], .tup (.cons h2 (.cons (.bool _) .nil))⟩
  unfold assertV at he
  split at he
  · rename_i want hu
    cases hx
    obtain ⟨z, h1, h2⟩ := fails none none "" he
    exact ⟨z, by unfold Instr.typeAssert; simp only [Sem.run_bind, run_underlying hu, Result.andThen_ok]; exact h1, h2⟩
  · rename_i want t' u' hu
    cases hx with
    | @iface _ _ y hy =>
      split at he
      · rename_i i hi
        split at he
        · rename_i hm
          replace hm := lackOf_nil hm
          simp only [Option.some.injEq] at he
          subst he
          refine ⟨if ok then .tuple #[.iface t' y, .bool true] else .iface t' y, ?_, ?_⟩
          · unfold Instr.typeAssert
            simp only [Sem.run_bind, run_underlying hu, Result.andThen_ok]
            simp [typeInfo, hi, hm]
          · cases ok
            · exact .iface hy
            · exact .tup (.cons (.iface hy) (.cons (.bool _) .nil))
        · rename_i p0 l0 hm
          obtain ⟨m, hm⟩ := lackOf_cons hm
          obtain ⟨z, h1, h2⟩ := fails none (some t') m he
          refine ⟨z, ?_, h2⟩
          unfold Instr.typeAssert
          simp only [Sem.run_bind, run_underlying hu, Result.andThen_ok]
          simpa [typeInfo, hi, hm] using h1
      · simp at he
  · rename_i d hd hu
    cases hx
    obtain ⟨z, h1, h2⟩ := fails (some xt) none "" he
    refine ⟨z, ?_, h2⟩
    unfold Instr.typeAssert
    simp only [Sem.run_bind, run_underlying hu, Result.andThen_ok]
    cases d <;> first | exact (hd _ rfl).elim | exact h1
  · rename_i d t' u' hd hu
    cases hx with
    | @iface _ _ y hy =>
      cases hb : Nat.beq t' t
      · rw [hb] at he
        simp only [cond_false] at he
        have hne : ¬ t' = t := fun e => by rw [e] at hb; simp at hb
        obtain ⟨z, h1, h2⟩ := fails (some xt) (some t') "" he
        refine ⟨z, ?_, h2⟩
        unfold Instr.typeAssert
        simp only [Sem.run_bind, run_underlying hu, Result.andThen_ok]
        cases d <;> first | exact (hd _ rfl).elim | (simp only [hne, if_false]; exact h1)
      · rw [hb] at he
        simp only [cond_true, Option.some.injEq] at he
        subst he
        have hte := Nat.eq_of_beq_eq_true hb
        refine ⟨if ok then .tuple #[y, .bool true] else y, ?_, ?_⟩
        · unfold Instr.typeAssert
          simp only [Sem.run_bind, run_underlying hu, Result.andThen_ok]
          cases d <;> first | exact (hd _ rfl).elim | simp [hte]
        · cases ok
          · exact hy
          · exact .tup (.cons hy (.cons (.bool _) .nil))
  · simp at he

def isConstO : Operand → Bool
  | .const _ => true
  | _ => false
def eqNeq (o : BinOp) (b : Bool) : Option V :=
  match o with
  | .eql => some (.bool b)
  | .neq => some (.bool (!b))
  | _ => none
/-- An interface held against nil. -/
def ifaceEqV (ms : Array (String × TypeId)) (o : BinOp) (xc yc : Bool) (a b : V) : Option V :=
  match a, b with
  | .nilI, .nilI => bif xc || yc || ms.isEmpty then eqNeq o true else none
  | .nilI, .iface _ _ => eqNeq o false
  | .iface _ _, .nilI => eqNeq o false
  | _, _ => none
def binX (P : Program) (h : H) (E : Operand → V) (o : BinOp) (t : TypeId) (x y : Operand) : Option V :=
  match P.underlying t with
  | some (.interface ms) => ifaceEqV ms o (isConstO x) (isConstO y) (E x) (E y)
  | _ => binV P h o t (E x) (E y)

theorem eqNeq_run {r : Emb} {o : BinOp} {b : Bool} {v : V} (he : eqNeq o b = some v) {t : TypeId} {a c : Value} {w : World} (xo yo : Operand) (hg : ∀ o, o = .eql ∨ o = .neq → (eqGuard o t xo yo a c).run P w = .ok () w)
    (h1 : (Op.equal t a c).run P w = .ok b w) (q1 : ∀ k n, a ≠ .int k n) (q2 : ∀ s, a ≠ .string s) (q3 : ∀ k n, a ≠ .float k n) (q4 : ∀ k n m, a ≠ .complex k n m) :
    ∃ z, (do eqGuard o t xo yo a c; binOp o t a c : Sem Value).run P w = .ok z w ∧ VRel r v z := by
  unfold eqNeq at he
  obtain ⟨e1, e2⟩ := binOp_ptr_eql w h1 q1 q2 q3 q4
  split at he
  · simp only [Option.some.injEq] at he
    subst he
    exact ⟨_, by simp only [Sem.run_bind, hg .eql (.inl rfl), Result.andThen_ok, e1], .bool _⟩
  · simp only [Option.some.injEq] at he
    subst he
    exact ⟨_, by simp only [Sem.run_bind, hg .neq (.inr rfl), Result.andThen_ok, e2], .bool _⟩
  · simp at he

theorem ifaceEqV_sound {r : Emb} {t : TypeId} {ms : Array (String × TypeId)} (hu : P.underlying t = some (.interface ms)) {o : BinOp} {xo yo : Operand} {x y v : V} (he : ifaceEqV ms o (isConstO xo) (isConstO yo) x y = some v)
    {a c : Value} (hx : VRel r x a) (hy : VRel r y c) (w : World) : ∃ z, (do eqGuard o t xo yo a c; binOp o t a c : Sem Value).run P w = .ok z w ∧ VRel r v z := by
  have key : ∀ {a c : Value} {b : Bool}, (∀ d : Nat, (Op.equalIn (d + 1) t a c).run P w = .ok b w) → (Op.equal t a c).run P w = .ok b w := fun h => h 9999
  unfold ifaceEqV at he
  split at he
  · cases hx; cases hy
    cases hc : (isConstO xo || isConstO yo || ms.isEmpty)
    · rw [hc] at he; simp at he
    · rw [hc] at he
      simp only [cond_true] at he
      refine eqNeq_run he xo yo (fun o ho => ?_) (key fun d => by simp [Op.equalIn, run_underlying hu]) (by simp) (by simp) (by simp) (by simp)
      have hgin : ms.isEmpty = true → (Op.eqGuardIn Op.maxDepth t .nilIface .nilIface).run P w = .ok false w := fun hm => by
        have h9 : ∀ d : Nat, (Op.eqGuardIn (d + 1) t .nilIface .nilIface).run P w = .ok false w := fun d => by simp [Op.eqGuardIn, run_underlying hu, hm]
        exact h9 9999
      rcases ho with rfl | rfl
      · cases xo <;> cases yo <;> simp [isConstO] at hc <;> simp [eqGuard, hc, hgin]
      · cases xo <;> cases yo <;> simp [isConstO] at hc <;> simp [eqGuard, hc, hgin]
  · cases hx; cases hy
    exact eqNeq_run he xo yo (fun o ho => by rcases ho with rfl | rfl <;> simp [eqGuard]) (key fun d => by simp [Op.equalIn, run_underlying hu]) (by simp) (by simp) (by simp) (by simp)
  · cases hx; cases hy
    exact eqNeq_run he xo yo (fun o ho => by rcases ho with rfl | rfl <;> simp [eqGuard]) (key fun d => by simp [Op.equalIn, run_underlying hu]) (by simp) (by simp) (by simp) (by simp)
  · simp at he

/-- An operation that leaves memory as it is. -/
def valOp (P : Program) (h : H) (E : Operand → V) (op : Op) : Option V :=
  match op with
  | .move x => some (E x)
  | .assign x => some (E x)
  | .pick c a b => match E c with
    | .bool t => some (bif t then E a else E b)
    | _ => none
  | .nilCheck x => nilV (E x)
  | .binOp o t x y _ => binX P h E o t x y
  | .unOp o _ x => unV o (E x)
  | .convert s d x => convA P h s d (E x)
  | .makeInterface t x => ifaceV P t (E x)
  | .typeAssert x _ t ok => assertV P t ok (E x)
  | .makeFunc f first captured => bif isYield f then none else some (.fn f (first.toList.map E) (captured.toList.map E))
  | .slice t x lo hi none => sliceV P t (E x) (lo.map E) (hi.map E)
  | .fieldAddr s x f => fieldAddrV P s (E x) f
  | .field t x f => fieldV P t (E x) f
  | .indexAddr t x i => indexAddrV P t (E x) (E i)
  | .index t x i => indexV P t (E x) (E i)
  | .extract x i => extractV (E x) i
  | .build t parts => buildV P t (parts.toList.map fun (i, x) => (i, E x))
  | .load t x => loadV P h t (E x)
  | .lookup t x i ok => lookupV P h t (E x) (E i) ok
  | .call { callee := .builtin b, args, argTypes } => builtinV P h b argTypes.toList (args.toList.map E)
  | _ => none

def ERel (r : Emb) (E : Operand → V) (e : Operand → Value) : Prop := ∀ x, VRel r (E x) (e x)

theorem erel_list {r : Emb} {E : Operand → V} {e : Operand → Value} (h : ERel r E e) (l : List Operand) : VsRel r (l.map E) (l.map e) := by
  induction l with
  | nil => exact .nil
  | cons x l ih => exact .cons (h x) ih
theorem erel_parts {r : Emb} {E : Operand → V} {e : Operand → Value} (h : ERel r E e) (l : List (Nat × Operand)) : PsRel r (l.map fun (i, x) => (i, E x)) (l.map fun (i, x) => (i, e x)) := by
  induction l with
  | nil => exact .nil
  | cons x l ih => obtain ⟨i, x⟩ := x; exact .cons (h x) ih
theorem erel_opt {r : Emb} {E : Operand → V} {e : Operand → Value} (h : ERel r E e) (o : Option Operand) : ORel r (o.map E) (o.map e) := by
  cases o with
  | none => exact .none
  | some x => exact .some (h x)

theorem valOp_sound {r : Emb} {h : H} {w : World} (hr : Rel r h w) {E : Operand → V} {e : Operand → Value} (hE : ERel r E e) {o : Oper} {v : V} (he : valOp P h E o.op = some v) :
    ∃ z, (execOp e o).run P w = .ok (.value z) w ∧ VRel r v z := by
  unfold valOp at he
  split at he
  · rename_i x ho
    simp only [Option.some.injEq] at he
    subst he
    exact ⟨e x, by unfold execOp; simp [ho], hE x⟩
  · rename_i x ho
    simp only [Option.some.injEq] at he
    subst he
    exact ⟨e x, by unfold execOp; simp [ho], hE x⟩
  · rename_i c a b ho
    split at he
    · rename_i t hc
      simp only [Option.some.injEq] at he
      subst he
      have h1 := hE c
      rw [hc] at h1
      cases h2 : e c <;> rw [h2] at h1 <;> cases h1
      refine ⟨if t then e a else e b, by unfold execOp; simp [ho, h2, asBool], ?_⟩
      cases t
      · exact hE b
      · exact hE a
    · simp at he
  · rename_i x ho
    obtain ⟨h1, h2⟩ := nilV_sound he (hE x) e o x ho rfl w (P := P)
    exact ⟨_, h1, h2⟩
  · rename_i bo t x y yt ho
    have h0 : ∃ z, (do eqGuard bo t x y (e x) (e y); binOp bo t (e x) (e y) : Sem Value).run P w = .ok z w ∧ VRel r v z := by
      unfold binX at he
      split at he
      · rename_i ms hu
        exact ifaceEqV_sound hu he (hE x) (hE y) w
      · exact binV_sound hr he (hE x) (hE y) x y
    obtain ⟨z, h1, h2⟩ := h0
    refine ⟨z, ?_, h2⟩
    unfold execOp
    simp only [ho]
    simp only [Sem.run_bind] at h1 ⊢
    rw [h1]
    rfl
  · rename_i uo t x ho
    obtain ⟨z, h1, h2⟩ := unV_sound he (hE x) w (P := P)
    exact ⟨z, by unfold execOp; simp [ho, h1], h2⟩
  · rename_i s d x ho
    obtain ⟨z, h1, h2⟩ := convA_sound hr he (hE x)
    exact ⟨z, by unfold execOp; simp [ho, h1], h2⟩
  · rename_i t x ho
    unfold ifaceV at he
    split at he <;> simp only [Option.some.injEq, reduceCtorEq] at he
    rename_i d hd hu
    subst he
    refine ⟨.iface t (e x), ?_, .iface (hE x)⟩
    unfold execOp
    cases d <;> first | (exact absurd rfl (hd _)) | simp [ho, Instr.makeInterface, run_underlying hu]
  · rename_i x xt t ok ho
    obtain ⟨z, h1, h2⟩ := assertV_sound he (hE x) xt w
    exact ⟨z, by unfold execOp; simp [ho, h1], h2⟩
  · rename_i f first captured ho
    cases hy : isYield f
    case true => rw [hy] at he; simp at he
    rw [hy] at he
    simp only [cond_false, Option.some.injEq] at he
    subst he
    exact ⟨.func f (first.map e) (captured.map e), by unfold execOp; simp [ho, Instr.makeFunc], .fn hy (by simpa using erel_list hE first.toList) (by simpa using erel_list hE captured.toList)⟩
  · rename_i t x lo hi ho
    obtain ⟨z, h1, h2⟩ := sliceV_sound he (hE x) (erel_opt hE lo) (erel_opt hE hi) w
    exact ⟨z, by unfold execOp; simp [ho, h1], h2⟩
  · rename_i s x f ho
    obtain ⟨z, h1, h2⟩ := fieldAddrV_sound he (hE x) w
    exact ⟨z, by unfold execOp; simp [ho, h1], h2⟩
  · rename_i t x f ho
    obtain ⟨z, h1, h2⟩ := fieldV_sound he (hE x) w
    exact ⟨z, by unfold execOp; simp [ho, h1], h2⟩
  · rename_i t x i ho
    obtain ⟨z, h1, h2⟩ := indexAddrV_sound he (hE x) (hE i) w
    exact ⟨z, by unfold execOp; simp [ho, h1], h2⟩
  · rename_i t x i ho
    obtain ⟨z, h1, h2⟩ := indexV_sound he (hE x) (hE i) w
    exact ⟨z, by unfold execOp; simp [ho, h1], h2⟩
  · rename_i x i ho
    obtain ⟨z, h1, h2⟩ := extractV_sound he (hE x) w (P := P)
    exact ⟨z, by unfold execOp; simp [ho, h1], h2⟩
  · rename_i t parts ho
    obtain ⟨z, h1, h2⟩ := buildV_sound he (ps := parts.map fun (i, x) => (i, e x)) (by simpa using erel_parts hE parts.toList) w
    exact ⟨z, by unfold execOp; simp [ho, h1], h2⟩
  · rename_i t x ho
    obtain ⟨z, h1, h2⟩ := loadV_sound hr he (hE x)
    exact ⟨z, by unfold execOp; simp [ho, h1], h2⟩
  · rename_i t x i ok ho
    obtain ⟨z, h1, h2⟩ := lookupV_sound hr he (hE x) (hE i)
    exact ⟨z, by unfold execOp; simp [ho, h1], h2⟩
  · rename_i b args ts ho
    unfold builtinV at he
    split at he
    · rename_i t tl x hts hxs
      obtain ⟨x', hx'⟩ : ∃ x', args.toList = [x'] := by
        cases ha : args.toList with
        | nil => rw [ha] at hxs; simp at hxs
        | cons p q => cases q with
          | nil => exact ⟨p, rfl⟩
          | cons _ _ => rw [ha] at hxs; simp at hxs
      rw [hx'] at hxs
      simp only [List.map_cons, List.map_nil, List.cons.injEq, and_true] at hxs
      subst hxs
      have ea : args = #[x'] := by rw [← Array.toArray_toList (xs := args), hx']
      have et : ts[0]? = some t := by rw [← Array.getElem?_toList, hts]; rfl
      obtain ⟨z, h1, h2⟩ := lenV_sound hr he (hE x') ts et o.type
      refine ⟨z, ?_, h2⟩
      unfold execOp
      simp [ho, ea, resolve, invoke, builtin, h1]
    · rename_i tl x y hxs
      obtain ⟨x', y', hx'⟩ : ∃ x' y', args.toList = [x', y'] := by
        cases ha : args.toList with
        | nil => rw [ha] at hxs; simp at hxs
        | cons p q => cases q with
          | nil => rw [ha] at hxs; simp at hxs
          | cons p2 q2 => cases q2 with
            | nil => exact ⟨p, p2, rfl⟩
            | cons _ _ => rw [ha] at hxs; simp at hxs
      rw [hx'] at hxs
      simp only [List.map_cons, List.map_nil, List.cons.injEq, and_true] at hxs
      obtain ⟨rfl, rfl⟩ := hxs
      have ea : args = #[x', y'] := by rw [← Array.toArray_toList (xs := args), hx']
      obtain ⟨z, h1, h2⟩ := minV_sound he (hE x') (hE y') ts o.type w (P := P)
      refine ⟨z, ?_, h2⟩
      unfold execOp
      simp [ho, ea, resolve, invoke, builtin, h1]
    · rename_i tl x y hxs
      obtain ⟨x', y', hx'⟩ : ∃ x' y', args.toList = [x', y'] := by
        cases ha : args.toList with
        | nil => rw [ha] at hxs; simp at hxs
        | cons p q => cases q with
          | nil => rw [ha] at hxs; simp at hxs
          | cons p2 q2 => cases q2 with
            | nil => exact ⟨p, p2, rfl⟩
            | cons _ _ => rw [ha] at hxs; simp at hxs
      rw [hx'] at hxs
      simp only [List.map_cons, List.map_nil, List.cons.injEq, and_true] at hxs
      obtain ⟨rfl, rfl⟩ := hxs
      have ea : args = #[x', y'] := by rw [← Array.toArray_toList (xs := args), hx']
      obtain ⟨z, h1, h2⟩ := maxV_sound he (hE x') (hE y') ts o.type w (P := P)
      refine ⟨z, ?_, h2⟩
      unfold execOp
      simp [ho, ea, resolve, invoke, builtin, h1]
    · simp at he
  · simp at he

end Go.Ev
