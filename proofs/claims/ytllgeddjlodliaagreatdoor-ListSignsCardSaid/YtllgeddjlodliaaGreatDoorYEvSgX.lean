/- ListSigns: its calls by contract: a point, a part of a text that has a name, where the sign is pinned. Condition: the tables hold what their initialisers lay. -/
import Derived.Test.YtllgeddjlodliaaGreatDoorYEvExt
import Derived.Test.YtllgeddjlodliaaGreatDoorYEvSgA
import Derived.Test.YtllgeddjlodliaaGreatDoorYEvSgS
import Derived.Test.YtllgeddjlodliaaGreatDoorYEvMj
namespace Go.Proofs.YtllgeddjlodliaaGreatDoor
open Go.Ev

/-- Is a sign pinned, of how many units (and one)? -/
def pinAt (h : H) : Nat := match h.mem.blk 13 with | .u16b k => k | _ => 0
/-- Is it the place, so many units on? -/
def isAt (v : V) (n : Nat) : Bool := match v with | .msk m q => Nat.beq m 0 && (Nat.beq (Nat.mod q 4) 1 && (Nat.beq (sId (Nat.div q 4)) 11 && (Nat.beq (sC (Nat.div q 4)) (Nat.add 1073741824 n) && Nat.beq (sD (Nat.div q 4)) (Nat.add 1073741824 n)))) | _ => false
def isTx (v : V) : Bool := match v with | .cls m q => Nat.beq m 0 && Nat.beq q 81 | _ => false
def pointV (vs : List V) (h : H) : Option V :=
  match vs with
  | [t, a] => bif isTx t && (isAt a 0 && Nat.blt 0 (pinAt h)) then some (.tup [.cl2 0 (kq .i32), .int .i64 (.ofNat (Nat.pred (pinAt h)))]) else none
  | _ => none
def subV (vs : List V) (h : H) : Option V :=
  match vs with
  | [t, a, b] => bif isTx t && (isAt a 0 && (isAt b (Nat.pred (pinAt h)) && Nat.blt 0 (pinAt h))) then some (.cls 0 97) else none
  | _ => none
theorem pin_of {r : Emb} {h : H} {w : World} (hr : Rel r h w) (hp : Nat.blt 0 (pinAt h) = true) : pinSpec (pinAt h) r := by
  unfold pinAt at hp ⊢
  cases hk : h.mem.blk 13 <;> simp only [hk] at hp ⊢ <;> first | (exact absurd hp (by decide)) | skip
  obtain ⟨b, sh, m, h1, h2⟩ := hr.fit 13 (by decide) (by rw [hk]; rfl)
  rw [hk] at h2
  exact h2.1
theorem isTx_val {r : Emb} {v : V} {x : Value} (h : isTx v = true) (hv : VRel r v x) {a b : Nat} (hr : r 10 = some (a, b, 0)) : x = .string (sval a b) := by
  unfold isTx at h
  split at h
  · simp only [Bool.and_eq_true] at h
    obtain rfl := Nat.eq_of_beq_eq_true h.1
    obtain rfl := Nat.eq_of_beq_eq_true h.2
    obtain ⟨a', b', z', e1, e2⟩ := name1_inv hv (by decide)
    rw [show 81 / 8 = 10 from rfl, hr] at e1
    cases e1
    exact e2
  · cases h
theorem isAt_val {r : Emb} {v : V} {x : Value} {n : Nat} (h : isAt v n = true) (hv : VRel r v x) {a : Nat} (hr : r 11 = some (a, 0, 0)) : x = .int .i64 ((a + n : Nat) : Int) := by
  unfold isAt at h
  split at h
  · rename_i m q
    simp only [Bool.and_eq_true] at h
    obtain ⟨h1, h2, h3, h4, h5⟩ := h
    obtain rfl := Nat.eq_of_beq_eq_true h1
    have g2 : q % 4 = 1 := Nat.eq_of_beq_eq_true h2
    have g3 : sId (q / 4) = 11 := Nat.eq_of_beq_eq_true h3
    have g4 : sC (q / 4) = 1073741824 + n := Nat.eq_of_beq_eq_true h4
    have g5 : sD (q / 4) = 1073741824 + n := Nat.eq_of_beq_eq_true h5
    obtain ⟨k, rfl, k1, k2, k3⟩ := sym_inv hv g2
    rw [g3, g4, g5] at k3
    rcases k3 with k3 | ⟨x, y, z, e1, e2, e3⟩
    · cases k3
    · rw [hr] at e1
      cases e1
      congr 1
      omega
  · cases h
theorem Drew.step {r : Emb} {h : H} {w w' : World} (hr : Rel r h w) (hd : Drew w w') : Step r h w r h w' := by
  obtain ⟨n, rfl⟩ := hd
  exact Step.drew hr n
theorem vs_two {r : Emb} {u v : V} {xs : Array Value} (h : VsRel r [u, v] xs.toList) : ∃ x y, xs = #[x, y] ∧ VRel r u x ∧ VRel r v y := by
  cases xs with | mk l =>
  cases h with
  | cons h1 h2 => cases h2 with
    | cons h2 h3 => cases h3; exact ⟨_, _, rfl, h1, h2⟩
theorem vs_three {r : Emb} {u v t : V} {xs : Array Value} (h : VsRel r [u, v, t] xs.toList) : ∃ x y z, xs = #[x, y, z] ∧ VRel r u x ∧ VRel r v y ∧ VRel r t z := by
  cases xs with | mk l =>
  cases h with
  | cons h1 h2 => cases h2 with
    | cons h2 h3 => cases h3 with
      | cons h3 h4 => cases h4; exact ⟨_, _, _, rfl, h1, h2, h3⟩

theorem point_ok {W : World} {vs : List V} {h : H} {v : V} (he : pointV vs h = some v) : CallOk Tryz.prog W 159 vs h v h := by
  intro r w xs hr hg hba hvs
  unfold pointV at he
  split at he
  · rename_i t a
    cases hb : (isTx t && (isAt a 0 && Nat.blt 0 (pinAt h)))
    · rw [hb] at he; cases he
    rw [hb] at he
    simp only [cond_true, Option.some.injEq] at he
    subst he
    simp only [Bool.and_eq_true] at hb
    obtain ⟨b1, b2, b3⟩ := hb
    have hp := pin_of hr b3
    obtain ⟨n, hn⟩ : ∃ n, pinAt h = n + 1 := ⟨pinAt h - 1, by rw [Nat.blt_eq] at b3; omega⟩
    rw [hn] at hp ⊢
    obtain ⟨tx, ty, k, sx, sy, p1, p2, p3, p4, p5, p6, p7, p8, p9, p10⟩ := hp
    obtain ⟨x, y, rfl, v1, v2⟩ := vs_two hvs
    obtain rfl := isTx_val b1 v1 p1
    obtain rfl := isAt_val b2 v2 p3
    refine (point_walk (sval tx ty) k w p7 p8).mono ?_
    rintro e w' ⟨⟨u, rfl⟩, hd⟩
    rw [p9]
    refine ⟨_, r, rfl, Drew.step hr hd, .tup (.cons (.uint (k := .i32) (fun h => by cases h)) (.cons (.int .i64 _) .nil))⟩
  · cases he
theorem sub_ok {W : World} {vs : List V} {h : H} {v : V} (he : subV vs h = some v) : CallOk Tryz.prog W 52 vs h v h := by
  intro r w xs hr hg hba hvs
  unfold subV at he
  split at he
  · rename_i t a b
    cases hb : (isTx t && (isAt a 0 && (isAt b (Nat.pred (pinAt h)) && Nat.blt 0 (pinAt h))))
    · rw [hb] at he; cases he
    rw [hb] at he
    simp only [cond_true, Option.some.injEq] at he
    subst he
    simp only [Bool.and_eq_true] at hb
    obtain ⟨b1, b2, b4, b3⟩ := hb
    have hp := pin_of hr b3
    obtain ⟨n, hn⟩ : ∃ n, pinAt h = n + 1 := ⟨pinAt h - 1, by rw [Nat.blt_eq] at b3; omega⟩
    rw [hn] at hp b4
    obtain ⟨tx, ty, k, sx, sy, p1, p2, p3, p4, p5, p6, p7, p8, p9, p10⟩ := hp
    obtain ⟨x, y, z, rfl, v1, v2, v3⟩ := vs_three hvs
    obtain rfl := isTx_val b1 v1 p1
    obtain rfl := isAt_val b2 v2 p3
    obtain rfl := isAt_val b4 v3 p3
    have hle : k + n ≤ (sval tx ty).size / 2 := by
      unfold signLen at p9
      split at p9
      · omega
      · split at p9 <;> omega
    refine (sub_walk (sval tx ty) k (k + n) w p7 (Nat.le_add_right _ _) hle).mono ?_
    rintro e w' ⟨rfl, rfl⟩
    rw [← p10]
    exact ⟨_, r, rfl, Step.refl hr, .nstr (id := 12) p4 p5⟩
  · cases he

def extG : CallFn := fun g vs h =>
  bif Nat.beq g 159 then (pointV vs h).map fun v => (v, h)
  else bif Nat.beq g 52 then (subV vs h).map fun v => (v, h)
  else extA g vs h
def isExtG (g : FuncId) : Bool := Nat.beq g 159 || (Nat.beq g 52 || isExt0 g)
noncomputable def callG : CallFn := callS Tryz.prog extG isExtG mask tab 3000 300
theorem extG_ok {W : World} (g : FuncId) (hg : isExtG g = true) (vs : List V) (h : H) (v : V) (h' : H) (he : extG g vs h = some (v, h')) : CallOk Tryz.prog W g vs h v h' := by
  unfold extG at he
  cases h1 : Nat.beq g 159
  · rw [h1] at he
    cases h2 : Nat.beq g 52
    · rw [h2] at he
      simp only [isExtG, h1, h2, Bool.false_or] at hg
      exact ext_ok0 g hg vs h v h' he
    · rw [h2] at he
      obtain rfl := Nat.eq_of_beq_eq_true h2
      obtain ⟨e1, rfl⟩ := map_of (o := subV vs h) he
      exact sub_ok e1
  · rw [h1] at he
    obtain rfl := Nat.eq_of_beq_eq_true h1
    obtain ⟨e1, rfl⟩ := map_of (o := pointV vs h) he
    exact point_ok e1
theorem callG_ok {W : World} : CallFnOk Tryz.prog W callG := by
  unfold callG
  rw [callS_eq _ _ _ tabOk]
  exact callN_sound (by kernel_rfl) extG_ok noNum progOk (fun call hc => draws call hc) 300

/-! The code of all. -/
noncomputable def allCode : Code := match Tryz.prog.funcs[10]? with | some fn => (match fn.body with | some c => c | none => .skip) | none => .skip
def loopOf : Code → Option Code
  | .loop c => some c
  | .seq a b => (match loopOf a with | some c => some c | none => loopOf b)
  | .block _ c => loopOf c
  | _ => none
noncomputable def bodyCode : Code := match loopOf allCode with | some c => c | none => .skip
noncomputable def preL : List Code := (partsOf bodyCode).1
noncomputable def appC : Code := (partsOf bodyCode).2.1
noncomputable def cntC : Code := (partsOf bodyCode).2.2
noncomputable def preR : Fr → Ds → H → RC := denL Tryz.prog callG (mask 10) 3000 preL
noncomputable def cntR : Fr → Ds → H → RC := den Tryz.prog callG (mask 10) 3000 cntC

/-! The rounds. -/
def tbA (n : Nat) : List (Nat × Nm) := [(10, .keep), (11, .num n 0 1000), (12, .keep)]
def tbB : List (Nat × Nm) := [(10, .keep), (11, .keep), (15, .keep), (16, .keep), (19, .keep)]
def tbD : List (Nat × Nm) := [(11, .num 0 0 1000)]
noncomputable def fA (n r : Nat) : Bool := match preR (Sg.headS r).f [] (Sg.headH r n) with | .ok .norm f d h => (match d with | [] => turnB 20 (tbA n) f h (Sg.midS r) && veq (fget f 6) (Sg.six r) | _ => false) | _ => false
noncomputable def fC (r : Nat) : Bool := match cntR (Sg.newF r) [] (Sg.newH r) with | .ok .norm f d h => (match d with | [] => turnB 20 tbB f h (Sg.headS (Nat.succ r)) | _ => false) | _ => false
noncomputable def fD (r : Nat) : Bool :=
  match preR (Sg.headS r).f [] (Sg.headH r 0) with
  | .ok .ret f d h => (match d with
    | [] => (turnB 20 tbD f h (Sg.doneS r) && veq (fget f 4) (Sg.six r)) && (match callG 10 [.ptr 22 0, Sg.wkV] (Sg.doneS r).h with | some (.tup [.nils, .bool b], _) => b | _ => false)
    | _ => false)
  | _ => false
/-- A round that gives a sign, the next head; a round that gives none. -/
noncomputable def fR (r : Nat) : Bool := fA 1 r && (fA 2 r && fC r)
end Go.Proofs.YtllgeddjlodliaaGreatDoor
