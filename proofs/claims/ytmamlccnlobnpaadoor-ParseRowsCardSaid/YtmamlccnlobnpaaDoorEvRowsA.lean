/- ParseRows: the code behind the reduction of the two numbers, at each of the 256 pairs of remainders. Condition: the world of EvExt. -/
import Derived.Test.YtmamlccnlobnpaaDoorEvExt
namespace Go.Proofs.YtmamlccnlobnpaaDoor
open Go.Ev

def fstR : Code → Code | .seq a _ => a | c => c
def sndR : Code → Code | .seq _ b => b | c => c
noncomputable def body3 : Code := (Tryd.f3.body).getD .skip
noncomputable def r0C : Code := fstR body3
noncomputable def r1C : Code := fstR (sndR body3)
noncomputable def r3C : Code := fstR (sndR (sndR body3))
noncomputable def r4C : Code := fstR (sndR (sndR (sndR body3)))
noncomputable def r5C : Code := fstR (sndR (sndR (sndR (sndR body3))))
noncomputable def tail3 : Code := sndR (sndR (sndR (sndR (sndR body3))))
theorem body3_eq : body3 = .seq r0C (.seq r1C (.seq r3C (.seq r4C (.seq r5C tail3)))) := by kernel_rfl

noncomputable def callR : CallFn := callS Tryd.prog ext isExt2 mask 1000 200
def X16 (n : Int) : Int := remI (addI .i64 (remI n 16) 16) 16
def opsL : List V := [.str 16191 2, .str 31868 2, .str 9766 2, .str 4013373 3, .str 4013345 3, .str 60 1, .str 62 1, .str 15676 2, .str 15678 2, .str 28265 2, .str 483736275649270941707881 10, .str 43 1, .str 45 1, .str 42 1, .str 47 1, .str 37 1]
def rowsL : List V := [.int .i64 0, .int .i64 1, .int .i64 2, .int .i64 3, .int .i64 3, .int .i64 4, .int .i64 4, .int .i64 4, .int .i64 4, .int .i64 4, .int .i64 4, .int .i64 5, .int .i64 5, .int .i64 6, .int .i64 6, .int .i64 6]
noncomputable def H3 : H := h0.lay 16 9 true (cellsOf opsL)
noncomputable def H4 : H := H3.lay 16 3 true (cellsOf rowsL)
noncomputable def R0 (n w : Int) : Fr := args0 (mask 3) 0 [.int .i64 n, .int .i64 w] fr0
noncomputable def R1 (n w : Int) : Fr := fset (R0 n w) 4 (.bool false)
noncomputable def R2 (n w : Int) : Fr := fset (R1 n w) 11 (.bool false)
noncomputable def R3 (n w : Int) : Fr := fset (R2 n w) 5 (.slice 4 0 16 16 1)
noncomputable def R4 (n w : Int) : Fr := fset (R3 n w) 6 (.slice 5 0 16 16 1)
noncomputable def R5 (x y : Int) : Fr := fset (fset (R4 0 0) 0 (.int .i64 x)) 1 (.int .i64 y)

theorem X16_cases (n : Int) : ∃ k : Nat, k < 16 ∧ X16 n = Int.ofNat k := by
  have h1 : n.tmod 16 < 16 := Int.tmod_lt_of_pos n (by omega)
  have h2 : -16 < n.tmod 16 := Int.lt_tmod_of_pos n (by omega)
  unfold X16
  rw [remI_eq, remI_eq, addI_eq]
  obtain ⟨m, hm⟩ : ∃ m : Nat, n.tmod 16 + 16 = Int.ofNat m := ⟨(n.tmod 16 + 16).toNat, by simp only [Int.ofNat_eq_natCast]; omega⟩
  have hm32 : m < 32 := by simp only [Int.ofNat_eq_natCast] at hm; omega
  rw [hm, Go.Ev.wrap_small IntKind.i64 m (by show m ≤ 9223372036854775807; omega)]
  exact ⟨m % 16, Nat.mod_lt _ (by omega), rfl⟩

set_option maxRecDepth 100000 in
theorem pre3a (n w : Int) : den Tryd.prog callR (mask 3) 1000 r0C (R0 n w) [] h0 = .ok .norm (R1 n w) [] h0 := by kernel_rfl
set_option maxRecDepth 100000 in
theorem pre3b (n w : Int) : den Tryd.prog callR (mask 3) 1000 r1C (R1 n w) [] h0 = .ok .norm (R2 n w) [] h0 := by kernel_rfl
set_option maxRecDepth 100000 in
theorem pre3c (n w : Int) : den Tryd.prog callR (mask 3) 1000 r3C (R2 n w) [] h0 = .ok .norm (R3 n w) [] H3 := by kernel_rfl
set_option maxRecDepth 100000 in
theorem pre3d (n w : Int) : den Tryd.prog callR (mask 3) 1000 r4C (R3 n w) [] H3 = .ok .norm (R4 n w) [] H4 := by kernel_rfl
set_option maxRecDepth 100000 in
theorem pre3e (n w : Int) : den Tryd.prog callR (mask 3) 1000 r5C (R4 n w) [] H4 = .ok .norm (R5 (X16 n) (X16 w)) [] H4 := by kernel_rfl

theorem seq_den {P : Program} {call : CallFn} {m fuel : Nat} {a b : Code} {f f1 : Fr} {d d1 : Ds} {h h1 : H} (e : den P call m fuel a f d h = .ok .norm f1 d1 h1) : den P call m fuel (.seq a b) f d h = den P call m fuel b f1 d1 h1 := by
  simp only [den, e]
theorem pre3 (n w : Int) : den Tryd.prog callR (mask 3) 1000 body3 (R0 n w) [] h0 = den Tryd.prog callR (mask 3) 1000 tail3 (R5 (X16 n) (X16 w)) [] H4 := by
  rw [body3_eq, seq_den (pre3a n w), seq_den (pre3b n w), seq_den (pre3c n w), seq_den (pre3d n w), seq_den (pre3e n w)]

/-- What the rest yields at a pair of remainders. -/
noncomputable def rowsB (x y : Int) : Bool :=
  match (comp Tryd.prog (mask 3) 1000 tail3).run callR (R5 x y) [] H4 with
  | .ok .ret f [] _ => (match fget f 4 with | .bool b => b | _ => false)
  | _ => false
/-- Four at once. -/
noncomputable def rowsQ (x a b c d : Int) : Bool := rowsB x a && (rowsB x b && (rowsB x c && rowsB x d))
theorem rowsQ_of {x a b c d : Int} (h : rowsQ x a b c d = true) : rowsB x a = true ∧ rowsB x b = true ∧ rowsB x c = true ∧ rowsB x d = true := by
  unfold rowsQ at h
  simp only [Bool.and_eq_true] at h
  exact h

end Go.Proofs.YtmamlccnlobnpaaDoor
