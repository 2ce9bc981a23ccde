/- ParseArrows: the code behind the reduction of the number, at each of the twelve remainders. Condition: the world of EvExt. -/
import Derived.Test.YtmamlccnlobnpaaDoorEvExt
namespace Go.Proofs.YtmamlccnlobnpaaDoor
open Go.Ev

def fstC : Code → Code | .seq a _ => a | c => c
def sndC : Code → Code | .seq _ b => b | c => c
noncomputable def body5 : Code := (Tryd.f5.body).getD .skip
noncomputable def tail5 : Code := sndC (sndC (sndC body5))
noncomputable def callA : CallFn := callS Tryd.prog ext isExt2 mask 1000 400
def X12 (n : Int) : Int := remI (addI .i64 (remI n 12) 12) 12
noncomputable def A1 (n : Int) (a b : Bool) : Fr := fset (args0 (mask 5) 0 [.int .i64 n, .bool a, .bool b] fr0) 6 (.bool false)
noncomputable def A2 (n : Int) (a b : Bool) : Fr := fset (A1 n a b) 13 (.bool false)
noncomputable def A3 (x : Int) (a b : Bool) : Fr := fset (A2 0 a b) 0 (.int .i64 x)

theorem X12_cases (n : Int) : ∃ k : Nat, k < 12 ∧ X12 n = Int.ofNat k := by
  have h1 : n.tmod 12 < 12 := Int.tmod_lt_of_pos n (by omega)
  have h2 : -12 < n.tmod 12 := Int.lt_tmod_of_pos n (by omega)
  unfold X12
  rw [remI_eq, remI_eq, addI_eq]
  obtain ⟨m, hm⟩ : ∃ m : Nat, n.tmod 12 + 12 = Int.ofNat m := ⟨(n.tmod 12 + 12).toNat, by simp only [Int.ofNat_eq_natCast]; omega⟩
  have hm24 : m < 24 := by simp only [Int.ofNat_eq_natCast] at hm; omega
  rw [hm, Go.Ev.wrap_small IntKind.i64 m (by show m ≤ 9223372036854775807; omega)]
  exact ⟨m % 12, Nat.mod_lt _ (by omega), rfl⟩

theorem den_seq {P : Program} {call : CallFn} {m fuel : Nat} {a b : Code} {f f1 : Fr} {d d1 : Ds} {h h1 : H} (e : den P call m fuel a f d h = .ok .norm f1 d1 h1) : den P call m fuel (.seq a b) f d h = den P call m fuel b f1 d1 h1 := by
  simp only [den, e]

theorem body5_eq : body5 = .seq (fstC body5) (.seq (fstC (sndC body5)) (.seq (fstC (sndC (sndC body5))) tail5)) := by kernel_rfl

set_option maxRecDepth 100000 in
theorem pre5a (n : Int) (a b : Bool) : den Tryd.prog callA (mask 5) 1000 (fstC body5) (args0 (mask 5) 0 [.int .i64 n, .bool a, .bool b] fr0) [] h0 = .ok .norm (A1 n a b) [] h0 := by kernel_rfl
set_option maxRecDepth 100000 in
theorem pre5b (n : Int) (a b : Bool) : den Tryd.prog callA (mask 5) 1000 (fstC (sndC body5)) (A1 n a b) [] h0 = .ok .norm (A2 n a b) [] h0 := by kernel_rfl
set_option maxRecDepth 100000 in
theorem pre5c (n : Int) (a b : Bool) : den Tryd.prog callA (mask 5) 1000 (fstC (sndC (sndC body5))) (A2 n a b) [] h0 = .ok .norm (A3 (X12 n) a b) [] h0 := by kernel_rfl

theorem pre5 (n : Int) (a b : Bool) : den Tryd.prog callA (mask 5) 1000 body5 (args0 (mask 5) 0 [.int .i64 n, .bool a, .bool b] fr0) [] h0 = den Tryd.prog callA (mask 5) 1000 tail5 (A3 (X12 n) a b) [] h0 := by
  rw [body5_eq, den_seq (pre5a n a b), den_seq (pre5b n a b), den_seq (pre5c n a b)]

/-- What the rest yields at a remainder. -/
noncomputable def arrB (x : Int) (a b : Bool) : Bool :=
  match (comp Tryd.prog (mask 5) 1000 tail5).run callA (A3 x a b) [] h0 with
  | .ok .ret f [] _ => (match fget f 6 with | .bool b => b | _ => false)
  | _ => false

end Go.Proofs.YtmamlccnlobnpaaDoor
