/- ParseDeep: the code behind the reduction of the two numbers, at each of the sixteen pairs of remainders. Condition: the world of EvExt. -/
import Derived.Test.YtmamlccnlobnpaaDoorEvExt
import Derived.Test.YtmamlccnlobnpaaDoorEvAC
namespace Go.Proofs.YtmamlccnlobnpaaDoor
open Go.Ev

def fstD : Code → Code | .seq a _ => a | c => c
def sndD : Code → Code | .seq _ b => b | c => c
noncomputable def body4 : Code := (Tryd.f4.body).getD .skip
noncomputable def d0C : Code := fstD body4
noncomputable def d1C : Code := fstD (sndD body4)
noncomputable def d3C : Code := fstD (sndD (sndD body4))
noncomputable def d4C : Code := fstD (sndD (sndD (sndD body4)))
noncomputable def d5C : Code := fstD (fstD (sndD (sndD (sndD (sndD body4)))))
noncomputable def blkC : Code := sndD (fstD (sndD (sndD (sndD (sndD body4)))))
noncomputable def restC : Code := sndD (sndD (sndD (sndD (sndD body4))))
theorem body4_eq : body4 = .seq d0C (.seq d1C (.seq d3C (.seq d4C (.seq (.seq d5C blkC) restC)))) := by kernel_rfl

noncomputable def callD : CallFn := callS Tryd.prog ext isExt2 mask 1000 800
def X4 (n : Int) : Int := remI (addI .i64 (remI n 4) 4) 4
def Y4 (n : Int) : Int := subI .i64 (X4 n) 2
noncomputable def D0 (n w : Int) : Fr := args0 (mask 4) 0 [.int .i64 n, .int .i64 w] fr0
noncomputable def D1 (n w : Int) : Fr := fset (D0 n w) 4 (.bool false)
noncomputable def D2 (n w : Int) : Fr := fset (D1 n w) 9 (.bool false)
noncomputable def D3 (x w : Int) : Fr := fset (D2 0 w) 0 (.int .i64 x)
noncomputable def D4 (x w : Int) : Fr := fset (D3 x w) 5 (.str 0 0)
noncomputable def D5 (x w y : Int) : Fr := fset (D4 x w) 18 (.int .i64 y)
noncomputable def D6 (x y : Int) : Fr := fset (D5 x 0 y) 1 .any

theorem X4_cases (n : Int) : ∃ k : Nat, k < 4 ∧ X4 n = Int.ofNat k := by
  have h1 : n.tmod 4 < 4 := Int.tmod_lt_of_pos n (by omega)
  have h2 : -4 < n.tmod 4 := Int.lt_tmod_of_pos n (by omega)
  unfold X4
  rw [remI_eq, remI_eq, addI_eq]
  obtain ⟨m, hm⟩ : ∃ m : Nat, n.tmod 4 + 4 = Int.ofNat m := ⟨(n.tmod 4 + 4).toNat, by simp only [Int.ofNat_eq_natCast]; omega⟩
  have hm24 : m < 8 := by simp only [Int.ofNat_eq_natCast] at hm; omega
  rw [hm, Go.Ev.wrap_small IntKind.i64 m (by show m ≤ 9223372036854775807; omega)]
  exact ⟨m % 4, Nat.mod_lt _ (by omega), rfl⟩

set_option maxRecDepth 100000 in
theorem pre4a (n w : Int) : den Tryd.prog callD (mask 4) 1000 d0C (D0 n w) [] h0 = .ok .norm (D1 n w) [] h0 := by kernel_rfl
set_option maxRecDepth 100000 in
theorem pre4b (n w : Int) : den Tryd.prog callD (mask 4) 1000 d1C (D1 n w) [] h0 = .ok .norm (D2 n w) [] h0 := by kernel_rfl
set_option maxRecDepth 100000 in
theorem pre4c (n w : Int) : den Tryd.prog callD (mask 4) 1000 d3C (D2 n w) [] h0 = .ok .norm (D3 (Y4 n) w) [] h0 := by kernel_rfl
set_option maxRecDepth 100000 in
theorem pre4d (x w : Int) : den Tryd.prog callD (mask 4) 1000 d4C (D3 x w) [] h0 = .ok .norm (D4 x w) [] h0 := by kernel_rfl
set_option maxRecDepth 100000 in
theorem pre4e (x w : Int) : den Tryd.prog callD (mask 4) 1000 d5C (D4 x w) [] h0 = .ok .norm (D5 x w (X4 w)) [] h0 := by kernel_rfl
theorem pre4f (x w y : Int) : fset (D5 x w y) 1 .any = D6 x y := by kernel_rfl

/-- What the rest yields at a pair of remainders. -/
noncomputable def deepB (x y : Int) : Bool :=
  match (comp Tryd.prog (mask 4) 1000 blkC).run callD (D6 x y) [] h0 with
  | .ok .norm f d h => (match (comp Tryd.prog (mask 4) 1000 restC).run callD f d h with
    | .ok .ret f [] _ => (match fget f 4 with | .bool b => b | _ => false)
    | _ => false)
  | _ => false

end Go.Proofs.YtmamlccnlobnpaaDoor
