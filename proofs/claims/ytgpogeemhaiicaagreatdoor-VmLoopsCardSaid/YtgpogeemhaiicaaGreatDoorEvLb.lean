/- VmLoops: the law, walked. Condition: the world of EvExt. -/
import Derived.Test.YtgpogeemhaiicaaGreatDoorEvLa
set_option linter.all false
namespace Go.Proofs.YtgpogeemhaiicaaGreatDoor
open Go.Ev Go.RowKit Go.Proofs.YtgpogeemhaiicaaGreatDoor.Cm Go.Proofs.YtgpogeemhaiicaaGreatDoor.Hd
set_option maxHeartbeats 16000000
set_option maxRecDepth 1000000

theorem mod_pos (n : Int) (m : Nat) (hm : 0 < m) (h9 : m ≤ 100) : ∃ X : Nat, X < m ∧ (wrap64 (n.tmod m + m)).tmod m = (X : Int) := by
  have h1 : -(m : Int) < n.tmod m := Int.lt_tmod_of_pos _ (by omega)
  have h2 : n.tmod m < m := Int.tmod_lt_of_pos _ (by omega)
  generalize n.tmod m = r at h1 h2
  obtain ⟨k, hk⟩ : ∃ k : Nat, r + m = (k : Int) := ⟨(r + m).toNat, by omega⟩
  rw [hk]
  have hw : wrap64 (k : Int) = (k : Int) := by
    unfold wrap64
    omega
  rw [hw]
  refine ⟨k % m, Nat.mod_lt _ hm, ?_⟩
  rw [Int.tmod_eq_emod_of_nonneg (by omega)]
  rfl
/-- The law's text, as the law writes it. -/
def bodyF (N1 N2 : ByteArray) : ByteArray := (((((⟨#[32, 105, 102, 32, 40, 105, 32, 61, 61, 61, 32]⟩ : ByteArray) ++ N1) ++ (⟨#[41, 32, 98, 114, 101, 97, 107, 59, 32, 105, 102, 32, 40, 105, 32, 61, 61, 61, 32]⟩ : ByteArray)) ++ N2) ++ (⟨#[41, 32, 99, 111, 110, 116, 105, 110, 117, 101, 59, 32, 107, 32, 61, 32, 107, 32, 42, 32, 51, 32, 43, 32, 105, 59, 32, 107, 32, 61, 32, 107, 32, 37, 32, 49, 48, 48, 48, 55, 59, 32]⟩ : ByteArray))
def bigF (N0 N1 N2 Bd : ByteArray) : ByteArray := (((((((((((((((((⟨#[111, 46, 97, 32, 61, 32, 48, 59, 32, 111, 46, 98, 32, 61, 32, 48, 59, 32, 111, 46, 99, 32, 61, 32, 48, 59, 32, 123, 32, 108, 101, 116, 32, 107, 32, 61, 32, 49, 59, 32, 102, 111, 114, 32, 40, 108, 101, 116, 32, 105, 32, 61, 32, 48, 59, 32, 105, 32, 60, 32]⟩ : ByteArray) ++ N0) ++ (⟨#[59, 32, 105, 43, 43, 41, 32, 123]⟩ : ByteArray)) ++ Bd) ++ (⟨#[125, 32, 111, 46, 97, 32, 61, 32, 107, 59, 32, 125, 32, 123, 32, 108, 101, 116, 32, 107, 32, 61, 32, 49, 44, 32, 105, 32, 61, 32, 45, 49, 59, 32, 119, 104, 105, 108, 101, 32, 40, 43, 43, 105, 32, 60, 32]⟩ : ByteArray)) ++ N0) ++ (⟨#[41, 32, 123]⟩ : ByteArray)) ++ Bd) ++ (⟨#[125, 32, 111, 46, 98, 32, 61, 32, 107, 59, 32, 125, 32, 123, 32, 108, 101, 116, 32, 107, 32, 61, 32, 49, 44, 32, 105, 32, 61, 32, 48, 59, 32, 105, 102, 32, 40, 105, 32, 60, 32]⟩ : ByteArray)) ++ N0) ++ (⟨#[41, 32, 108, 58, 32, 100, 111, 32, 123, 32, 109, 58, 32, 123, 32, 105, 102, 32, 40, 105, 32, 61, 61, 61, 32]⟩ : ByteArray)) ++ N1) ++ (⟨#[41, 32, 98, 114, 101, 97, 107, 32, 108, 59, 32, 105, 102, 32, 40, 105, 32, 61, 61, 61, 32]⟩ : ByteArray)) ++ N2) ++ (⟨#[41, 32, 98, 114, 101, 97, 107, 32, 109, 59, 32, 107, 32, 61, 32, 107, 32, 42, 32, 51, 32, 43, 32, 105, 59, 32, 107, 32, 61, 32, 107, 32, 37, 32, 49, 48, 48, 48, 55, 59, 32, 125, 32, 125, 32, 119, 104, 105, 108, 101, 32, 40, 43, 43, 105, 32, 60, 32]⟩ : ByteArray)) ++ N0) ++ (⟨#[41, 59, 32, 111, 46, 99, 32, 61, 32, 107, 59, 32, 125]⟩ : ByteArray))
theorem sval_list (n l : Nat) : (sval n l).data.toList = sdec n l := rfl
theorem psB_ab (X0 X1 X2 : Nat) : psB (pcsL X0 X1 X2) = [111, 46, 97, 32, 61, 32, 48, 59, 32, 111, 46, 98, 32, 61, 32, 48, 59, 32, 111, 46, 99, 32, 61, 32, 48, 59, 32, 123, 32, 108, 101, 116, 32, 107, 32, 61, 32, 49, 59, 32, 102, 111, 114, 32, 40, 108, 101, 116, 32, 105, 32, 61, 32, 48, 59, 32, 105, 32, 60, 32] ++ (tB (nTok X0) ++ ([59, 32, 105, 43, 43, 41, 32, 123, 32, 105, 102, 32, 40, 105, 32, 61, 61, 61, 32] ++ (tB (nTok X1) ++ ([41, 32, 98, 114, 101, 97, 107, 59, 32, 105, 102, 32, 40, 105, 32, 61, 61, 61, 32] ++ (tB (nTok X2) ++ ([41, 32, 99, 111, 110, 116, 105, 110, 117, 101, 59, 32, 107, 32, 61, 32, 107, 32, 42, 32, 51, 32, 43, 32, 105, 59, 32, 107, 32, 61, 32, 107, 32, 37, 32, 49, 48, 48, 48, 55, 59, 32, 125, 32, 111, 46, 97, 32, 61, 32, 107, 59, 32, 125, 32, 123, 32, 108, 101, 116, 32, 107, 32, 61, 32, 49, 44, 32, 105, 32, 61, 32, 45, 49, 59, 32, 119, 104, 105, 108, 101, 32, 40, 43, 43, 105, 32, 60, 32] ++ (tB (nTok X0) ++ ([41, 32, 123, 32, 105, 102, 32, 40, 105, 32, 61, 61, 61, 32] ++ (tB (nTok X1) ++ ([41, 32, 98, 114, 101, 97, 107, 59, 32, 105, 102, 32, 40, 105, 32, 61, 61, 61, 32] ++ (tB (nTok X2) ++ ([41, 32, 99, 111, 110, 116, 105, 110, 117, 101, 59, 32, 107, 32, 61, 32, 107, 32, 42, 32, 51, 32, 43, 32, 105, 59, 32, 107, 32, 61, 32, 107, 32, 37, 32, 49, 48, 48, 48, 55, 59, 32, 125, 32, 111, 46, 98, 32, 61, 32, 107, 59, 32, 125, 32, 123, 32, 108, 101, 116, 32, 107, 32, 61, 32, 49, 44, 32, 105, 32, 61, 32, 48, 59, 32, 105, 102, 32, 40, 105, 32, 60, 32] ++ (tB (nTok X0) ++ ([41, 32, 108, 58, 32, 100, 111, 32, 123, 32, 109, 58, 32, 123, 32, 105, 102, 32, 40, 105, 32, 61, 61, 61, 32] ++ (tB (nTok X1) ++ ([41, 32, 98, 114, 101, 97, 107, 32, 108, 59, 32, 105, 102, 32, 40, 105, 32, 61, 61, 61, 32] ++ (tB (nTok X2) ++ ([41, 32, 98, 114, 101, 97, 107, 32, 109, 59, 32, 107, 32, 61, 32, 107, 32, 42, 32, 51, 32, 43, 32, 105, 59, 32, 107, 32, 61, 32, 107, 32, 37, 32, 49, 48, 48, 48, 55, 59, 32, 125, 32, 125, 32, 119, 104, 105, 108, 101, 32, 40, 43, 43, 105, 32, 60, 32] ++ (tB (nTok X0) ++ ([41, 59, 32, 111, 46, 99, 32, 61, 32, 107, 59, 32, 125])))))))))))))))))))) := rfl
theorem big_eq (X0 X1 X2 : Nat) : bigF (sval (nTok X0).2.1 (nTok X0).2.2) (sval (nTok X1).2.1 (nTok X1).2.2) (sval (nTok X2).2.1 (nTok X2).2.2) (bodyF (sval (nTok X1).2.1 (nTok X1).2.2) (sval (nTok X2).2.1 (nTok X2).2.2)) = srcOf X0 X1 X2 := by
  have key : ∀ a b : ByteArray, a.data.toList = b.data.toList → a = b := fun a b h => by
    cases a; cases b
    congr 1
    exact Array.toList_inj.1 h
  apply key
  unfold bigF bodyF
  simp only [ByteArray.data_append, Array.toList_append, sval_list, List.append_assoc]
  show _ = psB (pcsL X0 X1 X2)
  generalize ha : sdec (nTok X0).2.1 (nTok X0).2.2 = a
  generalize hb : sdec (nTok X1).2.1 (nTok X1).2.2 = b
  generalize hc : sdec (nTok X2).2.1 (nTok X2).2.2 = c
  have e : psB (pcsL X0 X1 X2) = psB (pcsL X0 X1 X2) := rfl
  have ta : tB (nTok X0) = a := ha
  have tb : tB (nTok X1) = b := hb
  have tc : tB (nTok X2) = c := hc
  rw [psB_ab X0 X1 X2, ta, tb, tc]
  rfl
end Go.Proofs.YtgpogeemhaiicaaGreatDoor
