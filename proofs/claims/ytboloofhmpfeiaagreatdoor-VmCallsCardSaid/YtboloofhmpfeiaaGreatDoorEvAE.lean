/- A call whose two numbers are known by their remainders at 1000 alone, and by two names for them: what it comes to. No condition. -/
import Derived.Test.YtboloofhmpfeiaaGreatDoorEvAD
import Derived.Below
namespace Go.Ev

variable {P : Program}

theorem rem_of (n : Int) : ∃ x : Nat, x ≤ 1998 ∧ n.tmod 1000 = (x : Int) - 999 := by
  have h1 : n.tmod 1000 < 1000 := Int.tmod_lt_of_pos n (by omega)
  have h2 : -(1000 : Int) < n.tmod 1000 := Int.lt_tmod_of_pos n (by omega)
  exact ⟨(n.tmod 1000 + 999).toNat, by omega, by omega⟩

theorem sym_closes {W : World} {r0 : Emb} {h0 h' : H} (hb : Begin P W r0 h0) (hA : r0 symA = none) (hB : r0 symB = none) (ha : symA < h0.next) (hb2 : symB < h0.next)
    (hl : ∀ id, Live h0 id → id ≠ symA ∧ id ≠ symB) {g : FuncId} (hc : CallOk P W g [.cl1 0 5, .cl1 0 6] h0 (.bool true) h') (n k : Int) :
    Calls P g #[.int .i64 n, .int .i64 k] W fun e w' => e = .returned (.bool true) ∧ W.keptBut w' (fun _ => False) := by
  obtain ⟨x, hx, hn⟩ := rem_of n
  obtain ⟨y, hy, hk⟩ := rem_of k
  obtain ⟨r1, hr1⟩ : ∃ r1, r1 = (r0.put symA (x, 0, 0)).put symB (y, 0, 0) := ⟨_, rfl⟩
  have hne : symB ≠ symA := by decide
  have hle : r0.le r1 := by
    rw [hr1]
    refine Emb.le_trans (r0.le_put symA (x, 0, 0) hA) (Emb.le_put _ symB (y, 0, 0) ?_)
    rw [Emb.put_other _ _ _ _ hne]
    exact hB
  have hother : ∀ id, id ≠ symA → id ≠ symB → r1 id = r0 id := fun id h1 h2 => by rw [hr1, Emb.put_other _ _ _ _ h2, Emb.put_other _ _ _ _ h1]
  have rA : r1 symA = some (x, 0, 0) := by rw [hr1, Emb.put_other _ _ _ _ (fun e => hne e.symm), Emb.put_same]
  have rB : r1 symB = some (y, 0, 0) := by rw [hr1, Emb.put_same]
  have hrel0 := hb.rel W (fun _ _ => rfl)
  have hrel : Rel r1 h0 W := by
    refine ⟨fun id hi hlv => ?_, fun i i' b sh m sh' m' h1 h2 e1 e2 => ?_, fun id hid => ?_⟩
    · obtain ⟨b, sh, m, h1, h2⟩ := hrel0.fit id hi hlv
      exact ⟨b, sh, m, hle _ _ h1, h2.keep hle rfl⟩
    · rw [hother i (hl i h1).1 (hl i h1).2] at e1
      rw [hother i' (hl i' h2).1 (hl i' h2).2] at e2
      exact hrel0.inj i i' b sh m sh' m' h1 h2 e1 e2
    · rw [hother id (by omega) (by omega)]
      exact hrel0.new id hid
  have hnone : ∀ b, ¬ Own r1 h0 b := fun b ho => by
    obtain ⟨id, sh, m, hi, hbk, e⟩ := ho
    have hlv : Live h0 id := ⟨hi, live_of_own hbk⟩
    rw [hother id (hl id hlv).1 (hl id hlv).2] at e
    exact hb.none b ⟨id, sh, m, hi, hbk, e⟩
  have hbase : Base W r1 h0 W := ⟨fun _ _ => rfl, fun b ho => (hnone b ho).elim, Nat.le_refl _⟩
  refine (hc r1 W _ hrel (GRel.up hle hb.gl) hbase (.cons (.syma rA rB hx hy hn) (.cons (.symb rA rB hx hy hk) .nil))).mono ?_
  rintro e w' ⟨z, r', rfl, st, hz⟩
  cases hz
  refine ⟨rfl, st.os, st.out, fun i hi => ?_⟩
  rw [st.keep i hi (hnone i)]
  exact (World.keptBut_refl W (fun _ => False)).2.2 i hi

end Go.Ev
