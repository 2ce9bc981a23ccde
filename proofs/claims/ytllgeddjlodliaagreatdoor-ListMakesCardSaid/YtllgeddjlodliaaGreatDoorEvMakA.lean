/- ListMakes: the runs' beginnings; all contracts together. Condition: the tables hold what their initialisers lay. -/
import Derived.Test.YtllgeddjlodliaaGreatDoorEvVal2
namespace Go.Proofs.YtllgeddjlodliaaGreatDoor
open Go.Ev

theorem ext_ok2 {W : World} (hW : At W) (g : FuncId) (hg : isExt2 g = true) (vs : List V) (h : H) (v : V) (h' : H) (he : ext g vs h = some (v, h')) : CallOk Tryz.prog W g vs h v h' := by
  simp only [isExt2, Bool.or_eq_true] at hg
  rcases hg with q | q | q
  · obtain rfl := Nat.eq_of_beq_eq_true q
    cases vs with
    | nil =>
      have e : ext 6 [] h = some (.bool true, h) := rfl
      rw [e] at he
      simp only [Option.some.injEq, Prod.mk.injEq] at he
      obtain ⟨rfl, rfl⟩ := he
      exact fit_ok hW h
    | cons u us =>
      have e : ext 6 (u :: us) h = none := rfl
      rw [e] at he
      cases he
  · obtain rfl := Nat.eq_of_beq_eq_true q
    exact val_ok hW he
  · have h1 : Nat.beq g 6 = false := by
      cases hb : Nat.beq g 6
      · rfl
      · obtain rfl := Nat.eq_of_beq_eq_true hb
        cases q
    have h2 : Nat.beq g 19 = false := by
      cases hb : Nat.beq g 19
      · rfl
      · obtain rfl := Nat.eq_of_beq_eq_true hb
        cases q
    have e : ext g vs h = extA g vs h := by
      unfold ext
      rw [h1, h2]
      rfl
    rw [e] at he
    exact ext_ok0 g q vs h v h' he
theorem ext2_sound {W : World} (hW : At W) (n fuel : Nat) : CallFnOk Tryz.prog W (callS Tryz.prog ext isExt2 mask tab fuel n) := by
  rw [callS_eq _ _ _ tabOk]
  exact callN_sound (by kernel_rfl) (ext_ok2 hW) noNum progOk (fun call hc => draws call hc) n

/-! The runs. -/
def longCells (id : Nat) : List V := [.cls 0 (8 * id), .cls 0 (8 * (id + 1)), .cls 0 (8 * (id + 2) + 4)]
/-- n seeds, all short. -/
def hS (n : Nat) : H := (laySeeds 10 n h0).setB 8 (.live (3 * n) 0 true false (cellsOf (seedCells 10 n)))
/-- j short ones, the next too long. -/
def hJ (j : Nat) : H := (laySeeds 10 j h0).setB 8 (.live (3 * (j + 1)) 0 true false (cellsOf (seedCells 10 j ++ longCells (10 + 3 * j))))
noncomputable def runOf (v : V) (h : H) : Bool :=
  match call2 5 [v] h with
  | some (.bool b, _) => b
  | _ => false
noncomputable def runS (n : Nat) : Bool := runOf (.slice 8 0 n n 3) (hS n)
noncomputable def runJ (j : Nat) : Bool := runOf (.cl2 0 (512 + j)) (hJ j)

end Go.Proofs.YtllgeddjlodliaaGreatDoor
