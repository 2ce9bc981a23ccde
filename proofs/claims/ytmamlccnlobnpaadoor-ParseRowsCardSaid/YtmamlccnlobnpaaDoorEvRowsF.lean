/- ParseRows is true for every two numbers: the statement, tied to the program's text. No condition of its own. -/
import Derived.Test.YtmamlccnlobnpaaDoorEvWorld
import Derived.Test.YtmamlccnlobnpaaDoorEvRowsR0
import Derived.Test.YtmamlccnlobnpaaDoorEvRowsR1
import Derived.Test.YtmamlccnlobnpaaDoorEvRowsR2
import Derived.Test.YtmamlccnlobnpaaDoorEvRowsR3
namespace Go.Proofs.YtmamlccnlobnpaaDoor
open Go.Ev Go.ChangeShapes Go.WideShapes Go.ChangeAt Go.RowKit

theorem rows_all (k j : Nat) (hk : k < 16) (hj : j < 16) : rowsB (Int.ofNat k) (Int.ofNat j) = true :=
  match k, hk, j, hj with
  | 0, _, 0, _ => (rowsQ_of rows0q0).1
  | 0, _, 1, _ => (rowsQ_of rows0q0).2.1
  | 0, _, 2, _ => (rowsQ_of rows0q0).2.2.1
  | 0, _, 3, _ => (rowsQ_of rows0q0).2.2.2
  | 0, _, 4, _ => (rowsQ_of rows0q1).1
  | 0, _, 5, _ => (rowsQ_of rows0q1).2.1
  | 0, _, 6, _ => (rowsQ_of rows0q1).2.2.1
  | 0, _, 7, _ => (rowsQ_of rows0q1).2.2.2
  | 0, _, 8, _ => (rowsQ_of rows0q2).1
  | 0, _, 9, _ => (rowsQ_of rows0q2).2.1
  | 0, _, 10, _ => (rowsQ_of rows0q2).2.2.1
  | 0, _, 11, _ => (rowsQ_of rows0q2).2.2.2
  | 0, _, 12, _ => (rowsQ_of rows0q3).1
  | 0, _, 13, _ => (rowsQ_of rows0q3).2.1
  | 0, _, 14, _ => (rowsQ_of rows0q3).2.2.1
  | 0, _, 15, _ => (rowsQ_of rows0q3).2.2.2
  | 1, _, 0, _ => (rowsQ_of rows1q0).1
  | 1, _, 1, _ => (rowsQ_of rows1q0).2.1
  | 1, _, 2, _ => (rowsQ_of rows1q0).2.2.1
  | 1, _, 3, _ => (rowsQ_of rows1q0).2.2.2
  | 1, _, 4, _ => (rowsQ_of rows1q1).1
  | 1, _, 5, _ => (rowsQ_of rows1q1).2.1
  | 1, _, 6, _ => (rowsQ_of rows1q1).2.2.1
  | 1, _, 7, _ => (rowsQ_of rows1q1).2.2.2
  | 1, _, 8, _ => (rowsQ_of rows1q2).1
  | 1, _, 9, _ => (rowsQ_of rows1q2).2.1
  | 1, _, 10, _ => (rowsQ_of rows1q2).2.2.1
  | 1, _, 11, _ => (rowsQ_of rows1q2).2.2.2
  | 1, _, 12, _ => (rowsQ_of rows1q3).1
  | 1, _, 13, _ => (rowsQ_of rows1q3).2.1
  | 1, _, 14, _ => (rowsQ_of rows1q3).2.2.1
  | 1, _, 15, _ => (rowsQ_of rows1q3).2.2.2
  | 2, _, 0, _ => (rowsQ_of rows2q0).1
  | 2, _, 1, _ => (rowsQ_of rows2q0).2.1
  | 2, _, 2, _ => (rowsQ_of rows2q0).2.2.1
  | 2, _, 3, _ => (rowsQ_of rows2q0).2.2.2
  | 2, _, 4, _ => (rowsQ_of rows2q1).1
  | 2, _, 5, _ => (rowsQ_of rows2q1).2.1
  | 2, _, 6, _ => (rowsQ_of rows2q1).2.2.1
  | 2, _, 7, _ => (rowsQ_of rows2q1).2.2.2
  | 2, _, 8, _ => (rowsQ_of rows2q2).1
  | 2, _, 9, _ => (rowsQ_of rows2q2).2.1
  | 2, _, 10, _ => (rowsQ_of rows2q2).2.2.1
  | 2, _, 11, _ => (rowsQ_of rows2q2).2.2.2
  | 2, _, 12, _ => (rowsQ_of rows2q3).1
  | 2, _, 13, _ => (rowsQ_of rows2q3).2.1
  | 2, _, 14, _ => (rowsQ_of rows2q3).2.2.1
  | 2, _, 15, _ => (rowsQ_of rows2q3).2.2.2
  | 3, _, 0, _ => (rowsQ_of rows3q0).1
  | 3, _, 1, _ => (rowsQ_of rows3q0).2.1
  | 3, _, 2, _ => (rowsQ_of rows3q0).2.2.1
  | 3, _, 3, _ => (rowsQ_of rows3q0).2.2.2
  | 3, _, 4, _ => (rowsQ_of rows3q1).1
  | 3, _, 5, _ => (rowsQ_of rows3q1).2.1
  | 3, _, 6, _ => (rowsQ_of rows3q1).2.2.1
  | 3, _, 7, _ => (rowsQ_of rows3q1).2.2.2
  | 3, _, 8, _ => (rowsQ_of rows3q2).1
  | 3, _, 9, _ => (rowsQ_of rows3q2).2.1
  | 3, _, 10, _ => (rowsQ_of rows3q2).2.2.1
  | 3, _, 11, _ => (rowsQ_of rows3q2).2.2.2
  | 3, _, 12, _ => (rowsQ_of rows3q3).1
  | 3, _, 13, _ => (rowsQ_of rows3q3).2.1
  | 3, _, 14, _ => (rowsQ_of rows3q3).2.2.1
  | 3, _, 15, _ => (rowsQ_of rows3q3).2.2.2
  | 4, _, 0, _ => (rowsQ_of rows4q0).1
  | 4, _, 1, _ => (rowsQ_of rows4q0).2.1
  | 4, _, 2, _ => (rowsQ_of rows4q0).2.2.1
  | 4, _, 3, _ => (rowsQ_of rows4q0).2.2.2
  | 4, _, 4, _ => (rowsQ_of rows4q1).1
  | 4, _, 5, _ => (rowsQ_of rows4q1).2.1
  | 4, _, 6, _ => (rowsQ_of rows4q1).2.2.1
  | 4, _, 7, _ => (rowsQ_of rows4q1).2.2.2
  | 4, _, 8, _ => (rowsQ_of rows4q2).1
  | 4, _, 9, _ => (rowsQ_of rows4q2).2.1
  | 4, _, 10, _ => (rowsQ_of rows4q2).2.2.1
  | 4, _, 11, _ => (rowsQ_of rows4q2).2.2.2
  | 4, _, 12, _ => (rowsQ_of rows4q3).1
  | 4, _, 13, _ => (rowsQ_of rows4q3).2.1
  | 4, _, 14, _ => (rowsQ_of rows4q3).2.2.1
  | 4, _, 15, _ => (rowsQ_of rows4q3).2.2.2
  | 5, _, 0, _ => (rowsQ_of rows5q0).1
  | 5, _, 1, _ => (rowsQ_of rows5q0).2.1
  | 5, _, 2, _ => (rowsQ_of rows5q0).2.2.1
  | 5, _, 3, _ => (rowsQ_of rows5q0).2.2.2
  | 5, _, 4, _ => (rowsQ_of rows5q1).1
  | 5, _, 5, _ => (rowsQ_of rows5q1).2.1
  | 5, _, 6, _ => (rowsQ_of rows5q1).2.2.1
  | 5, _, 7, _ => (rowsQ_of rows5q1).2.2.2
  | 5, _, 8, _ => (rowsQ_of rows5q2).1
  | 5, _, 9, _ => (rowsQ_of rows5q2).2.1
  | 5, _, 10, _ => (rowsQ_of rows5q2).2.2.1
  | 5, _, 11, _ => (rowsQ_of rows5q2).2.2.2
  | 5, _, 12, _ => (rowsQ_of rows5q3).1
  | 5, _, 13, _ => (rowsQ_of rows5q3).2.1
  | 5, _, 14, _ => (rowsQ_of rows5q3).2.2.1
  | 5, _, 15, _ => (rowsQ_of rows5q3).2.2.2
  | 6, _, 0, _ => (rowsQ_of rows6q0).1
  | 6, _, 1, _ => (rowsQ_of rows6q0).2.1
  | 6, _, 2, _ => (rowsQ_of rows6q0).2.2.1
  | 6, _, 3, _ => (rowsQ_of rows6q0).2.2.2
  | 6, _, 4, _ => (rowsQ_of rows6q1).1
  | 6, _, 5, _ => (rowsQ_of rows6q1).2.1
  | 6, _, 6, _ => (rowsQ_of rows6q1).2.2.1
  | 6, _, 7, _ => (rowsQ_of rows6q1).2.2.2
  | 6, _, 8, _ => (rowsQ_of rows6q2).1
  | 6, _, 9, _ => (rowsQ_of rows6q2).2.1
  | 6, _, 10, _ => (rowsQ_of rows6q2).2.2.1
  | 6, _, 11, _ => (rowsQ_of rows6q2).2.2.2
  | 6, _, 12, _ => (rowsQ_of rows6q3).1
  | 6, _, 13, _ => (rowsQ_of rows6q3).2.1
  | 6, _, 14, _ => (rowsQ_of rows6q3).2.2.1
  | 6, _, 15, _ => (rowsQ_of rows6q3).2.2.2
  | 7, _, 0, _ => (rowsQ_of rows7q0).1
  | 7, _, 1, _ => (rowsQ_of rows7q0).2.1
  | 7, _, 2, _ => (rowsQ_of rows7q0).2.2.1
  | 7, _, 3, _ => (rowsQ_of rows7q0).2.2.2
  | 7, _, 4, _ => (rowsQ_of rows7q1).1
  | 7, _, 5, _ => (rowsQ_of rows7q1).2.1
  | 7, _, 6, _ => (rowsQ_of rows7q1).2.2.1
  | 7, _, 7, _ => (rowsQ_of rows7q1).2.2.2
  | 7, _, 8, _ => (rowsQ_of rows7q2).1
  | 7, _, 9, _ => (rowsQ_of rows7q2).2.1
  | 7, _, 10, _ => (rowsQ_of rows7q2).2.2.1
  | 7, _, 11, _ => (rowsQ_of rows7q2).2.2.2
  | 7, _, 12, _ => (rowsQ_of rows7q3).1
  | 7, _, 13, _ => (rowsQ_of rows7q3).2.1
  | 7, _, 14, _ => (rowsQ_of rows7q3).2.2.1
  | 7, _, 15, _ => (rowsQ_of rows7q3).2.2.2
  | 8, _, 0, _ => (rowsQ_of rows8q0).1
  | 8, _, 1, _ => (rowsQ_of rows8q0).2.1
  | 8, _, 2, _ => (rowsQ_of rows8q0).2.2.1
  | 8, _, 3, _ => (rowsQ_of rows8q0).2.2.2
  | 8, _, 4, _ => (rowsQ_of rows8q1).1
  | 8, _, 5, _ => (rowsQ_of rows8q1).2.1
  | 8, _, 6, _ => (rowsQ_of rows8q1).2.2.1
  | 8, _, 7, _ => (rowsQ_of rows8q1).2.2.2
  | 8, _, 8, _ => (rowsQ_of rows8q2).1
  | 8, _, 9, _ => (rowsQ_of rows8q2).2.1
  | 8, _, 10, _ => (rowsQ_of rows8q2).2.2.1
  | 8, _, 11, _ => (rowsQ_of rows8q2).2.2.2
  | 8, _, 12, _ => (rowsQ_of rows8q3).1
  | 8, _, 13, _ => (rowsQ_of rows8q3).2.1
  | 8, _, 14, _ => (rowsQ_of rows8q3).2.2.1
  | 8, _, 15, _ => (rowsQ_of rows8q3).2.2.2
  | 9, _, 0, _ => (rowsQ_of rows9q0).1
  | 9, _, 1, _ => (rowsQ_of rows9q0).2.1
  | 9, _, 2, _ => (rowsQ_of rows9q0).2.2.1
  | 9, _, 3, _ => (rowsQ_of rows9q0).2.2.2
  | 9, _, 4, _ => (rowsQ_of rows9q1).1
  | 9, _, 5, _ => (rowsQ_of rows9q1).2.1
  | 9, _, 6, _ => (rowsQ_of rows9q1).2.2.1
  | 9, _, 7, _ => (rowsQ_of rows9q1).2.2.2
  | 9, _, 8, _ => (rowsQ_of rows9q2).1
  | 9, _, 9, _ => (rowsQ_of rows9q2).2.1
  | 9, _, 10, _ => (rowsQ_of rows9q2).2.2.1
  | 9, _, 11, _ => (rowsQ_of rows9q2).2.2.2
  | 9, _, 12, _ => (rowsQ_of rows9q3).1
  | 9, _, 13, _ => (rowsQ_of rows9q3).2.1
  | 9, _, 14, _ => (rowsQ_of rows9q3).2.2.1
  | 9, _, 15, _ => (rowsQ_of rows9q3).2.2.2
  | 10, _, 0, _ => (rowsQ_of rows10q0).1
  | 10, _, 1, _ => (rowsQ_of rows10q0).2.1
  | 10, _, 2, _ => (rowsQ_of rows10q0).2.2.1
  | 10, _, 3, _ => (rowsQ_of rows10q0).2.2.2
  | 10, _, 4, _ => (rowsQ_of rows10q1).1
  | 10, _, 5, _ => (rowsQ_of rows10q1).2.1
  | 10, _, 6, _ => (rowsQ_of rows10q1).2.2.1
  | 10, _, 7, _ => (rowsQ_of rows10q1).2.2.2
  | 10, _, 8, _ => (rowsQ_of rows10q2).1
  | 10, _, 9, _ => (rowsQ_of rows10q2).2.1
  | 10, _, 10, _ => (rowsQ_of rows10q2).2.2.1
  | 10, _, 11, _ => (rowsQ_of rows10q2).2.2.2
  | 10, _, 12, _ => (rowsQ_of rows10q3).1
  | 10, _, 13, _ => (rowsQ_of rows10q3).2.1
  | 10, _, 14, _ => (rowsQ_of rows10q3).2.2.1
  | 10, _, 15, _ => (rowsQ_of rows10q3).2.2.2
  | 11, _, 0, _ => (rowsQ_of rows11q0).1
  | 11, _, 1, _ => (rowsQ_of rows11q0).2.1
  | 11, _, 2, _ => (rowsQ_of rows11q0).2.2.1
  | 11, _, 3, _ => (rowsQ_of rows11q0).2.2.2
  | 11, _, 4, _ => (rowsQ_of rows11q1).1
  | 11, _, 5, _ => (rowsQ_of rows11q1).2.1
  | 11, _, 6, _ => (rowsQ_of rows11q1).2.2.1
  | 11, _, 7, _ => (rowsQ_of rows11q1).2.2.2
  | 11, _, 8, _ => (rowsQ_of rows11q2).1
  | 11, _, 9, _ => (rowsQ_of rows11q2).2.1
  | 11, _, 10, _ => (rowsQ_of rows11q2).2.2.1
  | 11, _, 11, _ => (rowsQ_of rows11q2).2.2.2
  | 11, _, 12, _ => (rowsQ_of rows11q3).1
  | 11, _, 13, _ => (rowsQ_of rows11q3).2.1
  | 11, _, 14, _ => (rowsQ_of rows11q3).2.2.1
  | 11, _, 15, _ => (rowsQ_of rows11q3).2.2.2
  | 12, _, 0, _ => (rowsQ_of rows12q0).1
  | 12, _, 1, _ => (rowsQ_of rows12q0).2.1
  | 12, _, 2, _ => (rowsQ_of rows12q0).2.2.1
  | 12, _, 3, _ => (rowsQ_of rows12q0).2.2.2
  | 12, _, 4, _ => (rowsQ_of rows12q1).1
  | 12, _, 5, _ => (rowsQ_of rows12q1).2.1
  | 12, _, 6, _ => (rowsQ_of rows12q1).2.2.1
  | 12, _, 7, _ => (rowsQ_of rows12q1).2.2.2
  | 12, _, 8, _ => (rowsQ_of rows12q2).1
  | 12, _, 9, _ => (rowsQ_of rows12q2).2.1
  | 12, _, 10, _ => (rowsQ_of rows12q2).2.2.1
  | 12, _, 11, _ => (rowsQ_of rows12q2).2.2.2
  | 12, _, 12, _ => (rowsQ_of rows12q3).1
  | 12, _, 13, _ => (rowsQ_of rows12q3).2.1
  | 12, _, 14, _ => (rowsQ_of rows12q3).2.2.1
  | 12, _, 15, _ => (rowsQ_of rows12q3).2.2.2
  | 13, _, 0, _ => (rowsQ_of rows13q0).1
  | 13, _, 1, _ => (rowsQ_of rows13q0).2.1
  | 13, _, 2, _ => (rowsQ_of rows13q0).2.2.1
  | 13, _, 3, _ => (rowsQ_of rows13q0).2.2.2
  | 13, _, 4, _ => (rowsQ_of rows13q1).1
  | 13, _, 5, _ => (rowsQ_of rows13q1).2.1
  | 13, _, 6, _ => (rowsQ_of rows13q1).2.2.1
  | 13, _, 7, _ => (rowsQ_of rows13q1).2.2.2
  | 13, _, 8, _ => (rowsQ_of rows13q2).1
  | 13, _, 9, _ => (rowsQ_of rows13q2).2.1
  | 13, _, 10, _ => (rowsQ_of rows13q2).2.2.1
  | 13, _, 11, _ => (rowsQ_of rows13q2).2.2.2
  | 13, _, 12, _ => (rowsQ_of rows13q3).1
  | 13, _, 13, _ => (rowsQ_of rows13q3).2.1
  | 13, _, 14, _ => (rowsQ_of rows13q3).2.2.1
  | 13, _, 15, _ => (rowsQ_of rows13q3).2.2.2
  | 14, _, 0, _ => (rowsQ_of rows14q0).1
  | 14, _, 1, _ => (rowsQ_of rows14q0).2.1
  | 14, _, 2, _ => (rowsQ_of rows14q0).2.2.1
  | 14, _, 3, _ => (rowsQ_of rows14q0).2.2.2
  | 14, _, 4, _ => (rowsQ_of rows14q1).1
  | 14, _, 5, _ => (rowsQ_of rows14q1).2.1
  | 14, _, 6, _ => (rowsQ_of rows14q1).2.2.1
  | 14, _, 7, _ => (rowsQ_of rows14q1).2.2.2
  | 14, _, 8, _ => (rowsQ_of rows14q2).1
  | 14, _, 9, _ => (rowsQ_of rows14q2).2.1
  | 14, _, 10, _ => (rowsQ_of rows14q2).2.2.1
  | 14, _, 11, _ => (rowsQ_of rows14q2).2.2.2
  | 14, _, 12, _ => (rowsQ_of rows14q3).1
  | 14, _, 13, _ => (rowsQ_of rows14q3).2.1
  | 14, _, 14, _ => (rowsQ_of rows14q3).2.2.1
  | 14, _, 15, _ => (rowsQ_of rows14q3).2.2.2
  | 15, _, 0, _ => (rowsQ_of rows15q0).1
  | 15, _, 1, _ => (rowsQ_of rows15q0).2.1
  | 15, _, 2, _ => (rowsQ_of rows15q0).2.2.1
  | 15, _, 3, _ => (rowsQ_of rows15q0).2.2.2
  | 15, _, 4, _ => (rowsQ_of rows15q1).1
  | 15, _, 5, _ => (rowsQ_of rows15q1).2.1
  | 15, _, 6, _ => (rowsQ_of rows15q1).2.2.1
  | 15, _, 7, _ => (rowsQ_of rows15q1).2.2.2
  | 15, _, 8, _ => (rowsQ_of rows15q2).1
  | 15, _, 9, _ => (rowsQ_of rows15q2).2.1
  | 15, _, 10, _ => (rowsQ_of rows15q2).2.2.1
  | 15, _, 11, _ => (rowsQ_of rows15q2).2.2.2
  | 15, _, 12, _ => (rowsQ_of rows15q3).1
  | 15, _, 13, _ => (rowsQ_of rows15q3).2.1
  | 15, _, 14, _ => (rowsQ_of rows15q3).2.2.1
  | 15, _, 15, _ => (rowsQ_of rows15q3).2.2.2
  | n + 16, h, _, _ => absurd h (by omega)
  | _, _, n + 16, h => absurd h (by omega)

theorem body3_some : Tryd.f3.body = some body3 := by kernel_rfl
theorem code3_ok : codeOk Tryd.f3.ntmps body3 = true := by decide +kernel
theorem res3 : Tryd.f3.results.toList = [.tmp 4] := by kernel_rfl

theorem rows_run (n w : Int) : ∃ h', runFn Tryd.prog callR (fun _ _ _ => none) (mask 3) 1000 Tryd.f3 body3 [.int .i64 n, .int .i64 w] h0 = some (.bool true, h') := by
  obtain ⟨k, hk, hx⟩ := X16_cases n
  obtain ⟨j, hj, hy⟩ := X16_cases w
  have hB := rows_all k j hk hj
  have hp := pre3 n w
  unfold R0 at hp
  unfold runFn
  rw [hp, hx, hy]
  unfold rowsB at hB
  rw [comp_run] at hB
  cases hd : den Tryd.prog callR (mask 3) 1000 tail3 (R5 (Int.ofNat k) (Int.ofNat j)) [] H4 with
  | fail => rw [hd] at hB; cases hB
  | ok x f d h' =>
    rw [hd] at hB
    cases x with
    | norm => cases hB
    | exit id => cases hB
    | ret =>
      cases d with
      | cons g ds => cases hB
      | nil =>
        simp only at hB
        refine ⟨h', ?_⟩
        simp only [runDs, Option.bind_some, res3, resV, Option.map_some, oneRes]
        split at hB
        · rename_i c hc
          rw [hc, hB]
        · cases hB

theorem rows_call {W : World} (hW : At W) (n w : Int) : ∃ h', CallOk Tryd.prog W 3 [.int .i64 n, .int .i64 w] h0 (.bool true) h' := by
  obtain ⟨h', he⟩ := rows_run n w
  have hA : CallFnOk Tryd.prog W callR := ext2_sound hW 200 1000
  exact ⟨h', runFn_sound (callD := fun _ _ _ => none) hA (fun _ _ _ _ _ h => by cases h) noNum (draws callR hA) Tryd.func3 body3_some code3_ok he⟩

theorem rows_walk {W : World} (hW : At W) (n w : Int) : Calls Tryd.prog 3 #[.int .i64 n, .int .i64 w] W fun e w' => e = .returned (.bool true) ∧ W.keptBut w' (fun _ => False) := by
  obtain ⟨h', hc⟩ := rows_call hW n w
  refine (hc (globEmb Tryd.prog W) W #[.int .i64 n, .int .i64 w] (hW.begins.rel W (fun _ _ => rfl)) hW.begins.gl (hW.begins.base (fun _ _ => rfl) (Nat.le_refl _)) (.cons (.int _ _) (.cons (.int _ _) .nil))).mono ?_
  rintro e w' ⟨z, r', rfl, st, hz⟩
  cases hz
  refine ⟨rfl, st.os, st.out, fun i hi => ?_⟩
  rw [st.keep i hi (hW.begins.none i)]
  exact (World.keptBut_refl W (fun _ => False)).2.2 i hi

/- What the walk gives, for every argument and every world that holds the tables. -/
set_option maxRecDepth 100000 in
theorem rows_contract (H : Type) (enc : TypeId × Value → H) (W : World) (base : Nat) (args : Array Value) (ds gs : List (DataW H)) (before : List MemPlace)
    (hval : ∀ (j : Nat) t v, Tryd.f3.params[j]? = some t → args[j]? = some v → Value.okWide Tryd.prog W .any base t v)
    (hW : DataW.Whole enc Tryd.prog Tryd.f3.params.toList Rows.parseRowsSpec.vars false W args.toList ds gs before) (hA : At W) :
    Calls Tryd.prog 3 args W fun e W' => ∃ v, e = .returned v ∧ Rows.parseRowsSpec.post enc Tryd.prog Tryd.f3 false true false false W args v W' := by
  have hW' := hW
  obtain ⟨p, q, hA0, hV, rfl, hfz, hnd⟩ := hW
  have hT : DataW.TrodAll enc Tryd.prog W 0 (fun _ => true) true Tryd.f3.params.toList args.toList ds p := hA0
  rw [Tryd.params3] at hT hval
  obtain ⟨v0, v1, d0, d1, p0, p1, rfl, rfl, rfl, t0, t1⟩ := trodAll_two hT
  obtain ⟨rfl, rfl⟩ := trodVars_none hV
  obtain ⟨n, rfl, rfl, rfl, wn⟩ := open_int Tryd.underlying3 (hval 0 3 v0 rfl rfl) t0
  obtain ⟨a, rfl, rfl, rfl, wa⟩ := open_int Tryd.underlying3 (hval 1 3 v1 rfl rfl) t1
  refine (rows_walk hA n a).mono ?_
  rintro e W' ⟨rfl, hk⟩
  refine ⟨_, rfl, _, _, _, [], [], [], hW', trodAll_mk1 (shut_bool Tryd.underlying4 true), trodAll_mk2 (shut_int Tryd.underlying3 wn) (shut_int Tryd.underlying3 wa), rfl, World.keptBut_mono (fun _ h => h.elim) hk, fun h => by cases h⟩

theorem rows_laid_met (os : Os) (args : Array Value) : laidMet Tryd.prog Rows.parseRowsRow.laid ((laidWorld os).forCall (fun _ _ => 0) ⟨#[], args, []⟩).memory :=
  laidMet_of_run' 8 (by kernel_rfl) (by kernel_rfl)
theorem rows_reads (os : Os) {H : Type} (enc : TypeId × Value → H) : ∃ places, DataW.whole enc Tryd.prog ((laidWorld os).forCall (fun _ _ => 0) ⟨#[], #[.int .i64 0, .int .i64 0], []⟩).memory Tryd.f3.params.toList Rows.parseRowsSpec.vars false #[Value.int .i64 0, Value.int .i64 0].toList 8 = some ([.lit (.int .i64 0), .lit (.int .i64 0)], [], places) :=
  ⟨[], by kernel_rfl⟩

set_option maxRecDepth 100000 in
theorem rows_lifted (os : Os) (started : os.Started) (H : Type) (enc : TypeId × Value → H) (F : Stop.Interp) :
    ReturnsInHanded {} Tryd.checked os 3 .any ((OpenSpec.ofChange Rows.parseRowsSpec).preRow enc Tryd.prog Tryd.f3 Rows.parseRowsRow.domain false Rows.parseRowsRow.laid) (((OpenSpec.ofChange Rows.parseRowsSpec).at F).post enc Tryd.prog Tryd.f3 false true false false) := by
  obtain ⟨places, hx⟩ := rows_reads os enc
  refine returnsInHanded_of_row (C := Tryd.checked) (s := OpenSpec.ofChange Rows.parseRowsSpec) own started (by kernel_rfl) Tryd.func3
    (witness_row_atRef (enc := enc) (C := Tryd.checked) false (laidWorld os) #[.int .i64 0, .int .i64 0] rfl (by kernel_rfl) (by kernel_rfl) (by kernel_rfl)
      (OpenSpec.preRow_of_cond 8 hx (by kernel_rfl) (fun k hk => by cases hk) (by kernel_rfl) (rows_laid_met os _))) ?_
  intro W base args ds gs before hval hW _ _ _ hL hsh _
  exact rows_contract H enc W base args ds gs before hval hW (at_of hL hsh)

theorem rows_said : Rows.ParseRowsSaid :=
  OpenClaim.holds_of_cond 3 Tryd.f3 rfl rfl rfl rfl rfl rfl rfl ⟨rfl, rfl, rfl, rfl, rfl⟩ rfl rfl rfl rfl rfl (by kernel_rfl) Tryd.func3 (by kernel_rfl)
    (of_decide_eq_true (by kernel_rfl)) (by unfold Func.isWrapper; first | (rw [if_pos (by decide +kernel)]; kernel_rfl) | (rw [if_neg (by decide +kernel)]; exact ⟨rfl, rfl⟩))
    (fun os started H enc _ F => by rw [OpenClaim.pre_eq_preRow]; exact rows_lifted os started H enc F)

/-- No parameter wants a stand-in; the program's own looks are off. -/
theorem rows_plain (f : FuncId) (fn : Func) (hf : Tryd.pinned.checked.prog.funcNamed "ossuary/ossuarylaw08.ParseRows" = some f) (hfn : Tryd.pinned.checked.prog.funcs[f]? = some fn) :
    false = Tryd.pinned.checked.prog.looks [] ∧ ∀ (j : Nat) t, fn.params[j]? = some t → Tryd.pinned.checked.prog.wantsStandIn t = false := by
  obtain rfl : f = 3 := Option.some.inj ((show Tryd.prog.funcNamed "ossuary/ossuarylaw08.ParseRows" = some 3 by kernel_rfl).symm.trans hf) |>.symm
  obtain rfl : fn = Tryd.f3 := (Option.some.inj (Tryd.func3.symm.trans hfn)).symm
  refine ⟨by kernel_rfl, fun j t ht => ?_⟩
  rw [Tryd.params3] at ht
  obtain rfl : t = 3 := by
    have := Array.mem_of_getElem? ht
    simpa using this
  exact (show Tryd.prog.wantsStandIn 3 = false by kernel_rfl)

/-- THE CARD. -/
theorem parseRows_holds : Rows.ParseRowsCardSaid :=
  Claim7.holds_tied_plain_at .later [] _ _ _ _ rows_said (fun _ h => by cases h) (by kernel_rfl) (fun _ h => by cases h) parseRows_row_tie rfl ⟨rfl, rfl⟩ (by kernel_rfl) rfl rows_plain (by kernel_rfl)

end Go.Proofs.YtmamlccnlobnpaaDoor
