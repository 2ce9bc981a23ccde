/- VmNatives is true for every argument: the statement, tied to the program's text. No condition of its own. -/
import Derived.Test.YthhnpmanmcjhbaaGreatDoorEvWorld
import Derived.Test.YthhnpmanmcjhbaaGreatDoorEvNx
import Derived.Test.YthhnpmanmcjhbaaGreatDoorEvNh0
import Derived.Test.YthhnpmanmcjhbaaGreatDoorEvNh1
import Derived.Test.YthhnpmanmcjhbaaGreatDoorEvNh2
import Derived.Test.YthhnpmanmcjhbaaGreatDoorEvNh3
import Derived.Test.YthhnpmanmcjhbaaGreatDoorEvNh4
import Derived.Test.YthhnpmanmcjhbaaGreatDoorEvNh5
import Derived.Test.YthhnpmanmcjhbaaGreatDoorEvNh6
import Derived.Test.YthhnpmanmcjhbaaGreatDoorEvNh7
import Derived.Test.YthhnpmanmcjhbaaGreatDoorEvNh8
import Derived.Test.YthhnpmanmcjhbaaGreatDoorEvNh9
import Derived.Test.YthhnpmanmcjhbaaGreatDoorEvNh10
import Derived.Test.YthhnpmanmcjhbaaGreatDoorEvG2
import Derived.Test.YthhnpmanmcjhbaaGreatDoorEvJ2
namespace Go.Proofs.YthhnpmanmcjhbaaGreatDoor
open Go.Ev Go.ChangeShapes Go.WideShapes Go.ChangeAt Go.RowKit

theorem heads_at {n : Nat} {l : List (Nat × Bool)} (h : headsB n l = true) {p : Nat × Bool} (hp : p ∈ l) : headN n p.1 p.2 = true := List.all_eq_true.1 h p hp
set_option maxRecDepth 10000 in
theorem natv_at0 (b : Nat) (hb : b < 12) (c : Bool) : headN 0 b c = true :=
  match b, hb, c with
  | 0, _, true => heads_at hd0_0tx (.head _)
  | 0, _, false => heads_at hd0_0tx (.tail _ (.head _))
  | 1, _, true => heads_at hd0_0tx (.tail _ (.tail _ (.head _)))
  | 1, _, false => heads_at hd0_1fx (.head _)
  | 2, _, true => heads_at hd0_1fx (.tail _ (.head _))
  | 2, _, false => heads_at hd0_1fx (.tail _ (.tail _ (.head _)))
  | 3, _, true => heads_at hd0_3tx (.head _)
  | 3, _, false => heads_at hd0_3tx (.tail _ (.head _))
  | 4, _, true => heads_at hd0_3tx (.tail _ (.tail _ (.head _)))
  | 4, _, false => heads_at hd0_4fx (.head _)
  | 5, _, true => heads_at hd0_4fx (.tail _ (.head _))
  | 5, _, false => heads_at hd0_4fx (.tail _ (.tail _ (.head _)))
  | 6, _, true => heads_at hd0_6tx (.head _)
  | 6, _, false => heads_at hd0_6tx (.tail _ (.head _))
  | 7, _, true => heads_at hd0_6tx (.tail _ (.tail _ (.head _)))
  | 7, _, false => heads_at hd0_7f (.head _)
  | 8, _, true => heads_at hd0_7f (.tail _ (.head _))
  | 8, _, false => heads_at hd0_7f (.tail _ (.tail _ (.head _)))
  | 9, _, true => heads_at hd0_9t (.head _)
  | 9, _, false => heads_at hd0_9t (.tail _ (.head _))
  | 10, _, true => heads_at hd0_9t (.tail _ (.tail _ (.head _)))
  | 10, _, false => heads_at hd0_10f (.head _)
  | 11, _, true => heads_at hd0_10f (.tail _ (.head _))
  | 11, _, false => heads_at hd0_10f (.tail _ (.tail _ (.head _)))
  | q + 12, h, _ => absurd h (by omega)
set_option maxRecDepth 10000 in
theorem natv_at1 (b : Nat) (hb : b < 12) (c : Bool) : headN 1 b c = true :=
  match b, hb, c with
  | 0, _, true => heads_at hd1_0t (.head _)
  | 0, _, false => heads_at hd1_0t (.tail _ (.head _))
  | 1, _, true => heads_at hd1_1tx (.head _)
  | 1, _, false => heads_at hd1_1tx (.tail _ (.head _))
  | 2, _, true => heads_at hd1_1tx (.tail _ (.tail _ (.head _)))
  | 2, _, false => heads_at hd1_2fx (.head _)
  | 3, _, true => heads_at hd1_2fx (.tail _ (.head _))
  | 3, _, false => heads_at hd1_2fx (.tail _ (.tail _ (.head _)))
  | 4, _, true => heads_at hd1_4tx (.head _)
  | 4, _, false => heads_at hd1_4tx (.tail _ (.head _))
  | 5, _, true => heads_at hd1_4tx (.tail _ (.tail _ (.head _)))
  | 5, _, false => heads_at hd1_5fx (.head _)
  | 6, _, true => heads_at hd1_5fx (.tail _ (.head _))
  | 6, _, false => heads_at hd1_5fx (.tail _ (.tail _ (.head _)))
  | 7, _, true => heads_at hd1_7tx (.head _)
  | 7, _, false => heads_at hd1_7tx (.tail _ (.head _))
  | 8, _, true => heads_at hd1_7tx (.tail _ (.tail _ (.head _)))
  | 8, _, false => heads_at hd1_8f (.head _)
  | 9, _, true => heads_at hd1_8f (.tail _ (.head _))
  | 9, _, false => heads_at hd1_8f (.tail _ (.tail _ (.head _)))
  | 10, _, true => heads_at hd1_10t (.head _)
  | 10, _, false => heads_at hd1_10t (.tail _ (.head _))
  | 11, _, true => heads_at hd1_10t (.tail _ (.tail _ (.head _)))
  | 11, _, false => heads_at hd1_11fx (.head _)
  | q + 12, h, _ => absurd h (by omega)
set_option maxRecDepth 10000 in
theorem natv_at2 (b : Nat) (hb : b < 12) (c : Bool) : headN 2 b c = true :=
  match b, hb, c with
  | 0, _, true => heads_at hd2_0t (.head _)
  | 0, _, false => heads_at hd2_0t (.tail _ (.head _))
  | 1, _, true => heads_at hd2_1t (.head _)
  | 1, _, false => heads_at hd2_1t (.tail _ (.head _))
  | 2, _, true => heads_at hd2_2t (.head _)
  | 2, _, false => heads_at hd2_2t (.tail _ (.head _))
  | 3, _, true => heads_at hd2_2t (.tail _ (.tail _ (.head _)))
  | 3, _, false => heads_at hd2_3fx (.head _)
  | 4, _, true => heads_at hd2_3fx (.tail _ (.head _))
  | 4, _, false => heads_at hd2_3fx (.tail _ (.tail _ (.head _)))
  | 5, _, true => heads_at hd2_5tx (.head _)
  | 5, _, false => heads_at hd2_5tx (.tail _ (.head _))
  | 6, _, true => heads_at hd2_5tx (.tail _ (.tail _ (.head _)))
  | 6, _, false => heads_at hd2_6fx (.head _)
  | 7, _, true => heads_at hd2_6fx (.tail _ (.head _))
  | 7, _, false => heads_at hd2_6fx (.tail _ (.tail _ (.head _)))
  | 8, _, true => heads_at hd2_8tx (.head _)
  | 8, _, false => heads_at hd2_8tx (.tail _ (.head _))
  | 9, _, true => heads_at hd2_8tx (.tail _ (.tail _ (.head _)))
  | 9, _, false => heads_at hd2_9fx (.head _)
  | 10, _, true => heads_at hd2_9fx (.tail _ (.head _))
  | 10, _, false => heads_at hd2_9fx (.tail _ (.tail _ (.head _)))
  | 11, _, true => heads_at hd2_11t (.head _)
  | 11, _, false => heads_at hd2_11t (.tail _ (.head _))
  | q + 12, h, _ => absurd h (by omega)
set_option maxRecDepth 10000 in
theorem natv_at3 (b : Nat) (hb : b < 12) (c : Bool) : headN 3 b c = true :=
  match b, hb, c with
  | 0, _, true => heads_at hd3_0t (.head _)
  | 0, _, false => heads_at hd3_0t (.tail _ (.head _))
  | 1, _, true => heads_at hd3_1t (.head _)
  | 1, _, false => heads_at hd3_1t (.tail _ (.head _))
  | 2, _, true => heads_at hd3_2t (.head _)
  | 2, _, false => heads_at hd3_2t (.tail _ (.head _))
  | 3, _, true => heads_at hd3_3t (.head _)
  | 3, _, false => heads_at hd3_3t (.tail _ (.head _))
  | 4, _, true => heads_at hd3_3t (.tail _ (.tail _ (.head _)))
  | 4, _, false => heads_at hd3_4f (.head _)
  | 5, _, true => heads_at hd3_4f (.tail _ (.head _))
  | 5, _, false => heads_at hd3_4f (.tail _ (.tail _ (.head _)))
  | 6, _, true => heads_at hd3_6t (.head _)
  | 6, _, false => heads_at hd3_6t (.tail _ (.head _))
  | 7, _, true => heads_at hd3_6t (.tail _ (.tail _ (.head _)))
  | 7, _, false => heads_at hd3_7fx (.head _)
  | 8, _, true => heads_at hd3_7fx (.tail _ (.head _))
  | 8, _, false => heads_at hd3_7fx (.tail _ (.tail _ (.head _)))
  | 9, _, true => heads_at hd3_9tx (.head _)
  | 9, _, false => heads_at hd3_9tx (.tail _ (.head _))
  | 10, _, true => heads_at hd3_9tx (.tail _ (.tail _ (.head _)))
  | 10, _, false => heads_at hd3_10fx (.head _)
  | 11, _, true => heads_at hd3_10fx (.tail _ (.head _))
  | 11, _, false => heads_at hd3_10fx (.tail _ (.tail _ (.head _)))
  | q + 12, h, _ => absurd h (by omega)
set_option maxRecDepth 10000 in
theorem natv_at4 (b : Nat) (hb : b < 12) (c : Bool) : headN 4 b c = true :=
  match b, hb, c with
  | 0, _, true => heads_at hd4_0tx (.head _)
  | 0, _, false => heads_at hd4_0tx (.tail _ (.head _))
  | 1, _, true => heads_at hd4_1tx (.head _)
  | 1, _, false => heads_at hd4_1tx (.tail _ (.head _))
  | 2, _, true => heads_at hd4_2tx (.head _)
  | 2, _, false => heads_at hd4_2tx (.tail _ (.head _))
  | 3, _, true => heads_at hd4_3tx (.head _)
  | 3, _, false => heads_at hd4_3tx (.tail _ (.head _))
  | 4, _, true => heads_at hd4_4tx (.head _)
  | 4, _, false => heads_at hd4_4tx (.tail _ (.head _))
  | 5, _, true => heads_at hd4_4tx (.tail _ (.tail _ (.head _)))
  | 5, _, false => heads_at hd4_5fx (.head _)
  | 6, _, true => heads_at hd4_5fx (.tail _ (.head _))
  | 6, _, false => heads_at hd4_5fx (.tail _ (.tail _ (.head _)))
  | 7, _, true => heads_at hd4_7t (.head _)
  | 7, _, false => heads_at hd4_7t (.tail _ (.head _))
  | 8, _, true => heads_at hd4_7t (.tail _ (.tail _ (.head _)))
  | 8, _, false => heads_at hd4_8f (.head _)
  | 9, _, true => heads_at hd4_8f (.tail _ (.head _))
  | 9, _, false => heads_at hd4_8f (.tail _ (.tail _ (.head _)))
  | 10, _, true => heads_at hd4_10t (.head _)
  | 10, _, false => heads_at hd4_10t (.tail _ (.head _))
  | 11, _, true => heads_at hd4_10t (.tail _ (.tail _ (.head _)))
  | 11, _, false => heads_at hd4_11fx (.head _)
  | q + 12, h, _ => absurd h (by omega)
set_option maxRecDepth 10000 in
theorem natv_at5 (b : Nat) (hb : b < 12) (c : Bool) : headN 5 b c = true :=
  match b, hb, c with
  | 0, _, true => heads_at hd5_0tx (.head _)
  | 0, _, false => heads_at hd5_0tx (.tail _ (.head _))
  | 1, _, true => heads_at hd5_1t (.head _)
  | 1, _, false => heads_at hd5_1t (.tail _ (.head _))
  | 2, _, true => heads_at hd5_2t (.head _)
  | 2, _, false => heads_at hd5_2t (.tail _ (.head _))
  | 3, _, true => heads_at hd5_3t (.head _)
  | 3, _, false => heads_at hd5_3t (.tail _ (.head _))
  | 4, _, true => heads_at hd5_4tx (.head _)
  | 4, _, false => heads_at hd5_4tx (.tail _ (.head _))
  | 5, _, true => heads_at hd5_5tx (.head _)
  | 5, _, false => heads_at hd5_5tx (.tail _ (.head _))
  | 6, _, true => heads_at hd5_6tx (.head _)
  | 6, _, false => heads_at hd5_6tx (.tail _ (.head _))
  | 7, _, true => heads_at hd5_7tx (.head _)
  | 7, _, false => heads_at hd5_7tx (.tail _ (.head _))
  | 8, _, true => heads_at hd5_8tx (.head _)
  | 8, _, false => heads_at hd5_8tx (.tail _ (.head _))
  | 9, _, true => heads_at hd5_9tx (.head _)
  | 9, _, false => heads_at hd5_9tx (.tail _ (.head _))
  | 10, _, true => heads_at hd5_10tx (.head _)
  | 10, _, false => heads_at hd5_10tx (.tail _ (.head _))
  | 11, _, true => heads_at hd5_11t (.head _)
  | 11, _, false => heads_at hd5_11t (.tail _ (.head _))
  | q + 12, h, _ => absurd h (by omega)
set_option maxRecDepth 10000 in
theorem natv_at6 (b : Nat) (hb : b < 12) (c : Bool) : headN 6 b c = true :=
  match b, hb, c with
  | 0, _, true => heads_at hd6_0tx (.head _)
  | 0, _, false => heads_at hd6_0tx (.tail _ (.head _))
  | 1, _, true => heads_at hd6_1tx (.head _)
  | 1, _, false => heads_at hd6_1tx (.tail _ (.head _))
  | 2, _, true => heads_at hd6_2tx (.head _)
  | 2, _, false => heads_at hd6_2tx (.tail _ (.head _))
  | 3, _, true => heads_at hd6_3tx (.head _)
  | 3, _, false => heads_at hd6_3tx (.tail _ (.head _))
  | 4, _, true => heads_at hd6_4t (.head _)
  | 4, _, false => heads_at hd6_4t (.tail _ (.head _))
  | 5, _, true => heads_at hd6_5t (.head _)
  | 5, _, false => heads_at hd6_5t (.tail _ (.head _))
  | 6, _, true => heads_at hd6_6tx (.head _)
  | 6, _, false => heads_at hd6_6tx (.tail _ (.head _))
  | 7, _, true => heads_at hd6_7tx (.head _)
  | 7, _, false => heads_at hd6_7f (.head _)
  | 8, _, true => heads_at hd6_7f (.tail _ (.head _))
  | 8, _, false => heads_at hd6_7f (.tail _ (.tail _ (.head _)))
  | 9, _, true => heads_at hd6_9t (.head _)
  | 9, _, false => heads_at hd6_9t (.tail _ (.head _))
  | 10, _, true => heads_at hd6_9t (.tail _ (.tail _ (.head _)))
  | 10, _, false => heads_at hd6_10f (.head _)
  | 11, _, true => heads_at hd6_10f (.tail _ (.head _))
  | 11, _, false => heads_at hd6_10f (.tail _ (.tail _ (.head _)))
  | q + 12, h, _ => absurd h (by omega)
set_option maxRecDepth 10000 in
theorem natv_at7 (b : Nat) (hb : b < 12) (c : Bool) : headN 7 b c = true :=
  match b, hb, c with
  | 0, _, true => heads_at hd7_0t (.head _)
  | 0, _, false => heads_at hd7_0t (.tail _ (.head _))
  | 1, _, true => heads_at hd7_1tx (.head _)
  | 1, _, false => heads_at hd7_1tx (.tail _ (.head _))
  | 2, _, true => heads_at hd7_2tx (.head _)
  | 2, _, false => heads_at hd7_2tx (.tail _ (.head _))
  | 3, _, true => heads_at hd7_3tx (.head _)
  | 3, _, false => heads_at hd7_3tx (.tail _ (.head _))
  | 4, _, true => heads_at hd7_4tx (.head _)
  | 4, _, false => heads_at hd7_4tx (.tail _ (.head _))
  | 5, _, true => heads_at hd7_5tx (.head _)
  | 5, _, false => heads_at hd7_5fx (.head _)
  | 6, _, true => heads_at hd7_6t (.head _)
  | 6, _, false => heads_at hd7_6t (.tail _ (.head _))
  | 7, _, true => heads_at hd7_7tx (.head _)
  | 7, _, false => heads_at hd7_7tx (.tail _ (.head _))
  | 8, _, true => heads_at hd7_8tx (.head _)
  | 8, _, false => heads_at hd7_8tx (.tail _ (.head _))
  | 9, _, true => heads_at hd7_9tx (.head _)
  | 9, _, false => heads_at hd7_9tx (.tail _ (.head _))
  | 10, _, true => heads_at hd7_10tx (.head _)
  | 10, _, false => heads_at hd7_10tx (.tail _ (.head _))
  | 11, _, true => heads_at hd7_11tx (.head _)
  | 11, _, false => heads_at hd7_11tx (.tail _ (.head _))
  | q + 12, h, _ => absurd h (by omega)
set_option maxRecDepth 10000 in
theorem natv_at8 (b : Nat) (hb : b < 12) (c : Bool) : headN 8 b c = true :=
  match b, hb, c with
  | 0, _, true => heads_at hd8_0t (.head _)
  | 0, _, false => heads_at hd8_0t (.tail _ (.head _))
  | 1, _, true => heads_at hd8_1t (.head _)
  | 1, _, false => heads_at hd8_1t (.tail _ (.head _))
  | 2, _, true => heads_at hd8_2tx (.head _)
  | 2, _, false => heads_at hd8_2tx (.tail _ (.head _))
  | 3, _, true => heads_at hd8_3tx (.head _)
  | 3, _, false => heads_at hd8_3tx (.tail _ (.head _))
  | 4, _, true => heads_at hd8_4tx (.head _)
  | 4, _, false => heads_at hd8_4tx (.tail _ (.head _))
  | 5, _, true => heads_at hd8_5tx (.head _)
  | 5, _, false => heads_at hd8_5fx (.head _)
  | 6, _, true => heads_at hd8_6tx (.head _)
  | 6, _, false => heads_at hd8_6fx (.head _)
  | 7, _, true => heads_at hd8_7t (.head _)
  | 7, _, false => heads_at hd8_7t (.tail _ (.head _))
  | 8, _, true => heads_at hd8_8tx (.head _)
  | 8, _, false => heads_at hd8_8tx (.tail _ (.head _))
  | 9, _, true => heads_at hd8_9tx (.head _)
  | 9, _, false => heads_at hd8_9tx (.tail _ (.head _))
  | 10, _, true => heads_at hd8_10tx (.head _)
  | 10, _, false => heads_at hd8_10tx (.tail _ (.head _))
  | 11, _, true => heads_at hd8_11tx (.head _)
  | 11, _, false => heads_at hd8_11tx (.tail _ (.head _))
  | q + 12, h, _ => absurd h (by omega)
theorem natv_all (a : Nat) (ha : a < 9) (b : Nat) (hb : b < 12) (c : Bool) : headN a b c = true :=
  match a, ha with
  | 0, _ => natv_at0 b hb c
  | 1, _ => natv_at1 b hb c
  | 2, _ => natv_at2 b hb c
  | 3, _ => natv_at3 b hb c
  | 4, _ => natv_at4 b hb c
  | 5, _ => natv_at5 b hb c
  | 6, _ => natv_at6 b hb c
  | 7, _ => natv_at7 b hb c
  | 8, _ => natv_at8 b hb c
  | q + 9, h => absurd h (by omega)

theorem natv_walk {W : World} (hW : At W) (a : Int) (b : Int) (c : Bool) : Calls Tryz.prog 3 #[.int .i64 a, .int .i64 b, .bool c] W fun e w' => e = .returned (.bool true) ∧ W.keptBut w' (fun _ => False) := by
  obtain ⟨qa, ha, ra⟩ := cls_of 9 (by omega) a
  obtain ⟨qb, hb, rb⟩ := cls_of 12 (by omega) b
  obtain ⟨h', hc⟩ := headN_ok hW ha (natv_all qa ha qb hb c)
  exact closes hW hc (.cons (ra _) (.cons (rb _) (.cons (.bool _) .nil)))

set_option maxRecDepth 100000 in
/-- What the walk gives, for every argument and every world that holds the tables. -/
theorem natv_contract (H : Type) (enc : TypeId × Value → H) (W : World) (base : Nat) (args : Array Value) (ds gs : List (DataW H)) (before : List MemPlace)
    (hval : ∀ (j : Nat) t v, Tryz.f3.params[j]? = some t → args[j]? = some v → Value.okWide Tryz.prog W .any base t v)
    (hW : DataW.Whole enc Tryz.prog Tryz.f3.params.toList Rows.vmNativesSpec.vars false W args.toList ds gs before) (hA : At W) :
    Calls Tryz.prog 3 args W fun e W' => ∃ v, e = .returned v ∧ Rows.vmNativesSpec.post enc Tryz.prog Tryz.f3 false true false false W args v W' := by
  have hW' := hW
  obtain ⟨p, q, hA0, hV, rfl, hfz, hnd⟩ := hW
  have hT : DataW.TrodAll enc Tryz.prog W 0 (fun _ => true) true Tryz.f3.params.toList args.toList ds p := hA0
  rw [Tryz.params3] at hT hval
  obtain ⟨v0, v1, v2, d0, d1, d2, p0, p1, p2, rfl, rfl, rfl, t0, t1, t2⟩ := trodAll_three hT
  obtain ⟨rfl, rfl⟩ := trodVars_none hV
  obtain ⟨a, rfl, rfl, rfl, wa⟩ := open_int Tryz.underlying3 (hval 0 3 v0 rfl rfl) t0
  obtain ⟨b, rfl, rfl, rfl, wb⟩ := open_int Tryz.underlying3 (hval 1 3 v1 rfl rfl) t1
  obtain ⟨c, rfl, rfl, rfl⟩ := open_bool Tryz.underlying4 (hval 2 4 v2 rfl rfl) t2
  refine (natv_walk hA a b c).mono ?_
  rintro e W' ⟨rfl, hk⟩
  refine ⟨_, rfl, _, _, _, [], [], [], hW', trodAll_mk1 (shut_bool Tryz.underlying4 true), trodAll_mk3 (shut_int Tryz.underlying3 wa) (shut_int Tryz.underlying3 wb) (shut_bool Tryz.underlying4 c), rfl, World.keptBut_mono (fun _ h => h.elim) hk, fun h => by cases h⟩

theorem natv_laid_met (os : Os) (args : Array Value) : laidMet Tryz.prog Rows.vmNativesRow.laid ((laidWorld os).forCall (fun _ _ => 0) ⟨#[], args, []⟩).memory :=
  laidMet_of_run' 8 (by kernel_rfl) (by kernel_rfl)
theorem natv_reads (os : Os) {H : Type} (enc : TypeId × Value → H) : ∃ places, DataW.whole enc Tryz.prog ((laidWorld os).forCall (fun _ _ => 0) ⟨#[], #[.int .i64 0, .int .i64 0, .bool false], []⟩).memory Tryz.f3.params.toList Rows.vmNativesSpec.vars false #[Value.int .i64 0, Value.int .i64 0, Value.bool false].toList 8 = some ([.lit (.int .i64 0), .lit (.int .i64 0), .lit (.bool false)], [], places) :=
  ⟨[], by kernel_rfl⟩

set_option maxRecDepth 100000 in
theorem natv_lifted (os : Os) (started : os.Started) (H : Type) (enc : TypeId × Value → H) (F : Stop.Interp) :
    ReturnsInHanded {} Tryz.checked os 3 .any ((OpenSpec.ofChange Rows.vmNativesSpec).preRow enc Tryz.prog Tryz.f3 Rows.vmNativesRow.domain false Rows.vmNativesRow.laid) (((OpenSpec.ofChange Rows.vmNativesSpec).at F).post enc Tryz.prog Tryz.f3 false true false false) := by
  obtain ⟨places, hx⟩ := natv_reads os enc
  refine returnsInHanded_of_row (C := Tryz.checked) (s := OpenSpec.ofChange Rows.vmNativesSpec) own started (by kernel_rfl) Tryz.func3
    (witness_row_atRef (enc := enc) (C := Tryz.checked) false (laidWorld os) #[.int .i64 0, .int .i64 0, .bool false] rfl (by kernel_rfl) (by kernel_rfl) (by kernel_rfl)
      (OpenSpec.preRow_of_cond 8 hx (by kernel_rfl) (fun k hk => by cases hk) (by kernel_rfl) (natv_laid_met os _))) ?_
  intro W base args ds gs before hval hW _ _ _ hL hsh _
  exact natv_contract H enc W base args ds gs before hval hW (at_of hL hsh)

theorem natv_named : Tryz.pinned.checked.prog.funcNamed Rows.vmNativesRow.func = some 3 := by kernel_rfl
theorem natv_inst : Tryz.f3.isInstance Tryz.pinned.checked.prog Rows.vmNativesRow.origin Rows.vmNativesRow.targs := of_decide_eq_true (by kernel_rfl)
theorem natv_wrap : Tryz.f3.isWrapper Tryz.pinned.checked.prog Rows.vmNativesRow.wrapper Rows.vmNativesRow.mainSum := by
  unfold Func.isWrapper; first | (rw [if_pos (by decide +kernel)]; kernel_rfl) | (rw [if_neg (by decide +kernel)]; exact ⟨rfl, rfl⟩)
theorem natv_said : Rows.VmNativesSaid :=
  OpenClaim.holds_of_cond 3 Tryz.f3 rfl rfl rfl rfl rfl rfl rfl ⟨rfl, rfl, rfl, rfl, rfl⟩ rfl rfl rfl rfl rfl natv_named Tryz.func3 natv_joined
    natv_inst natv_wrap
    (fun os started H enc _ F => by rw [OpenClaim.pre_eq_preRow]; exact natv_lifted os started H enc F)

/-- No parameter wants a stand-in; the program's own looks are off. -/
theorem natv_plain (f : FuncId) (fn : Func) (hf : Tryz.pinned.checked.prog.funcNamed "ossuary/ossuarylaw13.VmNatives" = some f) (hfn : Tryz.pinned.checked.prog.funcs[f]? = some fn) :
    true = Tryz.pinned.checked.prog.looks [] ∧ ∀ (j : Nat) t, fn.params[j]? = some t → Tryz.pinned.checked.prog.wantsStandIn t = false := by
  obtain rfl : f = 3 := Option.some.inj ((show Tryz.prog.funcNamed "ossuary/ossuarylaw13.VmNatives" = some 3 by kernel_rfl).symm.trans hf) |>.symm
  obtain rfl : fn = Tryz.f3 := (Option.some.inj (Tryz.func3.symm.trans hfn)).symm
  refine ⟨by kernel_rfl, fun j t ht => ?_⟩
  rw [Tryz.params3] at ht
  have : t = 3 ∨ t = 4 := by
    have := Array.mem_of_getElem? ht
    simpa using this
  rcases this with rfl | rfl
  · exact (show Tryz.prog.wantsStandIn 3 = false by kernel_rfl)
  · exact (show Tryz.prog.wantsStandIn 4 = false by kernel_rfl)

/-- THE CARD. -/
theorem vmNatives_holds : Rows.VmNativesCardSaid :=
  Claim7.holds_tied_plain_at .later [] _ _ _ _ natv_said (fun _ h => by cases h) (by kernel_rfl) (fun _ h => by cases h) vmNatives_row_tie rfl ⟨rfl, rfl⟩ (by kernel_rfl) rfl natv_plain natv_goes

end Go.Proofs.YthhnpmanmcjhbaaGreatDoor
