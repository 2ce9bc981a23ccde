/- ParseLists: no arrow behind the brackets. No condition. -/
import Derived.Test.YtcaomilekhhhlaaDoorEvQj
namespace Go.Proofs.YtcaomilekhhhlaaDoor
open Go.Ev Go.RowKit
set_option maxHeartbeats 16000000
set_option maxRecDepth 100000

theorem isAt_no {w : World} {pb tb len cap j n q : Nat} {c : UInt8} (c0 : w.cell? ⟨pb, 0, none⟩ = some (.slice (some ⟨tb, 0, none⟩) len cap)) (c1 : w.cell? ⟨pb, 1, none⟩ = some (.int .i64 j)) (hq : j + n = q) (hj : q < len) (hlen : len ≤ 2000) (ht : ∀ w' : World, Below w.heap.size w w' → tokAt w' tb q (5, c.toNat, 1)) :
    Calls Tryd.prog 29 #[.pointer (some ⟨pb, 0, none⟩), .int .i64 n, .string ⟨#[61, 62]⟩] w fun e w' => e = .returned (.bool false) ∧ Below w.heap.size w w' := by
  have lp : pb < w.heap.size := World.block_lt_of_cell? w _ c0
  have hs : sval c.toNat 1 = ⟨#[c]⟩ := by
    unfold sval
    rw [show sdec c.toNat 1 = [UInt8.ofNat (c.toNat % 256)] from rfl, Nat.mod_eq_of_lt (UInt8.toNat_lt c)]
    simp
  have hne : (⟨#[c]⟩ : ByteArray) ≠ ⟨#[61, 62]⟩ := fun h => by injection h with h; have := congrArg Array.size h; simp at this
  have hall : ∀ w', Below w.heap.size w w' → Calls Tryd.prog 13 #[.pointer (some ⟨pb, 0, none⟩), .int .i64 n] w' fun e w2 => (∃ x : Int, e = .returned (.agg #[.int .i64 5, .string ⟨#[c]⟩, .int .i64 x, .int .i64 0])) ∧ Below w'.heap.size w' w2 := fun w' hk => by
    have := ahead_walk (po := 0) (n := n) (q := q) (j := j) ((hk.cell (p := ⟨pb, 0, none⟩) lp).trans c0) ((hk.cell (p := ⟨pb, 1, none⟩) lp).trans c1) hq hj hlen (ht w' hk)
    rw [← hs]
    exact this
  clear ht hs
  go_enter Tryd.func29, Tryd.ntmps29
  go_wp2_with (go_at_call 13; refine (hall _ ?bel).mono ?_)
  case bel => exact Below.refl _ _
  rintro e w2 ⟨⟨x, rfl⟩, hk⟩
  clear hall c0 c1
  go_wp2
  go_ret
  exact ⟨rfl, hk.trans (((Below.refl _ w2).alloc (Nat.le_refl _) _).mono hk.size)⟩
noncomputable def tokK (g : FuncId) (vs : List V) (cls d : Nat) (a : Int) : Bool := match callP g vs (SPh cls d) with | some (.agg [.int .i64 n, .str _ _, .cl2 m q, .int .i64 _], h) => decide (n = a) && (Nat.beq m 0 && (Nat.beq q (kq .i64) && endP h 0 d)) | _ => false
theorem tok_K {W w : World} {pb tb len cap j d cls : Nat} {T : List Tok} {a : Int} {g : FuncId} {vs : List V} (hc : tokK g vs cls d a = true) (hy : Nat.beq g yieldG = false) (h : Ps W w pb tb len cap j d T) {pre win rest : List Tok} (hT : T = pre ++ (win ++ rest)) (hj : pre.length = j) (hw : winOf cls = win) (hw0 : win ≠ []) (hj1 : j ≤ 1000) {xs : Array Value} (hvs : VsRel (rP W j tb 0 len cap pb) vs xs.toList) :
    Calls Tryd.prog g xs w fun e w' => (∃ (y1 : ByteArray) (y3 x : Int), e = .returned (.agg #[.int .i64 a, .string y1, .int .i64 x, .int .i64 y3])) ∧ Ps W w' pb tb len cap j d T ∧ Pk pb w w' := by
  unfold tokK at hc
  split at hc
  · rename_i u0 un ul m q u3 h' he
    simp only [Bool.and_eq_true] at hc
    obtain ⟨ha, hc⟩ := hc
    have ha' : u0 = a := by simpa using ha
    subst ha'
    have hwin := h.win hT hj hw
    have h0 : 0 < len := by
      cases win with
      | nil => exact (hw0 rfl).elim
      | cons t _ => have := (hwin 0 t (by rw [hw]; rfl)).1; omega
    refine (evP h.hB h.hpb h.hp h.hne h.htb h.hlen hj1 h0 hwin hy he hvs).mono ?_
    rintro e w' ⟨z, r', rfl, hv, hr, hle, hk, -⟩
    refine ⟨?_, h.next (endP_at hc.2.2 hr hle) hk, hk⟩
    cases hv with
    | @agg _ ys hx =>
      cases ys with | mk l =>
      cases hx with
      | cons g0 hx => cases hx with
        | cons g1 hx => cases hx with
          | cons g2 hx => cases hx with
            | cons g3 hx =>
              cases hx
              obtain ⟨n, rfl⟩ := i64_unk hc.1 hc.2.1 g2
              cases g0
              cases g1
              cases g3
              exact ⟨_, _, n, rfl⟩
  · cases hc
theorem tk40 : tokK 9 [.ptr 20 0] 0 2 5 = true := by decide +kernel
theorem Ps.still {W w w' : World} {pb tb len cap j d : Nat} {T : List Tok} (h : Ps W w pb tb len cap j d T) (hk : Below w.heap.size w w') : Ps W w' pb tb len cap j d T :=
  h.other hk (Array.getElem?_eq_some_iff.1 h.hp.blk).1 h.htb h.hB.size
theorem toks_mem : ∀ (l : List Bool) (d : Bool) (t : Tok), t ∈ toks l d → t = tA ∨ t = tC
  | [], _, t, h => by simp [toks] at h
  | true :: l, d, t, h => by
    rw [toks] at h
    split at h
    · simp at h; exact .inl h
    · rcases List.mem_cons.1 h with h | h
      · exact .inl h
      · rcases List.mem_cons.1 h with h | h
        · exact .inr h
        · exact toks_mem l d t h
  | false :: l, d, t, h => by
    have e : toks (false :: l) d = tC :: toks l d := rfl
    rw [e] at h
    rcases List.mem_cons.1 h with h | h
    · exact .inr h
    · exact toks_mem l d t h
theorem field_0 (w : World) (y0 : Int) (y1 : ByteArray) (x y3 : Int) : Sem.run Tryd.prog (Instr.field 42 (.agg #[.int .i64 y0, .string y1, .int .i64 x, .int .i64 y3]) 0) w = .ok (.int .i64 y0) w := by
  simp [Instr.field, run_underlying Tryd.underlying42, asAgg, part]
theorem is40 : boolC 14 [.ptr 20 0, .str 40 1] 0 2 0 true = true := by decide +kernel
def depOf (M k : Nat) : Nat := if k = 0 then 0 else if k = 1 then 1 else if k ≤ 2 + M then 2 else 1
theorem arrows_walk {W w : World} {pb tb len cap : Nat} {T suf : List Tok} (h : Ps W w pb tb len cap 0 2 T) (l : List Bool) (dr : Bool) (hT : T = (5, 40, 1) :: (5, 91, 1) :: (toks l dr ++ ((5, 93, 1) :: (5, 41, 1) :: (5, 59, 1) :: suf))) (hl : l.length ≤ 100) :
    Calls Tryd.prog 77 #[.pointer (some ⟨pb, 0, none⟩)] w fun e w' => e = .returned (.bool false) ∧ Ps W w' pb tb len cap 0 2 T ∧ Pk pb w w' := by
  have hw : WinAt T 0 0 := ⟨[], _, hT, rfl⟩
  have hlen : (toks l dr).length + 5 ≤ len := by rw [← h.hT, hT]; simp
  have htl := toks_len l dr
  obtain ⟨M, hM⟩ : ∃ M, (toks l dr).length = M := ⟨_, rfl⟩
  rw [hM] at hlen htl
  have tk := tok_K tk40 rfl h (pre := []) (win := [(5, 40, 1), (5, 91, 1)]) (rest := toks l dr ++ ((5, 93, 1) :: (5, 41, 1) :: (5, 59, 1) :: suf)) hT rfl rfl (by decide) (by omega) (.cons (rP_ptr W 0 tb len cap pb) .nil)
  go_enter Tryd.func77, Tryd.ntmps77
  go_wp2_with (go_at_call 9; refine tk.mono ?_)
  rintro e w2 ⟨⟨y1, y3, x, rfl⟩, p2, k2⟩
  have hfd := field_0 w2 5 y1 x y3
  clear tk
  go_wp2_with (go_at_call 14; refine (bool2 is40 rfl (by decide) (by decide) p2 hw (by omega)).mono ?_)
  rintro e w3 ⟨rfl, p3, k3⟩
  have k13 := k2.trans k3
  clear hfd p2 k2 k3
  go_wp2
  go_loopw [3, 4] (fun dp i wr => ∃ k : Nat, k ≤ 3 + M ∧ i = .int .i64 k ∧ dp = .int .i64 (depOf M k : Nat) ∧ Ps W wr pb tb len cap 0 2 T ∧ Pk pb w wr) (fun _ i _ => 500 - (Go.RowKit.intOf i).toNat)
  case atStart => exact ⟨0, Nat.zero_le _, rfl, rfl, p3, k13⟩
  case round =>
    obtain ⟨k, hk, rfl, rfl, ps, kp⟩ := hrel
    have pc := ps.hp.blk
    have c0 : wr.cell? ⟨pb, 0, none⟩ = some (.slice (some ⟨tb, 0, none⟩) len cap) := by simp [World.cell?, pc]
    have c1 : wr.cell? ⟨pb, 1, none⟩ = some (.int .i64 0) := by simp [World.cell?, pc]
    have hw0 : IntKind.i64.wrap ((0 : Int) + (k : Int)) = (k : Int) := by
      have := Go.Ev.wrap_small IntKind.i64 k (by show _ ≤ 9223372036854775807; omega)
      simpa using this
    have hw1 : wrap64 (k : Int) = (k : Int) := by unfold wrap64; omega
    have hwn : IntKind.i64.wrap ((k : Int) + 1) = ((k + 1 : Nat) : Int) := by
      have := Go.Ev.wrap_small IntKind.i64 (k + 1) (by show _ ≤ 9223372036854775807; omega)
      simpa using this
    have hkl : (k : Int) < (len : Int) := by omega
    have hk0 : (0 : Int) ≤ (k : Int) := by omega
    clear pc
    have cases5 : k = 0 ∨ k = 1 ∨ (2 ≤ k ∧ k < 2 + M) ∨ k = 2 + M ∨ k = 3 + M := by omega
    rcases cases5 with hc | hc | hc | hc | hc
    · have hdk : depOf M k = 0 := by unfold depOf; (repeat' split) <;> omega
      have htk : T[k]? = some (5, 40, 1) := by
        rw [hT]
        rw [hc]; rfl
      obtain ⟨xx, e0, e1, e2, e3⟩ := ps.toks k _ htk
      have v0 : wr.cell? ⟨tb, k * 4, none⟩ = some (.int .i64 5) := e0
      have v1 : wr.cell? ⟨tb, k * 4 + 1, none⟩ = some (.string ⟨#[40]⟩) := e1
      have hdn : depOf M (k + 1) = 1 := by unfold depOf; (repeat' split) <;> omega
      have hk1 : k + 1 ≤ 3 + M := by omega
      rw [hdk]
      clear e0 e1 e2 e3 hdk htk hc hk
      go_wp2
      go_quiet (fail)
      go_wp2
      go_quiet (fail)
      go_wp2
      go_quiet (fail)
      go_wp2
      go_roundw
      case rel => exact ⟨k + 1, hk1, by simp, by (rw [hdn]; try rfl), ps.still ⟨rfl, rfl, rfl, Nat.le_refl _, fun _ _ => rfl⟩, kp.trans (Pk.below ⟨rfl, rfl, rfl, Nat.le_refl _, fun _ _ => rfl⟩)⟩
      case measure => simp [Go.RowKit.intOf] <;> omega
    · have hdk : depOf M k = 1 := by unfold depOf; (repeat' split) <;> omega
      have htk : T[k]? = some (5, 91, 1) := by
        rw [hT]
        rw [hc]; rfl
      obtain ⟨xx, e0, e1, e2, e3⟩ := ps.toks k _ htk
      have v0 : wr.cell? ⟨tb, k * 4, none⟩ = some (.int .i64 5) := e0
      have v1 : wr.cell? ⟨tb, k * 4 + 1, none⟩ = some (.string ⟨#[91]⟩) := e1
      have hdn : depOf M (k + 1) = 2 := by unfold depOf; (repeat' split) <;> omega
      have hk1 : k + 1 ≤ 3 + M := by omega
      rw [hdk]
      clear e0 e1 e2 e3 hdk htk hc hk
      go_wp2
      go_quiet (fail)
      go_wp2
      go_quiet (fail)
      go_wp2
      go_quiet (fail)
      go_wp2
      go_roundw
      case rel => exact ⟨k + 1, hk1, by simp, by (rw [hdn]; try rfl), ps.still ⟨rfl, rfl, rfl, Nat.le_refl _, fun _ _ => rfl⟩, kp.trans (Pk.below ⟨rfl, rfl, rfl, Nat.le_refl _, fun _ _ => rfl⟩)⟩
      case measure => simp [Go.RowKit.intOf] <;> omega
    · have hdk : depOf M k = 2 := by unfold depOf; (repeat' split) <;> omega
      have hdn : depOf M (k + 1) = 2 := by unfold depOf; (repeat' split) <;> omega
      obtain ⟨t, ht, htt⟩ : ∃ t, T[k]? = some t ∧ (t = tA ∨ t = tC) := by
        obtain ⟨q, hq⟩ : ∃ q, k = q + 2 := ⟨k - 2, by omega⟩
        have hql : q < (toks l dr).length := by omega
        refine ⟨(toks l dr)[q], ?_, toks_mem l dr _ (List.getElem_mem hql)⟩
        rw [hT, hq, List.getElem?_cons_succ, List.getElem?_cons_succ, List.getElem?_append_left hql]
        simp
      obtain ⟨xx, e0, e1, e2, e3⟩ := ps.toks k _ ht
      rcases htt with rfl | rfl
      · have v0 : wr.cell? ⟨tb, k * 4, none⟩ = some (.int .i64 1) := e0
        rw [hdk]
        clear e0 e1 e2 e3 hdk ht
        go_wp2
        go_quiet (fail)
        go_wp2
        go_quiet (fail)
        go_wp2
        go_roundw
        case rel => exact ⟨k + 1, by omega, by simp, by (rw [hdn]; try rfl), ps.still ⟨rfl, rfl, rfl, Nat.le_refl _, fun _ _ => rfl⟩, kp.trans (Pk.below ⟨rfl, rfl, rfl, Nat.le_refl _, fun _ _ => rfl⟩)⟩
        case measure => simp [Go.RowKit.intOf] <;> omega
      · have v0 : wr.cell? ⟨tb, k * 4, none⟩ = some (.int .i64 5) := e0
        have v1 : wr.cell? ⟨tb, k * 4 + 1, none⟩ = some (.string ⟨#[44]⟩) := e1
        rw [hdk]
        clear e0 e1 e2 e3 hdk ht
        go_wp2
        go_quiet (fail)
        go_wp2
        go_quiet (fail)
        go_wp2
        go_quiet (fail)
        go_wp2
        go_roundw
        case rel => exact ⟨k + 1, by omega, by simp, by (rw [hdn]; try rfl), ps.still ⟨rfl, rfl, rfl, Nat.le_refl _, fun _ _ => rfl⟩, kp.trans (Pk.below ⟨rfl, rfl, rfl, Nat.le_refl _, fun _ _ => rfl⟩)⟩
        case measure => simp [Go.RowKit.intOf] <;> omega
    · have hdk : depOf M k = 2 := by unfold depOf; (repeat' split) <;> omega
      have htk : T[k]? = some (5, 93, 1) := by
        rw [hT]
        rw [hc, show 2 + M = (toks l dr).length + 1 + 1 by omega, List.getElem?_cons_succ, List.getElem?_cons_succ, List.getElem?_append_right (Nat.le_refl _), Nat.sub_self]; rfl
      obtain ⟨xx, e0, e1, e2, e3⟩ := ps.toks k _ htk
      have v0 : wr.cell? ⟨tb, k * 4, none⟩ = some (.int .i64 5) := e0
      have v1 : wr.cell? ⟨tb, k * 4 + 1, none⟩ = some (.string ⟨#[93]⟩) := e1
      have hdn : depOf M (k + 1) = 1 := by unfold depOf; (repeat' split) <;> omega
      have hk1 : k + 1 ≤ 3 + M := by omega
      rw [hdk]
      clear e0 e1 e2 e3 hdk htk hc hk
      go_wp2
      go_quiet (fail)
      go_wp2
      go_quiet (fail)
      go_wp2
      go_quiet (fail)
      go_wp2
      go_roundw
      case rel => exact ⟨k + 1, hk1, by simp, by (rw [hdn]; try rfl), ps.still ⟨rfl, rfl, rfl, Nat.le_refl _, fun _ _ => rfl⟩, kp.trans (Pk.below ⟨rfl, rfl, rfl, Nat.le_refl _, fun _ _ => rfl⟩)⟩
      case measure => simp [Go.RowKit.intOf] <;> omega
    · have hdk : depOf M k = 1 := by unfold depOf; (repeat' split) <;> omega
      have htk : T[k]? = some (5, 41, 1) := by
        rw [hT]
        rw [hc, show 3 + M = (toks l dr).length + 1 + 1 + 1 by omega, List.getElem?_cons_succ, List.getElem?_cons_succ, List.getElem?_append_right (by omega), Nat.add_sub_cancel_left]; rfl
      obtain ⟨xx, e0, e1, e2, e3⟩ := ps.toks k _ htk
      have v0 : wr.cell? ⟨tb, k * 4, none⟩ = some (.int .i64 5) := e0
      have v1 : wr.cell? ⟨tb, k * 4 + 1, none⟩ = some (.string ⟨#[41]⟩) := e1
      have hq : T[k + 1]? = some (5, 59, 1) := by
        rw [hT, hc, show 3 + M + 1 = (toks l dr).length + 2 + 1 + 1 by omega, List.getElem?_cons_succ, List.getElem?_cons_succ, List.getElem?_append_right (by omega), Nat.add_sub_cancel_left]
        rfl
      rw [hdk]
      clear e0 e1 e2 e3 hdk htk hc hk
      go_wp2
      go_quiet (fail)
      go_wp2
      go_quiet (fail)
      go_wp2
      go_quiet (fail)
      have hall : ∀ w', Below wr.heap.size wr w' → Calls Tryd.prog 29 #[.pointer (some ⟨pb, 0, none⟩), .int .i64 ((k : Int) + 1), .string ⟨#[61, 62]⟩] w' fun e w2 => e = .returned (.bool false) ∧ Below w'.heap.size w' w2 := fun w' hk => by
        have ps' := ps.still hk
        have pc := ps'.hp.blk
        exact isAt_no (tb := tb) (len := len) (cap := cap) (j := 0) (n := k + 1) (q := k + 1) (c := 59) (by simp [World.cell?, pc]) (by simp [World.cell?, pc]) (by omega) (by rw [← ps.hT]; exact (List.getElem?_eq_some_iff.1 hq).1) ps.hlen (fun w2 h2 => (ps'.still h2).toks (k + 1) _ hq)
      go_wp2_with (go_at_call 29; refine (hall _ (by exact ⟨rfl, rfl, rfl, Nat.le_refl _, fun _ _ => rfl⟩)).mono ?_)
      rintro e w5 ⟨rfl, k5⟩
      go_wp2
      go_ret
      have k6 : Below wr.heap.size wr w5 := ⟨k5.os, k5.tape, k5.output, k5.size, k5.block⟩
      exact ⟨rfl, ps.still k6, kp.trans (Pk.below k6)⟩
end Go.Proofs.YtcaomilekhhhlaaDoor
