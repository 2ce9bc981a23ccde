/- EarlyLabels: the program's scanner, over a text of pieces. Condition: the table of blanks holds what its initialiser lays. -/
import Derived.Test.YtgpogeemhaiicaaGreatDoorEvPx
set_option linter.all false
namespace Go.Proofs.YtgpogeemhaiicaaGreatDoor
open Go.Ev Go.RowKit
set_option maxHeartbeats 8000000
set_option maxRecDepth 100000

theorem info_at {P : Program} {t : TypeId} {z : Value} {s b : Nat} (h1 : (P.info? t).map (·.zero) = some (some z)) (h2 : (P.info? t).map (·.size) = some s) (h3 : (P.info? t).map (·.bytes) = some b) : ∃ i, P.info? t = some i ∧ i.zero = some z ∧ i.size = s ∧ i.bytes = b := by
  cases h : P.info? t with
  | none => rw [h] at h1; cases h1
  | some i =>
    rw [h] at h1 h2 h3
    exact ⟨i, rfl, Option.some.inj h1, Option.some.inj h2, Option.some.inj h3⟩
/-- The end of the text. -/
def tEnd : Tok := (0, 0, 0)
/-- Tokens' cells. -/
def TokCells (xs : List Value) (ts : List Tok) : Prop := xs.length = 4 * ts.length ∧ ∀ (i : Nat) (t : Tok), ts[i]? = some t → xs[i * 4]? = some (.int .i64 t.1) ∧ xs[i * 4 + 1]? = some (.string (sval t.2.1 t.2.2)) ∧ (∃ x : Int, xs[i * 4 + 2]? = some (.int .i64 x)) ∧ xs[i * 4 + 3]? = some (.int .i64 (nOf t))
theorem TokCells.nil : TokCells [] [] := ⟨rfl, fun i t h => by simp at h⟩
theorem TokCells.snoc {xs : List Value} {ts : List Tok} (h : TokCells xs ts) (t : Tok) (x : Int) : TokCells (xs ++ [.int .i64 t.1, .string (sval t.2.1 t.2.2), .int .i64 x, .int .i64 (nOf t)]) (ts ++ [t]) := by
  obtain ⟨hl, hc⟩ := h
  refine ⟨by simp [hl]; omega, fun i u hi => ?_⟩
  by_cases hlt : i < ts.length
  · rw [List.getElem?_append_left hlt] at hi
    obtain ⟨h1, h2, ⟨y, h3⟩, h4⟩ := hc i u hi
    exact ⟨by rw [List.getElem?_append_left (by omega)]; exact h1, by rw [List.getElem?_append_left (by omega)]; exact h2, ⟨y, by rw [List.getElem?_append_left (by omega)]; exact h3⟩, by rw [List.getElem?_append_left (by omega)]; exact h4⟩
  · have hi' := (List.getElem?_eq_some_iff.1 hi).1
    simp at hi'
    have e : i = ts.length := by omega
    subst e
    simp at hi
    subst hi
    have e0 : ts.length * 4 = xs.length := by omega
    rw [e0]
    refine ⟨?_, ?_, ⟨x, ?_⟩, ?_⟩ <;> simp
theorem row_cell {w : World} {base : Nat} {e : TypeId} {size : Nat} {v : Value} {n : Nat} {xs : List Value} (h : w.ownsRow base e size v n xs) {g : Nat} {cap : Nat} (hv : v = .slice (some ⟨g, 0, none⟩) n cap) {j : Nat} {x : Value} (hx : xs[j]? = some x) : w.cell? ⟨g, j, none⟩ = some x := by
  subst hv
  have hlen : xs.length = n * size := h.1
  have hj : j < xs.length := (List.getElem?_eq_some_iff.1 hx).1
  rcases h.2 with ⟨e1, _⟩ | ⟨g, cap', cur, e1, _, hh, h1, _, h2, h3⟩
  · cases e1
  · cases e1
    rw [← h3, List.getElem?_take_of_lt (by omega)] at hx
    simp only [World.cell?, hh]
    simpa using hx
theorem ownsRow_at {w w' : World} {base : Nat} {e : TypeId} {size : Nat} {v : Value} {n : Nat} {xs : List Value} (h : w.ownsRow base e size v n xs) (hk : ∀ g, v.ownBlock = some g → w'.heap[g]? = w.heap[g]?) : w'.ownsRow base e size v n xs := by
  refine ⟨h.1, ?_⟩
  rcases h.2 with hn | ⟨g, cap, cur, rfl, hb, hgg, rest⟩
  · exact .inl hn
  · exact .inr ⟨g, cap, cur, rfl, hb, by rw [hk g rfl]; exact hgg, rest⟩
theorem news4 (w : World) (x0 x1 x2 x3 : Value) (t : TypeId) : ∀ j u, [x0, x1, x2, x3][j]? = some u → (w.alloc (.cells #[x0, x1, x2, x3] t)).cell? ((⟨w.heap.size, 0, none⟩ : Addr).add j) = some u := by
  intro j u hj
  match j, hj with
  | 0, hj => simp at hj; subst hj; simp [Addr.add, World.cell?_alloc_at]
  | 1, hj => simp at hj; subst hj; simp [Addr.add, World.cell?_alloc_at]
  | 2, hj => simp at hj; subst hj; simp [Addr.add, World.cell?_alloc_at]
  | 3, hj => simp at hj; subst hj; simp [Addr.add, World.cell?_alloc_at]
theorem below_gen {w wr wx wn : World} {v : Value} {e : TypeId} {size n : Nat} {xs : List Value} (hbw : Below w.heap.size w wr) (hx : Below wr.heap.size wr wx) (hown : wr.ownsRow w.heap.size e size v n xs) (hg : wx.grownBy wn v.ownBlock) : Below w.heap.size w wn := by
  refine (hbw.trans (hx.mono hbw.size)).grown hg (Nat.le_trans hbw.size hx.size) (fun k hk => ?_)
  rcases hown.2 with ⟨rfl, _⟩ | ⟨g, cap, cur, rfl, h4, _⟩
  · simp [Value.ownBlock] at hk
  · simp only [Value.ownBlock, Option.some.injEq] at hk
    omega
theorem psB_nil {ps : List (Bool × Tok)} (hok : okPs ps = true) (h : psB ps = []) : ps = [] := by
  cases ps with
  | nil => rfl
  | cons p ps =>
    rw [okPs] at hok
    simp only [Bool.and_eq_true] at hok
    obtain ⟨c, bs, hb, _⟩ := okTok_byte hok.1
    have e : psB (p :: ps) = pB p ++ psB ps := rfl
    rw [e] at h
    unfold pB at h
    rw [hb] at h
    simp at h
theorem two_at {w : World} {g : Nat} {x0 x1 : Value} {t : TypeId} (h : w.heap[g]? = some (.cells #[x0, x1] t (0, 0))) :
    w.cell? ⟨g, 0, none⟩ = some x0 ∧ w.cell? ⟨g, 1, none⟩ = some x1 ∧ w.frozen? ⟨g, 0, none⟩ = false ∧ w.frozen? ⟨g, 1, none⟩ = false := by
  simp [World.cell?, World.frozen?, h]
/-- Back with a value, and a fault that lies in a cell. -/
theorem scan_ret {fn : Func} {R : Ending → World → Prop} {tmps : Array Value} {w : World} {b : Nat} {x0 x1 : Value} {fz : Nat × Nat} (hr : fn.results = #[.tmp 2, .cell 3 45]) (h4 : tmps.getD 3 undef = .pointer (some ⟨b, 0, none⟩)) (hb : w.heap[b]? = some (.cells #[x0, x1] 45 fz))
    (hR : R (.returned (.tuple #[tmps.getD 2 undef, .agg #[x0, x1]])) w) : bodyPost Tryz.prog fn R .ret { tmps := tmps, defers := [] } w := by
  refine bodyPost_ret (v := .tuple #[tmps.getD 2 undef, .agg #[x0, x1]]) ?_ rfl hR
  have h1 : (loadVar 45 ⟨b, 0, none⟩).run Tryz.prog w = .ok (.agg #[x0, x1]) w := run_loadVar_row _ b 45 45 _ _ _ hb Tryz.underlying45 rfl (by kernel_rfl)
  have h4' : tmps[3]?.getD undef = .pointer (some ⟨b, 0, none⟩) := by rw [← Array.getD_eq_getD_getElem?]; exact h4
  simp [results, hr, h4', asAddr, h1]
set_option maxHeartbeats 16000000 in
theorem scan_walk {W : World} (hA : At W) (s : ByteArray) (ps : List (Bool × Tok)) (hps : s.data.toList = psB ps) (hs : s.size ≤ 1000) (hok : okPs ps = true) (hn : ps.length ≤ 1000) {w : World} (hB : Below W.heap.size W w) :
    Calls Tryz.prog 40 #[.string s] w fun e w' => ∃ g cap xs, e = .returned (.tuple #[.slice (some ⟨g, 0, none⟩) (ps.length + 1) cap, .agg #[.int .i64 0, .int .i64 0]]) ∧ w'.ownsRow w.heap.size 151 4 (.slice (some ⟨g, 0, none⟩) (ps.length + 1) cap) (ps.length + 1) xs ∧ TokCells xs (ps.map (·.2) ++ [tEnd]) ∧ Below w.heap.size w w' := by
  obtain ⟨i0, hi, hz0, hz1, hz2⟩ := info_at (P := Tryz.prog) (t := 151) (z := .agg #[.int .i64 0, .string ByteArray.empty, .int .i64 0, .int .i64 0]) (s := 4) (b := 40) (by kernel_rfl) (by kernel_rfl) (by kernel_rfl)
  go_enter Tryz.func40, Tryz.ntmps40
  go_wp2
  obtain ⟨w1, hw1⟩ : ∃ w1, w.alloc (Obj.cells #[Value.int IntKind.i64 0, Value.int IntKind.i64 0] 45) = w1 := ⟨_, rfl⟩
  rw [hw1]
  have hb1 : Below w.heap.size w w1 := by rw [← hw1]; exact (Below.refl _ w).alloc (Nat.le_refl _) _
  have hf1 : w1.heap[w.heap.size]? = some (.cells #[.int .i64 0, .int .i64 0] 45 (0, 0)) := by rw [← hw1]; exact heap_alloc_new w _
  have hl1 : w.heap.size < w1.heap.size := by rw [← hw1]; simp
  clear hw1
  go_loopw [4, 5] (fun v i wr => ∃ (done : List Tok) (rest : List (Bool × Tok)) (p : Nat) (xs : List Value), done ++ rest.map (·.2) = ps.map (·.2) ∧ i = .int .i64 p ∧ p ≤ s.size ∧ s.data.toList.drop p = psB rest ∧ okPs rest = true ∧ wr.ownsRow w1.heap.size 151 4 v done.length xs ∧ TokCells xs done ∧ Below w1.heap.size w1 wr) (fun _ i _ => s.size + 1 - (Go.RowKit.intOf i).toNat)
  case atStart => exact ⟨[], ps, 0, [], rfl, rfl, Nat.zero_le _, hps, hok, World.ownsRow_nil _ _ _ _, TokCells.nil, Below.refl _ _⟩
  case round =>
    obtain ⟨done, rest, p, xs, hdr, rfl, hp, hd, hok, hown, htc, hbw⟩ := hrel
    clear hps
    have hlen : done.length + rest.length = ps.length := by have := congrArg List.length hdr; simpa using this
    cases rest with
    | nil =>
      have hpe : p = s.size := by
        have : s.data.toList.length ≤ p := by
          rcases Nat.lt_or_ge p s.data.toList.length with q | q
          · rw [List.drop_eq_getElem_cons q] at hd; cases hd
          · exact q
        simp at this
        omega
      subst hpe
      have hne : ((s.size : Int) == (s.size : Int)) = true := by simp
      have hdn : done = ps.map (·.2) := by simpa using hdr
      have hdl : done.length = ps.length := by rw [hdn, List.length_map]
      have hs3 := hbw.size
      go_wp2_with (first | (go_at_call 72; refine (blank_end s _).mono ?_) | (at_builtin; refine wpList_append_lies _ rfl (.tmp 29) (.tmp 32) 143 rfl w1.heap.size 151 i0 _ 4 40 Tryz.underlying143 hi hz0 hz1 hz2 rfl (by decide) u4 done.length xs rfl (by exact hown.alloc _) ⟨wr.heap.size, 0, none⟩ 1 1 [.int .i64 0, .string ⟨#[]⟩, .int .i64 s.size, .int .i64 0] rfl rfl (by exact news4 wr (.int .i64 0) (.string ⟨#[]⟩) (.int .i64 s.size) (.int .i64 0) 151) (by intro u hu; simp at hu; rcases hu with rfl | rfl | rfl | rfl <;> rfl) (by decide) (by unfold maxLen; omega) (by omega) (by simp; omega) _ rfl ?_))
      intro g1 cap1 wn hown2 hgrow2 hat2 hlt2
      have hb2 : Below w1.heap.size w1 wn := below_gen hbw ((Below.refl _ wr).alloc (Nat.le_refl _) _) hown hgrow2
      have R : wn.ownsRow w1.heap.size 151 4 (.slice (some ⟨g1, 0, none⟩) (ps.length + 1) cap1) (done ++ [tEnd]).length (xs ++ [.int .i64 0, .string ⟨#[]⟩, .int .i64 s.size, .int .i64 0]) := by rw [List.length_append, hdl]; exact hown2
      have T : TokCells (xs ++ [.int .i64 0, .string ⟨#[]⟩, .int .i64 s.size, .int .i64 0]) (done ++ [tEnd]) := htc.snoc tEnd s.size
      have hgl := R.lt g1 rfl
      have hF : wn.heap[w.heap.size]? = some (.cells #[.int .i64 0, .int .i64 0] 45 (0, 0)) := (hb2.block _ hl1).trans hf1
      obtain ⟨c0, c1, f0, f1⟩ := two_at hF
      have hbE : Below w.heap.size w wn := hb1.trans (hb2.mono hb1.size)
      clear hown2 hgrow2 hat2 hlt2 hown hbw hs3 hb2 hb1 hA hB
      go_wp2
      refine scan_ret rfl rfl (set_blk (set_blk hF 0 _) 1 _) ⟨g1, cap1, _, rfl, ?_, by rw [← hdn]; exact T, ?_⟩
      · have R2 : wn.ownsRow w.heap.size 151 4 (.slice (some ⟨g1, 0, none⟩) (ps.length + 1) cap1) (ps.length + 1) (xs ++ [.int .i64 0, .string ⟨#[]⟩, .int .i64 s.size, .int .i64 0]) := by
          have e : (done ++ [tEnd]).length = ps.length + 1 := by rw [List.length_append, hdl]; rfl
          rw [e] at R
          refine ⟨R.1, ?_⟩
          rcases R.2 with ⟨q, _⟩ | ⟨g, cap, cur, q1, q2, q3⟩
          · cases q
          · exact .inr ⟨g, cap, cur, q1, by omega, q3⟩
        refine ownsRow_at R2 fun g hg => ?_
        simp only [Value.ownBlock, Option.some.injEq] at hg
        subst hg
        rw [Below.heap_setCell _ _ _ _ (show g1 ≠ w.heap.size by omega), Below.heap_setCell _ _ _ _ (show g1 ≠ w.heap.size by omega)]
      · exact below_set (below_set hbE 0 _) 1 _
    | cons bt rest =>
      obtain ⟨b, t⟩ := bt
      have bl := blank_piece hs hd hok wr
      have hl0 : (tB t).length = t.2.2 := sdec_length _ _
      have hpl : tokPos p b < s.size := by
        rw [okPs] at hok
        simp only [Bool.and_eq_true] at hok
        obtain ⟨c, bs, hb, _⟩ := okTok_byte hok.1
        have h1 := (piece_at hd).1
        rw [hb] at h1
        exact (drop_at h1).1
      have hml : tokPos p b + t.2.2 ≤ s.size := by
        have h1 := congrArg List.length (piece_at hd).1
        rw [List.length_drop, List.length_append, hl0] at h1
        have h2 : s.data.toList.length = s.size := by simp
        rw [h2] at h1
        omega
      have hm1 : 1 ≤ t.2.2 := by
        rw [okPs] at hok
        simp only [Bool.and_eq_true] at hok
        obtain ⟨c, bs, hb, hl, _⟩ := okTok_byte hok.1
        rw [← hl, hb]
        simp
      have hpp : p ≤ tokPos p b := by unfold tokPos; split <;> omega
      have hnd : s.data.toList.drop (tokPos p b + t.2.2) = psB rest := drop_more (piece_at hd).1 hl0
      have hokr : okPs rest = true := by
        rw [okPs] at hok
        simp only [Bool.and_eq_true] at hok
        exact hok.2
      have on : ∀ w, Below W.heap.size W w → _ := fun w h => one_piece (w := w) hA hs hd hok h
      have hBr : Below W.heap.size W wr := hB.trans ((hb1.trans (hbw.mono hb1.size)).mono hB.size)
      have hBl := hBr.size
      obtain ⟨y, hy⟩ : ∃ y, sval t.2.1 t.2.2 = y := ⟨_, rfl⟩
      obtain ⟨z, hz⟩ : ∃ z : Int, ((t.1 : Nat) : Int) = z := ⟨_, rfl⟩
      obtain ⟨q, hq⟩ : ∃ q, tokPos p b = q := ⟨_, rfl⟩
      obtain ⟨m, hm⟩ : ∃ m, t.2.2 = m := ⟨_, rfl⟩
      obtain ⟨n4, hn4⟩ : ∃ n4 : Int, nOf t = n4 := ⟨_, rfl⟩
      rw [hq, hm] at hml hnd
      rw [hm] at hm1
      rw [hq] at bl hpl hpp
      rw [hq, hy, hz, hm, hn4] at on
      clear hok hd hq hl0
      obtain ⟨q2, hq2⟩ : ∃ q2, q + m = q2 := ⟨_, rfl⟩
      rw [hq2] at hml hnd on
      have hne : ((q : Int) == (s.size : Int)) = false := by rw [beq_eq_false_iff_ne]; omega
      go_wp2_with (go_at_call 72; refine bl.mono ?_)
      try (rintro e w' ⟨rfl, rfl⟩)
      clear bl
      go_wp2_with (go_at_call 73; refine (on _ ?bel).mono ?_)
      case bel => repeat (first | exact hBr | refine Below.alloc ?_ (by first | omega | (simp; omega)) _)
      clear on
      rintro e w3 ⟨rfl, hk3⟩
      have hown3 : w3.ownsRow w1.heap.size 151 4 u4 done.length xs := ownsRow_at hown fun g hg => hk3.block g (hown.lt g hg).2
      have hbw3 : Below w1.heap.size w1 w3 := hbw.trans (hk3.mono hbw.size)
      have hs3 := hbw3.size
      clear hown hbw hk3 hBr hBl hB hA
      go_wp2_with (at_builtin; refine wpList_append_lies _ rfl (.tmp 48) (.tmp 50) 143 rfl w1.heap.size 151 i0 _ 4 40 Tryz.underlying143 hi hz0 hz1 hz2 rfl (by decide) u4 done.length xs rfl (by exact (hown3.alloc _).alloc _) ⟨w3.heap.size + 1, 0, none⟩ 1 1 [.int .i64 z, .string y, .int .i64 q, .int .i64 n4] rfl rfl (by exact fun j u hj => by have := news4 (w3.alloc (.cells #[.int .i64 z, .string y, .int .i64 q, .int .i64 n4] 151)) (.int .i64 z) (.string y) (.int .i64 q) (.int .i64 n4) 151 j u hj; simpa using this) (by intro u hu; simp at hu; rcases hu with rfl | rfl | rfl | rfl <;> rfl) (by decide) (by unfold maxLen; omega) (by omega) (by simp; omega) _ rfl ?_)
      intro g1 cap1 wn hown2 hgrow2 hat2 hlt2
      have hb2 : Below w1.heap.size w1 wn := below_gen hbw3 (((Below.refl _ w3).alloc (Nat.le_refl _) _).alloc (by simp) _) hown3 hgrow2
      have R : wn.ownsRow w1.heap.size 151 4 (.slice (some ⟨g1, 0, none⟩) (done.length + 1) cap1) (done ++ [t]).length (xs ++ [.int .i64 z, .string y, .int .i64 q, .int .i64 n4]) := by rw [List.length_append]; exact hown2
      have T : TokCells (xs ++ [.int .i64 z, .string y, .int .i64 q, .int .i64 n4]) (done ++ [t]) := by rw [← hy, ← hz, ← hn4]; exact htc.snoc t q
      clear hown2 hgrow2 hat2 hlt2 hown3 hbw3 hs3
      go_wp2
      go_roundw
      case rel => exact ⟨done ++ [t], rest, q2, _, by rw [List.append_assoc]; exact hdr, by simp, by omega, hnd, hokr, R, T, hb2⟩
      case measure => simp [Go.RowKit.intOf]; omega
end Go.Proofs.YtgpogeemhaiicaaGreatDoor
