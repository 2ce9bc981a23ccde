/- EarlyLabels: the checker at labels. No condition. -/
import Derived.Test.YtjkgefnlennbjaaGreatDoorEvUj
import Derived.Deep.AppendLies
import Derived.Deep.Upon
import Derived.Deep.CutRange
import Derived.Deep.CutBlock
set_option linter.all false
namespace Go.Proofs.YtjkgefnlennbjaaGreatDoor
open Go.Ev Go.RowKit
set_option maxHeartbeats 16000000
set_option maxRecDepth 100000

theorem news1U (w : World) (x : Value) (t : TypeId) : ∀ j u, [x][j]? = some u → (w.alloc (.cells #[x] t)).cell? ((⟨w.heap.size, 0, none⟩ : Addr).add j) = some u := by
  intro j u hj
  match j, hj with
  | 0, hj => simp at hj; subst hj; simp [Addr.add, World.cell?_alloc_at]
theorem und52 : Tryz.prog.underlying 52 = some (.slice 9) := by kernel_rfl
theorem run_append_nil (w : World) : Sem.run Tryz.prog (Builtin.append_ #[52, 52] 52 #[.slice none 0 0, .slice none 0 0]) w = .ok (.slice none 0 0) w := by
  obtain ⟨i0, hi, -, -, -⟩ := info_at (P := Tryz.prog) (t := 9) (z := .string ⟨#[]⟩) (s := 1) (b := 16) (by kernel_rfl) (by kernel_rfl) (by kernel_rfl)
  exact run_append_nothing w 52 52 52 9 i0 und52 hi none 0 0 (Nat.le_refl _) _ (Src.ofNil w und52 0)
theorem rowS_of {w : World} {cb base g cap : Nat} {xs : List ByteArray} (h : w.ownsRow base 9 1 (.slice (some ⟨g, 0, none⟩) xs.length cap) xs.length (xs.map Value.string)) (h0 : 0 < xs.length) (hb : cb < base) : RowS cb w (.slice (some ⟨g, 0, none⟩) xs.length cap) xs := by
  have hc : ∀ j x, xs[j]? = some x → w.cell? ⟨g, j, none⟩ = some (.string x) := fun j x hj => row_cell h rfl (by rw [List.getElem?_map, hj]; rfl)
  obtain ⟨-, h | ⟨g', cap', cur, hv, h1, h2, h3, h4, h5, h6⟩⟩ := h
  · cases h.1
  · cases hv
    exact .inr ⟨g, cap, rfl, h0, h3, (Array.getElem?_eq_some_iff.1 h2).1, by omega, hc⟩
theorem addr_add (gl j : Nat) : (⟨gl, 0, none⟩ : Addr).add j = ⟨gl, j, none⟩ := by unfold Addr.add; split <;> simp_all
/-- The place's copy. -/
def W1 (w : World) (lv av : Value) (k n : Nat) : World := ((w.alloc (.cells #[.bool false, .bool false, .bool false, .bool false, lv, av, .int .i64 (k : Int)] 54)).drewN n).alloc (.cells #[.bool false, .bool false, .bool false, .bool false, lv, av, .int .i64 (k : Int)] 54)
theorem W1_at (w : World) (lv av : Value) (k n : Nat) : Below w.heap.size w (W1 w lv av k n) ∧ PlcAt (W1 w lv av k n) w.heap.size lv av k ∧ PlcAt (W1 w lv av k n) (w.heap.size + 1) lv av k ∧ (W1 w lv av k n).heap.size = w.heap.size + 2 := by
  have b1 := below_alloc w (.cells #[.bool false, .bool false, .bool false, .bool false, lv, av, .int .i64 (k : Int)] 54)
  have b2 : Below w.heap.size w ((w.alloc (.cells #[.bool false, .bool false, .bool false, .bool false, lv, av, .int .i64 (k : Int)] 54)).drewN n) := ⟨b1.os, b1.tape, b1.output, b1.size, b1.block⟩
  have h1 : ((w.alloc (.cells #[.bool false, .bool false, .bool false, .bool false, lv, av, .int .i64 (k : Int)] 54)).drewN n).heap.size = w.heap.size + 1 := by show (w.alloc _).heap.size = _; simp
  refine ⟨b2.alloc (by omega) _, ?_, ?_, by unfold W1; rw [World.size_alloc, h1]⟩
  · show (W1 w lv av k n).heap[w.heap.size]? = _
    unfold W1
    rw [heap_alloc_old _ _ (by omega)]
    exact heap_alloc_new w _
  · show (W1 w lv av k n).heap[w.heap.size + 1]? = _
    unfold W1
    rw [← h1]
    exact heap_alloc_new _ _
theorem PlcAt.four {w : World} {b : Nat} {lv av : Value} {k : Nat} (h : PlcAt w b lv av k) : w.cell? ⟨b, 4, none⟩ = some lv ∧ w.frozen? ⟨b, 4, none⟩ = false ∧ w.cell? ⟨b, 5, none⟩ = some av ∧ w.frozen? ⟨b, 5, none⟩ = false := by
  unfold PlcAt at h
  simp [World.cell?, World.frozen?, h]
theorem PlcAt.set4 {w : World} {b : Nat} {lv av : Value} {k : Nat} (h : PlcAt w b lv av k) (v : Value) : PlcAt (w.setCell ⟨b, 4, none⟩ v) b v av k := set_blk h 4 v
theorem PlcAt.set5 {w : World} {b : Nat} {lv av : Value} {k : Nat} (h : PlcAt w b lv av k) (v : Value) : PlcAt (w.setCell ⟨b, 5, none⟩ v) b lv v k := set_blk h 5 v
theorem PlcAt.other {w : World} {b c o : Nat} {lv av v : Value} {k : Nat} (h : PlcAt w b lv av k) (hn : b ≠ c) : PlcAt (w.setCell ⟨c, o, none⟩ v) b lv av k := by
  unfold PlcAt
  rw [Below.heap_setCell w ⟨c, o, none⟩ v b hn]
  exact h
theorem RowS.set {cb : Nat} {w : World} {x v : Value} {xs : List ByteArray} {b o : Nat} (h : RowS cb w x xs) (hn : x.ownBlock ≠ some b) : RowS cb (w.setCell ⟨b, o, none⟩ v) x xs := by
  rcases h with h | ⟨g, cap, rfl, h2, h3, h4, h5, h6⟩
  · exact .inl h
  · refine .inr ⟨g, cap, rfl, h2, h3, by simp [World.setCell]; exact h4, h5, fun j x hj => ?_⟩
    rw [World.cell?_of_block (a := ⟨g, j, none⟩) (Below.heap_setCell w ⟨b, o, none⟩ v g (fun q => hn (by rw [show g = b from q]; rfl)))]
    exact h6 j x hj
theorem news_row {v : World} {gl : Nat} {L : List ByteArray} (l5 : ∀ j x, L[j]? = some x → v.cell? ⟨gl, j, none⟩ = some (.string x)) {j : Nat} {u : Value} (hj : (L.map Value.string)[j]? = some u) : v.cell? ((⟨gl, 0, none⟩ : Addr).add j) = some u := by
  rw [List.getElem?_map] at hj
  cases hq : L[j]? with
  | none => rw [hq] at hj; cases hj
  | some x =>
    rw [hq] at hj
    simp only [Option.map_some, Option.some.injEq] at hj
    subst hj
    have := l5 j x hq
    rw [show (⟨gl, 0, none⟩ : Addr).add j = ⟨gl, j, none⟩ by unfold Addr.add; split <;> simp_all]
    exact this
theorem PlcAt.same {w w' : World} {b : Nat} {lv av : Value} {k : Nat} (h : PlcAt w b lv av k) (hw : w'.heap[b]? = w.heap[b]?) : PlcAt w' b lv av k := by unfold PlcAt; rw [hw]; exact h
/-- While the place of what stands within is made. -/
structure Mid (cb : Nat) (w wx : World) (lv av v1 v2 : Value) (L A L1 A1 : List ByteArray) (k : Nat) : Prop where
  b : Below w.heap.size w wx
  sz : w.heap.size + 2 ≤ wx.heap.size
  pA : PlcAt wx w.heap.size lv av k
  pB : PlcAt wx (w.heap.size + 1) v1 v2 k
  rl : RowS cb wx lv L
  ra : RowS cb wx av A
  r1 : RowS cb wx v1 L1
  r2 : RowS cb wx v2 A1
theorem RowS.other {cb : Nat} {w w' wn : World} {x : Value} {xs : List ByteArray} (h : RowS cb w x xs) (b : Below w.heap.size w wn) (hs : w'.heap.size = wn.heap.size) (hb : ∀ g, g < w.heap.size → x.ownBlock = some g → w'.heap[g]? = wn.heap[g]?) : RowS cb w' x xs := by
  rcases h with h | ⟨g, cap, rfl, h2, h3, h4, h5, h6⟩
  · exact .inl h
  · refine .inr ⟨g, cap, rfl, h2, h3, by rw [hs]; exact Nat.lt_of_lt_of_le h4 b.size, h5, fun j x hj => ?_⟩
    rw [World.cell?_of_block (a := ⟨g, j, none⟩) ((hb g h4 rfl).trans (b.block g h4))]
    exact h6 j x hj
section
variable {cb k : Nat} {w v wn : World} {lv av v1 v2 x : Value} {L A L1 A1 X : List ByteArray} {g2 cap2 : Nat} {s : ByteArray}
/-- No row of the labels lies in the place's block. -/
theorem Mid.far (hm : Mid cb w v lv av v1 v2 L A L1 A1 k) {y : Value} {Y : List ByteArray} (h : RowS cb v y Y) : y.ownBlock ≠ some (w.heap.size + 1) := by
  intro q
  rcases h with ⟨-, rfl⟩ | ⟨g, cap, rfl, h2, h3, h4, h5, h6⟩
  · cases q
  · simp only [Value.ownBlock, Option.some.injEq] at q
    cases Y with
    | nil => simp at h2
    | cons y ys =>
      have h0 := h6 0 y rfl
      have p := hm.pB
      unfold PlcAt at p
      rw [q] at h0
      simp [World.cell?, p] at h0
theorem mid_end4 (hm : Mid cb w v lv av v1 v2 L A L1 A1 k) (bn : Below v.heap.size v wn) (hg : w.heap.size + 2 ≤ g2) (R0 : RowS cb wn (.slice (some ⟨g2, 0, none⟩) (X.length + 1) cap2) (X ++ [s])) : ∃ y, Mid cb w (wn.setCell ⟨w.heap.size + 1, 4, none⟩ (.slice (some ⟨g2, 0, none⟩) (X.length + 1) cap2)) lv av y v2 L A (X ++ [s]) A1 k := by
  have hs : (wn.setCell ⟨w.heap.size + 1, 4, none⟩ (.slice (some ⟨g2, 0, none⟩) (X.length + 1) cap2)).heap.size = wn.heap.size := by simp [World.setCell]
  have hz := hm.sz
  have keep : ∀ {y : Value} {Y : List ByteArray}, RowS cb v y Y → RowS cb (wn.setCell ⟨w.heap.size + 1, 4, none⟩ (.slice (some ⟨g2, 0, none⟩) (X.length + 1) cap2)) y Y := fun {y Y} h => h.other bn hs (fun g hg' hq => Below.heap_setCell wn ⟨w.heap.size + 1, 4, none⟩ _ g (fun q => hm.far h (by rw [hq]; exact congrArg some q)))
  have pA : PlcAt wn w.heap.size lv av k := by unfold PlcAt; rw [bn.block _ (by omega)]; exact hm.pA
  have pB : PlcAt wn (w.heap.size + 1) v1 v2 k := by unfold PlcAt; rw [bn.block _ (by omega)]; exact hm.pB
  exact ⟨_, (hm.b.trans (bn.mono hm.b.size)).setCell (p := ⟨w.heap.size + 1, 4, none⟩) (by show _ ≤ w.heap.size + 1; omega) _, by rw [hs]; have := bn.size; omega, pA.other (by omega), pB.set4 _, keep hm.rl, keep hm.ra, R0.set (fun q => by simp only [Value.ownBlock, Option.some.injEq] at q; omega), keep hm.r2⟩
theorem mid_end5 (hm : Mid cb w v lv av v1 v2 L A L1 A1 k) (bn : Below v.heap.size v wn) (hg : w.heap.size + 2 ≤ g2) (R0 : RowS cb wn (.slice (some ⟨g2, 0, none⟩) (X.length + 1) cap2) (X ++ [s])) : ∃ y, Mid cb w (wn.setCell ⟨w.heap.size + 1, 5, none⟩ (.slice (some ⟨g2, 0, none⟩) (X.length + 1) cap2)) lv av v1 y L A L1 (X ++ [s]) k := by
  have hs : (wn.setCell ⟨w.heap.size + 1, 5, none⟩ (.slice (some ⟨g2, 0, none⟩) (X.length + 1) cap2)).heap.size = wn.heap.size := by simp [World.setCell]
  have hz := hm.sz
  have keep : ∀ {y : Value} {Y : List ByteArray}, RowS cb v y Y → RowS cb (wn.setCell ⟨w.heap.size + 1, 5, none⟩ (.slice (some ⟨g2, 0, none⟩) (X.length + 1) cap2)) y Y := fun {y Y} h => h.other bn hs (fun g hg' hq => Below.heap_setCell wn ⟨w.heap.size + 1, 5, none⟩ _ g (fun q => hm.far h (by rw [hq]; exact congrArg some q)))
  have pA : PlcAt wn w.heap.size lv av k := by unfold PlcAt; rw [bn.block _ (by omega)]; exact hm.pA
  have pB : PlcAt wn (w.heap.size + 1) v1 v2 k := by unfold PlcAt; rw [bn.block _ (by omega)]; exact hm.pB
  exact ⟨_, (hm.b.trans (bn.mono hm.b.size)).setCell (p := ⟨w.heap.size + 1, 5, none⟩) (by show _ ≤ w.heap.size + 1; omega) _, by rw [hs]; have := bn.size; omega, pA.other (by omega), pB.set5 _, keep hm.rl, keep hm.ra, keep hm.r1, R0.set (fun q => by simp only [Value.ownBlock, Option.some.injEq] at q; omega)⟩
end
theorem label_7 {kd : Nat} {s s1 : ByteArray} {ks1 : List Tr} {L A : List ByteArray} {k : Nat} {f : Bool} (N : NodeOk (.mk kd s1 ks1) (L ++ [s]) A k f) (hkd : kd = 7) (hnew : s ∉ L) (hL : L.length ≤ 30) (hA : A.length ≤ 30) {w : World} {cb base : Nat} {a : Addr} {lv av : Value} {bad : Bool} (hc : CkAt cb bad w) (ht : TrAt base cb w (.mk 19 s [.mk kd s1 ks1]) a) (hl : RowS cb w lv L) (ha : RowS cb w av A) :
    Calls Tryz.prog 59 #[.pointer (some ⟨cb, 0, none⟩), .pointer (some a), plc lv av k] w fun e w' => e = .returned (.tuple #[]) ∧ CkAt cb (bad || f) w' ∧ Pk cb w w' := by
  obtain ⟨i0, hi, hz0, hz1, hz2⟩ := info_at (P := Tryz.prog) (t := 9) (z := .string ⟨#[]⟩) (s := 1) (b := 16) (by kernel_rfl) (by kernel_rfl) (by kernel_rfl)
  have hcl := hc.lt
  obtain ⟨nb, no, g, go, cap, b1, rfl, c0, cs, c5, cg1, tb1, h1, h2, h3, h4, -⟩ := ht.first
  have al1 := below_alloc w (.cells #[.bool false, .bool false, .bool false, .bool false, lv, av, .int .i64 (k : Int)] 54)
  have cs0 : (w.alloc (.cells #[.bool false, .bool false, .bool false, .bool false, lv, av, .int .i64 (k : Int)] 54)).cell? ⟨nb, no + 2, none⟩ = some (.string s) := (World.cell?_of_block (a := ⟨nb, no + 2, none⟩) (al1.block nb h1)).trans cs
  have H : ∀ n, Calls Tryz.prog 60 #[lv, .string s] ((w.alloc (.cells #[.bool false, .bool false, .bool false, .bool false, lv, av, .int .i64 (k : Int)] 54)).drewN n) fun e w' => e = .returned (.bool false) ∧ w' = (w.alloc (.cells #[.bool false, .bool false, .bool false, .bool false, lv, av, .int .i64 (k : Int)] 54)).drewN n := fun n => has_walk (w := (w.alloc (.cells #[.bool false, .bool false, .bool false, .bool false, lv, av, .int .i64 (k : Int)] 54)).drewN n) (hl.keep (Pk.below (pb := cb) ⟨al1.os, al1.tape, al1.output, al1.size, al1.block⟩)) (by omega) s false (by simpa using hnew)
  have hp0 : PlcAt (w.alloc (.cells #[.bool false, .bool false, .bool false, .bool false, lv, av, .int .i64 (k : Int)] 54)) w.heap.size lv av k := plc_new w lv av k
  obtain ⟨x0, x1, x2, x3, x4, x5, x6⟩ := hp0.cells
  have hm0 : ∀ n, Mid cb w (W1 w lv av k n) lv av lv av L A L A k := fun n => by
    obtain ⟨kb, qA, qB, qz⟩ := W1_at w lv av k n
    have kk := Pk.below (pb := cb) kb
    exact ⟨kb, by omega, qA, qB, hl.keep kk, ha.keep kk, hl.keep kk, ha.keep kk⟩
  obtain ⟨lp, ln, lc, rfl⟩ := hl.shape
  obtain ⟨ap, an, ac, rfl⟩ := ha.shape
  have hnil := run_append_nil
  unfold plc
  clear hp0 al1
  go_enter Tryz.func59, Tryz.ntmps59
  go_wp2
  go_quiet ((go_at_call 60; exact Calls.quiet_of_same (H _)))
  clear H cs0
  go_upto_region 4 with fail
  clear x0 x1 x2 x3 x4 x5 x6
  have hm0' := hm0 nq
  clear hm0
  unfold W1 at hm0'
  generalize ((w.alloc (.cells #[.bool false, .bool false, .bool false, .bool false, .slice lp ln lc, .slice ap an ac, .int .i64 (k : Int)] 54)).drewN nq).alloc (.cells #[.bool false, .bool false, .bool false, .bool false, .slice lp ln lc, .slice ap an ac, .int .i64 (k : Int)] 54) = v at hm0' ⊢
  have hm0 := hm0'
  clear hm0'
  go_cut [] from 8 to 73 (fun wx => ∃ y, Mid cb w wx (.slice lp ln lc) (.slice ap an ac) y (.slice ap an ac) L A (L ++ [s]) A k)
  case first =>
    have hm := hm0
    clear hm0
    have hrow := hm.rl
    have hmb := hm.b
    have hmz := hm.sz
    have pB := hm.pB
    have cs' : v.cell? ⟨nb, no + 2, none⟩ = some (.string s) := (World.cell?_of_block (a := ⟨nb, no + 2, none⟩) (hmb.block nb h1)).trans cs
    have y4' : v.cell? ⟨w.heap.size, 4, none⟩ = some (.slice lp ln lc) := hm.pA.four.1
    have h1' : nb < v.heap.size := by omega
    have hnw : (v.alloc (.cells #[.string s] 9)).cell? ⟨v.heap.size, 0, none⟩ = some (.string s) := newsA v _ 9
    have ya : (v.alloc (.cells #[.string s] 9)).cell? ⟨w.heap.size, 4, none⟩ = some (.slice lp ln lc) := (World.cell?_of_block (a := ⟨w.heap.size, 4, none⟩) (heap_alloc_old v _ (by show w.heap.size < v.heap.size; omega))).trans y4'
    have ys : w.heap.size < v.heap.size := by omega
    have yn : ¬ w.heap.size = v.heap.size := by omega
    rcases hrow with ⟨rfl, hrow⟩ | ⟨gl, capl, hrow, l1, l2, l3, l4, l5⟩
    · cases hrow
      go_region_law (first
        | (refine step_append_lies _ rfl (.tmp 21) (.tmp 26) 52 rfl w.heap.size 9 i0 (.string ⟨#[]⟩) 1 16 und52 hi hz0 hz1 hz2 rfl (by decide) (.slice none 0 0) 0 [] rfl (World.ownsRow_nil _ _ _ _) ⟨v.heap.size, 0, none⟩ 1 1 [.string s] rfl rfl (fun j u hj => by match j, hj with | 0, hj => simp at hj; subst hj; exact hnw) (by intro u hu; simp at hu; subst hu; rfl) (by decide) (by decide) (by decide) (by show _ ≤ (v.alloc _).heap.size; simp; omega) _ rfl ?_; intro g2 cap2 wn hown2 hgrow2 hat2 hlt2; have bn : Below v.heap.size v wn := (((Below.refl _ v).alloc (Nat.le_refl _) (.cells #[.string s] 9)).drew).grown hgrow2 (by simp) (fun k hk => by cases hk); have pBn := pB.same (bn.block _ (by omega)); obtain ⟨u4, uf, -, -⟩ := pBn.four)
        | go_simp)
      all_goals
        have hgs : v.heap.size ≤ g2 := by
          have q : g2 = (v.alloc (.cells #[.string s] 9)).heap.size := hat2.resolve_left (fun q => by cases q)
          have : (v.alloc (.cells #[.string s] 9)).heap.size = v.heap.size + 1 := by simp
          omega
        have R0 : RowS cb wn (.slice (some ⟨g2, 0, none⟩) ([] ++ [s]).length cap2) ([] ++ [s]) := rowS_of (base := w.heap.size) (by simpa using hown2) (by simp) hcl
        go_wp2
        go_meet
        case rel => simpa using mid_end4 (X := []) (s := s) (g2 := g2) (cap2 := cap2) hm bn (by omega) (by simpa using R0)
    · cases hrow
      have nl : ∀ j u, (L.map Value.string)[j]? = some u → v.cell? ((⟨gl, 0, none⟩ : Addr).add j) = some u := fun j u hj => news_row l5 hj
      have nl2 : ∀ j u, (L.map Value.string)[j]? = some u → (v.alloc (.cells #[.string s] 9)).cell? ((⟨gl, 0, none⟩ : Addr).add j) = some u := fun j u hj => by
        have e := addr_add gl j
        have := nl j u hj
        rw [e] at this ⊢
        rw [← this]
        exact World.cell?_of_block (a := ⟨gl, j, none⟩) (heap_alloc_old v _ l3)
      have one : ∀ u ∈ L.map Value.string, u.oneCell' = true := fun u hu => by
        obtain ⟨x, -, rfl⟩ := List.mem_map.1 hu
        rfl
      have hmx : L.length ≤ maxLen := by unfold maxLen; omega
      go_region_law (first
        | (refine step_append_lies _ rfl (.const (.slice none 0 0)) (.tmp 20) 52 rfl w.heap.size 9 i0 (.string ⟨#[]⟩) 1 16 und52 hi hz0 hz1 hz2 rfl (by decide) (.slice none 0 0) 0 [] rfl (World.ownsRow_nil _ _ _ _) ⟨gl, 0, none⟩ L.length lc (L.map Value.string) rfl (by simp) (by exact nl) one l1 (by omega) (by omega) (by show _ ≤ v.heap.size; omega) _ rfl ?_; intro g1 cap1 w1n hown1 hgrow1 hat1 hlt1; have hown1' : w1n.ownsRow w.heap.size 9 1 (.slice (some ⟨g1, 0, none⟩) L.length cap1) L.length (L.map Value.string) := (by simpa using hown1); have bn1 : Below v.heap.size v w1n := (((Below.refl _ v).drew).grown hgrow1 (Nat.le_refl _) (fun k hk => by cases hk)); have hg1 : v.heap.size ≤ g1 := (by have q : g1 = v.heap.size := hat1.resolve_left (fun q => by cases q); omega); have cs1 := (World.cell?_of_block (a := ⟨nb, no + 2, none⟩) (bn1.block nb h1')).trans cs'; have hs1 := bn1.size)
        | (refine step_append_lies _ rfl (.tmp 21) (.tmp 26) 52 rfl w.heap.size 9 i0 (.string ⟨#[]⟩) 1 16 und52 hi hz0 hz1 hz2 rfl (by decide) (.slice (some ⟨g1, 0, none⟩) L.length cap1) L.length (L.map Value.string) rfl (by exact hown1'.alloc _) ⟨w1n.heap.size, 0, none⟩ 1 1 [.string s] rfl rfl (by exact news1U w1n _ 9) (by intro u hu; simp at hu; subst hu; rfl) (by decide) (by unfold maxLen; omega) (by omega) (by simp; omega) _ rfl ?_; intro g2 cap2 wn hown2 hgrow2 hat2 hlt2; have bn : Below v.heap.size v wn := (bn1.alloc hs1 (.cells #[.string s] 9)).grown hgrow2 (by simp; omega) (fun k hk => by simp only [Value.ownBlock, Option.some.injEq] at hk; omega); have pBn := pB.same (bn.block _ (by omega)); obtain ⟨u4, uf, -, -⟩ := pBn.four)
        | (refine step_append_lies _ rfl (.const (.slice none 0 0)) (.tmp 20) 52 rfl w.heap.size 9 i0 (.string ⟨#[]⟩) 1 16 und52 hi hz0 hz1 hz2 rfl (by decide) (.slice none 0 0) 0 [] rfl (World.ownsRow_nil _ _ _ _) ⟨gl, 0, none⟩ L.length lc (L.map Value.string) rfl (by simp) (by exact nl2) one l1 (by omega) (by omega) (by show _ ≤ (v.alloc _).heap.size; simp; omega) _ rfl ?_; intro g1 cap1 w1n hown1 hgrow1 hat1 hlt1; have hown1' : w1n.ownsRow w.heap.size 9 1 (.slice (some ⟨g1, 0, none⟩) L.length cap1) L.length (L.map Value.string) := (by simpa using hown1); have bn1 : Below v.heap.size v w1n := (((Below.refl _ v).alloc (Nat.le_refl _) (.cells #[.string s] 9)).drew).grown hgrow1 (by simp) (fun k hk => by cases hk); have hsa : (v.alloc (.cells #[.string s] 9)).heap.size = v.heap.size + 1 := (by simp); have hg1 : v.heap.size ≤ g1 := (by have q : g1 = (v.alloc (.cells #[.string s] 9)).heap.size := hat1.resolve_left (fun q => by cases q); omega); have hnw1 : w1n.cell? ⟨v.heap.size, 0, none⟩ = some (.string s) := (World.cell?_of_block (a := ⟨v.heap.size, 0, none⟩) (hgrow1.block v.heap.size (by show _ < (v.alloc (.cells #[.string s] 9)).heap.size; omega) (fun q => by cases q))).trans hnw; have hs1 := bn1.size)
        | (refine step_append_lies _ rfl (.tmp 21) (.tmp 26) 52 rfl w.heap.size 9 i0 (.string ⟨#[]⟩) 1 16 und52 hi hz0 hz1 hz2 rfl (by decide) (.slice (some ⟨g1, 0, none⟩) L.length cap1) L.length (L.map Value.string) rfl (by exact hown1') ⟨v.heap.size, 0, none⟩ 1 1 [.string s] rfl rfl (fun j u hj => by match j, hj with | 0, hj => simp at hj; subst hj; exact hnw1) (by intro u hu; simp at hu; subst hu; rfl) (by decide) (by unfold maxLen; omega) (by omega) (by omega) _ rfl ?_; intro g2 cap2 wn hown2 hgrow2 hat2 hlt2; have bn : Below v.heap.size v wn := bn1.grown hgrow2 hs1 (fun k hk => by simp only [Value.ownBlock, Option.some.injEq] at hk; omega); have pBn := pB.same (bn.block _ (by omega)); obtain ⟨u4, uf, -, -⟩ := pBn.four)
        | go_simp)
      all_goals
        have hgs : v.heap.size ≤ g2 := by
          rcases hat2 with q | q
          · simp only [Value.ownBlock, Option.some.injEq] at q; omega
          · first
              | (have : (w1n.alloc (.cells #[.string s] 9)).heap.size = w1n.heap.size + 1 := (by simp); omega)
              | omega
        have R0 : RowS cb wn (.slice (some ⟨g2, 0, none⟩) (L ++ [s]).length cap2) (L ++ [s]) := rowS_of (base := w.heap.size) (by simpa using hown2) (by simp) hcl
        go_wp2
        go_meet
        case rel => simpa using mid_end4 (X := L) (s := s) (g2 := g2) (cap2 := cap2) hm bn (by omega) (by simpa using R0)
  case rest =>
    obtain ⟨y, hm⟩ := hcut
    obtain ⟨yp, yn, yc, rfl⟩ := hm.r1.shape
    clear hm0
    have hmb := hm.b
    have hmz := hm.sz
    have kc : Pk cb w wc := Pk.below hmb
    have d5 : wc.cell? ⟨nb, no + 5, none⟩ = some (.slice (some ⟨g, go, none⟩) 1 cap) := (kc.cellU (o := no + 5) h1 h2).trans c5
    have dg := (kc.cellU (o := go) h3 h4).trans cg1
    have tb := TrAt.keep (kc.b base) (Nat.le_refl _) _ _ tb1
    obtain ⟨nb1, no1, rfl, m1, m2, m0, -, -⟩ := tb.kind
    subst hkd
    have C := N wc.drew cb base ⟨nb1, no1, none⟩ (.slice yp yn yc) (.slice ap an ac) bad ((hc.keep (hm.b.block cb hcl) : CkAt cb bad wc)) (TrAt.keep ((Pk.below (pb := cb) (Below.refl _ wc).drew).b base) (Nat.le_refl _) _ _ tb) (hm.r1.keep (Pk.below (pb := cb) (Below.refl _ wc).drew)) (hm.r2.keep (Pk.below (pb := cb) (Below.refl _ wc).drew))
    unfold plc at C
    have pB : PlcAt wc.drew (w.heap.size + 1) (.slice yp yn yc) (.slice ap an ac) k := hm.pB
    obtain ⟨e0, e1, e2, e3, e4, e5, e6⟩ := pB.cells
    have d5d : wc.drew.cell? ⟨nb, no + 5, none⟩ = some (.slice (some ⟨g, go, none⟩) 1 cap) := d5
    have dgd : wc.drew.cell? ⟨g, go, none⟩ = some (.pointer (some ⟨nb1, no1, none⟩)) := dg
    have d5d' : wc.cell? ⟨nb, no + 5, none⟩ = some (.slice (some ⟨g, go, none⟩) 1 cap) := d5
    have dgd' : wc.cell? ⟨g, go, none⟩ = some (.pointer (some ⟨nb1, no1, none⟩)) := dg
    have m0' : wc.cell? ⟨nb1, no1, none⟩ = some (.int .i64 7) := m0
    clear N pB tb hm m0 hmb
    go_wp2
    refine wp_loop_rounds 1 ?_
    rw [rounds_succ]
    go_wp2
    go_region_law (go_simp; go_at_call 25; refine C.mono ?_; rintro e w7 ⟨rfl, hc7, k7⟩)
    all_goals
      go_wp2
      go_end0
      exact ⟨rfl, hc7, (kc).trans ⟨k7.os, k7.tape, k7.output, k7.size, k7.block⟩⟩
end Go.Proofs.YtjkgefnlennbjaaGreatDoor
