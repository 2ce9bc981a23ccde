/- ParseLists: a call, by the parser. No condition. -/
import Derived.Test.YtcaomilekhhhlaaDoorEvQn
namespace Go.Proofs.YtcaomilekhhhlaaDoor
open Go.Ev Go.RowKit
set_option maxHeartbeats 16000000
set_option maxRecDepth 1000000

theorem u12 : boolC 8 [.ptr 20 0] 12 3 0 true = true := by decide +kernel
theorem u12t : tokC 9 [.ptr 20 0] 12 3 = true := by decide +kernel
theorem u12a : boolC 31 [.ptr 20 0, .str 46 1] 12 3 0 false = true := by decide +kernel
theorem u12b : boolC 31 [.ptr 20 0, .str 91 1] 12 3 0 false = true := by decide +kernel
theorem u12c : boolC 31 [.ptr 20 0, .str 40 1] 12 3 1 true = true := by decide +kernel
theorem u10 : boolC 8 [.ptr 20 0] 10 3 0 true = true := by decide +kernel
theorem u10t : tokC 9 [.ptr 20 0] 10 3 = true := by decide +kernel
theorem u10a : boolC 31 [.ptr 20 0, .str 46 1] 10 3 0 false = true := by decide +kernel
theorem u10b : boolC 31 [.ptr 20 0, .str 91 1] 10 3 0 false = true := by decide +kernel
theorem u10c : boolC 31 [.ptr 20 0, .str 40 1] 10 3 0 false = true := by decide +kernel
theorem Pf.still {W w w' : World} {pb tb len cap j d : Nat} {T : List Tok} (h : Pf W w pb tb len cap j d T) (hk : Below w.heap.size w w') : Pf W w' pb tb len cap j d T :=
  h.row hk (by obtain ⟨x, hx⟩ := h.hp.blk; exact (Array.getElem?_eq_some_iff.1 hx).1) h.htb h.hB.size
theorem ArgEnd.still {W w w' : World} {pb tb len cap j0 : Nat} {T : List Tok} {l : List Bool} {dr : Bool} (h : ArgEnd W w pb tb len cap j0 T l dr) (hk : Below w.heap.size w w') : ArgEnd W w' pb tb len cap j0 T l dr := by
  rcases h with ⟨h1, h2⟩ | ⟨h1, j, h2, h3, h4⟩
  · exact .inl ⟨h1, h2.still hk⟩
  · exact .inr ⟨h1, j, h2, h3, h4.still hk⟩
theorem ArgEnd.row {W w w' : World} {pb tb len cap j0 B : Nat} {T : List Tok} {l : List Bool} {dr : Bool} (h : ArgEnd W w pb tb len cap j0 T l dr) (hk : Below B w w') (hpB : pb < B) (htB : tb < B) (hWB : W.heap.size ≤ B) : ArgEnd W w' pb tb len cap j0 T l dr := by
  rcases h with ⟨h1, h2⟩ | ⟨h1, j, h2, h3, h4⟩
  · exact .inl ⟨h1, h2.row hk hpB htB hWB⟩
  · exact .inr ⟨h1, j, h2, h3, h4.row hk hpB htB hWB⟩
theorem own_one (w : World) (base : Nat) (hb : base ≤ w.heap.size) (x : Value) : (w.alloc (.cells #[x] 24)).ownsRow base 24 1 (.slice (some ⟨w.heap.size, 0, none⟩) 1 1) 1 [x] :=
  ⟨rfl, .inr ⟨w.heap.size, 1, #[x], rfl, hb, heap_alloc_new w _, Nat.le_refl _, by decide, rfl, rfl⟩⟩
theorem suffix_walk {W w0 : World} {pb tb len cap : Nat} {T suf : List Tok} (h0 : Ps W w0 pb tb len cap 1 3 T) (l0 : List Bool) (dr : Bool) (hT : T = (1, 102, 1) :: (5, 40, 1) :: (toks l0 dr ++ ((5, 41, 1) :: (5, 59, 1) :: (0, 0, 0) :: suf))) (hl : l0.length ≤ 100) (a : Addr) :
    Calls Tryd.prog 59 #[.pointer (some ⟨pb, 0, none⟩), .pointer (some a), .bool true] w0 fun e w' => ∃ a', e = .returned (.pointer (some a')) ∧ ArgEnd W w' pb tb len cap 2 T l0 dr ∧ Pk pb w0 w' := by
  have hw : WinAt T 1 12 := win_mid (pre := [(1, 102, 1)]) (win := [(5, 40, 1)]) (rest := toks l0 dr ++ ((5, 41, 1) :: (5, 59, 1) :: (0, 0, 0) :: suf)) (by rw [hT]; rfl) rfl rfl
  have htl := toks_len l0 dr
  obtain ⟨M, hM⟩ : ∃ M, (toks l0 dr).length = M := ⟨_, rfl⟩
  have hwE : WinAt T (2 + M + 1) 10 := win_mid (pre := (1, 102, 1) :: (5, 40, 1) :: (toks l0 dr ++ [(5, 41, 1)])) (win := [(5, 59, 1), (0, 0, 0)]) (rest := suf) (by rw [hT]; simp) (by simp [hM]; omega) rfl
  go_enter Tryd.func59, Tryd.ntmps59
  go_wp2
  refine wp_loop_rounds 2 ?_
  rw [rounds_succ]
  go_wp2_with (go_at_call 8; refine (bool1 u12 rfl (by decide) h0 hw (by omega)).mono ?_)
  rintro e w1 ⟨rfl, p1, k1⟩
  go_wp2_with (go_at_call 9; refine (tok1 u12t rfl (by decide) p1 hw (by omega)).mono ?_)
  rintro e w2 ⟨⟨y0, y1, y3, x, rfl⟩, p2, k2⟩
  have hfd := field_at w2 y0 y1 x y3
  go_wp2_with (first | (go_at_call_of 31 (Value.string { data := #[46] }); refine (bool2 u12a rfl (by decide) (by decide) p2 hw (by omega)).mono ?_) | (go_at_call 31; refine (bool2 u12a rfl (by decide) (by decide) p2 hw (by omega)).mono ?_))
  rintro e w3 ⟨rfl, p3, k3⟩
  clear hfd
  go_wp2_with (go_at_call 31; refine (bool2 u12b rfl (by decide) (by decide) p3 hw (by omega)).mono ?_)
  rintro e w4 ⟨rfl, p4, k4⟩
  go_wp2_with (go_at_call 31; refine (bool2 u12c rfl (by decide) (by decide) p4 hw (by omega)).mono ?_)
  rintro e w5 ⟨rfl, p5, k5⟩
  have k15 := (((k1.trans k2).trans k3).trans k4).trans k5
  clear p1 p2 p3 p4 k1 k2 k3 k4 k5
  have hpB : pb < w0.heap.size := (Array.getElem?_eq_some_iff.1 h0.hp.blk).1
  have htB := h0.htb
  have hWB := h0.hB.size
  obtain ⟨i0, hi, hz0, hz1, hz2⟩ := info_at (P := Tryd.prog) (t := 24) (z := .pointer none) (s := 1) (b := 8) (by kernel_rfl) (by kernel_rfl) (by kernel_rfl)
  have s15 := k15.size
  have al : Below w5.heap.size w5 (w5.alloc (.cells #[.pointer (some a)] 24)) := (Below.refl _ w5).alloc (Nat.le_refl _) _
  have p6 := p5.still al
  have o6 := own_one w5 w0.heap.size s15 (.pointer (some a))
  have kp6 := k15.trans (Pk.below al)
  obtain ⟨w6, hw6⟩ : ∃ w6, w5.alloc (.cells #[.pointer (some a)] 24) = w6 := ⟨_, rfl⟩
  obtain ⟨g6, hg6⟩ : ∃ g6, w5.heap.size = g6 := ⟨_, rfl⟩
  rw [hw6] at p6 o6 kp6
  rw [hg6] at o6
  have ar := args_walk (j0 := 2) p6 l0 dr [(1, 102, 1), (5, 40, 1)] ((5, 59, 1) :: (0, 0, 0) :: suf) (by rw [hT]; rfl) rfl hl (by omega)
  clear al k15 p5
  go_wp2_with (go_at_call 81; refine ar.mono ?_)
  rintro e w7 ⟨v, n, xs, rfl, hn, ho, hz, hx, hE, k7⟩
  have g60 : w0.heap.size ≤ g6 := by omega
  have g6l : g6 < w6.heap.size := by rw [← hw6, ← hg6]; simp
  have o7 : w7.ownsRow w0.heap.size 24 1 (.slice (some ⟨g6, 0, none⟩) 1 1) 1 [.pointer (some a)] := ownsRow_at o6 (fun g hg => by
    simp only [Value.ownBlock, Option.some.injEq] at hg
    subst hg
    exact k7.block g6 g6l (by omega))
  have kp7 := kp6.trans k7
  clear o6 kp6 k7 ar p6 hw6 hg6 s15
  rcases Nat.eq_zero_or_pos n with hn0 | hn0
  · rw [hz hn0]
    go_wp2_with (go_at_call 7; refine (make_walk _ _ _ _ _ ⟨_, _, _, rfl⟩).mono ?_)
    rintro e w' ⟨rfl, rfl⟩
    go_wp2
    generalize hw9 : w7.alloc (Obj.cells #[Value.int IntKind.i64 50, Value.int IntKind.i64 x, Value.string { data := #[] }, Value.int IntKind.i64 0, Value.int IntKind.i64 0, Value.slice (some { block := g6, off := 0 }) 1 1] 32) = w9
    have al9 : Below w7.heap.size w7 w9 := by rw [← hw9]; exact (Below.refl _ w7).alloc (Nat.le_refl _) _
    have hE9 := hE.still al9
    have kp9 := kp7.trans (Pk.below al9)
    clear hw9 al9 hE kp7
    rw [rounds_succ]
    rcases hE9 with ⟨h1, p9⟩ | ⟨h1, j, h2, h3, p9⟩
    · rw [hM] at p9
      go_wp2_with (go_at_call 8; refine (bool1 u10 rfl (by decide) p9 hwE (by omega)).mono ?_)
      rintro e q1 ⟨rfl, p1, k1⟩
      go_wp2_with (go_at_call 9; refine (tok1 u10t rfl (by decide) p1 hwE (by omega)).mono ?_)
      rintro e q2 ⟨⟨z0, z1, z3, x2, rfl⟩, p2, k2⟩
      have hfd := field_at q2 z0 z1 x2 z3
      go_wp2_with (go_at_call 31; refine (bool2 u10a rfl (by decide) (by decide) p2 hwE (by omega)).mono ?_)
      rintro e q3 ⟨rfl, p3, k3⟩
      clear hfd
      go_wp2_with (go_at_call 31; refine (bool2 u10b rfl (by decide) (by decide) p3 hwE (by omega)).mono ?_)
      rintro e q4 ⟨rfl, p4, k4⟩
      go_wp2_with (go_at_call 31; refine (bool2 u10c rfl (by decide) (by decide) p4 hwE (by omega)).mono ?_)
      rintro e q5 ⟨rfl, p5, k5⟩
      go_wp2
      go_ret
      exact ⟨_, rfl, .inl ⟨h1, by rw [hM]; exact p5⟩, ((((kp9.trans k1).trans k2).trans k3).trans k4).trans k5⟩
    · go_wp2_with (go_at_call 8; refine (boolF1 okF rfl (by decide) p9 h3 h2).mono ?_)
      rintro e q1 ⟨rfl, p1, k1⟩
      go_wp2
      go_ret
      exact ⟨_, rfl, .inr ⟨h1, j, h2, h3, p1⟩, kp9.trans k1⟩
  · obtain ⟨g, cap, rfl⟩ : ∃ g cap, v = .slice (some ⟨g, 0, none⟩) n cap := by
      rcases ho.2 with ⟨_, h⟩ | ⟨g, cap, cur, h, _⟩
      · omega
      · exact ⟨g, cap, h⟩
    have news : ∀ (q : Nat) (u : Value), xs[q]? = some u → w7.cell? ((⟨g, 0, none⟩ : Addr).add q) = some u := fun q u hq => by
      have hadd : (⟨g, 0, none⟩ : Addr).add q = ⟨g, q, none⟩ := by unfold Addr.add; split <;> simp_all
      rw [hadd]
      exact row_cell ho rfl hq
    have hone : ∀ u ∈ xs, u.oneCell' = true := fun u hu => by
      obtain ⟨b, rfl⟩ := hx u hu
      rfl
    have hlen := ho.1
    go_wp2_with (first | (at_builtin; refine wpList_append_lies _ rfl (.tmp 44) (.tmp 46) 30 rfl w0.heap.size 24 i0 (.pointer none) 1 8 Tryd.underlying30 hi hz0 hz1 hz2 rfl (by decide) (.slice (some ⟨g6, 0, none⟩) 1 1) 1 [.pointer (some a)] rfl o7 ⟨g, 0, none⟩ n cap xs rfl hlen news hone hn0 (by unfold maxLen; omega) (by omega) (by exact kp7.size) _ rfl ?_))
    intro g1 cap1 wn hown2 hgrow2 hat2 hlt2
    have hbn : Below w0.heap.size w7 wn := (Below.refl _ w7).grown hgrow2 kp7.size (fun k hk => by simp only [Value.ownBlock, Option.some.injEq] at hk; omega)
    have hE2 := hE.row hbn hpB htB hWB
    have kpn : Pk pb w0 wn := ⟨hbn.os.trans kp7.os, hbn.tape.trans kp7.tape, hbn.output.trans kp7.output, Nat.le_trans kp7.size hbn.size, fun k hk hne => (hbn.block k hk).trans (kp7.block k hk hne)⟩
    clear hown2 hgrow2 hat2 hlt2 hbn hE kp7 o7 news hone ho hx
    go_wp2_with (go_at_call 7; refine (make_walk _ _ _ _ _ ⟨_, _, _, rfl⟩).mono ?_)
    rintro e w' ⟨rfl, rfl⟩
    go_wp2
    generalize hw9 : wn.alloc (Obj.cells #[Value.int IntKind.i64 50, Value.int IntKind.i64 x, Value.string { data := #[] }, Value.int IntKind.i64 0, Value.int IntKind.i64 0, Value.slice (some { block := g1, off := 0 }) (1 + n) cap1] 32) = w9
    have al9 : Below wn.heap.size wn w9 := by rw [← hw9]; exact (Below.refl _ wn).alloc (Nat.le_refl _) _
    have hE9 := hE2.still al9
    have kp9 := kpn.trans (Pk.below al9)
    clear hw9 al9 hE2 kpn
    rw [rounds_succ]
    rcases hE9 with ⟨h1, p9⟩ | ⟨h1, j, h2, h3, p9⟩
    · rw [hM] at p9
      go_wp2_with (go_at_call 8; refine (bool1 u10 rfl (by decide) p9 hwE (by omega)).mono ?_)
      rintro e q1 ⟨rfl, p1, k1⟩
      go_wp2_with (go_at_call 9; refine (tok1 u10t rfl (by decide) p1 hwE (by omega)).mono ?_)
      rintro e q2 ⟨⟨z0, z1, z3, x2, rfl⟩, p2, k2⟩
      have hfd := field_at q2 z0 z1 x2 z3
      go_wp2_with (go_at_call 31; refine (bool2 u10a rfl (by decide) (by decide) p2 hwE (by omega)).mono ?_)
      rintro e q3 ⟨rfl, p3, k3⟩
      clear hfd
      go_wp2_with (go_at_call 31; refine (bool2 u10b rfl (by decide) (by decide) p3 hwE (by omega)).mono ?_)
      rintro e q4 ⟨rfl, p4, k4⟩
      go_wp2_with (go_at_call 31; refine (bool2 u10c rfl (by decide) (by decide) p4 hwE (by omega)).mono ?_)
      rintro e q5 ⟨rfl, p5, k5⟩
      go_wp2
      go_ret
      exact ⟨_, rfl, .inl ⟨h1, by rw [hM]; exact p5⟩, ((((kp9.trans k1).trans k2).trans k3).trans k4).trans k5⟩
    · go_wp2_with (go_at_call 8; refine (boolF1 okF rfl (by decide) p9 h3 h2).mono ?_)
      rintro e q1 ⟨rfl, p1, k1⟩
      go_wp2
      go_ret
      exact ⟨_, rfl, .inr ⟨h1, j, h2, h3, p1⟩, kp9.trans k1⟩
end Go.Proofs.YtcaomilekhhhlaaDoor
