/- ParseLists: an array, by the parser. No condition. -/
import Derived.Test.YtcaomilekhhhlaaDoorEvQg
namespace Go.Proofs.YtcaomilekhhhlaaDoor
open Go.Ev Go.RowKit
set_option maxHeartbeats 16000000
set_option maxRecDepth 100000

theorem news1 (w : World) (x : Value) (t : TypeId) : ∀ j u, [x][j]? = some u → (w.alloc (.cells #[x] t)).cell? ((⟨w.heap.size, 0, none⟩ : Addr).add j) = some u := by
  intro j u hj
  match j, hj with
  | 0, hj => simp at hj; subst hj; simp [Addr.add, World.cell?_alloc_at]
theorem arrS {w w' : World} {nb : Nat} {kd x : Int} {v : Value} (h : ArrAt w nb kd x v) (hw : w'.heap[nb]? = w.heap[nb]?) : w'.cell? ⟨nb, 5, none⟩ = some v ∧ w'.frozen? ⟨nb, 5, none⟩ = false := by
  unfold ArrAt at h
  rw [← hw] at h
  simp [World.cell?, World.frozen?, h]
theorem kids_up {w w' : World} {pb B nb n : Nat} {v : Value} {l : List Bool} {xs : List Value} (ho : w.ownsRow B 24 1 v n xs) (hn : ∀ (i : Nat) (b : Bool), l[i]? = some b → ∃ kb no, xs[i]? = some (Value.pointer (some ⟨kb, no, none⟩)) ∧ B ≤ kb ∧ kb < w.heap.size ∧ kb ≠ nb ∧ NodeAt w kb no (kdOf b)) (hk : Pk pb w w') (hpB : pb < B) :
    w'.ownsRow B 24 1 v n xs ∧ ∀ (i : Nat) (b : Bool), l[i]? = some b → ∃ kb no, xs[i]? = some (Value.pointer (some ⟨kb, no, none⟩)) ∧ B ≤ kb ∧ kb < w'.heap.size ∧ kb ≠ nb ∧ NodeAt w' kb no (kdOf b) := by
  refine ⟨ownsRow_at ho fun g hg => hk.block g (ho.lt g hg).2 (by have := (ho.lt g hg).1; omega), fun i b hi => ?_⟩
  obtain ⟨kb, no, h1, h2, h3, h4, h5⟩ := hn i b hi
  exact ⟨kb, no, h1, h2, Nat.lt_of_lt_of_le h3 hk.size, h4, h5.keep (hk.block kb h3 (by omega))⟩
theorem field_at (w : World) (y0 : Int) (y1 : ByteArray) (x y3 : Int) : Sem.run Tryd.prog (Instr.field 42 (.agg #[.int .i64 y0, .string y1, .int .i64 x, .int .i64 y3]) 2) w = .ok (.int .i64 x) w := by
  simp [Instr.field, run_underlying Tryd.underlying42, asAgg, part]
theorem hole_walk (w : World) (x : Int) : Calls Tryd.prog 7 #[.int .i64 40, .int .i64 x, .string ⟨#[]⟩, .slice none 0 0] w fun e w' => ∃ kb, e = .returned (.pointer (some ⟨kb, 0, none⟩)) ∧ w.heap.size ≤ kb ∧ kb < w'.heap.size ∧ NodeAt w' kb 0 (kdOf false) ∧ Below w.heap.size w w' := by
  refine (make_walk w 40 x ⟨#[]⟩ (.slice none 0 0) ⟨_, _, _, rfl⟩).mono ?_
  rintro e w' ⟨rfl, rfl⟩
  have h := heap_alloc_new w (.cells #[.int .i64 40, .int .i64 x, .string ⟨#[]⟩, .int .i64 0, .int .i64 0, .slice none 0 0] 32)
  refine ⟨w.heap.size, rfl, Nat.le_refl _, by simp, ⟨⟨_, _, h⟩, ?_, x, ?_⟩, (Below.refl _ w).alloc (Nat.le_refl _) _⟩
  · rw [World.cell?_alloc_at _ _ _ _ rfl]; rfl
  · rw [World.cell?_alloc_at _ _ _ _ rfl]; rfl
theorem below_pk {pb : Nat} {w0 w w' : World} (h : Pk pb w w') (hB : w0.heap.size ≤ pb) (hs : w0.heap.size ≤ w.heap.size) : Below w0.heap.size w w' := ⟨h.os, h.tape, h.output, h.size, fun k hk => h.block k (by omega) (by omega)⟩
/-- How far the parser is, as a measure. -/
def atOf (pb : Nat) (w : World) : Nat := match w.cell? ⟨pb, 1, none⟩ with | some (.int _ n) => n.toNat | _ => 0
theorem atOf_is {W w : World} {pb tb len cap j d : Nat} {T : List Tok} (h : Ps W w pb tb len cap j d T) : atOf pb w = j := by
  unfold atOf
  have : w.cell? ⟨pb, 1, none⟩ = some (.int .i64 j) := by
    have := h.hp.blk
    simp [World.cell?, this]
  rw [this]
  simp
theorem win_mid {T pre : List Tok} {win rest : List Tok} {j cls : Nat} (h : T = pre ++ (win ++ rest)) (hj : pre.length = j) (hw : winOf cls = win) : WinAt T j cls := ⟨pre, rest, by rw [hw]; exact h, hj⟩
theorem array_walk {W w0 : World} {pb tb len cap j0 d : Nat} {T : List Tok} (hd : d = 3 ∨ d = 5) (h0 : Ps W w0 pb tb len cap j0 d T) (l0 : List Bool) (dr : Bool) (pre0 suf : List Tok) (hT : T = pre0 ++ (toks l0 dr ++ ((5, 93, 1) :: suf))) (hj0 : pre0.length = j0) (hl : l0.length ≤ 100) (hj10 : j0 ≤ 10) (hpB : pb < w0.heap.size) (x : Int) :
    Calls Tryd.prog 82 #[.pointer (some ⟨pb, 0, none⟩), .int .i64 x] w0 fun e w' => ∃ nb kv, e = .returned (.pointer (some ⟨nb, 0, none⟩)) ∧ Arr W w0 w' pb tb len cap (j0 + (toks l0 dr).length + 1) d T nb 37 x kv l0 := by
  obtain ⟨i0, hi, hz0, hz1, hz2⟩ := info_at (P := Tryd.prog) (t := 24) (z := .pointer none) (s := 1) (b := 8) (by kernel_rfl) (by kernel_rfl) (by kernel_rfl)
  have A := chkA_of hd
  have htl := toks_len l0 dr
  go_enter Tryd.func82, Tryd.ntmps82
  go_wp2_with (go_at_call 7; refine (make_walk _ _ _ _ _ ⟨_, _, _, rfl⟩).mono ?_)
  rintro e w' ⟨rfl, rfl⟩
  obtain ⟨w1, hw1⟩ : ∃ w1, w0.alloc (Obj.cells #[Value.int IntKind.i64 37, Value.int IntKind.i64 x, Value.string { data := #[] }, Value.int IntKind.i64 0, Value.int IntKind.i64 0, Value.slice none 0 0] 32) = w1 := ⟨_, rfl⟩
  rw [hw1]
  obtain ⟨nb, hnb⟩ : ∃ nb, w0.heap.size = nb := ⟨_, rfl⟩
  have hb1 : Below w0.heap.size w0 w1 := by rw [← hw1]; exact (Below.refl _ w0).alloc (Nat.le_refl _) _
  have a1 : Arr W w0 w1 pb tb len cap j0 d T nb 37 x (.slice none 0 0) [] := by
    refine ⟨h0.other hb1 hpB h0.htb h0.hB.size, ?_, KidsOk.nil _ _ _, by simp [Value.ownBlock], ⟨by omega, by rw [← hnb, ← hw1]; simp⟩, hpB, h0.htb, h0.hB.size, Pk.below hb1⟩
    unfold ArrAt
    rw [← hw1, ← hnb]
    exact heap_alloc_new w0 _
  rw [hnb]
  clear hw1 hb1 hnb h0
  go_wp2
  go_loopw [8] (fun u wr => ∃ (done rest : List Bool) (j : Nat) (kv : Value) (pre : List Tok), l0 = done ++ rest ∧ T = pre ++ (toks rest dr ++ ((5, 93, 1) :: suf)) ∧ pre.length = j ∧ j0 + (toks l0 dr).length = j + (toks rest dr).length ∧ Arr W w0 wr pb tb len cap j d T nb 37 x kv done) (fun _ wr => 2000 - atOf pb wr)
  case atStart => exact ⟨[], l0, j0, _, pre0, rfl, hT, hj0, rfl, a1⟩
  case round =>
    obtain ⟨done, rest, j, kv, pre, hl0, hTr, hj, hjn, a⟩ := hrel
    have hjl : j ≤ 300 := by omega
    have hat := atOf_is a.ps
    have hdl : done.length ≤ 100 := by have := congrArg List.length hl0; rw [List.length_append] at this; omega
    cases rest with
    | nil =>
      have hw : WinAt T j 7 := win_mid (win := [(5, 93, 1)]) (rest := suf) hTr hj rfl
      go_wp2_with (go_at_call 8; refine (bool1 A.ok7 rfl (by decide) a.ps hw (by omega)).mono ?_)
      rintro e w2 ⟨rfl, p2, k2⟩
      have a2 := a.next p2 k2
      go_wp2_with (go_at_call 31; refine (bool2 A.tk7 rfl (by decide) (by decide) a2.ps hw (by omega)).mono ?_)
      rintro e w3 ⟨rfl, p3, k3⟩
      have a3 := a2.next p3 k3
      go_wp2
      go_ret
      refine ⟨nb, kv, rfl, ?_⟩
      rw [List.append_nil] at hl0
      rw [hl0]
      have : j0 + (toks done dr).length + 1 = j + 0 + 1 := by rw [← hl0, hjn]; rfl
      rw [this]
      exact a3
    | cons b rest =>
      cases b with
      | false =>
          have e : toks (false :: rest) dr = tC :: toks rest dr := rfl
          have hw : WinAt T j 6 := win_mid (win := [tC]) (rest := toks rest dr ++ ((5, 93, 1) :: suf)) (by rw [hTr, e]; rfl) hj rfl
          go_wp2_with (go_at_call 8; refine (bool1 A.ok6 rfl (by decide) a.ps hw (by omega)).mono ?_)
          rintro e w2 ⟨rfl, p2, k2⟩
          have a2 := a.next p2 k2
          go_wp2_with (go_at_call 31; refine (bool2 A.tk6 rfl (by decide) (by decide) a2.ps hw (by omega)).mono ?_)
          rintro e w3 ⟨rfl, p3, k3⟩
          have a3 := a2.next p3 k3
          go_wp2_with (go_at_call 14; refine (bool2 A.is6 rfl (by decide) (by decide) a3.ps hw (by omega)).mono ?_)
          rintro e w4 ⟨rfl, p4, k4⟩
          have a4 := a3.next p4 k4
          have a5 : Arr W w0 w4.drew pb tb len cap (j + 0 + 0 + 0) d T nb 37 x kv done := a4.next (a4.ps.other (B := w0.heap.size) (Below.refl _ w4).drew a4.pB a4.tB a4.wB) (Pk.below (Below.refl _ w4).drew)
          obtain ⟨xs, ho, hn⟩ := a5.kids
          have s5 := a5.kcell
          have f5 := a5.kfree
          go_wp2
          go_region_law (first
              | (refine step_append_lies _ rfl (.tmp 21) (.tmp 26) 30 rfl w0.heap.size 24 i0 (.pointer none) 1 8 Tryd.underlying30 hi hz0 hz1 hz2 rfl (by decide) kv done.length xs rfl (by exact (kids_up (kids_up ho hn k5 a5.pB).1 (kids_up ho hn k5 a5.pB).2 (Pk.below k6) a5.pB).1.alloc _) ⟨w6.heap.size, 0, none⟩ 1 1 [.pointer (some ⟨kb, 0, none⟩)] rfl rfl (by exact news1 w6 _ 24) (by intro u hu; simp at hu; subst hu; rfl) (by decide) (by unfold maxLen; omega) (by omega) (by have := a6.same.size; simp; omega) _ rfl ?_; intro g1 cap1 wn hown2 hgrow2 hat2 hlt2; obtain ⟨s9, f9⟩ := arrS a6.node ((hgrow2.block nb (by have := a6.nlt.2; simp; omega) (fun q => a6.kn q.symm)).trans (heap_alloc_old w6 _ a6.nlt.2)))
              | (go_simp; go_at_call 9; refine (tok1 A.to6 rfl (by decide) a5.ps hw (by omega)).mono ?_; rintro e w5 ⟨⟨y0, y1, y3, xx, rfl⟩, p5, k5⟩; have hfd := field_at w5 y0 y1 xx y3; have b5 := a5.next p5 k5; obtain ⟨s6, f6⟩ := arrS b5.node rfl)
              | (go_simp; go_at_call 7; refine (hole_walk w5 xx).mono ?_; rintro e w6 ⟨kb, rfl, kb1, kb2, nd, k6⟩; have a6 : Arr W w0 w6 pb tb len cap (j + 0 + 0 + 0) d T nb 37 x kv done := b5.next (b5.ps.other (B := w0.heap.size) (k6.mono b5.same.size) a5.pB a5.tB a5.wB) (Pk.below k6); obtain ⟨s7, f7⟩ := arrS a6.node rfl; have l7 := a6.nlt.2; obtain ⟨s8, f8⟩ := arrS a6.node (heap_alloc_old w6 (.cells #[.pointer (some ⟨kb, 0, none⟩)] 24) a6.nlt.2)))
          all_goals
            obtain ⟨ho5, hn5⟩ := kids_up ho hn k5 a5.pB
            obtain ⟨ho6, hn6⟩ := kids_up ho5 hn5 (Pk.below k6) a5.pB
            have hkb : w0.heap.size ≤ kb := Nat.le_trans (a5.next p5 k5).same.size kb1
            have hkn : kb ≠ nb := by have := (a5.next p5 k5).nlt.2; omega
            have a7 := a6.grow (b := false) ho6 hn6 ((Below.refl _ w6).alloc (Nat.le_refl _) _) hkb kb2 nd hkn hown2 hgrow2 (hat2.imp id (fun e => Nat.le_of_eq e.symm))
            clear hown2 hgrow2 hat2 hlt2 ho5 hn5 ho6 hn6 ho hn nd p5 k5 k6 s5 f5 hfd
            generalize hw6 : wn.setCell ⟨nb, 5, none⟩ (.slice (some ⟨g1, 0, none⟩) (done.length + 1) cap1) = w7 at a7 ⊢
            clear hw6
            have a8 : Arr W w0 (w7.setCell ⟨pb, 1, none⟩ (.int .i64 ((j : Int) + 1))) pb tb len cap (j + 1) d T nb 37 x (.slice (some ⟨g1, 0, none⟩) (done.length + 1) cap1) (done ++ [false]) := a7.next a7.ps.bump (Pk.set w7 1 _)
            obtain ⟨pc1, pf1⟩ := a7.pcell
            have hwr : IntKind.i64.wrap (((j + 0 + 0 + 0 : Nat) : Int) + 1) = ((j + 0 + 0 + 0 + 1 : Nat) : Int) := by have := Go.Ev.wrap_small IntKind.i64 (j + 0 + 0 + 0 + 1) (by show _ ≤ 9223372036854775807; omega); simpa using this
            clear k2 k3 k4
            go_wp2
            go_roundw
            case rel => exact ⟨done ++ [false], rest, j + 1, _, pre ++ [tC], by rw [hl0, List.append_assoc]; rfl, by rw [hTr, e]; simp, by rw [List.length_append, hj]; rfl, by rw [hjn, e]; simp; omega, a8⟩
            case measure => rw [atOf_is a8.ps, hat]; omega
      | true =>
        by_cases hlast : rest = [] ∧ dr = true
        · have e : toks (true :: rest) dr = [tA] := by rw [toks, if_pos hlast]
          have hw : WinAt T j 4 := win_mid (win := [tA, (5, 93, 1)]) (rest := suf) (by rw [hTr, e]; rfl) hj rfl
          go_wp2_with (go_at_call 8; refine (bool1 A.ok4 rfl (by decide) a.ps hw (by omega)).mono ?_)
          rintro e w2 ⟨rfl, p2, k2⟩
          have a2 := a.next p2 k2
          go_wp2_with (go_at_call 31; refine (bool2 A.tk4 rfl (by decide) (by decide) a2.ps hw (by omega)).mono ?_)
          rintro e w3 ⟨rfl, p3, k3⟩
          have a3 := a2.next p3 k3
          go_wp2_with (go_at_call 14; refine (bool2 A.is4 rfl (by decide) (by decide) a3.ps hw (by omega)).mono ?_)
          rintro e w4 ⟨rfl, p4, k4⟩
          have a4 := a3.next p4 k4
          have a5 : Arr W w0 w4.drew pb tb len cap (j + 0 + 0 + 0) d T nb 37 x kv done := a4.next (a4.ps.other (B := w0.heap.size) (Below.refl _ w4).drew a4.pB a4.tB a4.wB) (Pk.below (Below.refl _ w4).drew)
          obtain ⟨xs, ho, hn⟩ := a5.kids
          have s5 := a5.kcell
          have f5 := a5.kfree
          go_wp2
          go_region_law (first
              | (refine step_append_lies _ rfl (.tmp 41) (.tmp 44) 30 rfl w0.heap.size 24 i0 (.pointer none) 1 8 Tryd.underlying30 hi hz0 hz1 hz2 rfl (by decide) kv done.length xs rfl (by exact (ownsRow_at ho (fun g hg => k5.block g (ho.lt g hg).2 (by have := (ho.lt g hg).1; omega))).alloc _) ⟨w5.heap.size, 0, none⟩ 1 1 [.pointer (some ⟨kb, no, none⟩)] rfl rfl (by exact news1 w5 _ 24) (by intro u hu; simp at hu; subst hu; rfl) (by decide) (by unfold maxLen; omega) (by omega) (by have := (a5.next p5 k5).same.size; simp; omega) _ rfl ?_; intro g1 cap1 wn hown2 hgrow2 hat2 hlt2; obtain ⟨s7, f7⟩ := arrS (a5.next p5 k5).node ((hgrow2.block nb (by have := (a5.next p5 k5).nlt.2; simp; omega) (fun q => a5.kn q.symm)).trans (heap_alloc_old w5 _ (a5.next p5 k5).nlt.2)))
              | (go_simp; go_at_call 90; refine (node1 A.sp4 rfl (by decide) a5.ps hw (by omega)).mono ?_; rintro e w5 ⟨kb, no, rfl, kb1, kb2, kb3, nd, p5, k5⟩; obtain ⟨s6, f6⟩ := arrS (a5.next p5 k5).node rfl; have l6 := (a5.next p5 k5).nlt.2; obtain ⟨s8, f8⟩ := arrS (a5.next p5 k5).node (heap_alloc_old w5 (.cells #[.pointer (some ⟨kb, no, none⟩)] 24) (a5.next p5 k5).nlt.2)))
          all_goals
            obtain ⟨ho5, hn5⟩ := kids_up ho hn k5 a5.pB
            have hkb : w0.heap.size ≤ kb := Nat.le_trans a5.same.size kb1
            have hkn : kb ≠ nb := by have := a5.nlt.2; omega
            have a6 := (a5.next p5 k5).grow (b := true) ho5 hn5 ((Below.refl _ w5).alloc (Nat.le_refl _) _) hkb kb2 nd hkn hown2 hgrow2 (hat2.imp id (fun e => Nat.le_of_eq e.symm))
            clear hown2 hgrow2 hat2 hlt2 ho5 hn5 ho hn nd p5 k5 s5 f5 s7 f7
            generalize hw6 : wn.setCell ⟨nb, 5, none⟩ (.slice (some ⟨g1, 0, none⟩) (done.length + 1) cap1) = w6 at a6 ⊢
            clear hw6
            have hw1 : WinAt T (j + 0 + 0 + 0 + 1) 7 := win_mid (pre := pre ++ [tA]) (win := [(5, 93, 1)]) (rest := suf) (by rw [hTr, e]; simp) (by rw [List.length_append, hj]; rfl) rfl
            go_wp2_with (go_at_call 14; refine (bool2 A.br7 rfl (by decide) (by decide) a6.ps hw1 (by omega)).mono ?_)
            rintro e w7 ⟨rfl, p7, k7⟩
            have a7 := a6.next p7 k7
            go_wp2
            go_roundw
            case rel => exact ⟨done ++ [true], [], _, _, pre ++ [tA], by rw [hl0, hlast.1]; simp, by rw [hTr, e]; simp [toks], by rw [List.length_append, hj]; rfl, by rw [hjn, e]; simp [toks], a7⟩
            case measure => rw [atOf_is a7.ps, hat]; omega
        · have e : toks (true :: rest) dr = tA :: tC :: toks rest dr := by rw [toks, if_neg hlast]
          have hw : WinAt T j 3 := win_mid (win := [tA, tC]) (rest := toks rest dr ++ ((5, 93, 1) :: suf)) (by rw [hTr, e]; rfl) hj rfl
          go_wp2_with (go_at_call 8; refine (bool1 A.ok3 rfl (by decide) a.ps hw (by omega)).mono ?_)
          rintro e w2 ⟨rfl, p2, k2⟩
          have a2 := a.next p2 k2
          go_wp2_with (go_at_call 31; refine (bool2 A.tk3 rfl (by decide) (by decide) a2.ps hw (by omega)).mono ?_)
          rintro e w3 ⟨rfl, p3, k3⟩
          have a3 := a2.next p3 k3
          go_wp2_with (go_at_call 14; refine (bool2 A.is3 rfl (by decide) (by decide) a3.ps hw (by omega)).mono ?_)
          rintro e w4 ⟨rfl, p4, k4⟩
          have a4 := a3.next p4 k4
          have a5 : Arr W w0 w4.drew pb tb len cap (j + 0 + 0 + 0) d T nb 37 x kv done := a4.next (a4.ps.other (B := w0.heap.size) (Below.refl _ w4).drew a4.pB a4.tB a4.wB) (Pk.below (Below.refl _ w4).drew)
          obtain ⟨xs, ho, hn⟩ := a5.kids
          have s5 := a5.kcell
          have f5 := a5.kfree
          go_wp2
          go_region_law (first
              | (refine step_append_lies _ rfl (.tmp 41) (.tmp 44) 30 rfl w0.heap.size 24 i0 (.pointer none) 1 8 Tryd.underlying30 hi hz0 hz1 hz2 rfl (by decide) kv done.length xs rfl (by exact (ownsRow_at ho (fun g hg => k5.block g (ho.lt g hg).2 (by have := (ho.lt g hg).1; omega))).alloc _) ⟨w5.heap.size, 0, none⟩ 1 1 [.pointer (some ⟨kb, no, none⟩)] rfl rfl (by exact news1 w5 _ 24) (by intro u hu; simp at hu; subst hu; rfl) (by decide) (by unfold maxLen; omega) (by omega) (by have := (a5.next p5 k5).same.size; simp; omega) _ rfl ?_; intro g1 cap1 wn hown2 hgrow2 hat2 hlt2; obtain ⟨s7, f7⟩ := arrS (a5.next p5 k5).node ((hgrow2.block nb (by have := (a5.next p5 k5).nlt.2; simp; omega) (fun q => a5.kn q.symm)).trans (heap_alloc_old w5 _ (a5.next p5 k5).nlt.2)))
              | (go_simp; go_at_call 90; refine (node1 A.sp3 rfl (by decide) a5.ps hw (by omega)).mono ?_; rintro e w5 ⟨kb, no, rfl, kb1, kb2, kb3, nd, p5, k5⟩; obtain ⟨s6, f6⟩ := arrS (a5.next p5 k5).node rfl; have l6 := (a5.next p5 k5).nlt.2; obtain ⟨s8, f8⟩ := arrS (a5.next p5 k5).node (heap_alloc_old w5 (.cells #[.pointer (some ⟨kb, no, none⟩)] 24) (a5.next p5 k5).nlt.2)))
          all_goals
            obtain ⟨ho5, hn5⟩ := kids_up ho hn k5 a5.pB
            have hkb : w0.heap.size ≤ kb := Nat.le_trans a5.same.size kb1
            have hkn : kb ≠ nb := by have := a5.nlt.2; omega
            have a6 := (a5.next p5 k5).grow (b := true) ho5 hn5 ((Below.refl _ w5).alloc (Nat.le_refl _) _) hkb kb2 nd hkn hown2 hgrow2 (hat2.imp id (fun e => Nat.le_of_eq e.symm))
            clear hown2 hgrow2 hat2 hlt2 ho5 hn5 ho hn nd p5 k5 s5 f5 s7 f7
            generalize hw6 : wn.setCell ⟨nb, 5, none⟩ (.slice (some ⟨g1, 0, none⟩) (done.length + 1) cap1) = w6 at a6 ⊢
            clear hw6
            have hw1 : WinAt T (j + 0 + 0 + 0 + 1) 6 := win_mid (pre := pre ++ [tA]) (win := [tC]) (rest := toks rest dr ++ ((5, 93, 1) :: suf)) (by rw [hTr, e]; simp) (by rw [List.length_append, hj]; rfl) rfl
            go_wp2_with (go_at_call 14; refine (bool2 A.br6 rfl (by decide) (by decide) a6.ps hw1 (by omega)).mono ?_)
            rintro e w7 ⟨rfl, p7, k7⟩
            have a7 := a6.next p7 k7
            go_wp2_with (go_at_call 16; refine (unit2 A.wa6 rfl (by decide) (by decide) a7.ps hw1 (by omega)).mono ?_)
            rintro e w8 ⟨rfl, p8, k8⟩
            have a8 := a7.next p8 k8
            go_wp2
            go_roundw
            case rel => exact ⟨done ++ [true], rest, _, _, pre ++ [tA, tC], by rw [hl0, List.append_assoc]; rfl, by rw [hTr, e]; simp, by rw [List.length_append, hj]; rfl, by rw [hjn, e]; simp; omega, a8⟩
            case measure => rw [atOf_is a8.ps, hat]; omega
end Go.Proofs.YtcaomilekhhhlaaDoor
