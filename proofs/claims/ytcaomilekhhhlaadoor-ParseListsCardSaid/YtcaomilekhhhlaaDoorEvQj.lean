/- ParseLists: an array as a pattern. No condition. -/
import Derived.Test.YtcaomilekhhhlaaDoorEvQi
namespace Go.Proofs.YtcaomilekhhhlaaDoor
open Go.Ev Go.RowKit
set_option maxHeartbeats 16000000
set_option maxRecDepth 100000

theorem Arr.c3 {W w0 w : World} {pb tb len cap j d nb : Nat} {T : List Tok} {kd x : Int} {kv : Value} {l : List Bool} (h : Arr W w0 w pb tb len cap j d T nb kd x kv l) : w.cell? ⟨pb, 3, none⟩ = some (.int .i64 0) := by
  have := h.ps.hp.blk
  simp [World.cell?, this]
theorem Arr.below {W w0 w w' : World} {pb tb len cap j d nb : Nat} {T : List Tok} {kd x : Int} {kv : Value} {l : List Bool} (h : Arr W w0 w pb tb len cap j d T nb kd x kv l) (hk : Below w.heap.size w w') : Arr W w0 w' pb tb len cap j d T nb kd x kv l :=
  h.next (h.ps.other (B := w0.heap.size) (hk.mono h.same.size) h.pB h.tB h.wB) (Pk.below hk)
theorem row_cellp {w : World} {base : Nat} {e : TypeId} {size : Nat} {p : Option Addr} {n cap : Nat} {xs : List Value} (h : w.ownsRow base e size (.slice p n cap) n xs) {j : Nat} {x : Value} (hx : xs[j]? = some x) :
    ∃ g, p = some ⟨g, 0, none⟩ ∧ g < w.heap.size ∧ w.cell? ⟨g, j, none⟩ = some x := by
  have hlen : xs.length = n * size := h.1
  have hj : j < xs.length := (List.getElem?_eq_some_iff.1 hx).1
  rcases h.2 with ⟨_, h0⟩ | ⟨g, cap', cur, e1, _, hh, h1, _, h2, h3⟩
  · subst h0
    rw [Nat.zero_mul] at hlen
    omega
  · cases e1
    refine ⟨g, rfl, (Array.getElem?_eq_some_iff.1 hh).1, ?_⟩
    rw [← h3, List.getElem?_take_of_lt (by omega)] at hx
    simp only [World.cell?, hh]
    simpa using hx
theorem refine_arr {W w0 w : World} {pb tb len cap j d nb : Nat} {T : List Tok} {x : Int} {kv : Value} {l : List Bool} (a : Arr W w0 w pb tb len cap j d T nb 37 x kv l) (hl : l.length ≤ 100) :
    Calls Tryd.prog 64 #[.pointer (some ⟨pb, 0, none⟩), .pointer (some ⟨nb, 0, none⟩)] w fun e w' => ∃ nb2 kv2, e = .returned (.pointer (some ⟨nb2, 0, none⟩)) ∧ Arr W w0 w' pb tb len cap j d T nb2 60 x kv2 l ∧ w.heap.size ≤ nb2 ∧ Below w.heap.size w w' := by
  obtain ⟨i0, hi, hz0, hz1, hz2⟩ := info_at (P := Tryd.prog) (t := 24) (z := .pointer none) (s := 1) (b := 8) (by kernel_rfl) (by kernel_rfl) (by kernel_rfl)
  obtain ⟨xs, ho, hn⟩ := a.kids
  obtain ⟨p, kc, rfl⟩ : ∃ p kc, kv = .slice p l.length kc := by
    rcases ho.2 with ⟨rfl, h0⟩ | ⟨g, cap, cur, rfl, _⟩
    · rw [h0]; exact ⟨_, _, rfl⟩
    · exact ⟨_, _, rfl⟩
  have hnode := a.node
  unfold ArrAt at hnode
  have n0 : w.cell? ⟨nb, 0, none⟩ = some (.int .i64 37) := by simp [World.cell?, hnode]
  have n1 : w.cell? ⟨nb, 1, none⟩ = some (.int .i64 x) := by simp [World.cell?, hnode]
  have n5 : w.cell? ⟨nb, 5, none⟩ = some (.slice p l.length kc) := by simp [World.cell?, hnode]
  have c3 := a.c3
  have nl := a.nlt.2
  go_enter Tryd.func64, Tryd.ntmps64
  go_wp2_with (go_at_call 8; refine (ok_walk c3).mono ?_)
  try (rintro e w' ⟨rfl, rfl⟩)
  go_wp2_with fail
  obtain ⟨w1, hw1⟩ : ∃ w1, w'.alloc (Obj.cells #[Value.int IntKind.i64 60, Value.int IntKind.i64 x, Value.string { data := #[] }, Value.int IntKind.i64 0, Value.int IntKind.i64 0, Value.slice none 0 0] 32) = w1 := ⟨_, rfl⟩
  rw [hw1]
  obtain ⟨nb2, hnb⟩ : ∃ nb2, w'.heap.size = nb2 := ⟨_, rfl⟩
  have hb1 : Below w'.heap.size w' w1 := by rw [← hw1]; exact (Below.refl _ w').alloc (Nat.le_refl _) _
  have a1 : Arr W w0 w1 pb tb len cap j d T nb2 60 x (.slice none 0 0) [] := by
    have ab := a.below hb1
    refine ⟨ab.ps, ?_, KidsOk.nil _ _ _, by simp [Value.ownBlock], ⟨by have := a.same.size; omega, by rw [← hnb, ← hw1]; simp⟩, a.pB, a.tB, a.wB, ab.same⟩
    unfold ArrAt
    rw [← hw1, ← hnb]
    exact heap_alloc_new w' _
  have hlt1 := hb1.size
  rw [hnb]
  clear hw1 n0 n1 n5 c3 hnode
  go_loopw [35] (fun i wr => ∃ (k : Nat) (kv2 : Value), k ≤ l.length ∧ i = .int .i64 k ∧ Arr W w0 wr pb tb len cap j d T nb2 60 x kv2 (l.take k) ∧ Below w'.heap.size w' wr ∧ ∀ g, kv2.ownBlock = some g → w'.heap.size ≤ g) (fun i _ => l.length - (Go.RowKit.intOf i).toNat)
  case atStart => exact ⟨0, _, Nat.zero_le _, rfl, a1, hb1, fun g hg => by simp [Value.ownBlock] at hg⟩
  case round =>
    obtain ⟨k, kv2, hk, rfl, a2, hbw, hown⟩ := hrel
    by_cases hlt : k < l.length
    · obtain ⟨b, hb⟩ : ∃ b, l[k]? = some b := ⟨l[k], by simp [hlt]⟩
      obtain ⟨kb, no, x1, x2, x3, x4, x5⟩ := hn k b hb
      obtain ⟨g, rfl, gl, gc⟩ := row_cellp ho x1
      have gc' : wr.cell? ⟨g, k, none⟩ = some (.pointer (some ⟨kb, no, none⟩)) := (hbw.cell gl).trans gc
      have nd : NodeAt wr kb no (kdOf b) := x5.keep (hbw.block kb x3)
      have hkl : kb < wr.heap.size := Nat.lt_of_lt_of_le x3 hbw.size
      have hkn : kb ≠ nb2 := by omega
      have htk : l.take (k + 1) = l.take k ++ [b] := by rw [List.take_add_one, hb]; rfl
      have htl : (l.take k).length = k := by rw [List.length_take]; omega
      obtain ⟨xs2, ho2, hn2⟩ := a2.kids
      obtain ⟨s5, f5⟩ := arrS a2.node rfl
      have fin : ∀ (wx wn : World) (g1 cap1 : Nat), Below wr.heap.size wr wx → wn.ownsRow w0.heap.size 24 1 (.slice (some ⟨g1, 0, none⟩) (k + 1) cap1) (k + 1) (xs2 ++ [.pointer (some ⟨kb, no, none⟩)]) → wx.grownBy wn kv2.ownBlock → (kv2.ownBlock = some g1 ∨ wx.heap.size ≤ g1) →
          Arr W w0 (wn.setCell ⟨nb2, 5, none⟩ (.slice (some ⟨g1, 0, none⟩) (k + 1) cap1)) pb tb len cap j d T nb2 60 x (.slice (some ⟨g1, 0, none⟩) (k + 1) cap1) (l.take (k + 1)) ∧ Below w'.heap.size w' (wn.setCell ⟨nb2, 5, none⟩ (.slice (some ⟨g1, 0, none⟩) (k + 1) cap1)) ∧ w'.heap.size ≤ g1 := fun wx wn g1 cap1 hx hO hG hA => by
        have h3 := a2.grow (b := b) ho2 hn2 hx x2 hkl nd hkn (by rw [htl]; exact hO) hG hA
        rw [htl] at h3
        rw [htk]
        have hwx := hx.size
        have hws := hbw.size
        refine ⟨h3, ?_, ?_⟩
        · refine Below.setCell (p := ⟨nb2, 5, none⟩) ?_ (by show w'.heap.size ≤ nb2; omega) _
          exact (hbw.trans (hx.mono hws)).grown hG (by omega) (fun q hq => hown q hq)
        · rcases hA with e | e
          · exact hown g1 e
          · omega
      obtain ⟨nd0, nd1, xx, nd2⟩ := nd
      cases b with
      | false =>
        have nd1' : wr.cell? ⟨kb, no, none⟩ = some (.int .i64 40) := nd1
        clear nd1
        go_wp2_with (at_builtin; refine wpList_append_lies _ rfl (.tmp 62) (.tmp 64) 30 rfl w0.heap.size 24 i0 (.pointer none) 1 8 Tryd.underlying30 hi hz0 hz1 hz2 rfl (by decide) kv2 (l.take k).length xs2 rfl (by exact ho2.alloc _) ⟨wr.heap.size, 0, none⟩ 1 1 [.pointer (some ⟨kb, no, none⟩)] rfl rfl (by exact news1 wr _ 24) (by intro u hu; simp at hu; subst hu; rfl) (by decide) (by unfold maxLen; omega) (by omega) (by have := a2.same.size; simp; omega) _ rfl ?_)
        intro g1 cap1 wn hown2 hgrow2 hat2 hlt2
        obtain ⟨a3, b3, c3⟩ := fin _ wn g1 cap1 ((Below.refl _ wr).alloc (Nat.le_refl _) _) hown2 hgrow2 (hat2.imp id (fun e => by simp; omega))
        obtain ⟨s7, f7⟩ := arrS a2.node ((hgrow2.block nb2 (by have := a2.nlt.2; simp; omega) (fun q => a2.kn q.symm)).trans (heap_alloc_old wr _ a2.nlt.2))
        clear hown2 hgrow2 hat2 hlt2 ho2 hn2 fin x5 nd2
        have hwr : IntKind.i64.wrap ((k : Int) + 1) = (k : Int) + 1 := by have := Go.Ev.wrap_small IntKind.i64 (k + 1) (by show _ ≤ 9223372036854775807; omega); simpa using this
        go_wp2
        go_roundw
        case rel => exact ⟨k + 1, _, by omega, by simp, a3, b3, fun g hg => by simp only [Value.ownBlock, Option.some.injEq] at hg; omega⟩
        case measure => simp [Go.RowKit.intOf]; omega
      | true =>
        have k0 : wr.cell? ⟨kb, no, none⟩ = some (.int .i64 32) := nd1
        have k1 := nd2
        have c3 := a2.c3
        have c3d : wr.drew.cell? ⟨pb, 3, none⟩ = some (.int .i64 0) := c3
        have k0d : wr.drew.cell? ⟨kb, no, none⟩ = some (.int .i64 32) := k0
        have k1d : wr.drew.cell? ⟨kb, no + 1, none⟩ = some (.int .i64 xx) := k1
        have s6 : wr.drew.cell? ⟨nb2, 5, none⟩ = some kv2 := s5
        have f6 : wr.drew.frozen? ⟨nb2, 5, none⟩ = false := f5
        clear nd1 nd2
        go_wp2
        go_region_law (first
            | (refine step_append_lies _ rfl (.tmp 44) (.tmp 48) 30 rfl w0.heap.size 24 i0 (.pointer none) 1 8 Tryd.underlying30 hi hz0 hz1 hz2 rfl (by decide) kv2 (l.take k).length xs2 rfl (by exact (ownsRow_at ho2 (fun q hq => k5.block q (ho2.lt q hq).2)).alloc _) ⟨w5.heap.size, 0, none⟩ 1 1 [.pointer (some ⟨kb, no, none⟩)] rfl rfl (by exact news1 w5 _ 24) (by intro u hu; simp at hu; subst hu; rfl) (by decide) (by unfold maxLen; omega) (by omega) (by have := a2.same.size; have := k5.size; simp; omega) _ rfl ?_; intro g1 cap1 wn hown2 hgrow2 hat2 hlt2; obtain ⟨s7, f7⟩ := arrS a2.node ((hgrow2.block nb2 (by have := a2.nlt.2; have := k5.size; simp; omega) (fun q => a2.kn q.symm)).trans ((heap_alloc_old w5 _ (Nat.lt_of_lt_of_le a2.nlt.2 k5.size)).trans (k5.block nb2 a2.nlt.2))))
            | (go_simp; go_at_call 84; refine (part_name c3d k0d k1d).mono ?_; rintro e w5 ⟨rfl, k5'⟩; have k5 : Below wr.heap.size wr w5 := (Below.refl wr.heap.size wr).drew.trans k5'; obtain ⟨s8, f8⟩ := arrS a2.node (k5.block nb2 a2.nlt.2); have l8 : nb2 < w5.heap.size := Nat.lt_of_lt_of_le a2.nlt.2 k5.size; obtain ⟨s9, f9⟩ := arrS a2.node ((heap_alloc_old w5 (.cells #[.pointer (some ⟨kb, no, none⟩)] 24) l8).trans (k5.block nb2 a2.nlt.2))))
        all_goals
          try simp only [htl] at hown2 ⊢
          obtain ⟨a3, b3, c4⟩ := fin _ wn g1 cap1 (k5.trans (((Below.refl _ w5).alloc (Nat.le_refl _) (.cells #[.pointer (some ⟨kb, no, none⟩)] 24)).mono k5.size)) hown2 hgrow2 (hat2.imp id (fun e => by first | exact Nat.le_of_eq e.symm | (simp; omega)))
          clear hown2 hgrow2 hat2 hlt2 ho2 hn2 fin x5 k5 k5' s5 s6 f5 f6 c3d k0d k1d
          have hwr : IntKind.i64.wrap ((k : Int) + 1) = (k : Int) + 1 := by have := Go.Ev.wrap_small IntKind.i64 (k + 1) (by show _ ≤ 9223372036854775807; omega); simpa using this
          go_wp2
          go_roundw
          case rel => exact ⟨k + 1, _, by omega, by simp, a3, b3, fun g hg => by simp only [Value.ownBlock, Option.some.injEq] at hg; omega⟩
          case measure => simp [Go.RowKit.intOf]; omega
    · have hkl : k = l.length := by omega
      subst hkl
      rw [List.take_length] at a2
      go_wp2
      go_ret
      exact ⟨nb2, kv2, rfl, a2, by omega, hbw⟩
end Go.Proofs.YtcaomilekhhhlaaDoor
