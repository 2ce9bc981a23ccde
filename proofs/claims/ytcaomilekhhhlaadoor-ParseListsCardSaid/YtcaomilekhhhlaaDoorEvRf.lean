/- ParseLists: the law, walked. Condition: the tables hold what their initialisers lay. -/
import Derived.Test.YtcaomilekhhhlaaDoorEvRe
namespace Go.Proofs.YtcaomilekhhhlaaDoor
open Go.Ev Go.RowKit
set_option maxHeartbeats 16000000
set_option maxRecDepth 1000000

/-- The third text's fault. -/
def KdIs (kk : Int) (l : List Bool) : Prop := kk = (if l.all id then 0 else 4)
/-- The argument's cells. -/
def BoolsAt (W : World) (p : Option Addr) (l : List Bool) : Prop := ∀ (j : Nat) (b : Bool), l[j]? = some b → ∃ g off, p = some ⟨g, off, none⟩ ∧ g < W.heap.size ∧ W.cell? ⟨g, off + j, none⟩ = some (.bool b)
theorem law_walk {W : World} (hA : At W) (p : Option Addr) (cap : Nat) (l : List Bool) (hn : l.length ≤ 100) (hc : BoolsAt W p l) (comma : Bool) :
    Calls Tryd.prog 3 #[.slice p l.length cap, .bool comma] W fun e w' => e = .returned (.bool true) ∧ Below W.heap.size W w' := by
  have hnI : ¬ ((100 : Int) < (l.length : Int)) := by omega
  go_enter Tryd.func3, Tryd.ntmps3
  go_wp2_with (go_at_call 4; refine (fit_calls hA).mono ?_)
  rintro e w1 rfl hb1
  go_wp2
  go_loopw [5, 6, 29] (fun s n i wr => ∃ (k : Nat) (t : ByteArray), k ≤ l.length ∧ s = .string t ∧ n = .int .i64 k ∧ i = .int .i64 k ∧ t.data.toList = strL (l.take k) ∧ wr = w1) (fun _ _ i _ => l.length - (Go.RowKit.intOf i).toNat)
  case atStart => exact ⟨0, ⟨#[]⟩, Nat.zero_le _, rfl, rfl, rfl, rfl, rfl⟩
  case round =>
    obtain ⟨k, t, hk, rfl, rfl, rfl, ht, rfl⟩ := hrel
    by_cases hlt : k < l.length
    · obtain ⟨b, hb⟩ : ∃ b, l[k]? = some b := ⟨l[k], by simp [hlt]⟩
      obtain ⟨g, off, rfl, hg, hcx⟩ := hc k b hb
      have hcw : wr.cell? ⟨g, off + k, none⟩ = some (.bool b) := (hb1.cell hg).trans hcx
      have htk : l.take (k + 1) = l.take k ++ [b] := by rw [List.take_add_one, hb]; rfl
      have hlen : t.data.toList.length ≤ 200 := by rw [ht]; have := strL_len (l.take k); rw [List.length_take] at this; omega
      have hts : t.size ≤ 200 := by simpa using hlen
      have hwr : IntKind.i64.wrap ((k : Int) + 1) = ((k + 1 : Nat) : Int) := by have := Go.Ev.wrap_small IntKind.i64 (k + 1) (by show _ ≤ 9223372036854775807; omega); simpa using this
      clear hcx hlen
      cases b with
      | false =>
        go_wp2
        exact ⟨⟨k + 1, _, by omega, rfl, by simp, by simp, by rw [dat_append, htk, strL_snoc, ht]; rfl, trivial⟩, by simp [Go.RowKit.intOf]; omega⟩
      | true =>
        go_wp2
        exact ⟨⟨k + 1, _, by omega, rfl, by simp, by simp, by rw [dat_append, dat_append, htk, strL_snoc, ht, List.append_assoc]; rfl, trivial⟩, by simp [Go.RowKit.intOf]; omega⟩
    · have hkl : k = l.length := by omega
      subst hkl
      rw [List.take_length] at ht
      have hts : t.size ≤ 200 := by
        have h1 : t.data.toList.length ≤ 200 := by rw [ht]; have := strL_len l; omega
        simpa using h1
      have hcase : comma = true ∨ (comma = false ∧ l.length = 0) ∨ (comma = false ∧ ∃ m, l.length = m + 1 ∧ l[m]? = some false ∧ lastT l = false) ∨ (comma = false ∧ ∃ m, l.length = m + 1 ∧ l[m]? = some true ∧ lastT l = true) := by
        cases comma with
        | true => exact .inl rfl
        | false =>
          rcases Nat.eq_zero_or_pos l.length with hz | hz
          · exact .inr (.inl ⟨rfl, hz⟩)
          · have hl1 : l[l.length - 1]? = some (lastT l) := by
              unfold lastT
              rw [List.getLast?_eq_getElem?]
              have : l[l.length - 1]? = some l[l.length - 1] := by simp
              simp [this]
            cases hla : lastT l with
            | false => exact .inr (.inr (.inl ⟨rfl, l.length - 1, by omega, by rw [hl1, hla], rfl⟩))
            | true => exact .inr (.inr (.inr ⟨rfl, l.length - 1, by omega, by rw [hl1, hla], rfl⟩))
      have hpt := psB_true l
      have hpf := psB_false l
      rcases hcase with rfl | ⟨rfl, hz⟩ | ⟨rfl, m, hm, hb, hla⟩ | ⟨rfl, m, hm, hb, hla⟩
      case' inl =>
        obtain ⟨d, ht2⟩ : ∃ d, t.data.toList = psB (pcs (toks l d)) := ⟨false, by rw [hpf]; exact ht⟩
        clear ht hpt hpf
        go_wp2_with fail
        generalize t = T at ht2 hts ⊢
      case' inr.inl =>
        obtain ⟨d, ht2⟩ : ∃ d, t.data.toList = psB (pcs (toks l d)) := ⟨true, by have : l = [] := List.eq_nil_of_length_eq_zero hz; subst this; rw [ht]; rfl⟩
        have hz' : ¬ ((0 : Int) < (l.length : Int)) := by omega
        clear ht hpt hpf hz
        go_wp2_with fail
        generalize t = T at ht2 hts ⊢
      case' inr.inr.inl =>
        obtain ⟨d, ht2⟩ : ∃ d, t.data.toList = psB (pcs (toks l d)) := ⟨true, by rw [hla] at hpt; rw [ht, ← hpt]; simp⟩
        obtain ⟨g, off, rfl, hg, hcx⟩ := hc m _ hb
        have hcw : wr.cell? ⟨g, off + m, none⟩ = some (.bool false) := (hb1.cell hg).trans hcx
        have hz' : ((0 : Int) < (l.length : Int)) := by omega
        have hml : m < l.length := by omega
        have hwr : IntKind.i64.wrap ((l.length : Int) - 1) = (m : Int) := by
          rw [show ((l.length : Int) - 1) = Int.ofNat m by simp only [Int.ofNat_eq_natCast]; omega]
          exact Go.Ev.wrap_small IntKind.i64 m (by show _ ≤ 9223372036854775807; omega)
        clear ht hpt hpf hcx hm hb
        go_wp2_with fail
        generalize t = T at ht2 hts ⊢
      case' inr.inr.inr =>
        obtain ⟨q, hq⟩ : ∃ q, t.size = q + 1 := ⟨t.size - 1, by
          have h1 : t.data.toList.length = t.size := by simp
          rw [ht, ← hpt, hla, if_pos rfl, List.length_append, List.length_singleton] at h1
          omega⟩
        obtain ⟨d, ht2⟩ : ∃ d, (t.extract 0 q).data.toList = psB (pcs (toks l d)) := ⟨true, by
          rw [← strL_last hla, ByteArray.data_extract, Array.toList_extract, List.extract_eq_take_drop, List.drop_zero, ht]
          have h1 : t.data.toList.length = t.size := by simp
          rw [ht, hq] at h1
          rw [h1]
          simp⟩
        obtain ⟨g, off, rfl, hg, hcx⟩ := hc m _ hb
        have hcw : wr.cell? ⟨g, off + m, none⟩ = some (.bool true) := (hb1.cell hg).trans hcx
        have hz' : ((0 : Int) < (l.length : Int)) := by omega
        have hml : m < l.length := by omega
        have hwr : IntKind.i64.wrap ((l.length : Int) - 1) = (m : Int) := by
          rw [show ((l.length : Int) - 1) = Int.ofNat m by simp only [Int.ofNat_eq_natCast]; omega]
          exact Go.Ev.wrap_small IntKind.i64 m (by show _ ≤ 9223372036854775807; omega)
        have hwq : IntKind.i64.wrap ((t.size : Int) - 1) = (q : Int) := by
          rw [show ((t.size : Int) - 1) = Int.ofNat q by simp only [Int.ofNat_eq_natCast]; omega]
          exact Go.Ev.wrap_small IntKind.i64 q (by show _ ≤ 9223372036854775807; omega)
        have hql : q ≤ t.size := by omega
        have hxs : (t.extract 0 q).size ≤ 200 := by simp; omega
        clear ht hpt hpf hcx hm hb hq
        go_wp2_with fail
        clear hts
        generalize t.extract 0 q = T at ht2 hxs ⊢
        have hts := hxs
      all_goals
        have z1 : (⟨#[40, 91]⟩ ++ T ++ ⟨#[93, 41, 59]⟩ : ByteArray).size ≤ 1000 := by
          rw [ByteArray.size_append, ByteArray.size_append, show (⟨#[40, 91]⟩ : ByteArray).size = 2 from rfl, show (⟨#[93, 41, 59]⟩ : ByteArray).size = 3 from rfl]
          omega
        have z2 : (⟨#[91]⟩ ++ T ++ ⟨#[93, 32, 61, 32, 98, 59]⟩ : ByteArray).size ≤ 1000 := by
          rw [ByteArray.size_append, ByteArray.size_append, show (⟨#[91]⟩ : ByteArray).size = 1 from rfl, show (⟨#[93, 32, 61, 32, 98, 59]⟩ : ByteArray).size = 6 from rfl]
          omega
        have z3 : (⟨#[102, 40]⟩ ++ T ++ ⟨#[41, 59]⟩ : ByteArray).size ≤ 1000 := by
          rw [ByteArray.size_append, ByteArray.size_append, show (⟨#[102, 40]⟩ : ByteArray).size = 2 from rfl, show (⟨#[41, 59]⟩ : ByteArray).size = 2 from rfl]
          omega
        have x1 := txt1 ht2 rfl rfl
        have x2 := txt2 ht2 rfl rfl
        have x3 := txt3 ht2 rfl rfl
        clear ht2
        refine (parse1 hA _ l d hn x1 z1 hb1).mono ?_
        clear x1 z1
        rintro e w2 ⟨hb2, pb1, np1, rfl, wr1⟩
        have hB2 : Below W.heap.size W w2 := hb1.trans (hb2.mono hb1.size)
        obtain ⟨nn1, a1, hp1, hp2, hk1⟩ := tree1 wr1
        clear wr1 hb2
        go_wp2_with fail
        have al2 : Below w2.heap.size w2 (w2.alloc (.cells #[.int .i64 0, .int .i64 0] 27)) := (Below.refl _ w2).alloc (Nat.le_refl _) _
        have hf1 := heap_alloc_new w2 (.cells #[.int .i64 0, .int .i64 0] 27)
        have hl1 : w2.heap.size < (w2.alloc (.cells #[.int .i64 0, .int .i64 0] 27)).heap.size := by simp
        have hB3 := hB2.trans (al2.mono hB2.size)
        generalize w2.alloc (Obj.cells #[Value.int IntKind.i64 0, Value.int IntKind.i64 0] 27) = w3 at al2 hf1 hl1 hB3 ⊢
        generalize w2.heap.size = f1 at hf1 hl1 ⊢
        refine (parse2 hA _ l d hn x2 z2 hB3).mono ?_
        clear x2 z2
        rintro e w4 ⟨hb4, pb2, np2, rfl, wr2⟩
        have hB4 := hB3.trans (hb4.mono hB3.size)
        obtain ⟨nn2, nm2, a2, hq1, hq2, hq3, hk2⟩ := tree2 wr2
        have hp1 := (hp1.keep al2).keep hb4
        have hp2 := (hp2.keep al2).keep hb4
        have hk1 := (hk1.keep al2).keep hb4
        have hf1 := (hb4.block f1 hl1).trans hf1
        have hl1 := Nat.lt_of_lt_of_le hl1 hb4.size
        have c1 : w4.cell? ⟨f1, 0, none⟩ = some (.int .i64 0) := by simp [World.cell?, hf1]
        clear wr2 hb4 al2 hB2 hB3
        go_wp2
        have al4 : Below w4.heap.size w4 (w4.alloc (.cells #[.int .i64 0, .int .i64 0] 27)) := (Below.refl _ w4).alloc (Nat.le_refl _) _
        have hB5 := hB4.trans (al4.mono hB4.size)
        have hp1 := hp1.keep al4
        have hp2 := hp2.keep al4
        have hk1 := hk1.keep al4
        have hq1 := hq1.keep al4
        have hq2 := hq2.keep al4
        have hq3 := hq3.keep al4
        have hk2 := hk2.keep al4
        clear al4 hf1 hl1 c1 hB4
        generalize w4.alloc (Obj.cells #[Value.int IntKind.i64 0, Value.int IntKind.i64 0] 27) = w5 at hB5 hp1 hp2 hk1 hq1 hq2 hq3 hk2 ⊢
        generalize w4.heap.size = f2
        obtain ⟨g1, n1, q1, -, -, i1, e1, e2⟩ := hp1
        obtain ⟨g2, n2, q2, -, -, i2, e3, e4⟩ := hp2
        obtain ⟨g3, n3, q3, -, -, i3, e5, e6⟩ := hq1
        obtain ⟨g4, n4, q4, -, -, i4, e7, e8⟩ := hq2
        obtain ⟨g5, n5, q5, -, -, i5, e9, e10⟩ := hq3
        replace i1 : 0 < n1 := by omega
        replace i2 : 0 < n2 := by omega
        replace i3 : 0 < n3 := by omega
        replace i4 : 0 < n4 := by omega
        replace i5 : 0 < n5 := by omega
        go_quiet (skip)
        clear i1 i2 i3 i4 i5 e1 e2 e3 e4 e5 e6 e7 e8 e9 e10
        have hBd : Below W.heap.size W (w5.drewN nq) := ⟨hB5.os, hB5.tape, hB5.output, hB5.size, hB5.block⟩
        have hk1d : KidsAt (w5.drewN nq) a1 37 l := hk1
        have hk2d : KidsAt (w5.drewN nq) a2 60 l := hk2
        clear hk1 hk2 hB5
        generalize w5.drewN nq = w6 at hBd hk1d hk2d ⊢
        obtain ⟨-, k10, p1, kc1, k15, hks1⟩ := hk1d
        obtain ⟨-, k20, p2, kc2, k25, hks2⟩ := hk2d
        go_wp2
        go_loopw [142] (fun i wr => ∃ k : Nat, k ≤ l.length ∧ i = .int .i64 k ∧ wr = w6) (fun i _ => l.length - (Go.RowKit.intOf i).toNat)
        case atStart => exact ⟨0, Nat.zero_le _, rfl, rfl⟩
        case round =>
          obtain ⟨k, hkk, rfl, rfl⟩ := hrel
          by_cases hlt2 : k < l.length
          · try (exfalso; omega)
            all_goals
              obtain ⟨b, hb⟩ : ∃ b, l[k]? = some b := ⟨l[k], by simp [hlt2]⟩
              obtain ⟨ga, oa, hpe, hga, hcx⟩ := hc k b hb
              obtain ⟨gb, kb, no, hp1e, -, -, s1, s2⟩ := hks1 k b hb
              obtain ⟨gc, kc, nc, hp2e, -, -, s3, s4⟩ := hks2 k b hb
              have s5 := (hBd.cell hga).trans hcx
              have hwr' : IntKind.i64.wrap ((k : Int) + 1) = ((k + 1 : Nat) : Int) := by have := Go.Ev.wrap_small IntKind.i64 (k + 1) (by show _ ≤ 9223372036854775807; omega); simpa using this
              clear hks1 hks2 hcx hc hb
              subst hp1e hp2e
              rw [hpe]
              clear hpe
              cases b with
              | false =>
                have s2' : _ = some (Value.int IntKind.i64 40) := s2
                have s4' : _ = some (Value.int IntKind.i64 40) := s4
                clear s2 s4
                go_wp2
                exact ⟨⟨k + 1, by omega, by simp, trivial⟩, by simp [Go.RowKit.intOf]; omega⟩
              | true =>
                have s2' : _ = some (Value.int IntKind.i64 32) := s2
                have s4' : _ = some (Value.int IntKind.i64 32) := s4
                clear s2 s4
                go_wp2
                exact ⟨⟨k + 1, by omega, by simp, trivial⟩, by simp [Go.RowKit.intOf]; omega⟩
          · have hkl : k = l.length := by omega
            subst hkl
            clear hks1 hks2 k10 k15 k20 k25 hkk
            go_wp2_with fail
            refine (parse3 hA _ l d hn x3 z3 hBd).mono ?_
            clear x3 z3
            rintro e w7 ⟨hb7, v, kk, xx, rfl, ⟨vp, rfl⟩, hkd⟩
            replace hkd : KdIs kk l := hkd
            have hB7 := hBd.trans (hb7.mono hBd.size)
            clear hb7 hBd
            go_wp2
            have al8 : Below w7.heap.size w7 (w7.alloc (.cells #[.int .i64 kk, .int .i64 xx] 27)) := (Below.refl _ w7).alloc (Nat.le_refl _) _
            have hf8 := heap_alloc_new w7 (.cells #[.int .i64 kk, .int .i64 xx] 27)
            have hB8 := hB7.trans (al8.mono hB7.size)
            generalize w7.alloc (Obj.cells #[Value.int IntKind.i64 kk, Value.int IntKind.i64 xx] 27) = w8 at hf8 hB8 ⊢
            clear al8 hB7
            go_loopw [19, 185] (fun h i wr' => ∃ k : Nat, k ≤ l.length ∧ h = .bool (!(l.take k).all id) ∧ i = .int .i64 k ∧ wr' = w8) (fun _ i _ => l.length - (Go.RowKit.intOf i).toNat)
            case atStart => exact ⟨0, Nat.zero_le _, rfl, rfl, rfl⟩
            case round =>
              obtain ⟨k, hk3, rfl, rfl, rfl⟩ := hrel
              by_cases hlt3 : k < l.length
              · try (exfalso; omega)
                all_goals
                  obtain ⟨b, hb⟩ : ∃ b, l[k]? = some b := ⟨l[k], by simp [hlt3]⟩
                  obtain ⟨ga, oa, hpe, hga, hcx⟩ := hc k b hb
                  have s5 := (hB8.cell hga).trans hcx
                  have hwr' : IntKind.i64.wrap ((k : Int) + 1) = ((k + 1 : Nat) : Int) := by have := Go.Ev.wrap_small IntKind.i64 (k + 1) (by show _ ≤ 9223372036854775807; omega); simpa using this
                  have htk : (!(l.take (k + 1)).all id) = (!(l.take k).all id || !b) := by
                    rw [List.take_add_one, hb, List.all_append]
                    cases (l.take k).all id <;> simp
                  rw [hpe]
                  generalize (!(l.take k).all id) = X at htk ⊢
                  have fin : ∀ Y : Bool, Y = (X || !b) → (∃ k_1, k_1 ≤ l.length ∧ Value.bool Y = Value.bool (!(l.take k_1).all id) ∧ Value.int .i64 ((k : Int) + 1) = Value.int .i64 (k_1 : Int) ∧ True) := fun Y hY => ⟨k + 1, by omega, by rw [htk, hY], by simp, trivial⟩
                  clear hpe hb hcx hc htk hkd
                  cases X <;> cases b
                  all_goals
                    go_wp2
                    exact ⟨fin _ rfl, by simp [Go.RowKit.intOf]; omega⟩
              · have hkl : k = l.length := by omega
                subst hkl
                rw [List.take_length]
                unfold KdIs at hkd
                have c9 : wr.cell? ⟨w7.heap.size, 0, none⟩ = some (.int .i64 kk) := by simp [World.cell?, hf8]
                cases hal : l.all id
                · rw [hal] at hkd
                  obtain rfl : kk = 4 := hkd
                  clear hal hf8
                  go_wp2
                  go_ret
                  exact ⟨rfl, hB8⟩
                · rw [hal] at hkd
                  obtain rfl : kk = 0 := hkd
                  clear hal hf8
                  go_wp2
                  go_ret
                  exact ⟨rfl, hB8⟩
end Go.Proofs.YtcaomilekhhhlaaDoor
