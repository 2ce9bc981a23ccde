/- EarlyLabels: the law, walked. Condition: the table holds what its initialiser lays. -/
import Derived.Test.YtjkgefnlennbjaaGreatDoorEvUu
set_option linter.all false
namespace Go.Proofs.YtjkgefnlennbjaaGreatDoor
open Go.Ev Go.RowKit
set_option maxHeartbeats 16000000
set_option maxRecDepth 1000000

/-- The argument's cells. -/
def IntsAt (W : World) (p : Option Addr) (l : List Int) : Prop := ∀ (j : Nat) (x : Int), l[j]? = some x → ∃ g off, p = some ⟨g, off, none⟩ ∧ g < W.heap.size ∧ W.cell? ⟨g, off + j, none⟩ = some (.int .i64 x)
/-- A kind, of four. -/
def km (x : Int) : Nat := (bits BinOp.and IntKind.i64 x 3).toNat
theorem and3 (x : Int) : ∃ r : Nat, r < 4 ∧ bits BinOp.and IntKind.i64 x 3 = (r : Int) := by
  have h : (BitVec.ofInt 64 x &&& 3#64).toNat < 4 := by
    rw [BitVec.toNat_and]
    exact Nat.lt_of_le_of_lt Nat.and_le_right (by decide)
  refine ⟨(BitVec.ofInt 64 x &&& 3#64).toNat, h, ?_⟩
  have := Go.Ev.wrap_small IntKind.i64 (BitVec.ofInt 64 x &&& 3#64).toNat (by show _ ≤ 9223372036854775807; omega)
  exact this
theorem km_four (x : Int) : (km x = 0 ∧ bits BinOp.and IntKind.i64 x 3 = 0) ∨ (km x = 1 ∧ bits BinOp.and IntKind.i64 x 3 = 1) ∨ (km x = 2 ∧ bits BinOp.and IntKind.i64 x 3 = 2) ∨ (km x = 3 ∧ bits BinOp.and IntKind.i64 x 3 = 3) := by
  obtain ⟨r, hr, e⟩ := and3 x
  have hk : km x = r := by unfold km; rw [e]; rfl
  rw [hk, e]
  omega
theorem und24 : Tryz.prog.underlying 24 = some (.slice 4) := by kernel_rfl
theorem und25 : Tryz.prog.underlying 25 = some (.slice 5) := by kernel_rfl
theorem und5 : Tryz.prog.underlying 5 = some (.int .u8) := by kernel_rfl
/-- One byte as a text. -/
theorem chr_conv (w : World) (z : Int) : Sem.run Tryz.prog (convert 25 9 (.slice (some ⟨w.heap.size, 0, none⟩) 1 1)) (w.alloc (.cells #[.int .u8 z] 5)) = .ok (.string (ByteArray.empty.push (UInt8.ofNat z.toNat))) (w.alloc (.cells #[.int .u8 z] 5)) := by
  show (convert 25 9 (.slice (some ⟨w.heap.size, 0, none⟩) 1 1)).run Tryz.prog _ = _
  rw [run_convert_bytes_string _ 25 9 5 _ _ _ und25 und5 und9]
  have hl : (loadCells ⟨w.heap.size, 0, none⟩ 1).run Tryz.prog (w.alloc (.cells #[.int .u8 z] 5)) = .ok ([z].map (Value.int .u8)).toArray (w.alloc (.cells #[.int .u8 z] 5)) := run_loadCells_list _ ⟨w.heap.size, 0, none⟩ [.int .u8 z] (fun j x hj => by
    match j, hj with
    | 0, hj => simp at hj; subst hj; simp [Addr.add, World.cell?_alloc_at])
  exact run_bytesToString _ _ _ _ [z] hl
theorem push_data (c : UInt8) : (ByteArray.empty.push c).data.toList = [c] := rfl
theorem newsB (w : World) (y x : Value) (t t2 : TypeId) : ∀ j u, [x][j]? = some u → ((w.alloc (.cells #[y] t2)).alloc (.cells #[x] t)).cell? ((⟨w.heap.size + 1, 0, none⟩ : Addr).add j) = some u := by
  intro j u hj
  match j, hj with
  | 0, hj =>
    simp at hj
    subst hj
    have h := newsA (w.alloc (.cells #[y] t2)) x t
    have e : (w.alloc (.cells #[y] t2)).heap.size = w.heap.size + 1 := by simp
    rw [e] at h
    exact h
theorem mod15 (tg : Int) : ∃ m : Nat, m < 15 ∧ (wrap64 (tg.tmod 15 + 15)).tmod 15 = (m : Int) := by
  have h1 : -15 < tg.tmod 15 := Int.lt_tmod_of_pos _ (by decide)
  have h2 : tg.tmod 15 < 15 := Int.tmod_lt_of_pos _ (by decide)
  generalize tg.tmod 15 = r at h1 h2
  obtain ⟨n, hn⟩ : ∃ n : Nat, r + 15 = (n : Int) := ⟨(r + 15).toNat, by omega⟩
  rw [hn]
  have hw : wrap64 (n : Int) = (n : Int) := by
    unfold wrap64
    omega
  rw [hw]
  exact ⟨n % 15, by omega, by rw [Int.tmod_eq_emod_of_nonneg (by omega)]; omega⟩
theorem src_walk' {W : World} (hA : At W) (again : Bool) (tgt : Option Nat) (ht : ∀ m, tgt = some m → m < 15) (ks : List Nat) (h0 : 0 < ks.length) (hk : ks.length ≤ 12) (h4 : ∀ k ∈ ks, k < 4) (s : ByteArray) (hs : s.data.toList = psB (pcsE again tgt ks)) {w : World} (hB : Below W.heap.size W w) :
    Calls Tryz.prog 5 #[.string s] w (SrcEnd (levF again tgt 0 [] [] 0 ks) w) := by
  cases ks with
  | nil => simp at h0
  | cons k0 ks0 => exact src_walk hA again tgt ht k0 ks0 hk h4 s hs hB
theorem all_any (l : List Int) : (((0 : Nat) == 0) && (l.map km).all (· == 2)) = !(l.any fun x => km x != 2) := by
  induction l with
  | nil => rfl
  | cons x l ih =>
    simp only [List.map_cons, List.all_cons, List.any_cons] at ih ⊢
    simp only [show ((0 : Nat) == 0) = true from rfl, Bool.true_and] at ih ⊢
    rw [ih]
    cases h : (km x == 2) <;> simp [bne, h]
theorem law_walk {W : World} (hA : At W) (p : Option Addr) (cap : Nat) (l : List Int) (hn : l.length ≤ 12) (h0 : 0 < l.length) (hc : IntsAt W p l) (tg : Int) (again : Bool) :
    Calls Tryz.prog 3 #[.slice p l.length cap, .int .i64 tg, .bool again] W fun e w' => e = .returned (.bool true) ∧ Below W.heap.size W w' := by
  obtain ⟨i0, hi, hz0, hz1, hz2⟩ := info_at (P := Tryz.prog) (t := 4) (z := .bool false) (s := 1) (b := 1) (by kernel_rfl) (by kernel_rfl) (by kernel_rfl)
  have hnI : ¬ ((12 : Int) < (l.length : Int)) := by omega
  have hnZ : ((l.length : Int) == 0) = false := by
    have : (l.length : Int) ≠ 0 := by omega
    simpa using this
  go_enter Tryz.func3, Tryz.ntmps3
  go_wp2_with (go_at_call 4; refine (fit_calls hA).mono ?_)
  rintro e w1 rfl hb1
  go_wp2
  go_loopw [7, 8, 9, 32] (fun s lp v i wr => ∃ (k : Nat) (t : ByteArray), k ≤ l.length ∧ s = .string t ∧ lp = .bool ((l.take k).any fun x => km x != 2) ∧ i = .int .i64 k ∧ t.data.toList = hdB 0 ((l.take k).map km) ∧ wr.ownsRow w1.heap.size 4 1 v k ((l.take k).map fun x => Value.bool (km x != 2)) ∧ Below w1.heap.size w1 wr) (fun _ _ _ i _ => l.length - (Go.RowKit.intOf i).toNat)
  case atStart => exact ⟨0, ⟨#[]⟩, Nat.zero_le _, rfl, rfl, rfl, rfl, World.ownsRow_nil _ _ _ _, Below.refl _ _⟩
  case round =>
    obtain ⟨k, t, hk, rfl, rfl, rfl, ht, hown, hbw⟩ := hrel
    by_cases hlt : k < l.length
    · obtain ⟨x, hx⟩ : ∃ x, l[k]? = some x := ⟨l[k], by simp [hlt]⟩
      obtain ⟨g, off, rfl, hg, hcx⟩ := hc k x hx
      have hcw : wr.cell? ⟨g, off + k, none⟩ = some (.int .i64 x) := (hbw.cell (Nat.lt_of_lt_of_le hg hb1.size)).trans ((hb1.cell hg).trans hcx)
      obtain ⟨z, hz⟩ : ∃ z : Int, z = 97 + (k : Int) := ⟨_, rfl⟩
      have hzn : z.toNat = 97 + k := by omega
      have hcv := chr_conv wr z
      obtain ⟨ch, hch⟩ : ∃ ch, ByteArray.empty.push (UInt8.ofNat z.toNat) = ch := ⟨_, rfl⟩
      rw [hch, hz] at hcv
      have hcd : ch.data.toList = [UInt8.ofNat (97 + k)] := by rw [← hch, hzn]; rfl
      have hcs : ch.size = 1 := by have h := congrArg List.length hcd; simpa using h
      have hts : t.size ≤ 276 := by
        have h1 : t.data.toList.length ≤ 276 := by rw [ht]; have := hdB_len ((l.take k).map km) 0; rw [List.length_map, List.length_take] at this; omega
        simpa using h1
      have hml : (l.take (k + 1)).map km = (l.take k).map km ++ [km x] := by rw [List.take_add_one, hx]; simp
      have hmb : ((l.take (k + 1)).map fun x => Value.bool (km x != 2)) = ((l.take k).map fun x => Value.bool (km x != 2)) ++ [.bool (km x != 2)] := by rw [List.take_add_one, hx]; simp
      have han : ((l.take (k + 1)).any fun x => km x != 2) = (((l.take k).any fun x => km x != 2) || (km x != 2)) := by rw [List.take_add_one, hx]; simp
      have hkl : ((l.take k).map km).length = k := by rw [List.length_map, List.length_take]; omega
      have hw64 : IntKind.i64.wrap ((k : Int) + 1) = ((k + 1 : Nat) : Int) := by have := Go.Ev.wrap_small IntKind.i64 (k + 1) (by show _ ≤ 9223372036854775807; omega); simpa using this
      clear hcx hch hzn hz
      generalize hlb : ((l.take k).any fun x => km x != 2) = lb at han
      generalize hrow : ((l.take k).map fun x => Value.bool (km x != 2)) = row at hown hmb
      rcases km_four x with ⟨hkx, hb3⟩ | ⟨hkx, hb3⟩ | ⟨hkx, hb3⟩ | ⟨hkx, hb3⟩ <;> cases lb
      all_goals
        rw [hkx] at hml hmb han
        go_wp2_with (at_builtin; refine wpList_append_lies _ rfl (.tmp 62) (.tmp 66) 24 rfl w1.heap.size 4 i0 (.bool false) 1 1 und24 hi hz0 hz1 hz2 rfl (by decide) u9 k row rfl (by exact (hown.alloc _).alloc _) ⟨wr.heap.size + 1, 0, none⟩ 1 1 [.bool _] rfl rfl (by exact newsB wr _ _ _ _) (by intro u hu; simp at hu; subst hu; rfl) (by decide) (by unfold maxLen; omega) (by omega) (by have := hbw.size; simp; omega) _ rfl ?_)
        intro g1 cap1 wn hown2 hgrow2 hat2 hlt2
        have hbs := hbw.size
        have hb2 : Below w1.heap.size w1 wn := ((hbw.alloc hbs _).alloc (by simp; omega) _).grown hgrow2 (by simp; omega) (fun g hg => (hown.lt g hg).1)
        have R : wn.ownsRow w1.heap.size 4 1 (.slice (some ⟨g1, 0, none⟩) (k + 1) cap1) (k + 1) ((l.take (k + 1)).map fun x => Value.bool (km x != 2)) := by rw [hmb]; exact hown2
        clear hown2 hgrow2 hat2 hlt2 hown hmb hcw hcv
        go_wp2
        go_roundw
        case rel =>
          refine ⟨k + 1, _, by omega, rfl, by rw [han]; rfl, by simp, ?_, R, hb2⟩
          rw [hml, hdB_snoc, hkl, Nat.zero_add]
          simp only [dat_append]
          rw [ht, hcd]
          simp [ktB]
        case measure => simp [Go.RowKit.intOf]; omega
    · have hkl : k = l.length := by omega
      subst hkl
      rw [List.take_length] at ht hown
      rw [List.take_length]
      have hts : t.size ≤ 276 := by
        have h1 : t.data.toList.length ≤ 276 := by rw [ht]; have := hdB_len (l.map km) 0; rw [List.length_map] at this; omega
        simpa using h1
      generalize hlb : (l.any fun x => km x != 2) = lb
      generalize hrow : (l.map fun x => Value.bool (km x != 2)) = row at hown
      have hwm : IntKind.i64.wrap ((l.length : Int) - 1) = (l.length : Int) - 1 := by
        have := Go.Ev.wrap_small IntKind.i64 (l.length - 1) (by show _ ≤ 9223372036854775807; omega)
        rw [show ((l.length : Int) - 1) = Int.ofNat (l.length - 1) by simp only [Int.ofNat_eq_natCast]; omega]
        exact this
      obtain ⟨m, hm15, hm⟩ := mod15 tg
      have hB1 : Below W.heap.size W wr := hb1.trans (hbw.mono hb1.size)
      cases again
      · go_wp2
        try rw [hm]
        go_loopw [13, 14] (fun rv i wq => ∃ (k : Nat) (t2 : ByteArray), k ≤ l.length ∧ i = .int .i64 ((k : Int) - 1) ∧ rv = .string t2 ∧ t2.data.toList = tlB ((l.drop k).map km) ∧ wq = wr) (fun _ i _ => (Go.RowKit.intOf i + 1).toNat)
        case atStart => exact ⟨l.length, ⟨#[]⟩, Nat.le_refl _, rfl, rfl, by rw [List.drop_length]; rfl, rfl⟩
        case round =>
          obtain ⟨k, t2, hk2, hi2, rfl, ht2, rfl⟩ := hrel
          have hts2 : t2.size ≤ 132 := by
            have h1 : t2.data.toList.length ≤ 132 := by rw [ht2]; have := tlB_len ((l.drop k).map km); rw [List.length_map, List.length_drop] at this; omega
            simpa using h1
          cases k with
          | succ k =>
            rw [show (((k + 1 : Nat) : Int) - 1) = (k : Int) by omega] at hi2
            subst hi2
            have hlt : k < l.length := by omega
            obtain ⟨x, hx⟩ : ∃ x, l[k]? = some x := ⟨l[k], by simp [hlt]⟩
            obtain ⟨g, off, rfl, hg, hcx⟩ := hc k x hx
            have hcw : wr.cell? ⟨g, off + k, none⟩ = some (.int .i64 x) := (hB1.cell hg).trans hcx
            have hw64 : IntKind.i64.wrap ((k : Int) - 1) = (k : Int) - 1 := by
              simp only [IntKind.wrap, IntKind.bits, IntKind.signed]
              simp
              omega
            have hdr : (l.drop k).map km = km x :: (l.drop (k + 1)).map km := by
              rw [List.drop_eq_getElem_cons hlt, List.map_cons]
              rw [List.getElem?_eq_getElem hlt] at hx
              rw [Option.some.inj hx]
            clear hcx
            rcases km_four x with ⟨hkx, hb3⟩ | ⟨hkx, hb3⟩ | ⟨hkx, hb3⟩ | ⟨hkx, hb3⟩
            all_goals
              rw [hkx] at hdr
              go_wp2
              go_roundw
              case rel => exact ⟨k, _, by omega, rfl, rfl, by rw [hdr, tlB]; first | (rw [dat_append, ht2]; rfl) | (rw [ht2]; simp [clB]), trivial⟩
              case measure => first | (simp [Go.RowKit.intOf]; done) | (simp [Go.RowKit.intOf]; omega)
          | zero =>
            subst hi2
            rw [List.drop_zero] at ht2
            obtain ⟨z, hz⟩ : ∃ z : Int, z = 97 + (m : Int) := ⟨_, rfl⟩
            have hzn : z.toNat = 97 + m := by omega
            have hcv := chr_conv wr z
            obtain ⟨ch, hch⟩ : ∃ ch, ByteArray.empty.push (UInt8.ofNat z.toNat) = ch := ⟨_, rfl⟩
            rw [hch, hz] at hcv
            have hcd : ch.data.toList = [UInt8.ofNat (97 + m)] := by rw [← hch, hzn]; rfl
            have hcs : ch.size = 1 := by have h := congrArg List.length hcd; simpa using h
            have hlk : (l.map km).length = l.length := List.length_map ..
            have h4 : ∀ k ∈ l.map km, k < 4 := by
              intro k hk
              obtain ⟨x, -, rfl⟩ := List.mem_map.1 hk
              rcases km_four x with h | h | h | h <;> omega
            have hB2 : Below W.heap.size W (wr.alloc (.cells #[.int .u8 (97 + (m : Int))] 5)) := hB1.alloc hB1.size _
            have hs2w : wr.heap.size ≤ (wr.alloc (.cells #[.int .u8 (97 + (m : Int))] 5)).heap.size := by simp
            have hbu := below_alloc wr (.cells #[.int .u8 (97 + (m : Int))] 5)
            have hW := hB1.size
            clear hch hzn hz
            have ef2 : levF false none 0 [] [] 0 (l.map km) = !lb := by rw [levF_none, ← hlb]; exact all_any l
            have hT1 : (⟨#[108, 101, 116, 32, 121, 59, 32]⟩ ++ t ++ ⟨#[98, 114, 101, 97, 107]⟩ ++ ⟨#[32, 108]⟩ ++ ch ++ ⟨#[59]⟩ ++ t2 : ByteArray).data.toList = psB (pcsE false (some m) (l.map km)) := by
              rw [pcsE_bytes false (some m) _ (leaf_some false m hm15) (l.map km) (by omega)]
              simp only [dat_append]
              rw [ht, hcd, ht2]
              simp [wordB]
            have hT2 : (⟨#[108, 101, 116, 32, 121, 59, 32]⟩ ++ t ++ ⟨#[98, 114, 101, 97, 107]⟩ ++ ⟨#[59]⟩ ++ t2 : ByteArray).data.toList = psB (pcsE false none (l.map km)) := by
              rw [pcsE_bytes false none _ (leaf_none false) (l.map km) (by omega)]
              simp only [dat_append]
              rw [ht, ht2]
              simp [wordB]
            have hto : ∀ q, some m = some q → q < 15 := fun q e => by cases e; exact hm15
            obtain ⟨F1, hF1⟩ : ∃ F, levF false (some m) 0 [] [] 0 (l.map km) = F := ⟨_, rfl⟩
            obtain ⟨F2, hF2⟩ : ∃ F, levF false none 0 [] [] 0 (l.map km) = F := ⟨_, rfl⟩
            have S1 := src_walk' hA false (some m) hto (l.map km) (by omega) (by omega) h4 _ hT1 hB2
            rw [hF1] at S1
            clear ht ht2 hcd hT1
            go_wp2_with (go_at_call 5; refine S1.mono ?_)
            clear S1 hcv
            generalize wr.alloc (.cells #[.int .u8 (97 + (m : Int))] 5) = wu at *
            rintro e w3 hS
            obtain ⟨p1, x1, rfl, b3⟩ := hS
            have hB3 : Below W.heap.size W w3 := hB2.trans (b3.mono hB2.size)
            have hb3 : Below wr.heap.size wr w3 := hbu.trans (b3.mono hs2w)
            have S2 := src_walk' hA false none (fun q e => by cases e) (l.map km) (by omega) (by omega) h4 _ hT2 (hB3.alloc hB3.size (.cells #[.int .i64 (ckK F1), .int .i64 x1] 29))
            rw [hF2] at S2
            clear hT2 b3 hB2 hbu hs2w
            go_wp2_with (go_at_call 5; refine S2.mono ?_)
            have hn3 := heap_alloc_new w3 (.cells #[.int .i64 (ckK F1), .int .i64 x1] 29)
            have hs3 : (w3.alloc (.cells #[.int .i64 (ckK F1), .int .i64 x1] 29)).heap.size = w3.heap.size + 1 := by simp
            have hB3' := hB3.alloc hB3.size (.cells #[.int .i64 (ckK F1), .int .i64 x1] 29)
            have hb3' := hb3.alloc hb3.size (.cells #[.int .i64 (ckK F1), .int .i64 x1] 29)
            clear S2
            generalize w3.alloc (.cells #[.int .i64 (ckK F1), .int .i64 x1] 29) = w3' at *
            rintro e w4 hS
            obtain ⟨p2, x2, rfl, b4⟩ := hS
            have hq4 : w4.heap[w3.heap.size]? = some (.cells #[.int .i64 (ckK F1), .int .i64 x1] 29 (0, 0)) := (b4.block _ (by omega)).trans hn3
            have hs4 := b4.size
            have hB4 : Below W.heap.size W w4 := hB3'.trans (b4.mono hB3'.size)
            have hb4 : Below wr.heap.size wr w4 := hb3'.trans (b4.mono hb3'.size)
            have hn4 := heap_alloc_new w4 (.cells #[.int .i64 (ckK F2), .int .i64 x2] 29)
            have hq5 : (w4.alloc (.cells #[.int .i64 (ckK F2), .int .i64 x2] 29)).heap[w3.heap.size]? = some (.cells #[.int .i64 (ckK F1), .int .i64 x1] 29 (0, 0)) := (heap_alloc_old w4 _ (by omega)).trans hq4
            have hB5 := hB4.alloc hB4.size (.cells #[.int .i64 (ckK F2), .int .i64 x2] 29)
            have hb5 := hb4.alloc hb4.size (.cells #[.int .i64 (ckK F2), .int .i64 x2] 29)
            go_upto_region 38 with fail
            clear hn3 hs3 hB3' hb3' b4 hq4 hB3 hb3 hB4 hb4
            generalize w4.alloc (.cells #[.int .i64 (ckK F2), .int .i64 x2] 29) = w5 at *
            obtain ⟨u0, -, -, -⟩ := two_at hq5
            obtain ⟨v0, -, -, -⟩ := two_at hn4
            clear hq5 hn4
            have ef1 : levF false (some m) 0 [] [] 0 (l.map km) = !decide (m < l.length) := by
              rw [levF_break m (l.map km) 0 [] [] 0 (fun x => by simp), hlk, Nat.zero_add]
            by_cases hml : m < l.length <;> cases lb
            all_goals
              have hmI : ((m : Int) < (l.length : Int)) = decide (m < l.length) := by simp
              simp only [hml, decide_true, decide_false, Bool.not_true, Bool.not_false] at ef1 ef2
              have hmI2 : (if m < l.length then (m : Int) < (l.length : Int) else ¬ ((m : Int) < (l.length : Int))) := by split <;> omega
              simp only [hml, if_true, if_false] at hmI2
              clear hmI
              rw [hF1] at ef1
              rw [hF2] at ef2
              subst ef1 ef2
              simp only [show ckK false = 0 from rfl, show ckK true = 6 from rfl] at u0 v0
              clear hF1 hF2
              go_wp2_with (go_at_call 6; refine (make_walk _ _ _ _ _ ⟨_, _, _, rfl⟩).mono ?_)
              first
                | (intro e w6 hE; obtain ⟨rfl, rfl⟩ := hE; go_wp2; go_ret; exact ⟨rfl, hB5.alloc hB5.size _⟩)
                | (go_ret; exact ⟨rfl, hB5.alloc hB5.size _⟩)
      · go_wp2
        try rw [hm]
        go_loopw [13, 14] (fun rv i wq => ∃ (k : Nat) (t2 : ByteArray), k ≤ l.length ∧ i = .int .i64 ((k : Int) - 1) ∧ rv = .string t2 ∧ t2.data.toList = tlB ((l.drop k).map km) ∧ wq = wr) (fun _ i _ => (Go.RowKit.intOf i + 1).toNat)
        case atStart => exact ⟨l.length, ⟨#[]⟩, Nat.le_refl _, rfl, rfl, by rw [List.drop_length]; rfl, rfl⟩
        case round =>
          obtain ⟨k, t2, hk2, hi2, rfl, ht2, rfl⟩ := hrel
          have hts2 : t2.size ≤ 132 := by
            have h1 : t2.data.toList.length ≤ 132 := by rw [ht2]; have := tlB_len ((l.drop k).map km); rw [List.length_map, List.length_drop] at this; omega
            simpa using h1
          cases k with
          | succ k =>
            rw [show (((k + 1 : Nat) : Int) - 1) = (k : Int) by omega] at hi2
            subst hi2
            have hlt : k < l.length := by omega
            obtain ⟨x, hx⟩ : ∃ x, l[k]? = some x := ⟨l[k], by simp [hlt]⟩
            obtain ⟨g, off, rfl, hg, hcx⟩ := hc k x hx
            have hcw : wr.cell? ⟨g, off + k, none⟩ = some (.int .i64 x) := (hB1.cell hg).trans hcx
            have hw64 : IntKind.i64.wrap ((k : Int) - 1) = (k : Int) - 1 := by
              simp only [IntKind.wrap, IntKind.bits, IntKind.signed]
              simp
              omega
            have hdr : (l.drop k).map km = km x :: (l.drop (k + 1)).map km := by
              rw [List.drop_eq_getElem_cons hlt, List.map_cons]
              rw [List.getElem?_eq_getElem hlt] at hx
              rw [Option.some.inj hx]
            clear hcx
            rcases km_four x with ⟨hkx, hb3⟩ | ⟨hkx, hb3⟩ | ⟨hkx, hb3⟩ | ⟨hkx, hb3⟩
            all_goals
              rw [hkx] at hdr
              go_wp2
              go_roundw
              case rel => exact ⟨k, _, by omega, rfl, rfl, by rw [hdr, tlB]; first | (rw [dat_append, ht2]; rfl) | (rw [ht2]; simp [clB]), trivial⟩
              case measure => first | (simp [Go.RowKit.intOf]; done) | (simp [Go.RowKit.intOf]; omega)
          | zero =>
            subst hi2
            rw [List.drop_zero] at ht2
            obtain ⟨z, hz⟩ : ∃ z : Int, z = 97 + (m : Int) := ⟨_, rfl⟩
            have hzn : z.toNat = 97 + m := by omega
            have hcv := chr_conv wr z
            obtain ⟨ch, hch⟩ : ∃ ch, ByteArray.empty.push (UInt8.ofNat z.toNat) = ch := ⟨_, rfl⟩
            rw [hch, hz] at hcv
            have hcd : ch.data.toList = [UInt8.ofNat (97 + m)] := by rw [← hch, hzn]; rfl
            have hcs : ch.size = 1 := by have h := congrArg List.length hcd; simpa using h
            have hlk : (l.map km).length = l.length := List.length_map ..
            have h4 : ∀ k ∈ l.map km, k < 4 := by
              intro k hk
              obtain ⟨x, -, rfl⟩ := List.mem_map.1 hk
              rcases km_four x with h | h | h | h <;> omega
            have hB2 : Below W.heap.size W (wr.alloc (.cells #[.int .u8 (97 + (m : Int))] 5)) := hB1.alloc hB1.size _
            have hs2w : wr.heap.size ≤ (wr.alloc (.cells #[.int .u8 (97 + (m : Int))] 5)).heap.size := by simp
            have hbu := below_alloc wr (.cells #[.int .u8 (97 + (m : Int))] 5)
            have hW := hB1.size
            clear hch hzn hz
            have ef2 : levF true none 0 [] [] 0 (l.map km) = !lb := by rw [levF_none, ← hlb]; exact all_any l
            have hT1 : (⟨#[108, 101, 116, 32, 121, 59, 32]⟩ ++ t ++ ⟨#[99, 111, 110, 116, 105, 110, 117, 101]⟩ ++ ⟨#[32, 108]⟩ ++ ch ++ ⟨#[59]⟩ ++ t2 : ByteArray).data.toList = psB (pcsE true (some m) (l.map km)) := by
              rw [pcsE_bytes true (some m) _ (leaf_some true m hm15) (l.map km) (by omega)]
              simp only [dat_append]
              rw [ht, hcd, ht2]
              simp [wordB]
            have hT2 : (⟨#[108, 101, 116, 32, 121, 59, 32]⟩ ++ t ++ ⟨#[99, 111, 110, 116, 105, 110, 117, 101]⟩ ++ ⟨#[59]⟩ ++ t2 : ByteArray).data.toList = psB (pcsE true none (l.map km)) := by
              rw [pcsE_bytes true none _ (leaf_none true) (l.map km) (by omega)]
              simp only [dat_append]
              rw [ht, ht2]
              simp [wordB]
            have hto : ∀ q, some m = some q → q < 15 := fun q e => by cases e; exact hm15
            obtain ⟨F1, hF1⟩ : ∃ F, levF true (some m) 0 [] [] 0 (l.map km) = F := ⟨_, rfl⟩
            obtain ⟨F2, hF2⟩ : ∃ F, levF true none 0 [] [] 0 (l.map km) = F := ⟨_, rfl⟩
            have S1 := src_walk' hA true (some m) hto (l.map km) (by omega) (by omega) h4 _ hT1 hB2
            rw [hF1] at S1
            clear ht ht2 hcd hT1
            go_wp2_with (go_at_call 5; refine S1.mono ?_)
            clear S1 hcv
            generalize wr.alloc (.cells #[.int .u8 (97 + (m : Int))] 5) = wu at *
            rintro e w3 hS
            obtain ⟨p1, x1, rfl, b3⟩ := hS
            have hB3 : Below W.heap.size W w3 := hB2.trans (b3.mono hB2.size)
            have hb3 : Below wr.heap.size wr w3 := hbu.trans (b3.mono hs2w)
            have S2 := src_walk' hA true none (fun q e => by cases e) (l.map km) (by omega) (by omega) h4 _ hT2 (hB3.alloc hB3.size (.cells #[.int .i64 (ckK F1), .int .i64 x1] 29))
            rw [hF2] at S2
            clear hT2 b3 hB2 hbu hs2w
            go_wp2_with (go_at_call 5; refine S2.mono ?_)
            have hn3 := heap_alloc_new w3 (.cells #[.int .i64 (ckK F1), .int .i64 x1] 29)
            have hs3 : (w3.alloc (.cells #[.int .i64 (ckK F1), .int .i64 x1] 29)).heap.size = w3.heap.size + 1 := by simp
            have hB3' := hB3.alloc hB3.size (.cells #[.int .i64 (ckK F1), .int .i64 x1] 29)
            have hb3' := hb3.alloc hb3.size (.cells #[.int .i64 (ckK F1), .int .i64 x1] 29)
            clear S2
            generalize w3.alloc (.cells #[.int .i64 (ckK F1), .int .i64 x1] 29) = w3' at *
            rintro e w4 hS
            obtain ⟨p2, x2, rfl, b4⟩ := hS
            have hq4 : w4.heap[w3.heap.size]? = some (.cells #[.int .i64 (ckK F1), .int .i64 x1] 29 (0, 0)) := (b4.block _ (by omega)).trans hn3
            have hs4 := b4.size
            have hB4 : Below W.heap.size W w4 := hB3'.trans (b4.mono hB3'.size)
            have hb4 : Below wr.heap.size wr w4 := hb3'.trans (b4.mono hb3'.size)
            have hn4 := heap_alloc_new w4 (.cells #[.int .i64 (ckK F2), .int .i64 x2] 29)
            have hq5 : (w4.alloc (.cells #[.int .i64 (ckK F2), .int .i64 x2] 29)).heap[w3.heap.size]? = some (.cells #[.int .i64 (ckK F1), .int .i64 x1] 29 (0, 0)) := (heap_alloc_old w4 _ (by omega)).trans hq4
            have hB5 := hB4.alloc hB4.size (.cells #[.int .i64 (ckK F2), .int .i64 x2] 29)
            have hb5 := hb4.alloc hb4.size (.cells #[.int .i64 (ckK F2), .int .i64 x2] 29)
            go_upto_region 38 with fail
            clear hn3 hs3 hB3' hb3' b4 hq4 hB3 hb3 hB4 hb4
            generalize w4.alloc (.cells #[.int .i64 (ckK F2), .int .i64 x2] 29) = w5 at *
            obtain ⟨u0, -, -, -⟩ := two_at hq5
            obtain ⟨v0, -, -, -⟩ := two_at hn4
            clear hq5 hn4
            obtain ⟨gr, capr, rfl, hgr, hrc⟩ : ∃ gr capr, u9 = .slice (some ⟨gr, 0, none⟩) l.length capr ∧ gr < wr.heap.size ∧ ∀ j x, row[j]? = some x → wr.cell? ⟨gr, j, none⟩ = some x := by
              have hown' := hown
              obtain ⟨-, h | ⟨g', cap', cur, hv, h1, h2, h3, h4', h5, h6⟩⟩ := hown
              · omega
              · subst hv
                exact ⟨g', cap', rfl, (Array.getElem?_eq_some_iff.1 h2).1, fun j x hj => row_cell hown' rfl hj⟩
            have ef1 : levF true (some m) 0 [] [] 0 (l.map km) = !(match (l.map km)[m]? with | some kd => !(kd == 2) | none => false) := by
              rw [levF_again m (l.map km) 0 [] [] 0 (fun x hx => by simp at hx) (fun h => (h rfl).elim)]
              simp only [Nat.sub_zero, Nat.zero_le, decide_true, List.contains_nil, Bool.false_or, Bool.true_and]
              cases (l.map km)[m]? <;> rfl
            have hsplit : (∃ x, l[m]? = some x ∧ m < l.length ∧ km x ≠ 2 ∧ lb = true) ∨ (∃ x, l[m]? = some x ∧ m < l.length ∧ km x = 2) ∨ (l[m]? = none ∧ ¬ m < l.length) := by
              by_cases hml : m < l.length
              · obtain ⟨x, hx⟩ : ∃ x, l[m]? = some x := ⟨l[m], by simp [hml]⟩
                by_cases h2 : km x = 2
                · exact .inr (.inl ⟨x, hx, hml, h2⟩)
                · refine .inl ⟨x, hx, hml, h2, ?_⟩
                  rw [← hlb, List.any_eq_true]
                  exact ⟨x, List.mem_of_getElem? hx, by simpa using h2⟩
              · exact .inr (.inr ⟨by simp; omega, hml⟩)
            rcases hsplit with ⟨x, hx, hml, h2, rfl⟩ | ⟨x, hx, hml, h2⟩ | ⟨hx, hml⟩
            case' inr.inl => cases lb
            case' inr.inr => cases lb
            case' inl =>
              have hrr : row[m]? = some (.bool true) := by rw [← hrow, List.getElem?_map, hx]; simp [h2]
              have hb9 := hrc m _ hrr
              have h2' : (km x == 2) = false := by simpa using h2
              rw [List.getElem?_map, hx] at ef1
              simp only [Option.map_some, h2', Bool.not_false, Bool.not_true] at ef1 ef2
              have hmI2 : (m : Int) < (l.length : Int) := by omega
            case' inr.inl.false =>
              have hrr : row[m]? = some (.bool false) := by rw [← hrow, List.getElem?_map, hx]; simp [h2]
              have hb9 := hrc m _ hrr
              have h2' : (km x == 2) = true := by simpa using h2
              rw [List.getElem?_map, hx] at ef1
              simp only [Option.map_some, h2', Bool.not_false, Bool.not_true] at ef1 ef2
              have hmI2 : (m : Int) < (l.length : Int) := by omega
            case' inr.inl.true =>
              have hrr : row[m]? = some (.bool false) := by rw [← hrow, List.getElem?_map, hx]; simp [h2]
              have hb9 := hrc m _ hrr
              have h2' : (km x == 2) = true := by simpa using h2
              rw [List.getElem?_map, hx] at ef1
              simp only [Option.map_some, h2', Bool.not_false, Bool.not_true] at ef1 ef2
              have hmI2 : (m : Int) < (l.length : Int) := by omega
            case' inr.inr.false =>
              have hb9 := hgr
              rw [List.getElem?_map, hx] at ef1
              simp only [Option.map_none, Bool.not_false, Bool.not_true] at ef1 ef2
              have hmI2 : ¬ ((m : Int) < (l.length : Int)) := by omega
            case' inr.inr.true =>
              have hb9 := hgr
              rw [List.getElem?_map, hx] at ef1
              simp only [Option.map_none, Bool.not_false, Bool.not_true] at ef1 ef2
              have hmI2 : ¬ ((m : Int) < (l.length : Int)) := by omega
            all_goals
              have hb95 : (∀ v, wr.cell? ⟨gr, m, none⟩ = some v → w5.cell? ⟨gr, m, none⟩ = some v) := fun v h => (World.cell?_of_block (a := ⟨gr, m, none⟩) (hb5.block gr hgr)).trans h
              first | (have hb96 := hb95 _ hb9) | skip
              rw [hF1] at ef1
              rw [hF2] at ef2
              subst ef1 ef2
              simp only [show ckK false = 0 from rfl, show ckK true = 6 from rfl] at u0 v0
              clear hF1 hF2
              go_wp2_with (go_at_call 6; refine (make_walk _ _ _ _ _ ⟨_, _, _, rfl⟩).mono ?_)
              first
                | (intro e w6 hE; obtain ⟨rfl, rfl⟩ := hE; go_wp2; go_ret; exact ⟨rfl, hB5.alloc hB5.size _⟩)
                | (go_ret; exact ⟨rfl, hB5.alloc hB5.size _⟩)
end Go.Proofs.YtjkgefnlennbjaaGreatDoor
