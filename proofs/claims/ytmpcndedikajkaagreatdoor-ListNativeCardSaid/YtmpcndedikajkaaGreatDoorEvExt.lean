/- The contracts of single functions of this program, in the evaluator's words; the world in which the claim's call begins. Condition: the table of blanks holds what its initialiser lays, and the library's own variable some number. -/
import Derived.Test.YtmpcndedikajkaaGreatDoorEvBase
import Derived.Test.YtmpcndedikajkaaGreatDoorShelf
import Derived.Test.YtmpcndedikajkaaGreatDoorEvText
namespace Go.Proofs.YtmpcndedikajkaaGreatDoor
open Go.Ev

theorem mixed : Tryz.prog.follows .mixedOrders = true := by kernel_rfl
theorem noNum : NoNum Tryz.prog := noNum_of (by decide +kernel)
theorem progOk : ProgOk Tryz.prog := progOk_of (by decide +kernel)
theorem draws {w0 : World} (call : CallFn) (hcall : CallFnOk Tryz.prog w0 call) : DrawSound Tryz.prog w0 call := draw_sound mixed noNum call hcall

/-- The world in which the call begins. -/
structure At (W : World) : Prop where
  tab : ∀ i, i < 256 → W.cell? ⟨1, i, none⟩ = some (.int .u8 (tabZ.getD i 0))
  len0 : W.cell? ⟨0, 0, none⟩ = some (.int .i64 7)
  len1 : W.cell? ⟨0, 1, none⟩ = some (.int .i64 0)
  len2 : W.cell? ⟨0, 2, none⟩ = some (.string ⟨#[0, 108, 0, 101, 0, 110, 0, 103, 0, 116, 0, 104]⟩)

theorem tabZ_len : tabZ.length = 256 := by kernel_rfl

theorem cells_of {W : World} {g i : Nat} {v : Value} (h : W.cell? ⟨g, i, none⟩ = some v) : ∃ cs t fz, W.heap[g]? = some (.cells cs t fz) := by
  unfold World.cell? at h
  split at h
  · rename_i c t fz hc
    exact ⟨c, t, fz, hc⟩
  · cases h

theorem nameRel (r : Emb) : VRel r (.str 32186988823353953160102177792 12) (.string ⟨#[0, 108, 0, 101, 0, 110, 0, 103, 0, 116, 0, 104]⟩) := by
  have h := vrel_constV1 r (.string ⟨#[0, 108, 0, 101, 0, 110, 0, 103, 0, 116, 0, 104]⟩)
  have e : constV1 (.string ⟨#[0, 108, 0, 101, 0, 110, 0, 103, 0, 116, 0, 104]⟩) = .str 32186988823353953160102177792 12 := by kernel_rfl
  rw [e] at h
  exact h

theorem At.begins {W : World} (h : At W) : Begin Tryz.prog W (globEmb Tryz.prog W) h0 := by
  obtain ⟨cs, t, fz, hc⟩ := cells_of (h.tab 0 (by omega))
  have hcell : ∀ i, i < 256 → cs[i]? = some (.int .u8 (tabZ.getD i 0)) := by
    intro i hi
    have := h.tab i hi
    simpa [World.cell?, hc] using this
  have hsz : 256 ≤ cs.size := by
    have := hcell 255 (by omega)
    have := (Array.getElem?_eq_some_iff.1 this).1
    omega
  have hlen : tabL.length = 256 := by unfold tabL; rw [List.length_map, tabZ_len]
  have first : Begin Tryz.prog W (globEmb Tryz.prog W) ⟨8, m4.put 1 (.live 256 0 true false (cellsOf tabL))⟩ := by
    refine begin_table (n := 256) W (by decide +kernel) (by omega) (by decide +kernel) (by have := cellsOf_room tabL (by omega); omega) hc hsz (fun o ho => ⟨_, hcell o ho, ?_⟩)
    rw [cellsOf_get tabL (by omega) o (by omega)]
    have : tabL[o]'(by omega) = V.int .u8 (tabZ.getD o 0) := by
      unfold tabL
      rw [List.getElem_map]
      have : o < tabZ.length := by rw [tabZ_len]; exact ho
      simp [List.getD, this]
    rw [this]
    exact .int _ _
  obtain ⟨ds, t2, fz2, hd⟩ := cells_of h.len0
  have d0 : ds[0]? = some (.int .i64 7) := by simpa [World.cell?, hd] using h.len0
  have d1 : ds[1]? = some (.int .i64 0) := by simpa [World.cell?, hd] using h.len1
  have d2 : ds[2]? = some (.string ⟨#[0, 108, 0, 101, 0, 110, 0, 103, 0, 116, 0, 104]⟩) := by simpa [World.cell?, hd] using h.len2
  have hsz2 : 3 ≤ ds.size := by
    have := (Array.getElem?_eq_some_iff.1 d2).1
    omega
  have hl2 : lenL.length = 3 := rfl
  refine begin_add (n := 3) first (by decide +kernel) (by omega) (by decide +kernel) (by have := cellsOf_room lenL (by omega); omega) hd hsz2 (fun o ho => ?_)
  rw [cellsOf_get lenL (by omega) o (by omega)]
  match o, ho with
  | 0, _ => exact ⟨_, d0, .int _ _⟩
  | 1, _ => exact ⟨_, d1, .int _ _⟩
  | 2, _ => exact ⟨_, d2, nameRel _⟩

/-! The library's Fields, at the two lists of names. -/
noncomputable def fieldAB : Bool :=
  match callS Tryz.prog ext isExt0 mask 1000 20 34 [.str fieldAN 18] h0 with
  | some (.slice id o len cap esz, h') => Nat.beq o 0 && Nat.beq len 3 && Nat.beq cap 3 && Nat.beq esz 1 && Nat.blt id 65536 &&
      (match h'.mem.blk id with | .live n t ro pl c => Nat.beq n 3 && Nat.beq t 9 && !ro && pl && veqs (readFrom c 0 3) fieldAL | _ => false)
  | _ => false
set_option maxRecDepth 1000000 in
theorem fieldAB_true : fieldAB = true := by decide +kernel
noncomputable def fieldBB : Bool :=
  match callS Tryz.prog ext isExt0 mask 1000 20 34 [.str fieldBN 69] h0 with
  | some (.slice id o len cap esz, h') => Nat.beq o 0 && Nat.beq len 10 && Nat.beq cap 10 && Nat.beq esz 1 && Nat.blt id 65536 &&
      (match h'.mem.blk id with | .live n t ro pl c => Nat.beq n 10 && Nat.beq t 9 && !ro && pl && veqs (readFrom c 0 10) fieldBL | _ => false)
  | _ => false
set_option maxRecDepth 1000000 in
theorem fieldBB_true : fieldBB = true := by decide +kernel

theorem ext0_sound {W : World} (n fuel : Nat) : CallFnOk Tryz.prog W (callS Tryz.prog ext isExt0 mask fuel n) := by
  rw [callS_eq]
  exact callN_sound (fun g h => by cases h) noNum progOk (fun call hc => draws call hc) n

theorem fieldA_ok {W : World} (hW : At W) (h : H) (hn : Nat.blt h.next 65536 = true) : CallOk Tryz.prog W 34 [.str fieldAN 18] h (.slice h.next 0 3 3 1) (h.lay 3 9 true (cellsOf fieldAL)) := by
  have hB := fieldAB_true
  unfold fieldAB at hB
  split at hB
  · rename_i id o len cap esz h' hc
    simp only [Bool.and_eq_true] at hB
    obtain ⟨⟨⟨⟨⟨h1, h2⟩, h3⟩, h4⟩, h5⟩, h6⟩ := hB
    split at h6
    · rename_i n t ro pl c hblk
      simp only [Bool.and_eq_true, Bool.not_eq_true'] at h6
      obtain ⟨⟨⟨⟨g1, g2⟩, g3⟩, g4⟩, g5⟩ := h6
      obtain rfl := Nat.eq_of_beq_eq_true h1
      obtain rfl := Nat.eq_of_beq_eq_true h2
      obtain rfl := Nat.eq_of_beq_eq_true h3
      obtain rfl := Nat.eq_of_beq_eq_true h4
      obtain rfl := Nat.eq_of_beq_eq_true g1
      obtain rfl := Nat.eq_of_beq_eq_true g2
      subst g3 g4
      exact absorb_slice hW.begins (ext0_sound 20 1000 34 _ h0 _ h' hc) rfl (by omega) (by rwa [Nat.blt_eq] at h5) hblk g5 rfl rfl h hn
    · cases h6
  · cases hB

theorem fieldB_ok {W : World} (hW : At W) (h : H) (hn : Nat.blt h.next 65536 = true) : CallOk Tryz.prog W 34 [.str fieldBN 69] h (.slice h.next 0 10 10 1) (h.lay 10 9 true (cellsOf fieldBL)) := by
  have hB := fieldBB_true
  unfold fieldBB at hB
  split at hB
  · rename_i id o len cap esz h' hc
    simp only [Bool.and_eq_true] at hB
    obtain ⟨⟨⟨⟨⟨h1, h2⟩, h3⟩, h4⟩, h5⟩, h6⟩ := hB
    split at h6
    · rename_i n t ro pl c hblk
      simp only [Bool.and_eq_true, Bool.not_eq_true'] at h6
      obtain ⟨⟨⟨⟨g1, g2⟩, g3⟩, g4⟩, g5⟩ := h6
      obtain rfl := Nat.eq_of_beq_eq_true h1
      obtain rfl := Nat.eq_of_beq_eq_true h2
      obtain rfl := Nat.eq_of_beq_eq_true h3
      obtain rfl := Nat.eq_of_beq_eq_true h4
      obtain rfl := Nat.eq_of_beq_eq_true g1
      obtain rfl := Nat.eq_of_beq_eq_true g2
      subst g3 g4
      exact absorb_slice hW.begins (ext0_sound 20 1000 34 _ h0 _ h' hc) rfl (by omega) (by rwa [Nat.blt_eq] at h5) hblk g5 rfl rfl h hn
    · cases h6
  · cases hB

theorem of_ok {W : World} {vs : List V} {v : V} (he : ofV vs = some v) (h : H) : CallOk Tryz.prog W 46 vs h v h := by
  refine ofV_sound (fun s w hA hs => ?_) he h
  have hA' : ∀ (i : Nat) (h : i < s.size), (s[i]'h).toNat < 128 := fun i hi => hA _ (by
    have : s[i]'hi = s.data.toList[i]'(by simpa using hi) := rfl
    rw [this]
    exact List.getElem_mem _)
  refine (of_walk s w hA' hs).mono ?_
  rintro e w' ⟨rfl, hb⟩
  have key : ∀ l : List UInt8, (l.flatMap fun c => [0, c]) = dbl l := by
    intro l
    induction l with
    | nil => rfl
    | cons c l ih => rw [List.flatMap_cons, ih]; rfl
  have e1 : dbl2 s s.size = dbl s.data.toList := by
    unfold dbl2
    have : s.size = s.data.toList.length := by simp
    rw [this, List.take_length, key]
  rw [e1]
  exact ⟨rfl, hb.size, hb.block, hb.os, hb.output, hb.tape⟩

/-! A key's hash. -/
noncomputable def hashB (q : Nat × Nat × Nat × Nat × Nat) : Bool :=
  match q with
  | (k, n, s, l, r) => match callS Tryz.prog ext isExt0 mask 1000 20 74 [.agg [.int .i64 (.ofNat k), .int .i64 (.ofNat n), .str s l]] h0 with
    | some (.int .u32 (.ofNat x), _) => Nat.beq x r
    | _ => false
set_option maxRecDepth 1000000 in
theorem hashB_true : hashRows.all hashB = true := by decide +kernel
theorem hashAt_mem {k n s l r : Nat} : ∀ {rows : List (Nat × Nat × Nat × Nat × Nat)}, hashAt k n s l rows = some r → (k, n, s, l, r) ∈ rows
  | [], h => by cases h
  | (k', n', s', l', r') :: rows, h => by
    unfold hashAt at h
    cases hb : (Nat.beq s s' && (Nat.beq l l' && (Nat.beq k k' && Nat.beq n n')))
    · rw [hb] at h
      exact .tail _ (hashAt_mem h)
    · rw [hb] at h
      simp only [cond_true, Option.some.injEq] at h
      subst h
      simp only [Bool.and_eq_true] at hb
      obtain ⟨h1, h2, h3, h4⟩ := hb
      rw [Nat.eq_of_beq_eq_true h1, Nat.eq_of_beq_eq_true h2, Nat.eq_of_beq_eq_true h3, Nat.eq_of_beq_eq_true h4]
      exact .head _
theorem hash_ok {W : World} (hW : At W) {vs : List V} {v : V} {h h' : H} (he : hashV vs h = some (v, h')) : CallOk Tryz.prog W 74 vs h v h' := by
  unfold hashV at he
  split at he
  · rename_i k n s l
    cases hr : hashAt k n s l hashRows with
    | none => rw [hr] at he; cases he
    | some r =>
      rw [hr] at he
      simp only [Option.map_some, Option.some.injEq, Prod.mk.injEq] at he
      obtain ⟨rfl, rfl⟩ := he
      have hB : hashB (k, n, s, l, r) = true := List.all_eq_true.1 hashB_true _ (hashAt_mem hr)
      unfold hashB at hB
      simp only at hB
      split at hB
      · rename_i x h' hc
        rw [← Nat.eq_of_beq_eq_true hB]
        exact absorb3 hW.begins (ext0_sound 20 1000 74 _ h0 _ h' hc) rfl rfl h
      · cases hB
  · cases he

theorem ext_ok1 {W : World} (hW : At W) (g : FuncId) (hg : isExt1 g = true) (vs : List V) (h : H) (v : V) (h' : H) (he : ext g vs h = some (v, h')) : CallOk Tryz.prog W g vs h v h' := by
  unfold isExt1 at hg
  unfold ext at he
  cases hFI : Nat.beq g 34
  · rw [hFI] at he hg
    cases hOF : Nat.beq g 46
    · rw [hOF] at he hg
      cases hHA : Nat.beq g 74
      · rw [hHA] at hg; cases hg
      · rw [hHA] at he
        simp only [cond_false, cond_true] at he
        obtain rfl := Nat.eq_of_beq_eq_true hHA
        exact hash_ok hW he
    · rw [hOF] at he
      simp only [cond_false, cond_true] at he
      obtain rfl := Nat.eq_of_beq_eq_true hOF
      obtain ⟨u, hu, e⟩ := Option.map_eq_some_iff.1 he
      simp only [Prod.mk.injEq] at e
      obtain ⟨rfl, rfl⟩ := e
      exact of_ok hu h
  · rw [hFI] at he
    simp only [cond_true] at he
    obtain rfl := Nat.eq_of_beq_eq_true hFI
    unfold fieldsV at he
    split at he
    · rename_i n l
      cases ha : (Nat.beq n fieldAN && Nat.beq l 18 && Nat.blt h.next 65536)
      · rw [ha] at he
        simp only [cond_false] at he
        cases hb : (Nat.beq n fieldBN && Nat.beq l 69 && Nat.blt h.next 65536)
        · rw [hb] at he; cases he
        · rw [hb] at he
          simp only [cond_true, Option.some.injEq, Prod.mk.injEq] at he
          obtain ⟨rfl, rfl⟩ := he
          simp only [Bool.and_eq_true] at hb
          obtain ⟨⟨h1, h2⟩, h3⟩ := hb
          rw [Nat.eq_of_beq_eq_true h1, Nat.eq_of_beq_eq_true h2]
          exact fieldB_ok hW h h3
      · rw [ha] at he
        simp only [cond_true, Option.some.injEq, Prod.mk.injEq] at he
        obtain ⟨rfl, rfl⟩ := he
        simp only [Bool.and_eq_true] at ha
        obtain ⟨⟨h1, h2⟩, h3⟩ := ha
        rw [Nat.eq_of_beq_eq_true h1, Nat.eq_of_beq_eq_true h2]
        exact fieldA_ok hW h h3
    · cases he

/-! The law's own example. -/
noncomputable def fitB : Bool :=
  match callS Tryz.prog ext isExt1 mask 1000 200 4 [] h0 with
  | some (.bool b, _) => b
  | _ => false
set_option maxRecDepth 1000000 in
theorem fitB_true : fitB = true := by decide +kernel
theorem ext1_sound {W : World} (hW : At W) (n fuel : Nat) : CallFnOk Tryz.prog W (callS Tryz.prog ext isExt1 mask fuel n) := by
  rw [callS_eq]
  exact callN_sound (ext_ok1 hW) noNum progOk (fun call hc => draws call hc) n
theorem fit_ok {W : World} (hW : At W) (h : H) : CallOk Tryz.prog W 4 [] h (.bool true) h := by
  have hB := fitB_true
  unfold fitB at hB
  split at hB
  · rename_i b h' hc
    subst hB
    exact absorb hW.begins (ext1_sound hW 200 1000 4 _ h0 _ h' hc) rfl rfl (fun _ _ h => h) h
  · cases hB
theorem ext_ok2 {W : World} (hW : At W) (g : FuncId) (hg : isExt2 g = true) (vs : List V) (h : H) (v : V) (h' : H) (he : ext g vs h = some (v, h')) : CallOk Tryz.prog W g vs h v h' := by
  cases h6 : Nat.beq g 4
  · refine ext_ok1 hW g ?_ vs h v h' he
    unfold isExt2 at hg
    rw [h6] at hg
    exact hg
  · obtain rfl := Nat.eq_of_beq_eq_true h6
    cases vs with
    | nil =>
      have e : ext 4 [] h = some (.bool true, h) := rfl
      rw [e] at he
      simp only [Option.some.injEq, Prod.mk.injEq] at he
      obtain ⟨rfl, rfl⟩ := he
      exact fit_ok hW h
    | cons u us =>
      have e : ext 4 (u :: us) h = none := rfl
      rw [e] at he
      cases he
theorem ext2_sound {W : World} (hW : At W) (n fuel : Nat) : CallFnOk Tryz.prog W (callS Tryz.prog ext isExt2 mask fuel n) := by
  rw [callS_eq]
  exact callN_sound (ext_ok2 hW) noNum progOk (fun call hc => draws call hc) n

end Go.Proofs.YtmpcndedikajkaaGreatDoor
