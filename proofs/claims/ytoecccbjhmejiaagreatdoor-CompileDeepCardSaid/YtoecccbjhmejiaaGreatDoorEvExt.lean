/- The contracts of single functions of this program, in the evaluator's words; the world in which the claim's call begins. Condition: the table of blanks holds what its initialiser lays, and the library's own variable some number. -/
import Derived.Test.YtoecccbjhmejiaaGreatDoorEvBase
import Derived.Test.YtoecccbjhmejiaaGreatDoorShelf
import Derived.Test.YtoecccbjhmejiaaGreatDoorEvText
namespace Go.Proofs.YtoecccbjhmejiaaGreatDoor
open Go.Ev

theorem mixed : Tryz.prog.follows .mixedOrders = true := by kernel_rfl
theorem noNum : NoNum Tryz.prog := noNum_of (by decide +kernel)
theorem progOk : ProgOk Tryz.prog := progOk_of (by decide +kernel)
theorem draws {w0 : World} (call : CallFn) (hcall : CallFnOk Tryz.prog w0 call) : DrawSound Tryz.prog w0 call := draw_sound mixed noNum call hcall

/-! What the table says of the regions holds. -/
noncomputable def tabB : Bool := (List.range 217).all fun g => match Tryz.prog.funcs[g]? with
  | some fn => (match fn.body with | some c => codeTb (tab g) c | none => true)
  | none => true
set_option maxRecDepth 1000000 in
theorem tabB_true : tabB = true := by decide +kernel
theorem tabSize : Tryz.prog.funcs.size = 217 := by kernel_rfl
theorem tabOk_of {P : Program} {tb : FuncId → Nat → Option (List (Nat × Nat))} {n : Nat} (hs : P.funcs.size = n) (h : ((List.range n).all fun g => match P.funcs[g]? with
  | some fn => (match fn.body with | some c => codeTb (tb g) c | none => true)
  | none => true) = true) : TabOk P tb := by
  intro g fn c hf hb
  have hlt : g < n := by
    have := (Array.getElem?_eq_some_iff.1 hf).1
    rw [hs] at this
    exact this
  have h1 := List.all_eq_true.1 h g (List.mem_range.2 hlt)
  rw [hf] at h1
  simp only [hb] at h1
  exact h1
theorem tabOk : TabOk Tryz.prog tab := tabOk_of tabSize tabB_true

/-- The world in which the call begins. -/
structure At (W : World) : Prop where
  tab : ∀ i, i < 256 → W.cell? ⟨0, i, none⟩ = some (.int .u8 (tabZ.getD i 0))
  max : ∃ m, W.cell? ⟨1, 0, none⟩ = some (.int .i64 m)

theorem tabZ_len : tabZ.length = 256 := by kernel_rfl

theorem At.begins {W : World} (h : At W) : Begin Tryz.prog W (globEmb Tryz.prog W) h0 := by
  have h1 := h.tab 0 (by omega)
  have key : ∃ cs t fz, W.heap[0]? = some (.cells cs t fz) := by
    unfold World.cell? at h1
    split at h1
    · rename_i c t fz hc
      exact ⟨c, t, fz, hc⟩
    · cases h1
  obtain ⟨cs, t, fz, hc⟩ := key
  have hcell : ∀ i, i < 256 → cs[i]? = some (.int .u8 (tabZ.getD i 0)) := by
    intro i hi
    have := h.tab i hi
    simpa [World.cell?, hc] using this
  have hsz : 256 ≤ cs.size := by
    have := hcell 255 (by omega)
    have := (Array.getElem?_eq_some_iff.1 this).1
    omega
  have hlen : tabL.length = 256 := by unfold tabL; rw [List.length_map, tabZ_len]
  refine begin_table (n := 256) W (by decide +kernel) (by omega) (by decide +kernel) (by have := cellsOf_room tabL (by omega); omega) hc hsz (fun o ho => ⟨_, hcell o ho, ?_⟩)
  rw [cellsOf_get tabL (by omega) o (by omega)]
  have : tabL[o]'(by omega) = V.int .u8 (tabZ.getD o 0) := by
    unfold tabL
    rw [List.getElem_map]
    have : o < tabZ.length := by rw [tabZ_len]; exact ho
    simp [List.getD, this]
  rw [this]
  exact .int _ _

/-! The library's Fields, at the two lists of signs. -/
noncomputable def fieldAB : Bool :=
  match callS Tryz.prog ext isExt0 mask tab 1000 20 85 [.str fieldAN 90] h0 with
  | some (.slice id o len cap esz, h') => Nat.beq o 0 && Nat.beq len 36 && Nat.beq cap 36 && Nat.beq esz 1 && Nat.blt id 65536 &&
      (match h'.mem.blk id with | .live n t ro pl c => Nat.beq n 36 && Nat.beq t 9 && !ro && pl && veqs (readFrom c 0 36) fieldAL | _ => false)
  | _ => false
set_option maxRecDepth 1000000 in
theorem fieldAB_true : fieldAB = true := by decide +kernel
noncomputable def fieldBB : Bool :=
  match callS Tryz.prog ext isExt0 mask tab 1000 20 85 [.str fieldBN 27] h0 with
  | some (.slice id o len cap esz, h') => Nat.beq o 0 && Nat.beq len 11 && Nat.beq cap 11 && Nat.beq esz 1 && Nat.blt id 65536 &&
      (match h'.mem.blk id with | .live n t ro pl c => Nat.beq n 11 && Nat.beq t 9 && !ro && pl && veqs (readFrom c 0 11) fieldBL | _ => false)
  | _ => false
set_option maxRecDepth 1000000 in
theorem fieldBB_true : fieldBB = true := by decide +kernel

theorem ext0_sound {W : World} (n fuel : Nat) : CallFnOk Tryz.prog W (callS Tryz.prog ext isExt0 mask tab fuel n) := by
  rw [callS_eq _ _ _ tabOk]
  exact callN_sound (fun g h => by cases h) noNum progOk (fun call hc => draws call hc) n

theorem fieldA_ok {W : World} (hW : At W) (h : H) (hn : Nat.blt h.next 65536 = true) : CallOk Tryz.prog W 85 [.str fieldAN 90] h (.slice h.next 0 36 36 1) (h.lay 36 9 true (cellsOf fieldAL)) := by
  have hB := fieldAB_true
  unfold fieldAB at hB
  split at hB
  · rename_i id o len cap esz h' hc
    simp only [Bool.and_eq_true] at hB
    obtain ⟨⟨⟨⟨⟨h1, h2⟩, h3⟩, h4⟩, h5⟩, h6⟩ := hB
    split at h6
    · rename_i n t ro pl c hblk
      simp only [Bool.and_eq_true, Bool.not_eq_true'] at h6
      obtain ⟨⟨⟨⟨g1, g2⟩, g3⟩, g4⟩, g5⟩ := h6
      obtain rfl := Nat.eq_of_beq_eq_true h1
      obtain rfl := Nat.eq_of_beq_eq_true h2
      obtain rfl := Nat.eq_of_beq_eq_true h3
      obtain rfl := Nat.eq_of_beq_eq_true h4
      obtain rfl := Nat.eq_of_beq_eq_true g1
      obtain rfl := Nat.eq_of_beq_eq_true g2
      subst g3 g4
      exact absorb_slice hW.begins (ext0_sound 20 1000 85 _ h0 _ h' hc) rfl (by omega) (by rwa [Nat.blt_eq] at h5) hblk g5 rfl rfl h hn
    · cases h6
  · cases hB

theorem fieldB_ok {W : World} (hW : At W) (h : H) (hn : Nat.blt h.next 65536 = true) : CallOk Tryz.prog W 85 [.str fieldBN 27] h (.slice h.next 0 11 11 1) (h.lay 11 9 true (cellsOf fieldBL)) := by
  have hB := fieldBB_true
  unfold fieldBB at hB
  split at hB
  · rename_i id o len cap esz h' hc
    simp only [Bool.and_eq_true] at hB
    obtain ⟨⟨⟨⟨⟨h1, h2⟩, h3⟩, h4⟩, h5⟩, h6⟩ := hB
    split at h6
    · rename_i n t ro pl c hblk
      simp only [Bool.and_eq_true, Bool.not_eq_true'] at h6
      obtain ⟨⟨⟨⟨g1, g2⟩, g3⟩, g4⟩, g5⟩ := h6
      obtain rfl := Nat.eq_of_beq_eq_true h1
      obtain rfl := Nat.eq_of_beq_eq_true h2
      obtain rfl := Nat.eq_of_beq_eq_true h3
      obtain rfl := Nat.eq_of_beq_eq_true h4
      obtain rfl := Nat.eq_of_beq_eq_true g1
      obtain rfl := Nat.eq_of_beq_eq_true g2
      subst g3 g4
      exact absorb_slice hW.begins (ext0_sound 20 1000 85 _ h0 _ h' hc) rfl (by omega) (by rwa [Nat.blt_eq] at h5) hblk g5 rfl rfl h hn
    · cases h6
  · cases hB

theorem of_ok {W : World} {vs : List V} {v : V} (he : ofV vs = some v) (h : H) : CallOk Tryz.prog W 127 vs h v h := by
  refine ofV_sound (fun s w hA hs => ?_) he h
  have hA' : ∀ (i : Nat) (h : i < s.size), (s[i]'h).toNat < 128 := fun i hi => hA _ (by
    have : s[i]'hi = s.data.toList[i]'(by simpa using hi) := rfl
    rw [this]
    exact List.getElem_mem _)
  refine (of_walk s w hA' hs).mono ?_
  rintro e w' ⟨rfl, hb⟩
  have key : ∀ l : List UInt8, (l.flatMap fun c => [0, c]) = dbl l := by
    intro l
    induction l with
    | nil => rfl
    | cons c l ih => rw [List.flatMap_cons, ih]; rfl
  have e1 : dbl2 s s.size = dbl s.data.toList := by
    unfold dbl2
    have : s.size = s.data.toList.length := by simp
    rw [this, List.take_length, key]
  rw [e1]
  exact ⟨rfl, hb.size, hb.block, hb.os, hb.output, hb.tape⟩

theorem ext_okW {W : World} (hW : At W) (g : FuncId) (hg : isExtW g = true) (vs : List V) (h : H) (v : V) (h' : H) (he : ext g vs h = some (v, h')) : CallOk Tryz.prog W g vs h v h' := by
  have hne : Nat.beq g 126 = false := by
    cases hb : Nat.beq g 126
    · rfl
    · obtain rfl := Nat.eq_of_beq_eq_true hb
      cases hg
  unfold isExtW at hg
  unfold ext at he
  cases hHP : Nat.beq g 77
  · rw [hHP] at he hg
    cases hFI : Nat.beq g 85
    · rw [hFI] at he hg
      cases hCO : Nat.beq g 159
      · rw [hCO] at he hg
        cases hOF : Nat.beq g 127
        · rw [hOF] at hg; cases hg
        · rw [hOF] at he
          simp only [cond_false, cond_true] at he
          obtain rfl := Nat.eq_of_beq_eq_true hOF
          obtain ⟨u, hu, e⟩ := Option.map_eq_some_iff.1 he
          simp only [Prod.mk.injEq] at e
          obtain ⟨rfl, rfl⟩ := e
          exact of_ok hu h
      · rw [hCO] at he
        simp only [cond_false, cond_true] at he
        obtain rfl := Nat.eq_of_beq_eq_true hCO
        obtain ⟨u, hu, e⟩ := Option.map_eq_some_iff.1 he
        simp only [Prod.mk.injEq] at e
        obtain ⟨rfl, rfl⟩ := e
        obtain ⟨m, hm⟩ := hW.max
        refine contV_sound (fun s p w hs hsame => Tryz.strings_Contains s p m w hs ?_) hu h
        have hlt : 1 < W.heap.size := by
          unfold World.cell? at hm
          split at hm
          · rename_i c t fz hc
            exact (Array.getElem?_eq_some_iff.1 hc).1
          · cases hm
        unfold World.cell? at hm ⊢
        rw [hsame 1 hlt]
        exact hm
    · rw [hFI] at he
      simp only [cond_false, cond_true] at he
      obtain rfl := Nat.eq_of_beq_eq_true hFI
      unfold fieldsV at he
      split at he
      · rename_i n l
        cases ha : (Nat.beq n fieldAN && Nat.beq l 90 && Nat.blt h.next 65536)
        · rw [ha] at he
          simp only [cond_false] at he
          cases hb : (Nat.beq n fieldBN && Nat.beq l 27 && Nat.blt h.next 65536)
          · rw [hb] at he; cases he
          · rw [hb] at he
            simp only [cond_true, Option.some.injEq, Prod.mk.injEq] at he
            obtain ⟨rfl, rfl⟩ := he
            simp only [Bool.and_eq_true] at hb
            obtain ⟨⟨h1, h2⟩, h3⟩ := hb
            rw [Nat.eq_of_beq_eq_true h1, Nat.eq_of_beq_eq_true h2]
            exact fieldB_ok hW h h3
        · rw [ha] at he
          simp only [cond_true, Option.some.injEq, Prod.mk.injEq] at he
          obtain ⟨rfl, rfl⟩ := he
          simp only [Bool.and_eq_true] at ha
          obtain ⟨⟨h1, h2⟩, h3⟩ := ha
          rw [Nat.eq_of_beq_eq_true h1, Nat.eq_of_beq_eq_true h2]
          exact fieldA_ok hW h h3
      · cases he
  · rw [hHP] at he
    simp only [cond_true] at he
    obtain rfl := Nat.eq_of_beq_eq_true hHP
    obtain ⟨u, hu, e⟩ := Option.map_eq_some_iff.1 he
    simp only [Prod.mk.injEq] at e
    obtain ⟨rfl, rfl⟩ := e
    exact prefV_sound (fun s p w => Tryz.strings_HasPrefix s p w) hu h

theorem extW_sound {W : World} (hW : At W) (n fuel : Nat) : CallFnOk Tryz.prog W (callS Tryz.prog ext isExtW mask tab fuel n) := by
  rw [callS_eq _ _ _ tabOk]
  exact callN_sound (ext_okW hW) noNum progOk (fun call hc => draws call hc) n

/-! Words of the language, at the names that are met. -/
noncomputable def wordB (q : Nat × Nat × Bool) : Bool :=
  match q with
  | (n, l, b) => match callS Tryz.prog ext isExtW mask tab 1000 20 126 [.str n l] h0 with
    | some (.bool x, _) => x == b
    | _ => false
set_option maxRecDepth 1000000 in
theorem wordB_true : wordRows.all wordB = true := by decide +kernel
theorem wordAt_mem {n l : Nat} {b : Bool} : ∀ {rows : List (Nat × Nat × Bool)}, wordAt n l rows = some b → (n, l, b) ∈ rows
  | [], h => by cases h
  | (n', l', b') :: rows, h => by
    unfold wordAt at h
    cases hb : (Nat.beq n n' && Nat.beq l l')
    · rw [hb] at h
      exact .tail _ (wordAt_mem h)
    · rw [hb] at h
      simp only [cond_true, Option.some.injEq] at h
      subst h
      simp only [Bool.and_eq_true] at hb
      rw [Nat.eq_of_beq_eq_true hb.1, Nat.eq_of_beq_eq_true hb.2]
      exact .head _
theorem word_ok {W : World} (hW : At W) {vs : List V} {v : V} {h h' : H} (he : wordV vs h = some (v, h')) : CallOk Tryz.prog W 126 vs h v h' := by
  unfold wordV at he
  split at he
  · rename_i n l
    cases hr : wordAt n l wordRows with
    | none => rw [hr] at he; cases he
    | some b =>
      rw [hr] at he
      simp only [Option.map_some, Option.some.injEq, Prod.mk.injEq] at he
      obtain ⟨rfl, rfl⟩ := he
      have hB : wordB (n, l, b) = true := List.all_eq_true.1 wordB_true _ (wordAt_mem hr)
      unfold wordB at hB
      simp only at hB
      split at hB
      · rename_i x h' hc
        obtain rfl : x = b := by simpa using hB
        exact absorb3 hW.begins (extW_sound hW 20 1000 126 _ h0 _ h' hc) rfl rfl h
      · cases hB
  · cases he
theorem ext_ok1 {W : World} (hW : At W) (g : FuncId) (hg : isExt1 g = true) (vs : List V) (h : H) (v : V) (h' : H) (he : ext g vs h = some (v, h')) : CallOk Tryz.prog W g vs h v h' := by
  cases hw : Nat.beq g 126
  · refine ext_okW hW g ?_ vs h v h' he
    unfold isExt1 at hg
    rw [hw] at hg
    exact hg
  · obtain rfl := Nat.eq_of_beq_eq_true hw
    exact word_ok hW he

/-! The law's own example. -/
noncomputable def fitB : Bool :=
  match callS Tryz.prog ext isExt1 mask tab 1000 200 4 [] h0 with
  | some (.bool b, _) => b
  | _ => false
set_option maxRecDepth 1000000 in
theorem fitB_true : fitB = true := by decide +kernel
theorem ext1_sound {W : World} (hW : At W) (n fuel : Nat) : CallFnOk Tryz.prog W (callS Tryz.prog ext isExt1 mask tab fuel n) := by
  rw [callS_eq _ _ _ tabOk]
  exact callN_sound (ext_ok1 hW) noNum progOk (fun call hc => draws call hc) n
theorem fit_ok {W : World} (hW : At W) (h : H) : CallOk Tryz.prog W 4 [] h (.bool true) h := by
  have hB := fitB_true
  unfold fitB at hB
  split at hB
  · rename_i b h' hc
    subst hB
    exact absorb hW.begins (ext1_sound hW 200 1000 4 _ h0 _ h' hc) rfl rfl (fun _ _ h => h) h
  · cases hB
theorem ext_ok2 {W : World} (hW : At W) (g : FuncId) (hg : isExt2 g = true) (vs : List V) (h : H) (v : V) (h' : H) (he : ext g vs h = some (v, h')) : CallOk Tryz.prog W g vs h v h' := by
  cases h6 : Nat.beq g 4
  · refine ext_ok1 hW g ?_ vs h v h' he
    unfold isExt2 at hg
    rw [h6] at hg
    exact hg
  · obtain rfl := Nat.eq_of_beq_eq_true h6
    cases vs with
    | nil =>
      have e : ext 4 [] h = some (.bool true, h) := rfl
      rw [e] at he
      simp only [Option.some.injEq, Prod.mk.injEq] at he
      obtain ⟨rfl, rfl⟩ := he
      exact fit_ok hW h
    | cons u us =>
      have e : ext 4 (u :: us) h = none := rfl
      rw [e] at he
      cases he
theorem ext2_sound {W : World} (hW : At W) (n fuel : Nat) : CallFnOk Tryz.prog W (callS Tryz.prog ext isExt2 mask tab fuel n) := by
  rw [callS_eq _ _ _ tabOk]
  exact callN_sound (ext_ok2 hW) noNum progOk (fun call hc => draws call hc) n

end Go.Proofs.YtoecccbjhmejiaaGreatDoor
