/- The contracts of single functions of this program, in the evaluator's words; the world in which the claim's call begins. Condition: the tables hold what their initialisers lay. -/
import Derived.Test.YtgpogeemhaiicaaGreatDoorEvBase
import Derived.Test.YtgpogeemhaiicaaGreatDoorShelf
import Derived.Test.YtgpogeemhaiicaaGreatDoorEvText
set_option linter.all false
namespace Go.Proofs.YtgpogeemhaiicaaGreatDoor
open Go.Ev

theorem mixed : Tryz.prog.follows .mixedOrders = true := by kernel_rfl
theorem pure_ok : PureOk Tryz.prog := fun _ _ h => by
  have e : hasBody Tryz.prog pureF = false := by kernel_rfl
  rw [e] at h
  cases h
theorem noNum : NoNum Tryz.prog := noNum_of (by decide +kernel) (by decide +kernel) pure_ok
theorem progOk : ProgOk Tryz.prog := progOk_of (by decide +kernel)
theorem draws {w0 : World} (call : CallFn) (hcall : CallFnOk Tryz.prog w0 call) : DrawSound Tryz.prog w0 call := draw_sound mixed noNum call hcall

/-! What the table says of the regions holds. -/
noncomputable def tabB : Bool := (List.range 409).all fun g => match Tryz.prog.funcs[g]? with
  | some fn => (match fn.body with | some c => codeTb (tab g) c | none => true)
  | none => true
set_option maxRecDepth 1000000 in
theorem tabB_true : tabB = true := by decide +kernel
theorem tabSize : Tryz.prog.funcs.size = 409 := by kernel_rfl
theorem tabOk_of {P : Program} {tb : FuncId → Nat → Option (List (Nat × Nat))} {n : Nat} (hs : P.funcs.size = n) (h : ((List.range n).all fun g => match P.funcs[g]? with
  | some fn => (match fn.body with | some c => codeTb (tb g) c | none => true)
  | none => true) = true) : TabOk P tb := by
  intro g fn c hf hb
  have hlt : g < n := by
    have := (Array.getElem?_eq_some_iff.1 hf).1
    rw [hs] at this
    exact this
  have h1 := List.all_eq_true.1 h g (List.mem_range.2 hlt)
  rw [hf] at h1
  simp only [hb] at h1
  exact h1
theorem tabOk : TabOk Tryz.prog tab := tabOk_of tabSize tabB_true

/-- The world in which the call begins. -/
structure At (W : World) : Prop where
  tab : ∀ i, i < 256 → W.cell? ⟨1, i, none⟩ = some (.int .u8 (tabZ.getD i 0))
  max : ∃ m, W.cell? ⟨2, 0, none⟩ = some (.int .i64 m)
  len0 : W.cell? ⟨0, 0, none⟩ = some (.int .i64 7)
  len1 : W.cell? ⟨0, 1, none⟩ = some (.int .i64 0)
  len2 : W.cell? ⟨0, 2, none⟩ = some (.string ⟨#[0, 108, 0, 101, 0, 110, 0, 103, 0, 116, 0, 104]⟩)

theorem tabZ_len : tabZ.length = 256 := by kernel_rfl

theorem cells_of {W : World} {g i : Nat} {v : Value} (h : W.cell? ⟨g, i, none⟩ = some v) : ∃ cs t fz, W.heap[g]? = some (.cells cs t fz) := by
  unfold World.cell? at h
  split at h
  · rename_i c t fz hc
    exact ⟨c, t, fz, hc⟩
  · cases h

theorem nameRel (r : Emb) : VRel r (.str 32186988823353953160102177792 12) (.string ⟨#[0, 108, 0, 101, 0, 110, 0, 103, 0, 116, 0, 104]⟩) := by
  have h := vrel_constV1 r (.string ⟨#[0, 108, 0, 101, 0, 110, 0, 103, 0, 116, 0, 104]⟩)
  have e : constV1 (.string ⟨#[0, 108, 0, 101, 0, 110, 0, 103, 0, 116, 0, 104]⟩) = .str 32186988823353953160102177792 12 := by kernel_rfl
  rw [e] at h
  exact h

theorem At.begins {W : World} (h : At W) : Begin Tryz.prog W (globEmb Tryz.prog W) h0 := by
  obtain ⟨cs, t, fz, hc⟩ := cells_of (h.tab 0 (by omega))
  have hcell : ∀ i, i < 256 → cs[i]? = some (.int .u8 (tabZ.getD i 0)) := by
    intro i hi
    have := h.tab i hi
    simpa [World.cell?, hc] using this
  have hsz : 256 ≤ cs.size := by
    have := hcell 255 (by omega)
    have := (Array.getElem?_eq_some_iff.1 this).1
    omega
  have hlen : tabL.length = 256 := by unfold tabL; rw [List.length_map, tabZ_len]
  have first : Begin Tryz.prog W (globEmb Tryz.prog W) ⟨16, m4.put 1 (.live 256 0 true false (cellsOf tabL))⟩ := by
    refine begin_table (n := 256) W (by decide +kernel) (by omega) (by decide +kernel) (by have := cellsOf_room tabL (by omega); omega) hc hsz (fun o ho => ⟨_, hcell o ho, ?_⟩)
    rw [cellsOf_get tabL (by omega) o (by omega)]
    have : tabL[o]'(by omega) = V.int .u8 (tabZ.getD o 0) := by
      unfold tabL
      rw [List.getElem_map]
      have : o < tabZ.length := by rw [tabZ_len]; exact ho
      simp [List.getD, this]
    rw [this]
    exact .int _ _
  obtain ⟨ds, t2, fz2, hd⟩ := cells_of h.len0
  have d0 : ds[0]? = some (.int .i64 7) := by simpa [World.cell?, hd] using h.len0
  have d1 : ds[1]? = some (.int .i64 0) := by simpa [World.cell?, hd] using h.len1
  have d2 : ds[2]? = some (.string ⟨#[0, 108, 0, 101, 0, 110, 0, 103, 0, 116, 0, 104]⟩) := by simpa [World.cell?, hd] using h.len2
  have hsz2 : 3 ≤ ds.size := by
    have := (Array.getElem?_eq_some_iff.1 d2).1
    omega
  have hl2 : lenL.length = 3 := rfl
  refine begin_add (n := 3) first (by decide +kernel) (by omega) (by decide +kernel) (by have := cellsOf_room lenL (by omega); omega) hd hsz2 (fun o ho => ?_)
  rw [cellsOf_get lenL (by omega) o (by omega)]
  match o, ho with
  | 0, _ => exact ⟨_, d0, .int _ _⟩
  | 1, _ => exact ⟨_, d1, .int _ _⟩
  | 2, _ => exact ⟨_, d2, nameRel _⟩

theorem of_ok {W : World} {vs : List V} {v : V} (he : ofV vs = some v) (h : H) : CallOk Tryz.prog W 22 vs h v h := by
  refine ofV_sound (fun s w hA hs => ?_) he h
  have hA' : ∀ (i : Nat) (h : i < s.size), (s[i]'h).toNat < 128 := fun i hi => hA _ (by
    have : s[i]'hi = s.data.toList[i]'(by simpa using hi) := rfl
    rw [this]
    exact List.getElem_mem _)
  refine (of_walk s w hA' hs).mono ?_
  rintro e w' ⟨rfl, hb⟩
  have key : ∀ l : List UInt8, (l.flatMap fun c => [0, c]) = dbl l := by
    intro l
    induction l with
    | nil => rfl
    | cons c l ih => rw [List.flatMap_cons, ih]; rfl
  have e1 : dbl2 s s.size = dbl s.data.toList := by
    unfold dbl2
    have : s.size = s.data.toList.length := by simp
    rw [this, List.take_length, key]
  rw [e1]
  exact ⟨rfl, hb.size, hb.block, hb.os, hb.output, hb.tape⟩


theorem lays240 : Go.Proofs.Lays.n240 Tryz.prog lays167_ren := { lays167 with }
theorem chk_ok {W : World} {vs : List V} {h h' : H} {v : V} (he : chkV vs h = some (v, h')) : CallOk Tryz.prog W 117 vs h v h' :=
  chkV_sound (fun b w g1 g2 g3 => Go.Proofs.Any.Builder_copyCheck_fresh lays240 extra167.toX72 b w g1 g2 g3) (fun b w g1 => Go.Proofs.Any.Builder_copyCheck_used lays240 extra167.toX72 b w g1) he
theorem str_ok {W : World} {vs : List V} {h h' : H} {v : V} (he : strV 5 vs h = some (v, h')) : CallOk Tryz.prog W 39 vs h v h' :=
  strV_sound (fun b w g1 => string_nil Tryz.lays169 Tryz.Builder_Extra_169 b w g1) (fun b d off cap m l w g1 g2 g3 g4 g5 g6 g7 => string_off Tryz.lays169 Tryz.Builder_Extra_169 b d off cap m l w g1 g2 g3 g4 g5 g6 g7) he
theorem pref_ok {W : World} {vs : List V} {v : V} (he : prefV vs = some v) (h : H) : CallOk Tryz.prog W 118 vs h v h :=
  prefV_sound (fun s p w => Tryz.strings_HasPrefix s p w) he h
theorem cont_ok {W : World} (hW : At W) {vs : List V} {v : V} (he : contV vs = some v) (h : H) : CallOk Tryz.prog W 273 vs h v h := by
  obtain ⟨m, hm⟩ := hW.max
  refine contV_sound (fun s p w hs hsame => Tryz.strings_Contains s p m w hs ?_) he h
  have hlt : 2 < W.heap.size := by
    unfold World.cell? at hm
    split at hm
    · rename_i c t fz hc
      exact (Array.getElem?_eq_some_iff.1 hc).1
    · cases hm
  unfold World.cell? at hm ⊢
  rw [hsame 2 hlt]
  exact hm
theorem map_of {o : Option V} {h h' : H} {v : V} (he : (o.map fun v => (v, h)) = some (v, h')) : o = some v ∧ h' = h := by
  obtain ⟨u, hu, e⟩ := Option.map_eq_some_iff.1 he
  simp only [Prod.mk.injEq] at e
  obtain ⟨rfl, rfl⟩ := e
  exact ⟨hu, rfl⟩

theorem ext_ok0 {W : World} (hW : At W) (g : FuncId) (hg : isExt0 g = true) (vs : List V) (h : H) (v : V) (h' : H) (he : ext g vs h = some (v, h')) : CallOk Tryz.prog W g vs h v h' := by
  simp only [isExt0, Bool.or_eq_true] at hg
  rcases hg with q | q | q | q | q
  · obtain rfl := Nat.eq_of_beq_eq_true q
    obtain ⟨e1, rfl⟩ := map_of (o := prefV vs) he
    exact pref_ok e1 _
  · obtain rfl := Nat.eq_of_beq_eq_true q
    obtain ⟨e1, rfl⟩ := map_of (o := contV vs) he
    exact cont_ok hW e1 _
  · obtain rfl := Nat.eq_of_beq_eq_true q
    exact chk_ok he
  · obtain rfl := Nat.eq_of_beq_eq_true q
    exact str_ok he
  · obtain rfl := Nat.eq_of_beq_eq_true q
    obtain ⟨e1, rfl⟩ := map_of (o := ofV vs) he
    exact of_ok e1 _
theorem ext0_sound {W : World} (hW : At W) (n fuel : Nat) : CallFnOk Tryz.prog W (callS Tryz.prog ext isExt0 mask tab fuel n) := by
  rw [callS_eq _ _ _ tabOk]
  exact callN_sound (by kernel_rfl) (ext_ok0 hW) noNum progOk (fun call hc => draws call hc) n

/-! The library's Fields, at the two lists of signs. -/
noncomputable def fieldAB : Bool :=
  match call0 126 [.str fieldAN 90] h0 with
  | some (.slice id o len cap esz, h') => Nat.beq o 0 && Nat.beq len 36 && Nat.beq cap 36 && Nat.beq esz 1 && Nat.blt id 65536 &&
      (match h'.mem.blk id with | .live n t ro pl c => Nat.beq n 36 && Nat.beq t 9 && !ro && pl && veqs (readFrom c 0 36) fieldAL | _ => false)
  | _ => false
set_option maxRecDepth 1000000 in
theorem fieldAB_true : fieldAB = true := by decide +kernel
noncomputable def fieldBB : Bool :=
  match call0 126 [.str fieldBN 27] h0 with
  | some (.slice id o len cap esz, h') => Nat.beq o 0 && Nat.beq len 11 && Nat.beq cap 11 && Nat.beq esz 1 && Nat.blt id 65536 &&
      (match h'.mem.blk id with | .live n t ro pl c => Nat.beq n 11 && Nat.beq t 9 && !ro && pl && veqs (readFrom c 0 11) fieldBL | _ => false)
  | _ => false
set_option maxRecDepth 1000000 in
theorem fieldBB_true : fieldBB = true := by decide +kernel

theorem fieldA_ok {W : World} (hW : At W) (h : H) (hn : Nat.blt h.next 65536 = true) : CallOk Tryz.prog W 126 [.str fieldAN 90] h (.slice h.next 0 36 36 1) (h.lay 36 9 true (cellsOf fieldAL)) := by
  have hB := fieldAB_true
  unfold fieldAB at hB
  split at hB
  · rename_i id o len cap esz h' hc
    simp only [Bool.and_eq_true] at hB
    obtain ⟨⟨⟨⟨⟨h1, h2⟩, h3⟩, h4⟩, h5⟩, h6⟩ := hB
    split at h6
    · rename_i n t ro pl c hblk
      simp only [Bool.and_eq_true, Bool.not_eq_true'] at h6
      obtain ⟨⟨⟨⟨g1, g2⟩, g3⟩, g4⟩, g5⟩ := h6
      obtain rfl := Nat.eq_of_beq_eq_true h1
      obtain rfl := Nat.eq_of_beq_eq_true h2
      obtain rfl := Nat.eq_of_beq_eq_true h3
      obtain rfl := Nat.eq_of_beq_eq_true h4
      obtain rfl := Nat.eq_of_beq_eq_true g1
      obtain rfl := Nat.eq_of_beq_eq_true g2
      subst g3 g4
      exact absorb_slice hW.begins ((ext0_sound hW 300 3000 126 _ h0 _ h' hc).1 rfl) rfl (by omega) (by rwa [Nat.blt_eq] at h5) hblk g5 rfl rfl h hn
    · cases h6
  · cases hB

theorem fieldB_ok {W : World} (hW : At W) (h : H) (hn : Nat.blt h.next 65536 = true) : CallOk Tryz.prog W 126 [.str fieldBN 27] h (.slice h.next 0 11 11 1) (h.lay 11 9 true (cellsOf fieldBL)) := by
  have hB := fieldBB_true
  unfold fieldBB at hB
  split at hB
  · rename_i id o len cap esz h' hc
    simp only [Bool.and_eq_true] at hB
    obtain ⟨⟨⟨⟨⟨h1, h2⟩, h3⟩, h4⟩, h5⟩, h6⟩ := hB
    split at h6
    · rename_i n t ro pl c hblk
      simp only [Bool.and_eq_true, Bool.not_eq_true'] at h6
      obtain ⟨⟨⟨⟨g1, g2⟩, g3⟩, g4⟩, g5⟩ := h6
      obtain rfl := Nat.eq_of_beq_eq_true h1
      obtain rfl := Nat.eq_of_beq_eq_true h2
      obtain rfl := Nat.eq_of_beq_eq_true h3
      obtain rfl := Nat.eq_of_beq_eq_true h4
      obtain rfl := Nat.eq_of_beq_eq_true g1
      obtain rfl := Nat.eq_of_beq_eq_true g2
      subst g3 g4
      exact absorb_slice hW.begins ((ext0_sound hW 300 3000 126 _ h0 _ h' hc).1 rfl) rfl (by omega) (by rwa [Nat.blt_eq] at h5) hblk g5 rfl rfl h hn
    · cases h6
  · cases hB

theorem fields_ok {W : World} (hW : At W) {vs : List V} {h h' : H} {v : V} (he : fieldsV vs h = some (v, h')) : CallOk Tryz.prog W 126 vs h v h' := by
  unfold fieldsV at he
  split at he
  · rename_i n l
    cases ha : (Nat.beq n fieldAN && Nat.beq l 90 && Nat.blt h.next 65536)
    · rw [ha] at he
      simp only [cond_false] at he
      cases hb : (Nat.beq n fieldBN && Nat.beq l 27 && Nat.blt h.next 65536)
      · rw [hb] at he; cases he
      · rw [hb] at he
        simp only [cond_true, Option.some.injEq, Prod.mk.injEq] at he
        obtain ⟨rfl, rfl⟩ := he
        simp only [Bool.and_eq_true] at hb
        obtain ⟨⟨h1, h2⟩, h3⟩ := hb
        rw [Nat.eq_of_beq_eq_true h1, Nat.eq_of_beq_eq_true h2]
        exact fieldB_ok hW h h3
    · rw [ha] at he
      simp only [cond_true, Option.some.injEq, Prod.mk.injEq] at he
      obtain ⟨rfl, rfl⟩ := he
      simp only [Bool.and_eq_true] at ha
      obtain ⟨⟨h1, h2⟩, h3⟩ := ha
      rw [Nat.eq_of_beq_eq_true h1, Nat.eq_of_beq_eq_true h2]
      exact fieldA_ok hW h h3
  · cases he
theorem ext_ok1 {W : World} (hW : At W) (g : FuncId) (hg : isExt1 g = true) (vs : List V) (h : H) (v : V) (h' : H) (he : ext g vs h = some (v, h')) : CallOk Tryz.prog W g vs h v h' := by
  simp only [isExt1, Bool.or_eq_true] at hg
  rcases hg with q | q
  · obtain rfl := Nat.eq_of_beq_eq_true q
    exact fields_ok hW he
  · exact ext_ok0 hW g q vs h v h' he
theorem ext1_sound {W : World} (hW : At W) (n fuel : Nat) : CallFnOk Tryz.prog W (callS Tryz.prog ext isExt1 mask tab fuel n) := by
  rw [callS_eq _ _ _ tabOk]
  exact callN_sound (by kernel_rfl) (ext_ok1 hW) noNum progOk (fun call hc => draws call hc) n

/-! The law's own example. -/
noncomputable def fitB : Bool :=
  match call1 4 [] h0 with
  | some (.bool b, _) => b
  | _ => false
set_option maxRecDepth 1000000 in
theorem fitB_true : fitB = true := by decide +kernel
theorem fit_ok {W : World} (hW : At W) (h : H) : CallOk Tryz.prog W 4 [] h (.bool true) h := by
  have hB := fitB_true
  unfold fitB at hB
  split at hB
  · rename_i b h' hc
    subst hB
    exact absorb hW.begins ((ext1_sound hW 300 3000 4 _ h0 _ h' hc).1 rfl) rfl rfl (fun _ _ h => h) h
  · cases hB
theorem ext_ok2 {W : World} (hW : At W) (g : FuncId) (hg : isExt2 g = true) (vs : List V) (h : H) (v : V) (h' : H) (he : ext2 g vs h = some (v, h')) : CallOk Tryz.prog W g vs h v h' := by
  simp only [isExt2, Bool.or_eq_true] at hg
  rcases hg with q | q
  · obtain rfl := Nat.eq_of_beq_eq_true q
    cases vs with
    | nil =>
      have e : ext2 4 [] h = some (.bool true, h) := rfl
      rw [e] at he
      simp only [Option.some.injEq, Prod.mk.injEq] at he
      obtain ⟨rfl, rfl⟩ := he
      exact fit_ok hW h
    | cons u us =>
      have e : ext2 4 (u :: us) h = none := rfl
      rw [e] at he
      cases he
  · have hne : Nat.beq g 4 = false := by
      cases hb : Nat.beq g 4
      · rfl
      · obtain rfl := Nat.eq_of_beq_eq_true hb
        cases q
    have e : ext2 g vs h = ext g vs h := by
      unfold ext2
      rw [hne]
      rfl
    rw [e] at he
    exact ext_ok1 hW g q vs h v h' he

end Go.Proofs.YtgpogeemhaiicaaGreatDoor
