/- The contracts of single functions of this program, in the evaluator's words; the world in which the claim's call begins. Condition: the table of blanks holds what its initialiser lays, and the library's own variable some number. -/
import Derived.Test.YtjkgefnlennbjaaGreatDoorEvBase
import Derived.Test.YtjkgefnlennbjaaGreatDoorShelf
set_option linter.all false
namespace Go.Proofs.YtjkgefnlennbjaaGreatDoor
open Go.Ev

theorem mixed : Tryz.prog.follows .mixedOrders = true := by kernel_rfl
theorem pure_ok : PureOk Tryz.prog := fun _ _ h => by
  have e : hasBody Tryz.prog pureF = false := by kernel_rfl
  rw [e] at h
  cases h
theorem noNum : NoNum Tryz.prog := noNum_of (by decide +kernel) (by decide +kernel) pure_ok
theorem progOk : ProgOk Tryz.prog := progOk_of (by decide +kernel)
theorem draws {w0 : World} (call : CallFn) (hcall : CallFnOk Tryz.prog w0 call) : DrawSound Tryz.prog w0 call := draw_sound mixed noNum call hcall

/-! What the table says of the regions holds. -/
noncomputable def tabB : Bool := (List.range 138).all fun g => match Tryz.prog.funcs[g]? with
  | some fn => (match fn.body with | some c => codeTb (tab g) c | none => true)
  | none => true
set_option maxRecDepth 1000000 in
theorem tabB_true : tabB = true := by decide +kernel
theorem tabSize : Tryz.prog.funcs.size = 138 := by kernel_rfl
theorem tabOk_of {P : Program} {tb : FuncId → Nat → Option (List (Nat × Nat))} {n : Nat} (hs : P.funcs.size = n) (h : ((List.range n).all fun g => match P.funcs[g]? with
  | some fn => (match fn.body with | some c => codeTb (tb g) c | none => true)
  | none => true) = true) : TabOk P tb := by
  intro g fn c hf hb
  have hlt : g < n := by
    have := (Array.getElem?_eq_some_iff.1 hf).1
    rw [hs] at this
    exact this
  have h1 := List.all_eq_true.1 h g (List.mem_range.2 hlt)
  rw [hf] at h1
  simp only [hb] at h1
  exact h1
theorem tabOk : TabOk Tryz.prog tab := tabOk_of tabSize tabB_true

/-- The world in which the call begins. -/
structure At (W : World) : Prop where
  tab : ∀ i, i < 256 → W.cell? ⟨0, i, none⟩ = some (.int .u8 (tabZ.getD i 0))
  max : ∃ m, W.cell? ⟨1, 0, none⟩ = some (.int .i64 m)

theorem tabZ_len : tabZ.length = 256 := by kernel_rfl

theorem At.begins {W : World} (h : At W) : Begin Tryz.prog W (globEmb Tryz.prog W) h0 := by
  have h1 := h.tab 0 (by omega)
  have key : ∃ cs t fz, W.heap[0]? = some (.cells cs t fz) := by
    unfold World.cell? at h1
    split at h1
    · rename_i c t fz hc
      exact ⟨c, t, fz, hc⟩
    · cases h1
  obtain ⟨cs, t, fz, hc⟩ := key
  have hcell : ∀ i, i < 256 → cs[i]? = some (.int .u8 (tabZ.getD i 0)) := by
    intro i hi
    have := h.tab i hi
    simpa [World.cell?, hc] using this
  have hsz : 256 ≤ cs.size := by
    have := hcell 255 (by omega)
    have := (Array.getElem?_eq_some_iff.1 this).1
    omega
  have hlen : tabL.length = 256 := by unfold tabL; rw [List.length_map, tabZ_len]
  refine begin_table (n := 256) W (by decide +kernel) (by omega) (by decide +kernel) (by have := cellsOf_room tabL (by omega); omega) hc hsz (fun o ho => ⟨_, hcell o ho, ?_⟩)
  rw [cellsOf_get tabL (by omega) o (by omega)]
  have : tabL[o]'(by omega) = V.int .u8 (tabZ.getD o 0) := by
    unfold tabL
    rw [List.getElem_map]
    have : o < tabZ.length := by rw [tabZ_len]; exact ho
    simp [List.getD, this]
  rw [this]
  exact .int _ _

/-! The library's Fields, at the list of signs. -/
noncomputable def fieldsB : Bool :=
  match call0 34 [.str signsN 90] h0 with
  | some (.slice id o len cap esz, h') => Nat.beq o 0 && Nat.beq len 36 && Nat.beq cap 36 && Nat.beq esz 1 && Nat.blt id 65536 &&
      (match h'.mem.blk id with | .live n t ro pl c => Nat.beq n 36 && Nat.beq t 9 && !ro && pl && veqs (readFrom c 0 36) signsL | _ => false)
  | _ => false
set_option maxRecDepth 1000000 in
theorem fieldsB_true : fieldsB = true := by decide +kernel

theorem ext0_sound {W : World} (n fuel : Nat) : CallFnOk Tryz.prog W (callS Tryz.prog ext isExt0 mask tab fuel n) := by
  rw [callS_eq _ _ _ tabOk]
  exact callN_sound (by kernel_rfl) (fun g h => by cases h) noNum progOk (fun call hc => draws call hc) n

theorem fields_ok {W : World} (hW : At W) (h : H) (hn : Nat.blt h.next 65536 = true) : CallOk Tryz.prog W 34 [.str signsN 90] h (.slice h.next 0 36 36 1) (h.lay 36 9 true (cellsOf signsL)) := by
  have hB := fieldsB_true
  unfold fieldsB at hB
  split at hB
  · rename_i id o len cap esz h' hc
    simp only [Bool.and_eq_true] at hB
    obtain ⟨⟨⟨⟨⟨h1, h2⟩, h3⟩, h4⟩, h5⟩, h6⟩ := hB
    split at h6
    · rename_i n t ro pl c hblk
      simp only [Bool.and_eq_true, Bool.not_eq_true'] at h6
      obtain ⟨⟨⟨⟨g1, g2⟩, g3⟩, g4⟩, g5⟩ := h6
      obtain rfl := Nat.eq_of_beq_eq_true h1
      obtain rfl := Nat.eq_of_beq_eq_true h2
      obtain rfl := Nat.eq_of_beq_eq_true h3
      obtain rfl := Nat.eq_of_beq_eq_true h4
      obtain rfl := Nat.eq_of_beq_eq_true g1
      obtain rfl := Nat.eq_of_beq_eq_true g2
      subst g3 g4
      exact absorb_slice hW.begins ((ext0_sound 60 1000 34 _ h0 _ h' hc).1 rfl) rfl (by omega) (by rwa [Nat.blt_eq] at h5) hblk g5 rfl rfl h hn
    · cases h6
  · cases hB

theorem map_of {o : Option V} {h h' : H} {v : V} (he : (o.map fun v => (v, h)) = some (v, h')) : o = some v ∧ h' = h := by
  obtain ⟨u, hu, e⟩ := Option.map_eq_some_iff.1 he
  simp only [Prod.mk.injEq] at e
  obtain ⟨rfl, rfl⟩ := e
  exact ⟨hu, rfl⟩
theorem cont_ok {W : World} (hW : At W) {vs : List V} {v : V} (he : contV vs = some v) (h : H) : CallOk Tryz.prog W 85 vs h v h := by
  obtain ⟨m, hm⟩ := hW.max
  refine contV_sound (fun s p w hs hsame => Tryz.strings_Contains s p m w hs ?_) he h
  have hlt : 1 < W.heap.size := by
    unfold World.cell? at hm
    split at hm
    · rename_i c t fz hc
      exact (Array.getElem?_eq_some_iff.1 hc).1
    · cases hm
  unfold World.cell? at hm ⊢
  rw [hsame 1 hlt]
  exact hm
theorem pref_ok {W : World} {vs : List V} {v : V} (he : prefV vs = some v) (h : H) : CallOk Tryz.prog W 26 vs h v h := prefV_sound (fun s p w => Tryz.strings_HasPrefix s p w) he h
theorem fieldsV_ok {W : World} (hW : At W) {vs : List V} {h h' : H} {v : V} (he : fieldsV vs h = some (v, h')) : CallOk Tryz.prog W 34 vs h v h' := by
  unfold fieldsV at he
  split at he
  · rename_i n l
    cases hb : (Nat.beq n signsN && Nat.beq l 90 && Nat.blt h.next 65536)
    · rw [hb] at he; cases he
    · rw [hb] at he
      simp only [cond_true, Option.some.injEq, Prod.mk.injEq] at he
      obtain ⟨rfl, rfl⟩ := he
      simp only [Bool.and_eq_true] at hb
      obtain ⟨⟨h1, h2⟩, h3⟩ := hb
      rw [Nat.eq_of_beq_eq_true h1, Nat.eq_of_beq_eq_true h2]
      exact fields_ok hW h h3
  · cases he
theorem ext_ok1 {W : World} (hW : At W) (g : FuncId) (hg : isExt1 g = true) (vs : List V) (h : H) (v : V) (h' : H) (he : ext g vs h = some (v, h')) : CallOk Tryz.prog W g vs h v h' := by
  simp only [isExt1, Bool.or_eq_true] at hg
  rcases hg with q | q | q
  · obtain rfl := Nat.eq_of_beq_eq_true q
    obtain ⟨e1, rfl⟩ := map_of (o := prefV vs) he
    exact pref_ok e1 _
  · obtain rfl := Nat.eq_of_beq_eq_true q
    exact fieldsV_ok hW he
  · obtain rfl := Nat.eq_of_beq_eq_true q
    obtain ⟨e1, rfl⟩ := map_of (o := contV vs) he
    exact cont_ok hW e1 _
theorem ext1_sound {W : World} (hW : At W) (n fuel : Nat) : CallFnOk Tryz.prog W (callS Tryz.prog ext isExt1 mask tab fuel n) := by
  rw [callS_eq _ _ _ tabOk]
  exact callN_sound (by kernel_rfl) (ext_ok1 hW) noNum progOk (fun call hc => draws call hc) n

/-! The law's own example. -/
noncomputable def fitB : Bool :=
  match call1 4 [] h0 with
  | some (.bool b, _) => b
  | _ => false
set_option maxRecDepth 1000000 in
theorem fitB_true : fitB = true := by decide +kernel
theorem fit_ok {W : World} (hW : At W) (h : H) : CallOk Tryz.prog W 4 [] h (.bool true) h := by
  have hB := fitB_true
  unfold fitB at hB
  split at hB
  · rename_i b h' hc
    subst hB
    exact absorb hW.begins ((ext1_sound hW 60 1000 4 _ h0 _ h' hc).1 rfl) rfl rfl (fun _ _ h => h) h
  · cases hB

end Go.Proofs.YtjkgefnlennbjaaGreatDoor
