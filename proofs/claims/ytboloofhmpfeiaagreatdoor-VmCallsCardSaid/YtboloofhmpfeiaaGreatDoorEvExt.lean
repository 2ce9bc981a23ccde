/- The contracts of single functions of this program, in the evaluator's words; the world in which the claim's call begins. Condition: the tables hold what their initialisers lay. -/
import Derived.Test.YtboloofhmpfeiaaGreatDoorEvBase
import Derived.Test.YtboloofhmpfeiaaGreatDoorShelf
import Derived.Test.YtboloofhmpfeiaaGreatDoorEvText
namespace Go.Proofs.YtboloofhmpfeiaaGreatDoor
open Go.Ev

theorem mixed : Tryz.prog.follows .mixedOrders = true := by kernel_rfl
theorem noNum : NoNum Tryz.prog := noNum_of (by decide +kernel) (by decide +kernel)
theorem progOk : ProgOk Tryz.prog := progOk_of (by decide +kernel)
theorem draws {w0 : World} (call : CallFn) (hcall : CallFnOk Tryz.prog w0 call) : DrawSound Tryz.prog w0 call := draw_sound mixed noNum call hcall
theorem tabOk : TabOk Tryz.prog tab := fun _ _ c _ _ => codeTb_none c

/-- The world in which the call begins. -/
structure At (W : World) : Prop where
  tab : ∀ i, i < 256 → W.cell? ⟨1, i, none⟩ = some (.int .u8 (tabZ.getD i 0))
  max : ∃ m, W.cell? ⟨3, 0, none⟩ = some (.int .i64 m)
  len0 : W.cell? ⟨0, 0, none⟩ = some (.int .i64 7)
  len1 : W.cell? ⟨0, 1, none⟩ = some (.int .i64 0)
  len2 : W.cell? ⟨0, 2, none⟩ = some (.string ⟨#[0, 108, 0, 101, 0, 110, 0, 103, 0, 116, 0, 104]⟩)

theorem tabZ_len : tabZ.length = 256 := by kernel_rfl

theorem cells_of {W : World} {g i : Nat} {v : Value} (h : W.cell? ⟨g, i, none⟩ = some v) : ∃ cs t fz, W.heap[g]? = some (.cells cs t fz) := by
  unfold World.cell? at h
  split at h
  · rename_i c t fz hc
    exact ⟨c, t, fz, hc⟩
  · cases h

theorem nameRel (r : Emb) : VRel r (.str 32186988823353953160102177792 12) (.string ⟨#[0, 108, 0, 101, 0, 110, 0, 103, 0, 116, 0, 104]⟩) := by
  have h := vrel_constV1 r (.string ⟨#[0, 108, 0, 101, 0, 110, 0, 103, 0, 116, 0, 104]⟩)
  have e : constV1 (.string ⟨#[0, 108, 0, 101, 0, 110, 0, 103, 0, 116, 0, 104]⟩) = .str 32186988823353953160102177792 12 := by kernel_rfl
  rw [e] at h
  exact h

theorem At.begins {W : World} (h : At W) : Begin Tryz.prog W (globEmb Tryz.prog W) h0 := by
  obtain ⟨cs, t, fz, hc⟩ := cells_of (h.tab 0 (by omega))
  have hcell : ∀ i, i < 256 → cs[i]? = some (.int .u8 (tabZ.getD i 0)) := by
    intro i hi
    have := h.tab i hi
    simpa [World.cell?, hc] using this
  have hsz : 256 ≤ cs.size := by
    have := hcell 255 (by omega)
    have := (Array.getElem?_eq_some_iff.1 this).1
    omega
  have hlen : tabL.length = 256 := by unfold tabL; rw [List.length_map, tabZ_len]
  have first : Begin Tryz.prog W (globEmb Tryz.prog W) ⟨10, m4.put 1 (.live 256 0 true false (cellsOf tabL))⟩ := by
    refine begin_table (n := 256) W (by decide +kernel) (by omega) (by decide +kernel) (by have := cellsOf_room tabL (by omega); omega) hc hsz (fun o ho => ⟨_, hcell o ho, ?_⟩)
    rw [cellsOf_get tabL (by omega) o (by omega)]
    have : tabL[o]'(by omega) = V.int .u8 (tabZ.getD o 0) := by
      unfold tabL
      rw [List.getElem_map]
      have : o < tabZ.length := by rw [tabZ_len]; exact ho
      simp [List.getD, this]
    rw [this]
    exact .int _ _
  obtain ⟨ds, t2, fz2, hd⟩ := cells_of h.len0
  have d0 : ds[0]? = some (.int .i64 7) := by simpa [World.cell?, hd] using h.len0
  have d1 : ds[1]? = some (.int .i64 0) := by simpa [World.cell?, hd] using h.len1
  have d2 : ds[2]? = some (.string ⟨#[0, 108, 0, 101, 0, 110, 0, 103, 0, 116, 0, 104]⟩) := by simpa [World.cell?, hd] using h.len2
  have hsz2 : 3 ≤ ds.size := by
    have := (Array.getElem?_eq_some_iff.1 d2).1
    omega
  have hl2 : lenL.length = 3 := rfl
  refine begin_add (n := 3) first (by decide +kernel) (by omega) (by decide +kernel) (by have := cellsOf_room lenL (by omega); omega) hd hsz2 (fun o ho => ?_)
  rw [cellsOf_get lenL (by omega) o (by omega)]
  match o, ho with
  | 0, _ => exact ⟨_, d0, .int _ _⟩
  | 1, _ => exact ⟨_, d1, .int _ _⟩
  | 2, _ => exact ⟨_, d2, nameRel _⟩

theorem of_ok {W : World} {vs : List V} {v : V} (he : ofV vs = some v) (h : H) : CallOk Tryz.prog W 47 vs h v h := by
  refine ofV_sound (fun s w hA hs => ?_) he h
  have hA' : ∀ (i : Nat) (h : i < s.size), (s[i]'h).toNat < 128 := fun i hi => hA _ (by
    have : s[i]'hi = s.data.toList[i]'(by simpa using hi) := rfl
    rw [this]
    exact List.getElem_mem _)
  refine (of_walk s w hA' hs).mono ?_
  rintro e w' ⟨rfl, hb⟩
  have key : ∀ l : List UInt8, (l.flatMap fun c => [0, c]) = dbl l := by
    intro l
    induction l with
    | nil => rfl
    | cons c l ih => rw [List.flatMap_cons, ih]; rfl
  have e1 : dbl2 s s.size = dbl s.data.toList := by
    unfold dbl2
    have : s.size = s.data.toList.length := by simp
    rw [this, List.take_length, key]
  rw [e1]
  exact ⟨rfl, hb.size, hb.block, hb.os, hb.output, hb.tape⟩


theorem ext_ok {W : World} (hW : At W) (g : FuncId) (hg : isExt g = true) (vs : List V) (h : H) (v : V) (h' : H) (he : ext g vs h = some (v, h')) : CallOk Tryz.prog W g vs h v h' := by
  unfold isExt at hg
  unfold ext at he
  cases hHP : Nat.beq g 177
  · rw [hHP] at he hg
    cases hCO : Nat.beq g 317
    · rw [hCO] at he hg
      cases hOF : Nat.beq g 47
      · rw [hOF] at hg; cases hg
      · rw [hOF] at he
        simp only [cond_false, cond_true] at he
        obtain rfl := Nat.eq_of_beq_eq_true hOF
        obtain ⟨u, hu, e⟩ := Option.map_eq_some_iff.1 he
        simp only [Prod.mk.injEq] at e
        obtain ⟨rfl, rfl⟩ := e
        exact of_ok hu h
    · rw [hCO] at he
      simp only [cond_false, cond_true] at he
      obtain rfl := Nat.eq_of_beq_eq_true hCO
      obtain ⟨u, hu, e⟩ := Option.map_eq_some_iff.1 he
      simp only [Prod.mk.injEq] at e
      obtain ⟨rfl, rfl⟩ := e
      obtain ⟨m, hm⟩ := hW.max
      refine contV_sound (fun s p w hs hsame => Tryz.strings_Contains s p m w hs ?_) hu h
      have hlt : 3 < W.heap.size := by
        unfold World.cell? at hm
        split at hm
        · rename_i c t fz hc
          exact (Array.getElem?_eq_some_iff.1 hc).1
        · cases hm
      unfold World.cell? at hm ⊢
      rw [hsame 3 hlt]
      exact hm
  · rw [hHP] at he
    simp only [cond_true] at he
    obtain rfl := Nat.eq_of_beq_eq_true hHP
    obtain ⟨u, hu, e⟩ := Option.map_eq_some_iff.1 he
    simp only [Prod.mk.injEq] at e
    obtain ⟨rfl, rfl⟩ := e
    exact prefV_sound (fun s p w => Tryz.strings_HasPrefix s p w) hu h

theorem all_sound {W : World} (hW : At W) (n fuel : Nat) : CallFnOk Tryz.prog W (callS Tryz.prog ext isExt mask tab fuel n) := by
  rw [callS_eq _ _ _ tabOk]
  exact callN_sound (by kernel_rfl) (ext_ok hW) noNum progOk (fun call hc => draws call hc) n

end Go.Proofs.YtboloofhmpfeiaaGreatDoor
