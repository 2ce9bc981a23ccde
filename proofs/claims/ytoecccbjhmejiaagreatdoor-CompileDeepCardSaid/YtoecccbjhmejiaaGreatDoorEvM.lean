/- The evaluator's append. No condition. -/
import Derived.Test.YtoecccbjhmejiaaGreatDoorEvL
namespace Go.Ev

variable {P : Program}

/-- What is appended: so many elements, and their cells. -/
def srcV (P : Program) (h : H) (tx : TypeId) (size : Nat) (y : V) : Option (Nat × List V) :=
  match P.underlying tx, y with
  | some (.slice _), .nils => some (0, [])
  | some (.slice _), .slice id o len _ _ =>
    bif Nat.beq len 0 then some (0, []) else
    match h.mem.blk id with
    | .live n _ _ _ c => bif Nat.blt id 65536 && Nat.ble (Nat.add o (Nat.mul len size)) n then some (len, readFrom c o (Nat.mul len size)) else none
    | _ => none
  | _, _ => none

theorem srcV_sound {r : Emb} {h : H} {w : World} (hr : Rel r h w) {tx : TypeId} {size : Nat} {y : V} {n : Nat} {news : List V} (he : srcV P h tx size y = some (n, news)) (h1 : allOne news = true) {a : Value} (hy : VRel r y a) :
    ∃ xs, Src P size tx a n xs w ∧ VsRel r news xs := by
  unfold srcV at he
  split at he
  · rename_i e hu
    simp only [Option.some.injEq, Prod.mk.injEq] at he
    obtain ⟨rfl, rfl⟩ := he
    cases hy
    exact ⟨[], Src.ofNil w hu 0, .nil⟩
  · rename_i e id o len cap esz hu
    cases hz : Nat.beq len 0
    · rw [hz] at he
      simp only [cond_false] at he
      split at he
      · rename_i nb tb ro pl c hb
        cases hk : (Nat.blt id 65536 && Nat.ble (Nat.add o (Nat.mul len size)) nb) <;> simp only [hk, cond_true, cond_false, reduceCtorEq, Option.some.injEq, Prod.mk.injEq] at he
        obtain ⟨rfl, rfl⟩ := he
        simp only [Bool.and_eq_true, Nat.blt_eq] at hk
        have hle : o + len * size ≤ nb := Nat.le_of_ble_eq_true hk.2
        obtain ⟨b, sh, m, h2, hf⟩ := hr.blk id nb tb ro pl c hk.1 hb
        obtain ⟨xs, g1, g2, g3⟩ := hf.read (len * size) o hle
        cases hy with
        | @slice _ _ _ _ _ b' sh' c' cap' hy _ _ _ =>
          rw [h2] at hy
          cases hy
          exact ⟨xs, Src.ofSlice w hu ⟨b, o + sh, none⟩ len cap' xs g2 (fun j u hj => by rw [Addr.add_mid]; exact g3 j u hj) (allOne_sound g1 h1), g1⟩
        | slice0 => simp at hz
      · simp at he
    · rw [hz] at he
      simp only [cond_true, Option.some.injEq, Prod.mk.injEq] at he
      obtain ⟨rfl, rfl⟩ := he
      have hl := Nat.eq_of_beq_eq_true hz
      subst hl
      cases hy with
      | slice hy _ _ _ => exact ⟨[], Src.ofSlice w hu _ 0 _ [] (by simp) (fun j u hj => by simp at hj) (fun u hu => by cases hu), .nil⟩
      | slice0 hy _ => exact ⟨[], Src.ofSlice w hu _ 0 _ [] (by simp) (fun j u hj => by simp at hj) (fun u hu => by cases hu), .nil⟩
  · simp at he

/-- append. -/
def appendV (P : Program) (h : H) (t tx : TypeId) (x y : V) : Option (V × H) :=
  match P.underlying t with
  | some (.slice e) =>
    match P.info? e, zeroV P e with
    | some i, some zs =>
      match srcV P h tx i.size y with
      | some (n, news) =>
        bif allOne news && Nat.beq zs.length i.size && Nat.blt 0 i.size && Nat.ble i.bytes 65536 then
          match x with
          | .nils =>
            bif Nat.beq n 0 then some (.nils, h)
            else bif Nat.ble (Nat.mul n i.size) 4096 && Nat.blt h.next 65536 then
              some (.slice h.next 0 n n i.size, h.lay (Nat.mul n i.size) e true (fillFrom news 0 (emptyCells (Nat.mul n i.size))))
            else none
          | .slice id o len cap esz =>
            bif Nat.beq esz i.size then
              bif Nat.beq n 0 then some (.slice id o len cap esz, h)
              else match h.mem.blk id with
                | .live nb tb false pl c =>
                  bif Nat.blt id 65536 && Nat.beq tb e && Nat.ble (Nat.mul (Nat.add len n) esz) 4096 && Nat.blt h.next 65536 then
                    bif Nat.ble (Nat.add len n) cap then
                      bif Nat.ble (Nat.add o (Nat.mul (Nat.add len n) esz)) nb then some (.slice id o (Nat.add len n) cap esz, h.write id nb tb pl (fillFrom news (Nat.add o (Nat.mul len esz)) c)) else none
                    else bif Nat.beq len 0 || Nat.ble (Nat.add o (Nat.mul len esz)) nb then
                      some (.slice h.next 0 (Nat.add len n) (Nat.add len n) esz,
                        (h.kill id).lay (Nat.mul (Nat.add len n) esz) e pl (fillFrom news (Nat.mul len esz) (baseCells c o (Nat.mul len esz) (Nat.mul (Nat.add len n) esz))))
                    else none
                  else none
                | _ => none
            else none
          | _ => none
        else none
      | none => none
    | _, _ => none
  | _ => none

/-- The new row that an append makes. -/
theorem grown_fits {r : Emb} {w : World} {e : TypeId} {news olds : List V} {xs os : List Value} (hn : VsRel r news xs) (hol : VsRel r olds os) (zc : Array Value) (g k : Nat) (c : Cells) (hc : c.room ≥ olds.length + news.length)
    (hold : ∀ p, (hp : p < olds.length) → c.get p = olds[p]) (pl : Bool) (u : World) (hu : u.heap[w.heap.size]? = some (.cells ((os ++ xs).toArray ++ Builtin.zeroCells zc g) e (0, 0))) (hk : k = olds.length + news.length) :
    Fits r k e false pl (fillFrom news olds.length c) w.heap.size 0 ((os ++ xs).toArray ++ Builtin.zeroCells zc g).size u := by
  have hnl := hn.length
  have hol' := hol.length
  refine ⟨⟨_, (0, 0), ⟨_, hu, fun _ => rfl⟩, rfl, fun _ x _ hx => Nat.not_lt_zero _ hx.2, fun _ => rfl, fun o ho => ?_⟩, by simp; omega, by rw [fillFrom_room]; omega⟩
  rw [Nat.add_zero]
  have hlt : o < (os ++ xs).length := by simp; omega
  have hget : ((os ++ xs).toArray ++ Builtin.zeroCells zc g)[o]? = (os ++ xs)[o]? := by
    rw [Array.getElem?_append_left (by simpa using hlt)]
    simp
  rw [hget]
  by_cases h1 : o < olds.length
  · rw [fillFrom_out news olds.length o c (by omega) (by omega) (.inl h1), hold o h1, List.getElem?_append_left (by omega)]
    exact hol.get o (by simp)
  · obtain ⟨j, rfl⟩ : ∃ j, o = olds.length + j := ⟨o - olds.length, by omega⟩
    rw [fillFrom_in news olds.length j c (by omega) (by omega), List.getElem?_append_right (by omega)]
    rw [show olds.length + j - os.length = j by omega]
    exact hn.get j (by simp)

theorem run_append_none0 {w : World} {t tx ty e : TypeId} {i : TypeInfo} (ht : P.underlying t = some (.slice e)) (hi : P.info? e = some i) {a : Value} {xs : List Value} (hs : Src P i.size tx a 0 xs w) :
    (Builtin.append_ #[t, tx] ty #[.slice none 0 0, a]).run P w = .ok (.slice none 0 0) w := by
  rcases hs.kind with ⟨e', hk⟩ | hk <;> simp [Builtin.append_, run_underlying ht, run_underlying hk, sizeOf, typeInfo, hi, hs.len, hs.cells]

theorem run_append_some0 {w : World} {t tx ty e : TypeId} {i : TypeInfo} (ht : P.underlying t = some (.slice e)) (hi : P.info? e = some i) {a : Value} {xs : List Value} (hs : Src P i.size tx a 0 xs w) (b off l c : Nat) (hl : l ≤ c) :
    (Builtin.append_ #[t, tx] ty #[.slice (some ⟨b, off, none⟩) l c, a]).run P w = .ok (.slice (some ⟨b, off, none⟩) l c) w := by
  have h0 : xs = [] := List.eq_nil_of_length_eq_zero (by rw [hs.newsLen]; omega)
  subst h0
  exact run_append_room_src w t tx ty e i ht hi b off l c a 0 [] hs (by omega) (fun j hj => by simp at hj) (fun j hj => by simp at hj)

theorem held_kill {r : Emb} {h : H} {id b : Nat} (hid : id < 65536) (ho : Held r (h.kill id) b) : Held r h b := by
  obtain ⟨i, sh, m, hl, h1⟩ := ho
  exact ⟨i, sh, m, (live_kill hid hl).1, h1⟩

/-- What stands in the model behind an append that is given a new label. -/
theorem relabel_grown {r : Emb} {h0 h : H} {w : World} (hr : Rel r h w) (hsub : ∀ b, Own r h b → Own r h0 b) (hsub2 : ∀ b, Held r h b → Held r h0 b) (hn : h.next < 65536) {e : TypeId} {news olds : List V} {xs os : List Value} (hv : VsRel r news xs) (hol : VsRel r olds os)
    (zc : Array Value) (g : Nat) {c : Cells} (hc : olds.length + news.length ≤ c.room) (hold : ∀ p, (hp : p < olds.length) → c.get p = olds[p]) (pl : Bool) :
    Step r h0 w (r.put h.next (w.heap.size, 0, ((os ++ xs).toArray ++ Builtin.zeroCells zc g).size)) (h.lay (olds.length + news.length) e pl (fillFrom news olds.length c))
      (w.drew.alloc (.cells ((os ++ xs).toArray ++ Builtin.zeroCells zc g) e)) := by
  have hle := r.le_put h.next (w.heap.size, 0, ((os ++ xs).toArray ++ Builtin.zeroCells zc g).size) (hr.new _ (Nat.le_refl _))
  refine Step.lay hr hsub hsub2 hn (fun id sh' m' hl' e' => Nat.lt_irrefl _ (hr.lt hl' e')) (fun hlt => (Nat.lt_irrefl _ hlt).elim) (fun k hk _ => heap_alloc_old w.drew _ k hk) (by simp) rfl rfl rfl ?_
  exact grown_fits (hv.up hle) (hol.up hle) zc g _ c hc hold pl _ (heap_alloc_new w.drew _) rfl

theorem zeroCells_size (zc : Array Value) (g : Nat) : (Builtin.zeroCells zc g).size = g * zc.size := by simp [Builtin.zeroCells]

theorem relabel_room {r : Emb} {h : H} {w : World} (hr : Rel r h w) {id nb : Nat} {tb : TypeId} {pl : Bool} {c : Cells} (hid : id < 65536) (hb : h.mem.blk id = .live nb tb false pl c) (hn : h.next < 65536)
    {b sh m : Nat} (h1 : r id = some (b, sh, m)) {news : List V} {xs : List Value} (hv : VsRel r news xs) {off k : Nat} (hk : off + (k + news.length) ≤ m) {c' : Cells} (hroom : k + news.length ≤ c'.room)
    (hold : ∀ p, p < k → ∃ q, q < nb ∧ c'.get p = c.get q ∧ p + off = q + sh) :
    Step r h w (r.put h.next (b, off, m)) ((h.kill id).lay (k + news.length) tb pl (fillFrom news k c')) (w.setCells b (off + k) xs) := by
  have hkill := (Step.kill hr hid).rel
  have hle := r.le_put h.next (b, off, m) (hr.new _ (Nat.le_refl _))
  obtain ⟨b', sh', m', h1', ⟨⟨cs, fz, ⟨ty, g2, hty⟩, g3, g4, g5, g6⟩, g7, g8⟩⟩ := hr.blk id nb tb false pl c hid hb
  rw [hty rfl] at g2
  rw [h1] at h1'
  cases h1'
  have hlen := hv.length
  obtain ⟨f1, f2, f3, f4⟩ := setCells_frame b xs (off + k) w
  refine Step.lay (h0 := h) (h := h.kill id) hkill (fun _ => own_kill hid) (fun _ => held_kill hid) hn (fun i sh' m' hl' e' => ?_) (fun _ => own_of hid hb h1)
    (fun k' _ hne => heap_setCells_other b k' hne xs _ w) (Nat.le_of_eq f1.symm) f2 f3 f4 ?_
  · obtain ⟨hl, hne⟩ := live_kill hid hl'
    exact hne (hr.inj i id b sh' m' sh m hl (live_of hid hb) e' h1)
  · refine ⟨⟨setL cs (off + k) xs, fz, ⟨_, heap_setCells b xs _ w cs _ fz g2, fun _ => rfl⟩, by rw [size_setL]; exact g3, g4, g5, fun p hp => ?_⟩, by omega, by rw [fillFrom_room]; exact hroom⟩
    by_cases hin : p < k
    · rw [fillFrom_out news k p c' hroom (by omega) (.inl hin), setL_out xs cs (off + k) (p + off) (by omega)]
      obtain ⟨q, q1, q2, q3⟩ := hold p hin
      obtain ⟨x, hx, hvx⟩ := g6 q q1
      rw [q2, q3]
      exact ⟨x, hx, hvx.up hle⟩
    · obtain ⟨j, rfl⟩ : ∃ j, p = k + j := ⟨p - k, by omega⟩
      rw [fillFrom_in news k j c' hroom (by omega), show k + j + off = off + k + j by omega, setL_in xs cs (off + k) j (by omega) (by omega)]
      obtain ⟨x, hx, hvx⟩ := hv.get j (v := news[j]) (by simp)
      rw [List.getElem?_eq_getElem (by omega)] at hx
      exact ⟨x, hx, hvx.up hle⟩


theorem append_gives {r : Emb} {h h' : H} {w w' : World} {e : Operand → Value} {o : Oper} {t tx : TypeId} {x y : Operand} (ho : o.op = .call { callee := .builtin .append, args := #[x, y], argTypes := #[t, tx] })
    {z : Value} {v : V} {r' : Emb} (hrun : (Builtin.append_ #[t, tx] o.type #[e x, e y]).run P w = .ok z w') (hs : Step r h w r' h' w') (hv : VRel r' v z) : Gives P r h w e o v h' := by
  refine ⟨z, w', r', .inl ?_, hs, hv⟩
  unfold execOp
  simp [ho, resolve, invoke, builtin, hrun]

theorem appendV_sound {r : Emb} {h h' : H} {w : World} (hr : Rel r h w) {e : Operand → Value} {o : Oper} {t tx : TypeId} {x y : Operand} (ho : o.op = .call { callee := .builtin .append, args := #[x, y], argTypes := #[t, tx] })
    {vx vy v : V} (hx : VRel r vx (e x)) (hy : VRel r vy (e y)) (he : appendV P h t tx vx vy = some (v, h')) : Gives P r h w e o v h' := by
  unfold appendV at he
  split at he
  · rename_i el hu
    split at he
    · rename_i i zs hi hz
      split at he
      · rename_i n news hsrc
        cases hk : (allOne news && Nat.beq zs.length i.size && Nat.blt 0 i.size && Nat.ble i.bytes 65536) <;> simp only [hk, cond_true, cond_false, reduceCtorEq] at he
        simp only [Bool.and_eq_true, Nat.blt_eq] at hk
        obtain ⟨⟨⟨k1, k2⟩, k3⟩, k4⟩ := hk
        have k2' := Nat.eq_of_beq_eq_true k2
        have k4' := Nat.le_of_ble_eq_true k4
        obtain ⟨xs, hs, hv⟩ := srcV_sound hr hsrc k1 hy
        obtain ⟨i', z, hi', hz', h4⟩ := zeroV_info (r := r) hz
        rw [hi] at hi'
        cases hi'
        have hsz : z.cells.size = i.size := by rw [← k2']; simpa using h4.length.symm
        have hnl : news.length = n * i.size := by rw [hv.length]; exact hs.newsLen
        split at he
        · -- nil
          generalize hax : e x = ax at hx
          cases hx
          cases h0 : Nat.beq n 0
          · rw [h0] at he
            simp only [cond_false] at he
            cases hk : (Nat.ble (Nat.mul n i.size) 4096 && Nat.blt h.next 65536) <;> simp only [hk, cond_true, cond_false, reduceCtorEq, Option.some.injEq, Prod.mk.injEq] at he
            obtain ⟨rfl, rfl⟩ := he
            simp only [Bool.and_eq_true, Nat.blt_eq] at hk
            have hle : n * i.size ≤ 4096 := Nat.le_of_ble_eq_true hk.1
            have hn0 : 0 < n := Nat.pos_of_ne_zero (fun e0 => by rw [e0] at h0; simp at h0)
            have hn : n ≤ 4096 := Nat.le_trans (Nat.le_mul_of_pos_right n k3) hle
            have hby : (0 + n) * i.bytes ≤ 140737488355328 := by
              have : n * i.bytes ≤ 4096 * 65536 := Nat.mul_le_mul hn k4'
              rw [Nat.zero_add]
              omega
            have hrun := run_append_grow_src w t tx o.type el i z hu hi hz' none 0 0 [] (run_firstCells_none w.drew i.size 0 0 0) (e y) n xs hs (by omega) (by omega) (growslice_fits (by omega) hby)
            have hst := relabel_grown hr (fun _ ho => ho) (fun _ ho => ho) hk.2 (e := el) (olds := []) (os := []) hv .nil z.cells (grownCap w (0 + n) 0 el - (0 + n)) (c := emptyCells (n * i.size))
              (by have := emptyCells_room (n * i.size) hle; simpa [hnl] using this) (fun p hp => by simp at hp) true
            have e1 : h.lay (([] : List V).length + news.length) el true (fillFrom news ([] : List V).length (emptyCells (n * i.size))) = h.lay (Nat.mul n i.size) el true (fillFrom news 0 (emptyCells (Nat.mul n i.size))) := by
              rw [List.length_nil, Nat.zero_add, hnl]; rfl
            rw [e1] at hst
            refine append_gives ho (by rw [hax]; exact hrun) hst ?_
            have hge := grownCap_ge w (0 + n) 0 el
            rw [show (.slice (some ⟨w.heap.size, 0, none⟩) (0 + n) (grownCap w (0 + n) 0 el) : Value) = .slice (some ⟨w.heap.size, 0 + 0, none⟩) n (grownCap w (0 + n) 0 el) by rw [Nat.zero_add n]]
            refine .slice (Emb.put_same _ _ _) (Nat.le_refl _) (by omega) ?_
            simp only [Array.size_append, zeroCells_size, hsz, List.nil_append, List.size_toArray]
            rw [hs.newsLen, ← Nat.add_mul]
            have : n + (grownCap w (0 + n) 0 el - (0 + n)) = grownCap w (0 + n) 0 el := by omega
            rw [this]
            omega
          · rw [h0] at he
            simp only [cond_true, Option.some.injEq, Prod.mk.injEq] at he
            obtain ⟨rfl, rfl⟩ := he
            have hn0 := Nat.eq_of_beq_eq_true h0
            subst hn0
            exact append_gives ho (by rw [hax]; exact run_append_none0 hu hi hs) (Step.refl hr) .nils
        · -- a slice
          rename_i id off len cap esz
          cases hes : Nat.beq esz i.size <;> simp only [hes, cond_true, cond_false, reduceCtorEq] at he
          have hes' := Nat.eq_of_beq_eq_true hes
          subst hes'
          cases h0 : Nat.beq n 0
          · rw [h0] at he
            simp only [cond_false] at he
            have hn0 : 0 < n := Nat.pos_of_ne_zero (fun e0 => by rw [e0] at h0; simp at h0)
            split at he
            · rename_i nb tb pl c hb
              cases hk : (Nat.blt id 65536 && Nat.beq tb el && Nat.ble (Nat.mul (Nat.add len n) i.size) 4096 && Nat.blt h.next 65536) <;> simp only [hk, cond_true, cond_false, reduceCtorEq] at he
              simp only [Bool.and_eq_true, Nat.blt_eq] at hk
              obtain ⟨⟨⟨g1, g2⟩, g3⟩, g4⟩ := hk
              have g2' := Nat.eq_of_beq_eq_true g2
              subst g2'
              have g3' : (len + n) * i.size ≤ 4096 := Nat.le_of_ble_eq_true g3
              obtain ⟨b, sh, m, h1, hf⟩ := hr.blk id nb tb false pl c g1 hb
              have hmul : (len + n) * i.size = len * i.size + n * i.size := Nat.add_mul _ _ _
              have hln : len + n ≤ 4096 := Nat.le_trans (Nat.le_mul_of_pos_right _ k3) g3'
              have hby : (len + n) * i.bytes ≤ 140737488355328 := by
                have : (len + n) * i.bytes ≤ 4096 * 65536 := Nat.mul_le_mul hln k4'
                omega
              cases hcap : Nat.ble (Nat.add len n) cap
              · -- what becomes of it hangs on the capacity
                rw [hcap] at he
                simp only [cond_false] at he
                cases hk2 : (Nat.beq len 0 || Nat.ble (Nat.add off (Nat.mul len i.size)) nb) <;> simp only [hk2, cond_true, cond_false, reduceCtorEq, Option.some.injEq, Prod.mk.injEq] at he
                obtain ⟨rfl, rfl⟩ := he
                have hlen0 : len = 0 ∨ off + len * i.size ≤ nb := by
                  rw [Bool.or_eq_true] at hk2
                  rcases hk2 with q | q
                  · exact .inl (Nat.eq_of_beq_eq_true q)
                  · exact .inr (Nat.le_of_ble_eq_true q)
                have hroomb : (len + n) * i.size ≤ (baseCells c off (len * i.size) ((len + n) * i.size)).room := baseCells_room _ _ _ _ g3'
                -- the slice's address, its capacity, its cells
                have key : ∀ (ao cap' : Nat), e x = .slice (some ⟨b, ao, none⟩) len cap' → len ≤ cap' → ao + cap' * i.size ≤ m → (len = 0 ∨ ao = off + sh) →
                    Gives P r h w e o (.slice h.next 0 (Nat.add len n) (Nat.add len n) i.size) ((h.kill id).lay (Nat.mul (Nat.add len n) i.size) tb pl (fillFrom news (Nat.mul len i.size) (baseCells c off (Nat.mul len i.size) (Nat.mul (Nat.add len n) i.size)))) := by
                  intro ao cap' hax hlc hbound hao
                  have hcells : ∀ p, p < len * i.size → p + ao = (off + p) + sh ∧ off + p < nb := fun p hp => by
                    rcases hao with q | q
                    · subst q; simp at hp
                    · rcases hlen0 with q2 | q2
                      · subst q2; simp at hp
                      · omega
                  have hlay : (h.kill id).lay (len * i.size + news.length) tb pl (fillFrom news (len * i.size) (baseCells c off (len * i.size) ((len + n) * i.size))) =
                      (h.kill id).lay (Nat.mul (Nat.add len n) i.size) tb pl (fillFrom news (Nat.mul len i.size) (baseCells c off (Nat.mul len i.size) (Nat.mul (Nat.add len n) i.size))) := by
                    rw [hnl, ← hmul]; rfl
                  have hbase : ∀ p, p < len * i.size → (baseCells c off (len * i.size) ((len + n) * i.size)).get p = c.get (off + p) := fun p hp => by
                    rcases hlen0 with q2 | q2
                    · subst q2; simp at hp
                    · exact baseCells_get c off _ _ p hp (by have := hf.room; omega) (by omega) g3'
                  by_cases hc2 : len + n ≤ cap'
                  · have hm2 : (len + n) * i.size ≤ cap' * i.size := Nat.mul_le_mul_right _ hc2
                    have hth := hf.there (ao + len * i.size) (n * i.size) (by omega)
                    have hrun := run_append_room_src w t tx o.type tb i hu hi b ao len cap' (e y) n xs hs hc2 (fun j hj => (hth j (by rw [← hs.newsLen]; exact hj)).1) (fun j hj => (hth j (by rw [← hs.newsLen]; exact hj)).2)
                    have hst := relabel_room hr g1 hb g4 h1 (news := news) hv (off := ao) (k := len * i.size) (by rw [hnl]; omega) (c' := baseCells c off (len * i.size) ((len + n) * i.size)) (by rw [hnl]; omega)
                      (fun p hp => ⟨off + p, (hcells p hp).2, hbase p hp, (hcells p hp).1⟩)
                    rw [hlay] at hst
                    refine append_gives ho (by rw [hax]; exact hrun) hst ?_
                    rw [show (.slice (some ⟨b, ao, none⟩) (len + n) cap' : Value) = .slice (some ⟨b, 0 + ao, none⟩) (Nat.add len n) cap' by rw [Nat.zero_add]; rfl]
                    exact .slice (Emb.put_same _ _ _) (Nat.le_refl _) hc2 (by omega)
                  · have hcellr : ∃ os, VsRel r (readFrom c off (len * i.size)) os ∧ os.length = len * i.size ∧ ∀ j u, os[j]? = some u → w.drew.cell? ((⟨b, ao, none⟩ : Addr).add j) = some u := by
                      rcases hao with q | q
                      · subst q
                        simp only [Nat.zero_mul]
                        exact ⟨[], .nil, rfl, fun j u hj => by simp at hj⟩
                      · rcases hlen0 with q2 | q2
                        · subst q2
                          simp only [Nat.zero_mul]
                          exact ⟨[], .nil, rfl, fun j u hj => by simp at hj⟩
                        · obtain ⟨os, p1, p2, p3⟩ := hf.read (len * i.size) off q2
                          exact ⟨os, p1, p2, fun j u hj => by rw [q, Addr.add_mid]; exact p3 j u hj⟩
                    obtain ⟨os, p1, p2, p3⟩ := hcellr
                    have hfirst := run_firstCells_some (P := P) w.drew i.size len ⟨b, ao, none⟩ len cap' os p2 p3
                    have hrun := run_append_grow_src w t tx o.type tb i z hu hi hz' (some ⟨b, ao, none⟩) len cap' os hfirst (e y) n xs hs (by omega) (by omega) (growslice_fits (by omega) hby)
                    have hst := relabel_grown (h0 := h) (h := h.kill id) (Step.kill hr g1).rel (fun _ => own_kill g1) (fun _ => held_kill g1) g4 (e := tb) (olds := readFrom c off (len * i.size)) (os := os) hv p1 z.cells (grownCap w (len + n) cap' tb - (len + n)) (c := baseCells c off (len * i.size) ((len + n) * i.size))
                      (by rw [readFrom_length, hnl]; omega) (fun p hp => by rw [readFrom_length] at hp; rw [hbase p hp, readFrom_get]) pl
                    rw [readFrom_length, hlay] at hst
                    refine append_gives ho (by rw [hax]; exact hrun) hst ?_
                    have hge := grownCap_ge w (len + n) cap' tb
                    refine .slice (o := 0) (Emb.put_same _ _ _) (Nat.le_refl _) hge ?_
                    simp only [Array.size_append, zeroCells_size, hsz, List.size_toArray, List.length_append]
                    rw [hs.newsLen, p2, ← Nat.add_mul, ← Nat.add_mul]
                    have : len + n + (grownCap w (len + n) cap' tb - (len + n)) = grownCap w (len + n) cap' tb := by omega
                    rw [this]
                    omega
                generalize hax : e x = ax at hx
                cases hx with
                | @slice _ _ _ _ _ b' sh' m' cap' hx q1 q2 q3 =>
                  rw [h1] at hx
                  cases hx
                  exact key (off + sh) cap' hax (by omega) q3 (.inr rfl)
                | @slice0 _ _ _ b' sh' m' ao cap' hx q3 =>
                  rw [h1] at hx
                  cases hx
                  exact key ao cap' hax (by omega) q3 (.inl rfl)
              · -- there is room, surely
                rw [hcap] at he
                simp only [cond_true] at he
                have hcap' : len + n ≤ cap := Nat.le_of_ble_eq_true hcap
                cases hk2 : Nat.ble (Nat.add off (Nat.mul (Nat.add len n) i.size)) nb <;> simp only [hk2, cond_true, cond_false, reduceCtorEq, Option.some.injEq, Prod.mk.injEq] at he
                obtain ⟨rfl, rfl⟩ := he
                have hk2' : off + (len + n) * i.size ≤ nb := Nat.le_of_ble_eq_true hk2
                generalize hax : e x = ax at hx
                cases hx with
                | @slice _ _ _ _ _ b' sh' m' cap' hx q1 q2 q3 =>
                  rw [h1] at hx
                  cases hx
                  have hfit := hf.fit
                  have hth := hf.there (off + sh + len * i.size) (n * i.size) (by omega)
                  have hrun := run_append_room_src w t tx o.type tb i hu hi b (off + sh) len cap' (e y) n xs hs (by omega) (fun j hj => (hth j (by rw [← hs.newsLen]; exact hj)).1) (fun j hj => (hth j (by rw [← hs.newsLen]; exact hj)).2)
                  have hst := Step.store hr g1 hb h1 (ws := news) hv (o := off + len * i.size) (by rw [hnl]; omega)
                  rw [show off + len * i.size + sh = off + sh + len * i.size by omega] at hst
                  exact append_gives ho (by rw [hax]; exact hrun) hst (.slice h1 hcap' q2 q3)
                | slice0 => omega
            · simp at he
          · rw [h0] at he
            simp only [cond_true, Option.some.injEq, Prod.mk.injEq] at he
            obtain ⟨rfl, rfl⟩ := he
            have hn0 := Nat.eq_of_beq_eq_true h0
            subst hn0
            have hx' := hx
            generalize hax : e x = ax at hx
            cases hx with
            | slice hq q1 q2 q3 => exact append_gives ho (by rw [hax]; exact run_append_some0 hu hi hs _ _ _ _ (by omega)) (Step.refl hr) (by rw [hax] at hx'; exact hx')
            | slice0 hq q3 => exact append_gives ho (by rw [hax]; exact run_append_some0 hu hi hs _ _ _ _ (by omega)) (Step.refl hr) (by rw [hax] at hx'; exact hx')
        · simp at he
      · simp at he
    · simp at he
  · simp at he

end Go.Ev
