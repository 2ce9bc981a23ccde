/- strings.Builder's copyCheck and String, in the evaluator's words. strings.Builder's String over a buffer that may begin anywhere in its row: what the call does to the world. A beginning that owns nothing: labels of blocks that are not written, names of values that are not known. No condition. -/
import Derived.Test.YtgpogeemhaiicaaGreatDoorEvMd
import Derived.Shelf.Strings.BuilderK
import Derived.Test.YtgpogeemhaiicaaGreatDoorEvMf
import Derived.Test.YtgpogeemhaiicaaGreatDoorEvMh
set_option linter.all false
namespace Go.Ev

variable {P : Program}

/-! ### copyCheck -/
def chkV (vs : List V) (h : H) : Option (V × H) :=
  match vs with
  | [.ptr id 0] =>
    match h.mem.blk id with
    | .live n t false pl c =>
      bif Nat.blt id 65536 && (Nat.beq t bldT && Nat.beq n 2) then
        match c.get 0 with
        | .nilp => some (.tup [], h.write id n t pl (fillFrom [.ptr id 0] 0 c))
        | .ptr id' 0 => bif Nat.beq id' id then some (.tup [], h) else none
        | _ => none
      else none
    | _ => none
  | _ => none

theorem cell_of {w : World} {b : Nat} {cs : Array Value} {t : TypeId} {fz : Nat × Nat} (h : w.heap[b]? = some (.cells cs t fz)) (o : Nat) : w.cell? ⟨b, o, none⟩ = cs[o]? := by simp [World.cell?, h]
theorem shape_of {w : World} {b : Nat} {cs : Array Value} {t : TypeId} {fz : Nat × Nat} (h : w.heap[b]? = some (.cells cs t fz)) : w.shape? b = some (t, cs.size) := by simp [World.shape?, h]

theorem vrel_slice_cap {r : Emb} {id o len cap esz : Nat} {a : Value} (h : VRel r (.slice id o len cap esz) a) : ∀ ad l c, a = .slice ad l c → l ≤ c := by
  cases h with
  | slice _ g1 g2 _ => intro ad l c e; cases e; omega
  | slice0 _ _ => intro ad l c e; cases e; omega
theorem vsrel1 {r : Emb} {v : V} {xs : Array Value} (h : VsRel r [v] xs.toList) : ∃ x, xs = #[x] ∧ VRel r v x := by
  obtain ⟨l⟩ := xs
  cases h with
  | cons h hs => cases hs; exact ⟨_, rfl, h⟩

theorem chkV_sound {w0 : World} {g : FuncId}
    (hf : ∀ (b : Nat) (w : World), w.cell? ⟨b, 0, none⟩ = some (.pointer none) → w.shape? b = some (bldT, 2) → w.frozen? ⟨b, 0, none⟩ = false →
      Calls P g #[.pointer (some ⟨b, 0, none⟩)] w fun e w' => e = .returned (.tuple #[]) ∧ w' = w.setCell ⟨b, 0, none⟩ (.pointer (some ⟨b, 0, none⟩)))
    (hu : ∀ (b : Nat) (w : World), w.cell? ⟨b, 0, none⟩ = some (.pointer (some ⟨b, 0, none⟩)) → Calls P g #[.pointer (some ⟨b, 0, none⟩)] w fun e w' => e = .returned (.tuple #[]) ∧ w' = w)
    {vs : List V} {h h' : H} {v : V} (he : chkV vs h = some (v, h')) : CallOk P w0 g vs h v h' := by
  intro r w xs hr hg hba hx
  unfold chkV at he
  split at he
  · rename_i id
    split at he
    · rename_i n t pl c hb
      cases hk : (Nat.blt id 65536 && (Nat.beq t bldT && Nat.beq n 2))
      · rw [hk] at he; simp at he
      · rw [hk] at he
        simp only [cond_true] at he
        simp only [Bool.and_eq_true, Nat.blt_eq] at hk
        obtain ⟨k1, k2, k3⟩ := hk
        obtain rfl := Nat.eq_of_beq_eq_true k2
        obtain rfl := Nat.eq_of_beq_eq_true k3
        obtain ⟨b, sh, m, h1, hfit⟩ := hr.blk id 2 bldT false pl c k1 hb
        obtain ⟨rfl, rfl⟩ := hfit.exact rfl rfl
        obtain ⟨x, rfl, hx1⟩ := vsrel1 hx
        have hfit2 := hfit
        obtain ⟨⟨cs, fz, ⟨t', hw, ht⟩, hsz, hfz, _, hcell⟩, _, _, _⟩ := hfit2
        rw [ht rfl] at hw
        obtain ⟨y, hy, hvy⟩ := hcell 0 (by omega)
        have hax : x = .pointer (some ⟨b, 0, none⟩) := by
          cases hx1 with
          | ptr hq => rw [h1] at hq; cases hq; rfl
        subst hax
        have hc0 : w.cell? ⟨b, 0, none⟩ = some y := by rw [cell_of hw]; exact hy
        have hfro : w.frozen? ⟨b, 0, none⟩ = false := hfit.frozen 0 (by omega)
        have hshape : w.shape? b = some (bldT, 2) := by rw [shape_of hw, hsz]
        split at he
        · rename_i hg0
          rw [hg0] at hvy
          cases hvy
          simp only [Option.some.injEq, Prod.mk.injEq] at he
          obtain ⟨rfl, rfl⟩ := he
          refine (hf b w hc0 hshape hfro).mono ?_
          rintro e w' ⟨rfl, rfl⟩
          have hst := Step.store hr k1 hb h1 (ws := [.ptr id 0]) (xs := [.pointer (some ⟨b, 0, none⟩)]) (.cons (VRel.ptr (o := 0) h1) .nil) (o := 0) (by simp)
          exact ⟨_, r, rfl, hst, .tup .nil⟩
        · rename_i id' hg0
          rw [hg0] at hvy
          cases hq : Nat.beq id' id
          · rw [hq] at he; simp at he
          · rw [hq] at he
            simp only [cond_true, Option.some.injEq, Prod.mk.injEq] at he
            obtain ⟨rfl, rfl⟩ := he
            obtain rfl := Nat.eq_of_beq_eq_true hq
            have hy2 : y = .pointer (some ⟨b, 0, none⟩) := by
              cases hvy with
              | ptr hq => rw [h1] at hq; cases hq; rfl
            subst hy2
            refine (hu b w hc0).mono ?_
            rintro e w' ⟨rfl, rfl⟩
            exact ⟨_, r, rfl, Step.refl hr, .tup .nil⟩
        · simp at he
    · simp at he
  · simp at he

/-! ### String -/
/-- A text out of bytes. -/
def bytesNum : List V → Option Nat
  | [] => some 0
  | .int .u8 (.ofNat b) :: l => bif Nat.blt b 256 then (match bytesNum l with | some a => some (Nat.add b (Nat.mul 256 a)) | none => none) else none
  | _ => none

theorem bytesNum_sound {r : Emb} : ∀ {vs : List V} {N : Nat} {xs : List Value}, bytesNum vs = some N → VsRel r vs xs → N < 256 ^ vs.length ∧ xs = (sdec N vs.length).map (fun b => Value.int .u8 (b.toNat : Int))
  | [], N, xs, h, hv => by
    cases hv
    simp only [bytesNum, Option.some.injEq] at h
    subst h
    exact ⟨by simp, rfl⟩
  | v :: vs, N, xs, h, hv => by
    unfold bytesNum at h
    split at h
    · rename_i heq; cases heq
    · rename_i b l heq
      simp only [List.cons.injEq] at heq
      obtain ⟨rfl, rfl⟩ := heq
      cases hb : Nat.blt b 256
      · rw [hb] at h; simp at h
      · rw [hb] at h
        simp only [cond_true] at h
        split at h
        · rename_i a ha
          simp only [Option.some.injEq] at h
          subst h
          cases hv with
          | cons hx hs =>
            cases hx
            obtain ⟨g1, rfl⟩ := bytesNum_sound ha hs
            rw [Nat.blt_eq] at hb
            have e1 : (Nat.add b (Nat.mul 256 a)) = b + 256 * a := rfl
            have e2 : (b + 256 * a) % 256 = b := by omega
            have e3 : (b + 256 * a) / 256 = a := by omega
            refine ⟨?_, ?_⟩
            · rw [e1, List.length_cons, Nat.pow_succ]
              omega
            · rw [e1, List.length_cons, sdec, e2, e3, List.map_cons]
              congr 1
              have : (UInt8.ofNat b).toNat = b := by simp; omega
              rw [this]
              rfl
        · cases h
    · cases h

def strV (T5 : TypeId) (vs : List V) (h : H) : Option (V × H) :=
  match vs with
  | [.ptr id 0] =>
    match h.mem.blk id with
    | .live n t false _ c =>
      bif Nat.blt id 65536 && (Nat.beq t bldT && Nat.beq n 2) then
        match c.get 1 with
        | .nils => some (.str 0 0, h)
        | .slice g o len _ _ =>
          match h.mem.blk g with
          | .live n5 t5 false _ c5 =>
            bif Nat.blt 0 len && (Nat.blt g 65536 && (Nat.beq t5 T5 && (Nat.ble (Nat.add o len) n5 && Nat.ble len 65536))) then
              match bytesNum (readFrom c5 o len) with
              | some N => some (.str N len, h.setB g (.live n5 t5 true false c5))
              | none => none
            else none
          | _ => none
        | _ => none
      else none
    | _ => none
  | _ => none

theorem freeze_facts (w : World) (a : Addr) (n : Nat) (hn : n ≠ 0) : (w.freeze a n).heap.size = w.heap.size ∧ (w.freeze a n).os = w.os ∧ (w.freeze a n).output = w.output ∧ (w.freeze a n).tape = w.tape ∧
    (∀ k, k ≠ a.block → (w.freeze a n).heap[k]? = w.heap[k]?) ∧ (∀ cs t fz, w.heap[a.block]? = some (.cells cs t fz) → ∃ fz', (w.freeze a n).heap[a.block]? = some (.cells cs t fz')) := by
  unfold World.freeze
  rw [if_neg hn]
  refine ⟨by simp, rfl, rfl, rfl, fun k hk => by simp [Array.getElem?_modify, Ne.symm hk], fun cs t fz h => ?_⟩
  obtain ⟨lo, hi⟩ := fz
  refine ⟨if lo == hi then (a.off, a.off + n) else (min lo a.off, max hi (a.off + n)), ?_⟩
  simp only [Array.getElem?_modify, if_true, h, Option.map_some]
theorem strV_sound {w0 : World} {g : FuncId} {T5 : TypeId}
    (hn : ∀ (b : Nat) (w : World), w.cell? ⟨b, 1, none⟩ = some (.slice none 0 0) → Calls P g #[.pointer (some ⟨b, 0, none⟩)] w fun e w' => e = .returned (.string ⟨#[]⟩) ∧ w' = w.drew)
    (hs : ∀ (b d off cap m : Nat) (l : List UInt8) (w : World), w.cell? ⟨b, 1, none⟩ = some (.slice (some ⟨d, off, none⟩) l.length cap) → w.shape? d = some (T5, m) → off + l.length ≤ m → l ≠ [] → l.length ≤ cap → l.length ≤ 65536 →
      (∀ j x, l[j]? = some x → w.cell? ((⟨d, off, none⟩ : Addr).add j) = some (.int .u8 x.toNat)) →
      Calls P g #[.pointer (some ⟨b, 0, none⟩)] w fun e w' => e = .returned (.string ⟨l.toArray⟩) ∧ w' = w.drew.freeze ⟨d, off, none⟩ l.length)
    {vs : List V} {h h' : H} {v : V} (he : strV T5 vs h = some (v, h')) : CallOk P w0 g vs h v h' := by
  intro r w xs hr hg hba hx
  unfold strV at he
  split at he
  · rename_i id
    split at he
    · rename_i n t pl c hb
      cases hk : (Nat.blt id 65536 && (Nat.beq t bldT && Nat.beq n 2))
      · rw [hk] at he; simp at he
      · rw [hk] at he
        simp only [cond_true] at he
        simp only [Bool.and_eq_true, Nat.blt_eq] at hk
        obtain ⟨k1, k2, k3⟩ := hk
        obtain rfl := Nat.eq_of_beq_eq_true k2
        obtain rfl := Nat.eq_of_beq_eq_true k3
        obtain ⟨b, sh, m, h1, hfit⟩ := hr.blk id 2 bldT false pl c k1 hb
        obtain ⟨rfl, rfl⟩ := hfit.exact rfl rfl
        obtain ⟨x, rfl, hx1⟩ := vsrel1 hx
        have hfit2 := hfit
        obtain ⟨⟨cs, fz, ⟨t', hw, ht⟩, hsz, hfz, _, hcell⟩, _, _, _⟩ := hfit2
        obtain ⟨y, hy, hvy⟩ := hcell 1 (by omega)
        have hax : x = .pointer (some ⟨b, 0, none⟩) := by
          cases hx1 with
          | ptr hq => rw [h1] at hq; cases hq; rfl
        subst hax
        have hc1 : w.cell? ⟨b, 1, none⟩ = some y := by rw [cell_of hw]; exact hy
        split at he
        · rename_i hg1
          rw [hg1] at hvy
          cases hvy
          simp only [Option.some.injEq, Prod.mk.injEq] at he
          obtain ⟨rfl, rfl⟩ := he
          refine (hn b w hc1).mono ?_
          rintro e w' ⟨rfl, rfl⟩
          exact ⟨_, r, rfl, Step.drew hr _, VRel.str (by simp)⟩
        · rename_i d o len cap esz hg1
          rw [hg1] at hvy
          split at he
          · rename_i n5 t5 pl5 c5 hb5
            cases hk2 : (Nat.blt 0 len && (Nat.blt d 65536 && (Nat.beq t5 T5 && (Nat.ble (Nat.add o len) n5 && Nat.ble len 65536))))
            · rw [hk2] at he; simp at he
            · rw [hk2] at he
              simp only [cond_true] at he
              simp only [Bool.and_eq_true, Nat.blt_eq] at hk2
              obtain ⟨j0, j1, j2, j3, j4⟩ := hk2
              obtain rfl := Nat.eq_of_beq_eq_true j2
              have j3' : o + len ≤ n5 := Nat.le_of_ble_eq_true j3
              have j4' : len ≤ 65536 := Nat.le_of_ble_eq_true j4
              split at he
              · rename_i N hN
                simp only [Option.some.injEq, Prod.mk.injEq] at he
                obtain ⟨rfl, rfl⟩ := he
                obtain ⟨bd, sd, md, e1, hf5⟩ := hr.blk d n5 t5 false pl5 c5 j1 hb5
                obtain ⟨ys, y1, y2, y3⟩ := hf5.read len o j3'
                obtain ⟨q1, q2⟩ := bytesNum_sound hN y1
                rw [readFrom_length] at q1 q2
                obtain ⟨b2, s2, m2, cap', p1, rfl⟩ := vrel_slice_pos hvy j0
                rw [e1] at p1
                cases p1
                have hcap : len ≤ cap' := vrel_slice_cap hvy _ _ _ rfl
                have hf52 := hf5
                obtain ⟨⟨cs5, fz5, ⟨t5', hw5, ht5⟩, hsz5, hfz5, _, hcell5⟩, hfit5, hroom5, hex5⟩ := hf52
                rw [ht5 rfl] at hw5
                obtain ⟨l, hl⟩ : ∃ l, l = sdec N len := ⟨_, rfl⟩
                have hll : l.length = len := by
                  have := congrArg List.length q2
                  rw [List.length_map, y2, ← hl] at this
                  exact this.symm
                rw [← hl] at q2
                have hcall := hs b bd (o + sd) cap' md l w (by rw [hll]; exact hc1) (by rw [shape_of hw5, hsz5]) (by rw [hll]; omega) (by intro e0; rw [e0] at hll; simp at hll; omega) (by rw [hll]; exact hcap) (by rw [hll]; exact j4')
                  (fun j x hj => by
                    rw [Addr.add_mid]
                    refine y3 j _ ?_
                    rw [q2, List.getElem?_map, hj]
                    rfl)
                refine hcall.mono ?_
                rintro e w' ⟨rfl, rfl⟩
                have hdr := Step.drew hr (w.drawn + 1)
                have hst : Step r h w.drew r (h.setB d (.live n5 t5 true false c5)) (w.drew.freeze ⟨bd, o + sd, none⟩ l.length) := by
                  have hlne : l.length ≠ 0 := by omega
                  obtain ⟨f1, f2, f3, f4, f5, f6⟩ := freeze_facts w.drew ⟨bd, o + sd, none⟩ l.length hlne
                  obtain ⟨fz', hz'⟩ := f6 cs5 t5 fz5 hw5
                  exact Step.setB (w := w.drew) hdr.rel j1 (by rw [hb5]; rfl) e1 (fun i hi => f5 i hi) f1 f2 f3 f4
                    ⟨⟨cs5, fz', ⟨t5, hz', fun hh => Bool.noConfusion hh⟩, hsz5, fun hh => Bool.noConfusion hh, fun hh => Bool.noConfusion hh, hcell5⟩, hfit5, hroom5, fun hh => Bool.noConfusion hh⟩
                refine ⟨_, r, rfl, hdr.trans hst, ?_⟩
                have e5 : (⟨l.toArray⟩ : ByteArray) = sval N len := by rw [hl]; rfl
                rw [e5]
                exact VRel.str q1
              · simp at he
          · simp at he
        · simp at he
    · simp at he
  · simp at he

end Go.Ev

namespace Go.Ev
open Go.Shelf Go.RowKit Go.Proofs
variable {P : Program} {ρ : Ren}

theorem liesAt_bytes_off {e : TypeId} (hc : P.cellsOf e = 1) (count off n : Nat) (hn : off + n ≤ count) : liesAt P P.depth e count off e n = true := by
  have hd : P.depth = (2 * (P.types.size + Made.depth) + 1) + 1 := rfl
  rw [hd]
  simp only [liesAt, Bool.or_eq_true]
  left
  rw [hd]
  simp [rowAt, hc, hn, sameLayout, Nat.mod_one]

theorem run_unsafeString_off (w : World) (pt it ty e : TypeId) (hp : P.underlying pt = some (.pointer e)) (hc : P.cellsOf e = 1) (g off cells : Nat) (hsh : w.shape? g = some (e, cells)) (l : List UInt8) (h0 : l ≠ []) (hn : off + l.length ≤ cells) (h63 : l.length ≤ 9223372036854775807)
    (hcell : ∀ j x, l[j]? = some x → w.cell? ((⟨g, off, none⟩ : Addr).add j) = some (.int .u8 x.toNat)) :
    (Builtin.unsafeString_ #[pt, it] ty #[.pointer (some ⟨g, off, none⟩), .int .i64 l.length]).run P w = .ok (.string ⟨l.toArray⟩) (w.freeze ⟨g, off, none⟩ l.length) := by
  have hl : l.length ≠ 0 := by simpa using h0
  have hlb := Lib.run_loadBytes (P := P) w l ⟨g, off, none⟩ .empty hcell
  have hlies := liesAt_bytes_off (P := P) hc (cells / P.cellsOf e) off l.length (by rw [hc]; simpa using hn)
  have h63' : ¬ (9223372036854775807 : Int) < (l.length : Int) := by omega
  have hdef : Builtin.unsafeString_ #[pt, it] ty #[.pointer (some ⟨g, off, none⟩), .int .i64 l.length] =
      (do
        let n ← asInt (.int .i64 l.length)
        if n < 0 then runtimePanic (.error "unsafe.String: len out of range")
        if n > IntKind.i64.max then unsupported (.unsafePointer "String: a length above the largest int")
        if n = 0 then pure (.string .empty)
        else if ← variablesAt ⟨g, off, none⟩ (← elemOf pt) n.toNat then do
          let s ← loadBytes ⟨g, off, none⟩ .empty n.toNat
          freeze ⟨g, off, none⟩ n.toNat
          pure (.string s)
        else unsupported (.unsafePointer "String: not so many bytes at ptr")) := rfl
  rw [hdef]
  have hmax : IntKind.i64.max = 9223372036854775807 := rfl
  have hneg : ¬ (l.length : Int) < 0 := by omega
  simp [asInt, asIntOf, hmax, h63', hneg, hl, variablesAt, hsh, elemOf, run_underlying hp, hlies, hlb]

set_option maxHeartbeats 1000000 in
set_option maxRecDepth 100000 in
theorem string_off (L : Lays.n169 P ρ) (X : Builder.Extra P ρ) (b d off cap m : Nat) (l : List UInt8) (w : World) (hb1 : w.cell? ⟨b, 1, none⟩ = some (.slice (some ⟨d, off, none⟩) l.length cap)) (hsh : w.shape? d = some (ρ.t 5, m)) (hm : off + l.length ≤ m) (h0 : l ≠ []) (hcap : l.length ≤ cap) (h16 : l.length ≤ 65536)
    (hcell : ∀ j x, l[j]? = some x → w.cell? ((⟨d, off, none⟩ : Addr).add j) = some (.int .u8 x.toNat)) :
    Calls P (ρ.f 169) #[.pointer (some ⟨b, 0, none⟩)] w fun e w' => e = .returned (.string ⟨l.toArray⟩) ∧ w' = w.drew.freeze ⟨d, off, none⟩ l.length := by
  have hl0 : l.length ≠ 0 := by simpa using h0
  have c1 : w.drew.cell? ⟨b, 1, none⟩ = some (.slice (some ⟨d, off, none⟩) l.length cap) := hb1
  have hSD : (Builtin.unsafeSliceData_ #[(ρ.t 37)] (ρ.t 127) #[.slice (some ⟨d, off, none⟩) l.length cap]).run P w.drew = .ok (.pointer (some ⟨d, off, none⟩)) w.drew :=
    Lib.run_unsafeSliceData_row _ _ _ _ _ _ (by omega)
  have hUS : (Builtin.unsafeString_ #[(ρ.t 127), (ρ.t 3)] (ρ.t 9) #[.pointer (some ⟨d, off, none⟩), .int .i64 l.length]).run P w.drew = .ok (.string ⟨l.toArray⟩) (w.drew.freeze ⟨d, off, none⟩ l.length) :=
    run_unsafeString_off w.drew (ρ.t 127) (ρ.t 3) (ρ.t 9) (ρ.t 5) L.t127 X.cellsByte d off m hsh l h0 hm (by omega) hcell
  have mixed := L.mixed
  have t72 := L.t72; have a72 := L.a72; have z72 := L.z72; have v72 := L.v72; have u72 := run_underlying L.t72
  have t70 := L.t70; have a70 := L.a70; have z70 := L.z70; have v70 := L.v70; have u70 := run_underlying L.t70
  have t37 := L.t37; have a37 := L.a37; have z37 := L.z37; have v37 := L.v37; have u37 := run_underlying L.t37
  have t127 := L.t127; have a127 := L.a127; have z127 := L.z127; have v127 := L.v127; have u127 := run_underlying L.t127
  have t3 := L.t3; have a3 := L.a3; have z3 := L.z3; have v3 := L.v3; have u3 := run_underlying L.t3
  have t9 := L.t9; have a9 := L.a9; have z9 := L.z9; have v9 := L.v9; have u9 := run_underlying L.t9
  have t5 := X.t5; have a5 := X.a5; have z5 := X.z5; have v5 := X.v5; have u5 := run_underlying X.t5
  go_enter L.f169, Body.n169_ntmps ρ
  go_wp2
  go_region_o
  all_goals (go_wp2; go_ret; exact ⟨rfl, rfl⟩)

set_option maxHeartbeats 1000000 in
set_option maxRecDepth 100000 in
theorem string_nil (L : Lays.n169 P ρ) (X : Builder.Extra P ρ) (b : Nat) (w : World) (hb1 : w.cell? ⟨b, 1, none⟩ = some (.slice none 0 0)) :
    Calls P (ρ.f 169) #[.pointer (some ⟨b, 0, none⟩)] w fun e w' => e = .returned (.string ⟨#[]⟩) ∧ w' = w.drew := by
  have hUS := Any.unsafeString_none L X
  have c1 : w.drew.cell? ⟨b, 1, none⟩ = some (.slice none 0 0) := hb1
  have hSD : (Builtin.unsafeSliceData_ #[(ρ.t 37)] (ρ.t 127) #[.slice none 0 0]).run P w.drew = .ok (.pointer none) w.drew := rfl
  have mixed := L.mixed
  have t72 := L.t72; have a72 := L.a72; have z72 := L.z72; have v72 := L.v72; have u72 := run_underlying L.t72
  have t70 := L.t70; have a70 := L.a70; have z70 := L.z70; have v70 := L.v70; have u70 := run_underlying L.t70
  have t37 := L.t37; have a37 := L.a37; have z37 := L.z37; have v37 := L.v37; have u37 := run_underlying L.t37
  have t127 := L.t127; have a127 := L.a127; have z127 := L.z127; have v127 := L.v127; have u127 := run_underlying L.t127
  have t3 := L.t3; have a3 := L.a3; have z3 := L.z3; have v3 := L.v3; have u3 := run_underlying L.t3
  have t9 := L.t9; have a9 := L.a9; have z9 := L.z9; have v9 := L.v9; have u9 := run_underlying L.t9
  have t5 := X.t5; have a5 := X.a5; have z5 := X.z5; have v5 := X.v5; have u5 := run_underlying X.t5
  go_enter L.f169, Body.n169_ntmps ρ
  go_wp2
  go_region_o
  all_goals (go_wp2; go_ret; exact ⟨rfl, rfl⟩)

end Go.Ev

namespace Go.Ev

variable {P : Program}

/-- Nothing is owned. -/
structure Quiet (r : Emb) (h : H) (w : World) : Prop where
  rel : Rel r h w
  ro : ∀ id, Live h id → ownB (h.mem.blk id) = false
theorem Quiet.none {r : Emb} {h : H} {w : World} (hq : Quiet r h w) (b : Nat) : ¬ Own r h b := by
  rintro ⟨id, sh, m, hi, ho, _⟩
  rw [hq.ro id ⟨hi, live_of_own ho⟩] at ho
  cases ho
theorem Quiet.base {r : Emb} {h : H} {w : World} (hq : Quiet r h w) : Base w r h w := ⟨fun _ _ => rfl, fun b ho => (hq.none b ho).elim, Nat.le_refl _⟩
theorem Begin.quiet {w0 : World} {r0 : Emb} {h0 : H} (hb : Begin P w0 r0 h0) : Quiet r0 h0 w0 := by
  refine ⟨hb.rel w0 (fun _ _ => rfl), fun id hl => ?_⟩
  cases ho : ownB (h0.mem.blk id)
  · rfl
  · obtain ⟨b, sh, m, h1, _⟩ := (hb.rel w0 (fun _ _ => rfl)).fit id hl.1 hl.2
    exact (hb.none b ⟨id, sh, m, hl.1, ho, h1⟩).elim

/-- A name is given. -/
theorem Quiet.nam {r : Emb} {h : H} {w : World} (hq : Quiet r h w) {id : Nat} (hn : id < h.next) (hr : r id = Option.none) (x : Nat × Nat × Nat) : Quiet (r.put id x) h w := by
  have hle := r.le_put id x hr
  have hne : ∀ i, Live h i → i ≠ id := fun i hl e => by
    obtain ⟨b, sh, m, h1, _⟩ := hq.rel.fit i hl.1 hl.2
    rw [e, hr] at h1
    cases h1
  refine ⟨⟨fun i hi hl => ?_, fun i i' b sh m sh' m' hl hl' ho h1 h2 => ?_, fun i hi => ?_⟩, hq.ro⟩
  · obtain ⟨b, sh, m, h1, h2⟩ := hq.rel.fit i hi hl
    exact ⟨b, sh, m, hle _ _ h1, h2.keep hle rfl⟩
  · rw [Emb.put_other _ _ _ _ (hne i hl)] at h1
    rw [Emb.put_other _ _ _ _ (hne i' hl')] at h2
    exact hq.rel.inj i i' b sh m sh' m' hl hl' ho h1 h2
  · rw [Emb.put_other _ _ _ _ (by omega)]
    exact hq.rel.new i hi

/-- A block that is not written comes under a label. -/
theorem Quiet.lab {r : Emb} {h : H} {w : World} (hq : Quiet r h w) {id : Nat} (hid : id < 65536) (hn : id < h.next) (hr : r id = Option.none) {k : Blk} (hk : ownB k = false) {b sh m : Nat}
    (hf : FitB (r.put id (b, sh, m)) k b sh m w) : Quiet (r.put id (b, sh, m)) (h.setB id k) w := by
  have hq1 := hq.nam hn hr (b, sh, m)
  have hold : ∀ i, i < 65536 → i ≠ id → (h.setB id k).mem.blk i = h.mem.blk i := fun i hi e => blk_setB_other hid hi e
  have hsame : (h.setB id k).mem.blk id = k := blk_setB hid
  have hro : ∀ i, Live (h.setB id k) i → ownB ((h.setB id k).mem.blk i) = false := fun i ⟨hi, hl⟩ => by
    by_cases e : i = id
    · subst e; rw [hsame]; exact hk
    · rw [hold i hi e] at hl ⊢
      exact hq.ro i ⟨hi, hl⟩
  refine ⟨⟨fun i hi hl => ?_, fun i i' b1 sh1 m1 sh' m' hl hl' ho _ _ => ?_, hq1.rel.new⟩, hro⟩
  · by_cases e : i = id
    · subst e
      rw [hsame]
      exact ⟨b, sh, m, Emb.put_same _ _ _, hf⟩
    · rw [hold i hi e] at hl ⊢
      exact hq1.rel.fit i hi hl
  · rcases ho with ho | ho
    · rw [hro i hl] at ho; cases ho
    · rw [hro i' hl'] at ho; cases ho

/-- A call that was evaluated from there: it returns what it returns, and leaves all as it was. -/
theorem Quiet.closes {W : World} {r : Emb} {h h' : H} (hq : Quiet r h W) (hg : GRel P r) {g : FuncId} {vs : List V} (hc : CallOk P W g vs h (.bool true) h') {xs : Array Value} (hx : VsRel r vs xs.toList) :
    Calls P g xs W fun e w' => e = .returned (.bool true) ∧ W.keptBut w' (fun _ => False) := by
  refine (hc r W xs hq.rel hg hq.base hx).mono ?_
  rintro e w' ⟨z, r', rfl, st, hz⟩
  cases hz
  refine ⟨rfl, st.os, st.out, fun i hi => ?_⟩
  rw [st.keep i hi (hq.none i)]
  exact (World.keptBut_refl W (fun _ => False)).2.2 i hi

/-! Names. -/
def nameI (n : Int) : Nat × Nat × Nat := (n.toNat, (-n).toNat, 0)
theorem rel_nameI {r : Emb} {id : Nat} {n : Int} (h : r id = some (nameI n)) : VRel r (.cls 0 (8 * id)) (.int .i64 n) := by
  have := VRel.nint (r := r) (id := id) (x := n.toNat) (y := (-n).toNat) (z := 0) h
  have e : ((n.toNat : Int) - ((-n).toNat : Int)) = n := by omega
  rw [e] at this
  exact this
theorem sval_all (s : ByteArray) : ∃ n l, n < 256 ^ l ∧ sval n l = s := by
  refine ⟨packN (s.data.toList.map UInt8.toNat), (s.data.toList.map UInt8.toNat).length, packN_lt (fun b hb => ?_), ?_⟩
  · obtain ⟨c, _, rfl⟩ := List.mem_map.1 hb
    exact UInt8.toNat_lt c
  · unfold sval
    rw [sdec_packN (fun b hb => ?_)]
    · rw [List.map_map]
      have : (UInt8.ofNat ∘ UInt8.toNat) = id := by funext c; simp
      rw [this, List.map_id]
    · obtain ⟨c, _, rfl⟩ := List.mem_map.1 hb
      exact UInt8.toNat_lt c

/-- Three names more. -/
def H.more3 (h : H) : H := ⟨h.next + 3, h.mem⟩
theorem Step.names {r : Emb} {h : H} {w w' : World} (st : Step r h w r h w') (x y z : Nat × Nat × Nat) :
    Step r h w (((r.put h.next x).put (h.next + 1) y).put (h.next + 2) z) h.more3 w' := by
  have hnew := st.rel.new
  have hle : r.le (((r.put h.next x).put (h.next + 1) y).put (h.next + 2) z) := by
    refine Emb.le_trans (r.le_put _ x (hnew _ (Nat.le_refl _))) (Emb.le_trans (Emb.le_put _ _ y ?_) (Emb.le_put _ _ z ?_))
    · rw [Emb.put_other _ _ _ _ (by omega)]; exact hnew _ (by omega)
    · rw [Emb.put_other _ _ _ _ (by omega), Emb.put_other _ _ _ _ (by omega)]; exact hnew _ (by omega)
  have hother : ∀ i, i < h.next → (((r.put h.next x).put (h.next + 1) y).put (h.next + 2) z) i = r i := fun i hi => by
    rw [Emb.put_other _ _ _ _ (by omega), Emb.put_other _ _ _ _ (by omega), Emb.put_other _ _ _ _ (by omega)]
  have hlt : ∀ i, Live h i → i < h.next := fun i hl => by
    obtain ⟨b, sh, m, h1, _⟩ := st.rel.fit i hl.1 hl.2
    exact st.rel.lt_next h1
  refine ⟨hle, ⟨fun i hi hl => ?_, fun i i' b sh m sh' m' hl hl' ho h1 h2 => ?_, fun i hi => ?_⟩, st.size, st.keep, fun b hb ho => ?_, fun b hb ho => ?_, st.os, st.out, st.tape⟩
  · obtain ⟨b, sh, m, h1, h2⟩ := st.rel.fit i hi hl
    exact ⟨b, sh, m, hle _ _ h1, h2.keep hle rfl⟩
  · have l1 : Live h i := hl
    have l2 : Live h i' := hl'
    rw [hother i (hlt i l1)] at h1
    rw [hother i' (hlt i' l2)] at h2
    exact st.rel.inj i i' b sh m sh' m' l1 l2 ho h1 h2
  · have : h.next + 3 ≤ i := hi
    rw [Emb.put_other _ _ _ _ (by omega), Emb.put_other _ _ _ _ (by omega), Emb.put_other _ _ _ _ (by omega)]
    exact hnew i (by omega)
  · obtain ⟨i, s1, k1, hi, hb', h1⟩ := ho
    have l1 : Live h i := ⟨hi, live_of_own hb'⟩
    rw [hother i (hlt i l1)] at h1
    exact st.own b hb ⟨i, s1, k1, hi, hb', h1⟩
  · obtain ⟨i, s1, k1, hl, h1⟩ := ho
    have l1 : Live h i := hl
    rw [hother i (hlt i l1)] at h1
    exact st.held b hb ⟨i, s1, k1, l1, h1⟩

end Go.Ev
