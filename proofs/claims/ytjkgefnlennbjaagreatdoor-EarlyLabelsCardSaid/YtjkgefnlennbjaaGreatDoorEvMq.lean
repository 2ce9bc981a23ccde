/- EarlyLabels: where a statement begins: closed checks, and what they give. EarlyLabels: the levels, one by one. EarlyLabels: all levels, parsed. No condition. -/
import Derived.Test.YtjkgefnlennbjaaGreatDoorEvMp
set_option linter.all false
namespace Go.Proofs.YtjkgefnlennbjaaGreatDoor
open Go.Ev Go.RowKit
set_option maxHeartbeats 8000000
set_option maxRecDepth 1000000

/-- Where the parser is: so far, so deep. -/
abbrev PsAt (W : World) (pb tb len cap : Nat) (T : List Tok) (j d : Nat) : World → Prop := fun w => Ps W w pb tb len cap j d T
def nof (W : World) (pb tb : Nat) : Nat := max (max (pb + 1) (tb + 1)) W.heap.size
theorem off_P (W : World) (pb tb len cap j d : Nat) (T : List Tok) : Off pb (nof W pb tb) (PsAt W pb tb len cap T j d) :=
  ⟨by unfold nof; omega, fun w h => by have h1 := (Array.getElem?_eq_some_iff.1 h.hp.blk).1; have h2 := h.htb; have h3 := h.hB.size; unfold nof; omega, fun w w' B h hk hN => h.other hk (by unfold nof at hN; omega) (by unfold nof at hN; omega) (by unfold nof at hN; omega)⟩
noncomputable def noC (g : FuncId) (c d : Nat) (l : List (Nat × Nat)) : Bool := l.all fun p => boolC g [.ptr 20 0, .str p.1 p.2] c d 0 false
noncomputable def yesC (g : FuncId) (c d f : Nat) (p : Nat × Nat) : Bool := boolC g [.ptr 20 0, .str p.1 p.2] c d f true
noncomputable def wantC (c d f : Nat) (p : Nat × Nat) : Bool := unitC 19 [.ptr 20 0, .str p.1 p.2] c d f
noncomputable def okC (c d : Nat) : Bool := boolC 10 [.ptr 20 0] c d 0 true
noncomputable def tkC (c d : Nat) : Bool := tokC 11 [.ptr 20 0] c d
/-- A name is read. -/
noncomputable def nameC (c d n l : Nat) : Bool := match callP 39 [.ptr 20 0] (SPh c d) with | some (.str n' l', h) => Nat.beq n' n && (Nat.beq l' l && endP h 1 d) | _ => false
section
variable {W : World} {pb tb len cap j d c : Nat} {T : List Tok}
theorem no_P {g n l : Nat} {s : ByteArray} (hc : boolC g [.ptr 20 0, .str n l] c d 0 false = true) (hs : sval n l = s) (hl : n < 256 ^ l) (hy : Nat.beq g yieldG = false) (hw0 : winOf c ≠ []) (hw : WinAt T j c) (hj1 : j ≤ 1000) : No pb (PsAt W pb tb len cap T j d) g s :=
  fun w h => boolS hc hy hw0 hs hl h hw hj1
theorem yes_P {g n l f : Nat} {s : ByteArray} (hc : yesC g c d f (n, l) = true) (hs : sval n l = s) (hl : n < 256 ^ l) (hy : Nat.beq g yieldG = false) (hw0 : winOf c ≠ []) (hw : WinAt T j c) (hj1 : j ≤ 1000) : Yes pb (PsAt W pb tb len cap T j d) (PsAt W pb tb len cap T (j + f) d) g s :=
  fun w h => boolS hc hy hw0 hs hl h hw hj1
theorem want_P {n l f : Nat} {s : ByteArray} (hc : wantC c d f (n, l) = true) (hs : sval n l = s) (hl : n < 256 ^ l) (hw0 : winOf c ≠ []) (hw : WinAt T j c) (hj1 : j ≤ 1000) : Want pb (PsAt W pb tb len cap T j d) (PsAt W pb tb len cap T (j + f) d) s := fun w h => by
  obtain ⟨pre, rest, h1, h2⟩ := hw
  subst hs
  exact unit_P hc rfl h h1 h2 rfl hw0 hj1 (.cons (rP_ptr W j tb len cap pb) (.cons (VRel.str hl) .nil))
theorem ok_P (hc : okC c d = true) (hw0 : winOf c ≠ []) (hw : WinAt T j c) (hj1 : j ≤ 1000) : OkAt pb (PsAt W pb tb len cap T j d) := fun w h => bool1 hc rfl hw0 h hw hj1
theorem tk_P (hc : tkC c d = true) (hw0 : winOf c ≠ []) (hw : WinAt T j c) (hj1 : j ≤ 1000) : TokAny pb (PsAt W pb tb len cap T j d) := fun w h => tok1 hc rfl hw0 h hw hj1
theorem tkk_P {a : Int} (hc : tokK 11 [.ptr 20 0] c d a = true) (hw0 : winOf c ≠ []) (hw : WinAt T j c) (hj1 : j ≤ 1000) : ∀ w, PsAt W pb tb len cap T j d w → Calls Tryz.prog 11 #[.pointer (some ⟨pb, 0, none⟩)] w fun e w' => (∃ (y1 : ByteArray) (y3 x : Int), e = .returned (.agg #[.int .i64 a, .string y1, .int .i64 x, .int .i64 y3])) ∧ PsAt W pb tb len cap T j d w' ∧ Pk pb w w' := fun w h => by
  obtain ⟨pre, rest, h1, h2⟩ := hw
  exact tok_K hc rfl h h1 h2 rfl hw0 hj1 (.cons (rP_ptr W j tb len cap pb) .nil)
theorem name_P {n l : Nat} {s : ByteArray} (hc : nameC c d n l = true) (hs : sval n l = s) (hw0 : winOf c ≠ []) (hw : WinAt T j c) (hj1 : j ≤ 1000) : ∀ w, PsAt W pb tb len cap T j d w → Calls Tryz.prog 39 #[.pointer (some ⟨pb, 0, none⟩)] w fun e w' => e = .returned (.string s) ∧ PsAt W pb tb len cap T (j + 1) d w' ∧ Pk pb w w' := fun w h => by
  unfold nameC at hc
  split at hc
  · rename_i n' l' h' he
    simp only [Bool.and_eq_true] at hc
    obtain ⟨c1, c2, hE⟩ := hc
    obtain rfl := Nat.eq_of_beq_eq_true c1
    obtain rfl := Nat.eq_of_beq_eq_true c2
    subst hs
    obtain ⟨pre, rest, hT, hj⟩ := hw
    have hwin := h.win hT hj rfl
    have h0 : 0 < len := by
      cases hq : winOf c with
      | nil => exact (hw0 hq).elim
      | cons t _ => have := (hwin 0 t (by rw [hq]; rfl)).1; omega
    refine (evP h.hB h.hpb h.hp h.hne h.htb h.hlen hj1 h0 hwin rfl he (.cons (rP_ptr W j tb len cap pb) .nil)).mono ?_
    rintro e w' ⟨z, r', rfl, hv, hr, hle, hk, -⟩
    cases hv
    exact ⟨rfl, h.next (endP_at hE hr hle) hk, hk⟩
  · cases hc
theorem down_P (hd : d ≤ 50) : Down pb (PsAt W pb tb len cap T j d) (PsAt W pb tb len cap T j (d + 1)) := fun _ h => down_walk h hd
theorem up_P (hd : d ≤ 50) : Up pb (PsAt W pb tb len cap T j (d + 1)) (PsAt W pb tb len cap T j d) := fun _ u h => up_deferred h hd u
theorem next_P (hj : j ≤ 1000) : Next pb (PsAt W pb tb len cap T j d) (PsAt W pb tb len cap T (j + 1) d) := fun w h => by
  have pc := h.hp.blk
  refine ⟨(j : Int), ((j + 1 : Nat) : Int), by simp [World.cell?, pc], by simp [World.frozen?, pc], ?_, h.bump, Pk.set w 1 _⟩
  have := Go.Ev.wrap_small IntKind.i64 (j + 1) (by show _ ≤ 9223372036854775807; omega)
  simpa using this
theorem noC_mem {g : Nat} {l : List (Nat × Nat)} (h : noC g c d l = true) {n k : Nat} (hm : (n, k) ∈ l) : boolC g [.ptr 20 0, .str n k] c d 0 false = true := by
  unfold noC at h
  rw [List.all_eq_true] at h
  exact h (n, k) hm

/-- The words that a statement begins with. -/
def L17 : List (Nat × Nat) := [(123, 1), (121437875889522, 6), (512970877044, 5), (461195539042, 5), (7310870969309884259, 8)]
def L37 : List (Nat × Nat) := [(59, 1), (26217, 2), (435610544247, 5), (28516, 2), (7499622, 3), (7959156, 3)]
def LIt : List (Nat × Nat) := [(7628140, 3), (500152823651, 5), (7957695015192261990, 8), (495857003619, 5)]
/-- Where a label is at hand. -/
noncomputable def labC (c d : Nat) : Bool := noC 17 c d L17 && (noC 37 c d L37 && (tokK 11 [.ptr 20 0] c d 1 && (boolC 35 [.ptr 20 0, .int .i64 1, .str 58 1] c d 0 true && nameC c d (Nat.add 108 (Nat.mul 256 (Nat.add 97 c))) 2)))
def lblS (c : Nat) : ByteArray := sval (Nat.add 108 (Nat.mul 256 (Nat.add 97 c))) 2
theorem label_at (hc : labC c d = true) (hw0 : winOf c ≠ []) (hw : WinAt T j c) (hj : j ≤ 1000) : LabelAt pb (PsAt W pb tb len cap T j d) (PsAt W pb tb len cap T (j + 1) d) (lblS c) := by
  unfold labC at hc
  simp only [Bool.and_eq_true] at hc
  obtain ⟨h17, h37, hk, h35, hn⟩ := hc
  refine ⟨no_P (noC_mem h17 (n := 123) (k := 1) (by decide)) rfl (by decide) rfl hw0 hw hj, no_P (noC_mem h37 (n := 59) (k := 1) (by decide)) rfl (by decide) rfl hw0 hw hj, no_P (noC_mem h37 (n := 26217) (k := 2) (by decide)) rfl (by decide) rfl hw0 hw hj, no_P (noC_mem h37 (n := 435610544247) (k := 5) (by decide)) rfl (by decide) rfl hw0 hw hj, no_P (noC_mem h37 (n := 28516) (k := 2) (by decide)) rfl (by decide) rfl hw0 hw hj, no_P (noC_mem h37 (n := 7499622) (k := 3) (by decide)) rfl (by decide) rfl hw0 hw hj, no_P (noC_mem h37 (n := 7959156) (k := 3) (by decide)) rfl (by decide) rfl hw0 hw hj, no_P (noC_mem h17 (n := 121437875889522) (k := 6) (by decide)) rfl (by decide) rfl hw0 hw hj, no_P (noC_mem h17 (n := 512970877044) (k := 5) (by decide)) rfl (by decide) rfl hw0 hw hj, no_P (noC_mem h17 (n := 461195539042) (k := 5) (by decide)) rfl (by decide) rfl hw0 hw hj, no_P (noC_mem h17 (n := 7310870969309884259) (k := 8) (by decide)) rfl (by decide) rfl hw0 hw hj, tkk_P hk hw0 hw hj, fun w h => ?_, name_P hn rfl hw0 hw hj⟩
  obtain ⟨pre, rest, h1, h2⟩ := hw
  exact bool_P h35 rfl h h1 h2 rfl hw0 hj (.cons (rP_ptr W j tb len cap pb) (.cons (VRel.int .i64 1) (.cons (str_one _ (by decide)) .nil)))
noncomputable def whlC (d : Nat) : Bool := noC 17 30 d [(123, 1)] && (noC 37 30 d [(59, 1), (26217, 2)] && yesC 37 30 d 1 (435610544247, 5))
theorem while_at (hc : whlC d = true) (hw : WinAt T j 30) (hj : j ≤ 1000) : WhileAt pb (PsAt W pb tb len cap T j d) (PsAt W pb tb len cap T (j + 1) d) := by
  unfold whlC at hc
  simp only [Bool.and_eq_true] at hc
  obtain ⟨h17, h37, hy⟩ := hc
  have hw0 : winOf 30 ≠ [] := by decide
  exact ⟨no_P (noC_mem h17 (n := 123) (k := 1) (by decide)) rfl (by decide) rfl hw0 hw hj, no_P (noC_mem h37 (n := 59) (k := 1) (by decide)) rfl (by decide) rfl hw0 hw hj, no_P (noC_mem h37 (n := 26217) (k := 2) (by decide)) rfl (by decide) rfl hw0 hw hj, yes_P hy rfl (by decide) rfl hw0 hw hj⟩
noncomputable def frC (d : Nat) : Bool := noC 17 31 d [(123, 1)] && (noC 37 31 d [(59, 1), (26217, 2), (435610544247, 5), (28516, 2)] && yesC 37 31 d 1 (7499622, 3))
theorem for_at (hc : frC d = true) (hw : WinAt T j 31) (hj : j ≤ 1000) : ForAt pb (PsAt W pb tb len cap T j d) (PsAt W pb tb len cap T (j + 1) d) := by
  unfold frC at hc
  simp only [Bool.and_eq_true] at hc
  obtain ⟨h17, h37, hy⟩ := hc
  have hw0 : winOf 31 ≠ [] := by decide
  exact ⟨no_P (noC_mem h17 (n := 123) (k := 1) (by decide)) rfl (by decide) rfl hw0 hw hj, no_P (noC_mem h37 (n := 59) (k := 1) (by decide)) rfl (by decide) rfl hw0 hw hj, no_P (noC_mem h37 (n := 26217) (k := 2) (by decide)) rfl (by decide) rfl hw0 hw hj, no_P (noC_mem h37 (n := 435610544247) (k := 5) (by decide)) rfl (by decide) rfl hw0 hw hj, no_P (noC_mem h37 (n := 28516) (k := 2) (by decide)) rfl (by decide) rfl hw0 hw hj, yes_P hy rfl (by decide) rfl hw0 hw hj⟩
noncomputable def dC (d : Nat) : Bool := noC 17 33 d [(123, 1)] && (noC 37 33 d [(59, 1), (26217, 2), (435610544247, 5)] && yesC 37 33 d 1 (28516, 2))
theorem do_at (hc : dC d = true) (hw : WinAt T j 33) (hj : j ≤ 1000) : DoAt pb (PsAt W pb tb len cap T j d) (PsAt W pb tb len cap T (j + 1) d) := by
  unfold dC at hc
  simp only [Bool.and_eq_true] at hc
  obtain ⟨h17, h37, hy⟩ := hc
  have hw0 : winOf 33 ≠ [] := by decide
  exact ⟨no_P (noC_mem h17 (n := 123) (k := 1) (by decide)) rfl (by decide) rfl hw0 hw hj, no_P (noC_mem h37 (n := 59) (k := 1) (by decide)) rfl (by decide) rfl hw0 hw hj, no_P (noC_mem h37 (n := 26217) (k := 2) (by decide)) rfl (by decide) rfl hw0 hw hj, no_P (noC_mem h37 (n := 435610544247) (k := 5) (by decide)) rfl (by decide) rfl hw0 hw hj, yes_P hy rfl (by decide) rfl hw0 hw hj⟩
noncomputable def lvC (c d : Nat) (again : Bool) : Bool := noC 17 c d [(123, 1), (121437875889522, 6), (512970877044, 5)] && (noC 37 c d L37 && (noC 37 c d [(121437875889522, 6), (512970877044, 5)] && (boolC 17 [.ptr 20 0, .str 461195539042 5] c d 0 (!again) && boolC 17 [.ptr 20 0, .str 7310870969309884259 8] c d 0 again)))
theorem leave_at {again : Bool} (hc : lvC c d again = true) (hw0 : winOf c ≠ []) (hw : WinAt T j c) (hj : j ≤ 1000) : LeaveAt pb (PsAt W pb tb len cap T j d) again ∧ No pb (PsAt W pb tb len cap T j d) 37 ⟨#[114, 101, 116, 117, 114, 110]⟩ ∧ No pb (PsAt W pb tb len cap T j d) 37 ⟨#[116, 104, 114, 111, 119]⟩ := by
  unfold lvC at hc
  simp only [Bool.and_eq_true] at hc
  obtain ⟨h17, h37, h38, hb, hc⟩ := hc
  exact ⟨⟨no_P (noC_mem h17 (n := 123) (k := 1) (by decide)) rfl (by decide) rfl hw0 hw hj, no_P (noC_mem h37 (n := 59) (k := 1) (by decide)) rfl (by decide) rfl hw0 hw hj, no_P (noC_mem h37 (n := 26217) (k := 2) (by decide)) rfl (by decide) rfl hw0 hw hj, no_P (noC_mem h37 (n := 435610544247) (k := 5) (by decide)) rfl (by decide) rfl hw0 hw hj, no_P (noC_mem h37 (n := 28516) (k := 2) (by decide)) rfl (by decide) rfl hw0 hw hj, no_P (noC_mem h37 (n := 7499622) (k := 3) (by decide)) rfl (by decide) rfl hw0 hw hj, no_P (noC_mem h37 (n := 7959156) (k := 3) (by decide)) rfl (by decide) rfl hw0 hw hj, no_P (noC_mem h17 (n := 121437875889522) (k := 6) (by decide)) rfl (by decide) rfl hw0 hw hj, no_P (noC_mem h17 (n := 512970877044) (k := 5) (by decide)) rfl (by decide) rfl hw0 hw hj, fun w h => boolS hb rfl hw0 rfl (by decide) h hw hj, fun w h => boolS hc rfl hw0 rfl (by decide) h hw hj⟩, no_P (noC_mem h38 (n := 121437875889522) (k := 6) (by decide)) rfl (by decide) rfl hw0 hw hj, no_P (noC_mem h38 (n := 512970877044) (k := 5) (by decide)) rfl (by decide) rfl hw0 hw hj⟩
/-- Where an item begins that is a statement. -/
noncomputable def itC (c d : Nat) : Bool := noC 17 c d LIt && (noC 37 c d [(125, 1)] && (tkC c d && okC c d))
structure ItemAt (pb : Nat) (S : World → Prop) : Prop where
  tok : TokAny pb S
  ok : OkAt pb S
  n1 : No pb S 17 ⟨#[108, 101, 116]⟩
  n2 : No pb S 17 ⟨#[99, 111, 110, 115, 116]⟩
  n3 : No pb S 17 ⟨#[102, 117, 110, 99, 116, 105, 111, 110]⟩
  n4 : No pb S 17 ⟨#[99, 108, 97, 115, 115]⟩
  cl : No pb S 37 ⟨#[125]⟩
theorem item_at (hc : itC c d = true) (hw0 : winOf c ≠ []) (hw : WinAt T j c) (hj : j ≤ 1000) : ItemAt pb (PsAt W pb tb len cap T j d) := by
  unfold itC at hc
  simp only [Bool.and_eq_true] at hc
  obtain ⟨h17, h37, ht, ho⟩ := hc
  exact ⟨tk_P ht hw0 hw hj, ok_P ho hw0 hw hj, no_P (noC_mem h17 (n := 7628140) (k := 3) (by decide)) rfl (by decide) rfl hw0 hw hj, no_P (noC_mem h17 (n := 500152823651) (k := 5) (by decide)) rfl (by decide) rfl hw0 hw hj, no_P (noC_mem h17 (n := 7957695015192261990) (k := 8) (by decide)) rfl (by decide) rfl hw0 hw hj, no_P (noC_mem h17 (n := 495857003619) (k := 5) (by decide)) rfl (by decide) rfl hw0 hw hj, no_P (noC_mem h37 (n := 125) (k := 1) (by decide)) rfl (by decide) rfl hw0 hw hj⟩
end
/-- The checks, at every depth that is come to. -/
theorem kLab : ((List.range 12).all fun c => labC c (2 * c + 1) && itC c (2 * c)) = true := by decide +kernel
theorem kTk : ((List.range 12).all fun i => tkC 30 (2 * i + 1) && (tkC 31 (2 * i + 1) && (tkC 32 (2 * i + 1) && tkC 33 (2 * i + 1)))) = true := by decide +kernel
theorem kWhl : ((List.range 12).all fun i => whlC (2 * i + 2) && (frC (2 * i + 2) && dC (2 * i + 2))) = true := by decide +kernel
theorem kFr : ((List.range 12).all fun i => tkC 43 (2 * i + 2) && (okC 43 (2 * i + 2) && (noC 17 43 (2 * i + 2) [(59, 1), (7628140, 3)] && (yesC 17 43 (2 * i + 2) 0 (500152823651, 5) && (okC 44 (2 * i + 2) && (yesC 77 44 (2 * i + 2) 0 (26223, 2) && wantC 46 (2 * i + 2) 1 (41, 1))))))) = true := by decide +kernel
theorem kBlk : ((List.range 12).all fun i => yesC 17 32 (2 * i + 2) 0 (123, 1) && (tkC 32 (2 * i + 2) && (wantC 32 (2 * i + 2) 1 (123, 1) && (okC 38 (2 * i + 2) && yesC 37 38 (2 * i + 2) 1 (125, 1))))) = true := by decide +kernel
theorem kDo : ((List.range 12).all fun i => wantC 39 (2 * i + 2) 1 (435610544247, 5) && wantC 42 (2 * i + 2) 1 (59, 1)) = true := by decide +kernel
theorem kLv : ((List.range 13).all fun n => (itC 36 (2 * n) && (itC 37 (2 * n) && (itC 34 (2 * n) && itC 35 (2 * n)))) && (lvC 36 (2 * n + 1) false && (lvC 37 (2 * n + 1) true && (lvC 34 (2 * n + 1) false && lvC 35 (2 * n + 1) true)))) = true := by decide +kernel
theorem kSc : ((List.range 13).all fun n => tokK 11 [.ptr 20 0] 42 (2 * n + 1) 5 && wantC 42 (2 * n + 1) 1 (59, 1)) = true := by decide +kernel
theorem kNm : ((List.range 13).all fun n => (List.range 15).all fun i => tokK 11 [.ptr 20 0] (15 + i) (2 * n + 1) 1 && nameC (15 + i) (2 * n + 1) (Nat.add 108 (Nat.mul 256 (Nat.add 97 i))) 2) = true := by decide +kernel
theorem kEnd : (okC 41 0 && tokK 11 [.ptr 20 0] 41 0 0) = true := by decide +kernel
theorem kTop : (okC 40 0 && tokK 11 [.ptr 20 0] 40 0 2) = true := by decide +kernel
theorem kTop2 : (tokK 11 [.ptr 20 0] 0 0 1 && okC 0 0) = true := by decide +kernel
end Go.Proofs.YtjkgefnlennbjaaGreatDoor

namespace Go.Proofs.YtjkgefnlennbjaaGreatDoor
open Go.Ev Go.RowKit
set_option maxHeartbeats 8000000
set_option maxRecDepth 1000000

theorem item_stmt {S S4 : World → Prop} {pb : Nat} {t : Tr} (H : ItemAt pb S) (hst : ∀ w, S w → Calls Tryz.prog 22 #[.pointer (some ⟨pb, 0, none⟩)] w (ResT S4 t pb w)) {w : World} (h : S w) : Calls Tryz.prog 12 #[.pointer (some ⟨pb, 0, none⟩)] w (ResT S4 t pb w) := by
  go_enter Tryz.func12, Tryz.ntmps12
  go_wp2_with (go_at_call 11; refine (H.tok _ h).mono ?_)
  rintro e w1 ⟨⟨y0, y1, y3, x, rfl⟩, p1, k1⟩
  have hfd := field_at w1 y0 y1 x y3
  go_wp2_with (go_at_call 17; refine (H.n1 _ p1).mono ?_)
  clear hfd
  rintro e w2 ⟨rfl, p2, k2⟩
  go_wp2_with (go_at_call 17; refine (H.n2 _ p2).mono ?_)
  rintro e w3 ⟨rfl, p3, k3⟩
  go_wp2_with (go_at_call 17; refine (H.n3 _ p3).mono ?_)
  rintro e w4 ⟨rfl, p4, k4⟩
  go_wp2_with (go_at_call 17; refine (H.n4 _ p4).mono ?_)
  rintro e w5 ⟨rfl, p5, k5⟩
  have k15 := (((k1.trans k2).trans k3).trans k4).trans k5
  go_wp2_with (go_at_call 22; refine (hst _ p5).mono ?_)
  rintro e w6 ⟨a, rfl, p6, t6, k6⟩
  go_wp2
  go_ret
  exact ⟨a, rfl, p6, TrAt.keep (Pkb.trans (Pk.b (Pk.refl pb w6) _) (Pk.b (Pk.refl pb w6) _)) k15.size _ _ t6, k15.trans k6⟩
theorem allR {n : Nat} {f : Nat → Bool} (h : (List.range n).all f = true) {i : Nat} (hi : i < n) : f i = true := List.all_eq_true.1 h i (List.mem_range.2 hi)
theorem win_ne : ∀ i, i < 50 → winOf i ≠ [] := by decide
section
variable {W : World} {pb tb len cap i j n : Nat} {T : List Tok} {t : Tr}
theorem paren_P {d : Nat} (hd : d < 31) (hw : WinAt T j 47) (hj : j ≤ 1000) : ∀ w, PsAt W pb tb len cap T j d w → Calls Tryz.prog 47 #[.pointer (some ⟨pb, 0, none⟩)] w (ResT (PsAt W pb tb len cap T (j + 3) d) cOne.tr pb w) := fun _ h =>
  tree_P (allR kParen hd) rfl (win_ne 47 (by decide)) h hw hj (.cons (rP_ptr W j tb len cap pb) .nil)
/-- A label, and a statement behind it. -/
theorem lvl_label (hi : i < 12) (hw : WinAt T j i) (hj : j + 2 ≤ 1000) {j' : Nat} (R : ∀ w, PsAt W pb tb len cap T (j + 2) (2 * i + 1) w → Calls Tryz.prog 22 #[.pointer (some ⟨pb, 0, none⟩)] w (ResT (PsAt W pb tb len cap T j' (2 * i + 1)) t pb w)) :
    ItemAt pb (PsAt W pb tb len cap T j (2 * i)) ∧ ∀ w, PsAt W pb tb len cap T j (2 * i) w → Calls Tryz.prog 22 #[.pointer (some ⟨pb, 0, none⟩)] w (ResT (PsAt W pb tb len cap T j' (2 * i)) (.mk 19 (lblS i) [t]) pb w) := by
  have K := allR kLab hi
  simp only [Bool.and_eq_true] at K
  have I := item_at (W := W) (pb := pb) (tb := tb) (len := len) (cap := cap) K.2 (win_ne i (by omega)) hw (by omega)
  refine ⟨I, fun w h => ?_⟩
  exact label_walk (off_P W pb tb len cap j (2 * i) T) (off_P W pb tb len cap (j + 1) (2 * i + 1) T) (off_P W pb tb len cap (j + 2) (2 * i + 1) T) (off_P W pb tb len cap j' (2 * i + 1) T) I.tok (down_P (by omega)) (label_at K.1 (win_ne i (by omega)) hw (by omega)) (next_P (by omega)) R (up_P (by omega)) h
theorem lvl_while (hi : i < 12) (hw : WinAt T j 30) (hwp : WinAt T (j + 1) 47) (hj : j + 20 ≤ 1000) {j' : Nat} (R : ∀ w, PsAt W pb tb len cap T (j + 4) (2 * i + 2) w → Calls Tryz.prog 22 #[.pointer (some ⟨pb, 0, none⟩)] w (ResT (PsAt W pb tb len cap T j' (2 * i + 2)) t pb w)) :
    ∀ w, PsAt W pb tb len cap T j (2 * i + 1) w → Calls Tryz.prog 22 #[.pointer (some ⟨pb, 0, none⟩)] w (ResT (PsAt W pb tb len cap T j' (2 * i + 1)) (.mk 9 ⟨#[]⟩ [cOne.tr, t]) pb w) := by
  have K := allR kTk hi
  have K2 := allR kWhl hi
  simp only [Bool.and_eq_true] at K K2
  intro w h
  exact while_walk (off_P W pb tb len cap j (2 * i + 1) T) (off_P W pb tb len cap (j + 1) (2 * i + 2) T) (off_P W pb tb len cap j' (2 * i + 2) T) (tk_P K.1 (win_ne 30 (by decide)) hw (by omega)) (down_P (by omega)) (while_at K2.1 hw (by omega)) (paren_P (by omega) hwp (by omega)) R (up_P (by omega)) h
theorem lvl_do (hi : i < 12) (hw : WinAt T j 33) (hj : j + n + 20 ≤ 1000) (hw2 : WinAt T (j + 1 + n) 39) (hwp : WinAt T (j + 1 + n + 1) 47) (hws : WinAt T (j + 1 + n + 1 + 3) 42) (R : ∀ w, PsAt W pb tb len cap T (j + 1) (2 * i + 2) w → Calls Tryz.prog 22 #[.pointer (some ⟨pb, 0, none⟩)] w (ResT (PsAt W pb tb len cap T (j + 1 + n) (2 * i + 2)) t pb w)) :
    ∀ w, PsAt W pb tb len cap T j (2 * i + 1) w → Calls Tryz.prog 22 #[.pointer (some ⟨pb, 0, none⟩)] w (ResT (PsAt W pb tb len cap T (j + 1 + n + 1 + 3 + 1) (2 * i + 1)) (.mk 10 ⟨#[]⟩ [t, cOne.tr]) pb w) := by
  have K := allR kTk hi
  have K2 := allR kWhl hi
  have K3 := allR kDo hi
  simp only [Bool.and_eq_true] at K K2 K3
  intro w h
  exact do_walk (off_P W pb tb len cap j (2 * i + 1) T) (off_P W pb tb len cap (j + 1) (2 * i + 2) T) (off_P W pb tb len cap (j + 1 + n + 1) (2 * i + 2) T) (off_P W pb tb len cap (j + 1 + n + 1 + 3) (2 * i + 2) T) (tk_P K.2.2.2 (win_ne 33 (by decide)) hw (by omega)) (down_P (by omega)) (do_at K2.2.2 hw (by omega)) R (want_P K3.1 rfl (by decide) (win_ne 39 (by decide)) hw2 (by omega)) (paren_P (by omega) hwp (by omega)) (want_P K3.2 rfl (by decide) (win_ne 42 (by decide)) hws (by omega)) (up_P (by omega)) h
theorem lvl_block (hi : i < 12) (hw : WinAt T j 32) (hj : j + n + 20 ≤ 1000) (hw2 : WinAt T (j + 1 + n) 38) (I : ItemAt pb (PsAt W pb tb len cap T (j + 1) (2 * i + 2))) (R : ∀ w, PsAt W pb tb len cap T (j + 1) (2 * i + 2) w → Calls Tryz.prog 22 #[.pointer (some ⟨pb, 0, none⟩)] w (ResT (PsAt W pb tb len cap T (j + 1 + n) (2 * i + 2)) t pb w)) :
    ∀ w, PsAt W pb tb len cap T j (2 * i + 1) w → Calls Tryz.prog 22 #[.pointer (some ⟨pb, 0, none⟩)] w (ResT (PsAt W pb tb len cap T (j + 1 + n + 1) (2 * i + 1)) (.mk 7 ⟨#[]⟩ [t]) pb w) := by
  have K := allR kTk hi
  have K2 := allR kBlk hi
  simp only [Bool.and_eq_true] at K K2
  intro w h
  refine stmt_block (S1 := PsAt W pb tb len cap T j (2 * i + 2)) (off_P W pb tb len cap j (2 * i + 1) T) (tk_P K.2.2.1 (win_ne 32 (by decide)) hw (by omega)) (down_P (by omega)) (yes_P K2.1 rfl (by decide) rfl (win_ne 32 (by decide)) hw (by omega)) (fun w h => ?_) (up_P (by omega)) h
  exact block_walk (off_P W pb tb len cap j (2 * i + 2) T) (off_P W pb tb len cap (j + 1) (2 * i + 2) T) (off_P W pb tb len cap (j + 1 + n) (2 * i + 2) T) (tk_P K2.2.1 (win_ne 32 (by decide)) hw (by omega)) (want_P K2.2.2.1 rfl (by decide) (win_ne 32 (by decide)) hw (by omega)) I.ok I.cl (fun w h => item_stmt I R h) (ok_P K2.2.2.2.1 (win_ne 38 (by decide)) hw2 (by omega)) (yes_P K2.2.2.2.2 rfl (by decide) rfl (win_ne 38 (by decide)) hw2 (by omega)) h
theorem lvl_for (hi : i < 12) (hw : WinAt T j 31) (hw1 : WinAt T (j + 2) 43) (hw2 : WinAt T (j + 2 + 2) 44) (hw3 : WinAt T (j + 2 + 2 + 1) 45) (hw4 : WinAt T (j + 2 + 2 + 1 + 1) 46) (hj : j + 20 ≤ 1000) {j' : Nat} (R : ∀ w, PsAt W pb tb len cap T (j + 2 + 2 + 1 + 1 + 1) (2 * i + 2) w → Calls Tryz.prog 22 #[.pointer (some ⟨pb, 0, none⟩)] w (ResT (PsAt W pb tb len cap T j' (2 * i + 2)) t pb w)) :
    ∀ w, PsAt W pb tb len cap T j (2 * i + 1) w → Calls Tryz.prog 22 #[.pointer (some ⟨pb, 0, none⟩)] w (ResT (PsAt W pb tb len cap T j' (2 * i + 1)) (.mk 12 ⟨#[99, 111, 110, 115, 116]⟩ [cX.tr, cY.tr, t]) pb w) := by
  have K := allR kTk hi
  have K2 := allR kWhl hi
  have K3 := allR kFr hi
  simp only [Bool.and_eq_true] at K K2 K3
  intro w h
  have d31 : 2 * i + 2 < 31 := by omega
  refine stmt_for (S2 := PsAt W pb tb len cap T (j + 1) (2 * i + 2)) (off_P W pb tb len cap j (2 * i + 1) T) (tk_P K.2.1 (win_ne 31 (by decide)) hw (by omega)) (down_P (by omega)) (for_at K2.2.1 hw (by omega)) (fun w nn base x h hN hb hl hnode => ?_) (up_P (by omega)) h
  refine loop_walk (Sa := PsAt W pb tb len cap T (j + 1) (2 * i + 2)) (S0 := PsAt W pb tb len cap T (j + 2) (2 * i + 2)) (S1 := PsAt W pb tb len cap T (j + 2 + 2) (2 * i + 2)) (tX := cX.tr) (off_P W pb tb len cap (j + 2) (2 * i + 2) T) (off_P W pb tb len cap (j + 2 + 2) (2 * i + 2) T)
    (fun w h => want' (allR kForParen d31) (by decide) h hw (win_ne 31 (by decide)) (by omega)) (off_P W pb tb len cap (j + 1) (2 * i + 2) T).off
    (tk_P K3.1 (win_ne 43 (by decide)) hw1 (by omega)) (ok_P K3.2.1 (win_ne 43 (by decide)) hw1 (by omega))
    (no_P (noC_mem K3.2.2.1 (n := 59) (k := 1) (by decide)) rfl (by decide) rfl (win_ne 43 (by decide)) hw1 (by omega)) (no_P (noC_mem K3.2.2.1 (n := 7628140) (k := 3) (by decide)) rfl (by decide) rfl (win_ne 43 (by decide)) hw1 (by omega)) (yes_P K3.2.2.2.1 rfl (by decide) rfl (win_ne 43 (by decide)) hw1 (by omega))
    (fun w h => tree_P (t := cConstX) (allR kConst d31) rfl (win_ne 43 (by decide)) h hw1 (by omega) (.cons (rP_ptr W (j + 2) tb len cap pb) .nil))
    (ok_P K3.2.2.2.2.1 (win_ne 44 (by decide)) hw2 (by omega)) (yes_P K3.2.2.2.2.2.1 rfl (by decide) rfl (win_ne 44 (by decide)) hw2 (by omega)) (fun w baseT b0 h hl hnode hT hbT hbT2 => ?_) h hN hb hl hnode
  exact of_walk (S0 := PsAt W pb tb len cap T (j + 2 + 2) (2 * i + 2)) (off_P W pb tb len cap (j + 2 + 2) (2 * i + 2) T) (off_P W pb tb len cap (j + 2 + 2 + 1 + 1 + 1) (2 * i + 2) T) (off_P W pb tb len cap j' (2 * i + 2) T) (next_P (by omega))
    (fun w h => tree_P (t := cY) (allR kY d31) rfl (win_ne 45 (by decide)) h hw3 (by omega) (.cons (rP_ptr W (j + 2 + 2 + 1) tb len cap pb) .nil)) (want_P K3.2.2.2.2.2.2 rfl (by decide) (win_ne 46 (by decide)) hw4 (by omega)) R h hN hb hl hnode hT hbT hbT2
end
end Go.Proofs.YtjkgefnlennbjaaGreatDoor

namespace Go.Proofs.YtjkgefnlennbjaaGreatDoor
open Go.Ev Go.RowKit
set_option maxHeartbeats 8000000
set_option maxRecDepth 1000000

def leafS (to : Option Nat) : ByteArray := match to with | none => ⟨#[]⟩ | some m => lblS m
def leafT (again : Bool) (to : Option Nat) : Tr := .mk (match again with | true => 15 | false => 14) (leafS to) []
def leafC (again : Bool) (to : Option Nat) : Nat := match again, to with | false, none => 34 | true, none => 35 | false, some _ => 36 | true, some _ => 37
section
variable {W : World} {pb tb len cap i j n : Nat} {T : List Tok} {t : Tr}
theorem lvl_leaf {again : Bool} {to : Option Nat} (hn : n < 13) (hw : WinAt T j (leafC again to)) (hto : ∀ m, to = some m → m < 15 ∧ WinAt T (j + 1) (15 + m) ∧ WinAt T (j + 2) 42) (hno : to = none → WinAt T (j + 1) 42) (hj : j + 20 ≤ 1000) :
    ItemAt pb (PsAt W pb tb len cap T j (2 * n)) ∧ ∀ w, PsAt W pb tb len cap T j (2 * n) w → Calls Tryz.prog 22 #[.pointer (some ⟨pb, 0, none⟩)] w (ResT (PsAt W pb tb len cap T (j + (match to with | none => 2 | some _ => 3)) (2 * n)) (leafT again to) pb w) := by
  have K := allR kLv hn
  have K2 := allR kSc hn
  simp only [Bool.and_eq_true] at K K2
  have o0 := off_P W pb tb len cap j (2 * n) T
  have oa := off_P W pb tb len cap j (2 * n + 1) T
  have o1 := off_P W pb tb len cap (j + 1) (2 * n + 1) T
  have o2 := off_P W pb tb len cap (j + 2) (2 * n + 1) T
  have hc50 : leafC again to < 50 := by cases again <;> cases to <;> simp [leafC]
  have hI : itC (leafC again to) (2 * n) = true := by
    cases again <;> cases to
    · exact K.1.2.2.1
    · exact K.1.1
    · exact K.1.2.2.2
    · exact K.1.2.1
  have hL : lvC (leafC again to) (2 * n + 1) again = true := by
    cases again <;> cases to
    · exact K.2.2.2.1
    · exact K.2.1
    · exact K.2.2.2.2
    · exact K.2.2.1
  have I := item_at (W := W) (pb := pb) (tb := tb) (len := len) (cap := cap) hI (win_ne _ hc50) hw (by omega)
  obtain ⟨LA, n1, n2⟩ := leave_at (W := W) (pb := pb) (tb := tb) (len := len) (cap := cap) hL (win_ne _ hc50) hw (by omega)
  refine ⟨I, fun w h => ?_⟩
  cases to with
  | none =>
    have w42 := hno rfl
    refine stmt_leave (S1 := PsAt W pb tb len cap T j (2 * n + 1)) (S4 := PsAt W pb tb len cap T (j + 2) (2 * n + 1)) o0 I.tok (down_P (by omega)) LA (fun w nn base x h hN hb hl hnode => ?_) (up_P (by omega)) h
    have X := leave_walk (lab := false) (s := ⟨#[]⟩) (S1 := PsAt W pb tb len cap T (j + 1) (2 * n + 1)) (S2 := PsAt W pb tb len cap T (j + 1) (2 * n + 1)) (S3 := PsAt W pb tb len cap T (j + 2) (2 * n + 1)) oa o1 n1 n2 LA.c4 (next_P (by omega)) (tkk_P K2.1 (win_ne 42 (by decide)) w42 (by omega)) (fun q => by cases q) (fun _ => ⟨rfl, fun _ h => h⟩) (want_P K2.2 rfl (by decide) (win_ne 42 (by decide)) w42 (by omega)) h hN hb hl hnode
    cases again
    · exact X
    · exact X
  | some m =>
    obtain ⟨hm, wl, w42⟩ := hto m rfl
    have K3 := allR (allR kNm hn) hm
    simp only [Bool.and_eq_true] at K3
    refine stmt_leave (S1 := PsAt W pb tb len cap T j (2 * n + 1)) (S4 := PsAt W pb tb len cap T (j + 3) (2 * n + 1)) o0 I.tok (down_P (by omega)) LA (fun w nn base x h hN hb hl hnode => ?_) (up_P (by omega)) h
    have X := leave_walk (lab := true) (s := lblS m) (S1 := PsAt W pb tb len cap T (j + 1) (2 * n + 1)) (S2 := PsAt W pb tb len cap T (j + 2) (2 * n + 1)) (S3 := PsAt W pb tb len cap T (j + 3) (2 * n + 1)) oa o2 n1 n2 LA.c4 (next_P (by omega)) (tkk_P K3.1 (win_ne (15 + m) (by omega)) wl (by omega)) (fun _ => name_P K3.2 rfl (win_ne (15 + m) (by omega)) wl (by omega)) (fun q => by cases q) (want_P K2.2 rfl (by decide) (win_ne 42 (by decide)) w42 (by omega)) h hN hb hl hnode
    cases again
    · exact X
    · exact X
/-- The levels' tree. -/
def bodyT (k : Nat) (r : Tr) : Tr := match k with
  | 0 => .mk 9 ⟨#[]⟩ [cOne.tr, r]
  | 1 => .mk 12 ⟨#[99, 111, 110, 115, 116]⟩ [cX.tr, cY.tr, r]
  | 2 => .mk 7 ⟨#[]⟩ [r]
  | _ => .mk 10 ⟨#[]⟩ [r, cOne.tr]
def levT (i : Nat) (mid : Tr) : List Nat → Tr
  | [] => mid
  | k :: ks => .mk 19 (lblS i) [bodyT k (levT (i + 1) mid ks)]
theorem winL (T : List Tok) {pre win rest : List Tok} {c j : Nat} (hT : T = pre ++ (win ++ rest)) (hj : pre.length = j) (hw : winOf c = win) : WinAt T j c := ⟨pre, rest, by rw [hw]; exact hT, hj⟩
theorem win_lbl : ∀ i, i < 15 → winOf i = [tLbl i, tS 58] := by decide
theorem win_lbl2 : ∀ i, i < 15 → winOf (15 + i) = [tLbl i, tS 59] := by decide
theorem levs_walk (again : Bool) (to : Option Nat) (hto : ∀ m, to = some m → m < 15) : ∀ (ks : List Nat) (i : Nat) (pre rest : List Tok), T = pre ++ ((lev i (leaf again to) ks).map (·.2) ++ rest) → i + ks.length ≤ 12 → (∀ k ∈ ks, k < 4) → T.length ≤ 900 →
    ItemAt pb (PsAt W pb tb len cap T pre.length (2 * i)) ∧ ∀ w, PsAt W pb tb len cap T pre.length (2 * i) w → Calls Tryz.prog 22 #[.pointer (some ⟨pb, 0, none⟩)] w (ResT (PsAt W pb tb len cap T (pre.length + (lev i (leaf again to) ks).length) (2 * i)) (levT i (leafT again to) ks) pb w)
  | [], i, pre, rest, hT, hi, hk, hlen => by
    have hpl : pre.length ≤ T.length := by rw [hT, List.length_append]; omega
    simp only [List.length_nil] at hi
    cases to with
    | none =>
      have e : (lev i (leaf again none) []).map (·.2) = [if again then tCont else tBreak, tS 59] := rfl
      rw [e] at hT
      refine lvl_leaf (to := none) (by omega) ?_ (fun m q => by cases q) (fun _ => winL T (pre := pre ++ [if again then tCont else tBreak]) (win := [tS 59]) (rest := rest) (by rw [hT]; simp) (by simp) rfl) (by omega)
      cases again
      · exact winL T (win := [tBreak, tS 59]) hT rfl rfl
      · exact winL T (win := [tCont, tS 59]) hT rfl rfl
    | some m =>
      have hm := hto m rfl
      have e : (lev i (leaf again (some m)) []).map (·.2) = [if again then tCont else tBreak, tLbl m, tS 59] := rfl
      rw [e] at hT
      refine lvl_leaf (to := some m) (by omega) ?_ (fun m' q => ?_) (fun q => by cases q) (by omega)
      · cases again
        · exact winL T (win := [tBreak]) (rest := tLbl m :: tS 59 :: rest) (by rw [hT]; rfl) rfl rfl
        · exact winL T (win := [tCont]) (rest := tLbl m :: tS 59 :: rest) (by rw [hT]; rfl) rfl rfl
      · cases q
        exact ⟨hm, winL T (pre := pre ++ [if again then tCont else tBreak]) (win := [tLbl m, tS 59]) (rest := rest) (by rw [hT]; simp) (by simp) (win_lbl2 m hm), winL T (pre := pre ++ [if again then tCont else tBreak, tLbl m]) (win := [tS 59]) (rest := rest) (by rw [hT]; simp) (by simp) rfl⟩
  | k :: ks, i, pre, rest, hT, hi, hk, hlen => by
    have hpl : pre.length ≤ T.length := by rw [hT, List.length_append]; omega
    simp only [List.length_cons] at hi
    have hi12 : i < 12 := by omega
    have hk4 := hk k (by simp)
    have hks : ∀ k ∈ ks, k < 4 := fun k h => hk k (by simp [h])
    obtain ⟨n, hn⟩ : ∃ n, (lev (i + 1) (leaf again to) ks).length = n := ⟨_, rfl⟩
    obtain ⟨M, hM⟩ : ∃ M, (lev (i + 1) (leaf again to) ks).map (·.2) = M := ⟨_, rfl⟩
    have hMn : M.length = n := by rw [← hM, List.length_map, hn]
    have eT : (lev i (leaf again to) (k :: ks)).map (·.2) = tLbl i :: tS 58 :: ((opn k).map (·.2) ++ (M ++ (cls k).map (·.2))) := by simp [lev, hM]
    have eL : (lev i (leaf again to) (k :: ks)).length = 2 + ((opn k).length + (n + (cls k).length)) := by simp [lev, hn]; omega
    have hwl : WinAt T pre.length i := winL T (win := [tLbl i, tS 58]) (rest := (opn k).map (·.2) ++ (M ++ (cls k).map (·.2)) ++ rest) (by rw [hT, eT]; simp) rfl (win_lbl i (by omega))
    have hTL : T.length = pre.length + (2 + ((opn k).length + (n + (cls k).length))) + rest.length := by
      have := congrArg List.length hT
      rw [List.length_append, List.length_append, List.length_map, eL] at this
      omega
    have IH := fun pre' rest' h => levs_walk again to hto ks (i + 1) pre' rest' h (by omega) hks hlen
    rw [hM] at IH
    rw [hn] at IH
    rw [eT] at hT
    rw [eL]
    have hk4' : k = 0 ∨ k = 1 ∨ k = 2 ∨ k = 3 := by omega
    rcases hk4' with rfl | rfl | rfl | rfl
    · have h1 : T = (pre ++ [tLbl i, tS 58, tWhile, tS 40, tOne, tS 41]) ++ (M ++ rest) := by rw [hT]; simp [opn, cls]
      have R := (IH _ _ h1).2
      have hL : (pre ++ [tLbl i, tS 58, tWhile, tS 40, tOne, tS 41]).length = pre.length + 2 + 4 := by simp
      rw [hL] at R
      simp only [opn, cls, List.length_cons, List.length_nil] at hTL ⊢
      have Q := lvl_label (t := bodyT 0 (levT (i + 1) (leafT again to) ks)) hi12 hwl (by omega) (lvl_while hi12 (winL T (pre := pre ++ [tLbl i, tS 58]) (win := [tWhile, tS 40, tOne, tS 41]) (rest := M ++ rest) (by rw [h1]; simp) (by simp) rfl) (winL T (pre := pre ++ [tLbl i, tS 58, tWhile]) (win := [tS 40, tOne, tS 41]) (rest := M ++ rest) (by rw [h1]; simp) (by simp) rfl) (by omega) R)
      rw [show pre.length + (2 + (0 + 1 + 1 + 1 + 1 + (n + 0))) = pre.length + 2 + 4 + n by omega]
      exact Q
    · have h1 : T = (pre ++ [tLbl i, tS 58, tFor, tS 40, tConst, tX, tOf, tY, tS 41]) ++ (M ++ rest) := by rw [hT]; simp [opn, cls]
      have R := (IH _ _ h1).2
      have hL : (pre ++ [tLbl i, tS 58, tFor, tS 40, tConst, tX, tOf, tY, tS 41]).length = pre.length + 2 + 2 + 2 + 1 + 1 + 1 := by simp
      rw [hL] at R
      simp only [opn, cls, List.length_cons, List.length_nil] at hTL ⊢
      have Q := lvl_label (t := bodyT 1 (levT (i + 1) (leafT again to) ks)) hi12 hwl (by omega) (lvl_for hi12 (winL T (pre := pre ++ [tLbl i, tS 58]) (win := [tFor, tS 40]) (rest := tConst :: tX :: tOf :: tY :: tS 41 :: (M ++ rest)) (by rw [h1]; simp) (by simp) rfl) (winL T (pre := pre ++ [tLbl i, tS 58, tFor, tS 40]) (win := [tConst, tX, tOf, tY, tS 41]) (rest := M ++ rest) (by rw [h1]; simp) (by simp) rfl) (winL T (pre := pre ++ [tLbl i, tS 58, tFor, tS 40, tConst, tX]) (win := [tOf, tY, tS 41]) (rest := M ++ rest) (by rw [h1]; simp) (by simp) rfl) (winL T (pre := pre ++ [tLbl i, tS 58, tFor, tS 40, tConst, tX, tOf]) (win := [tY, tS 41]) (rest := M ++ rest) (by rw [h1]; simp) (by simp) rfl) (winL T (pre := pre ++ [tLbl i, tS 58, tFor, tS 40, tConst, tX, tOf, tY]) (win := [tS 41]) (rest := M ++ rest) (by rw [h1]; simp) (by simp) rfl) (by omega) R)
      rw [show pre.length + (2 + (0 + 1 + 1 + 1 + 1 + 1 + 1 + 1 + (n + 0))) = pre.length + 2 + 2 + 2 + 1 + 1 + 1 + n by omega]
      exact Q
    · have h1 : T = (pre ++ [tLbl i, tS 58, tS 123]) ++ (M ++ (tS 125 :: rest)) := by rw [hT]; simp [opn, cls]
      obtain ⟨I2, R⟩ := IH _ _ h1
      have hL : (pre ++ [tLbl i, tS 58, tS 123]).length = pre.length + 2 + 1 := by simp
      rw [hL] at R I2
      simp only [opn, cls, List.length_cons, List.length_nil] at hTL ⊢
      have Q := lvl_label (t := bodyT 2 (levT (i + 1) (leafT again to) ks)) hi12 hwl (by omega) (lvl_block hi12 (winL T (pre := pre ++ [tLbl i, tS 58]) (win := [tS 123]) (rest := M ++ (tS 125 :: rest)) (by rw [h1]; simp) (by simp) rfl) (by omega) (winL T (pre := pre ++ [tLbl i, tS 58, tS 123] ++ M) (win := [tS 125]) (rest := rest) (by rw [h1]; simp) (by simp [hMn]; omega) rfl) I2 R)
      rw [show pre.length + (2 + (0 + 1 + (n + (0 + 1)))) = pre.length + 2 + 1 + n + 1 by omega]
      exact Q
    · have h1 : T = (pre ++ [tLbl i, tS 58, tDo]) ++ (M ++ (tWhile :: tS 40 :: tOne :: tS 41 :: tS 59 :: rest)) := by rw [hT]; simp [opn, cls]
      have R := (IH _ _ h1).2
      have hL : (pre ++ [tLbl i, tS 58, tDo]).length = pre.length + 2 + 1 := by simp
      rw [hL] at R
      simp only [opn, cls, List.length_cons, List.length_nil] at hTL ⊢
      have Q := lvl_label (t := bodyT 3 (levT (i + 1) (leafT again to) ks)) hi12 hwl (by omega) (lvl_do hi12 (winL T (pre := pre ++ [tLbl i, tS 58]) (win := [tDo]) (rest := M ++ (tWhile :: tS 40 :: tOne :: tS 41 :: tS 59 :: rest)) (by rw [h1]; simp) (by simp) rfl) (by omega) (winL T (pre := pre ++ [tLbl i, tS 58, tDo] ++ M) (win := [tWhile, tS 40, tOne, tS 41, tS 59]) (rest := rest) (by rw [h1]; simp) (by simp [hMn]; omega) rfl) (winL T (pre := pre ++ [tLbl i, tS 58, tDo] ++ M ++ [tWhile]) (win := [tS 40, tOne, tS 41]) (rest := tS 59 :: rest) (by rw [h1]; simp) (by simp [hMn]; omega) rfl) (winL T (pre := pre ++ [tLbl i, tS 58, tDo] ++ M ++ [tWhile, tS 40, tOne, tS 41]) (win := [tS 59]) (rest := rest) (by rw [h1]; simp) (by simp [hMn]; omega) rfl) R)
      rw [show pre.length + (2 + (0 + 1 + (n + (0 + 1 + 1 + 1 + 1 + 1)))) = pre.length + 2 + 1 + n + 1 + 3 + 1 by omega]
      exact Q
end
end Go.Proofs.YtjkgefnlennbjaaGreatDoor
