/- ParseLists: single functions of the parser at the pinned tokens, by the kernel. No condition. -/
import Derived.Test.YtcaomilekhhhlaaDoorEvQd
namespace Go.Proofs.YtcaomilekhhhlaaDoor
open Go.Ev
set_option maxRecDepth 1000000
/-- In an array, so deep: at 'a', at a comma, at the bracket. -/
noncomputable def chkA (d : Nat) : Bool :=
  (boolC 31 [.ptr 20 0, .str 93 1] 3 d 0 false && (boolC 31 [.ptr 20 0, .str 93 1] 4 d 0 false && (boolC 31 [.ptr 20 0, .str 93 1] 6 d 0 false && boolC 31 [.ptr 20 0, .str 93 1] 7 d 1 true))) &&
  ((boolC 14 [.ptr 20 0, .str 44 1] 3 d 0 false && (boolC 14 [.ptr 20 0, .str 44 1] 4 d 0 false && boolC 14 [.ptr 20 0, .str 44 1] 6 d 0 true)) &&
  ((boolC 14 [.ptr 20 0, .str 93 1] 6 d 0 false && boolC 14 [.ptr 20 0, .str 93 1] 7 d 0 true) &&
  ((unitC 16 [.ptr 20 0, .str 44 1] 6 d 1 && tokC 9 [.ptr 20 0] 6 d) &&
  ((nodeC 90 [.ptr 20 0] 3 d 1 32 && nodeC 90 [.ptr 20 0] 4 d 1 32) &&
  (boolC 8 [.ptr 20 0] 3 d 0 true && (boolC 8 [.ptr 20 0] 4 d 0 true && (boolC 8 [.ptr 20 0] 6 d 0 true && boolC 8 [.ptr 20 0] 7 d 0 true)))))))
theorem chkA5 : chkA 5 = true := by decide +kernel
theorem chkA3 : chkA 3 = true := by decide +kernel
/-- Behind a call's bracket: at 'a', at a comma, at the bracket. -/
noncomputable def chkF : Bool :=
  (boolC 31 [.ptr 20 0, .str 41 1] 3 3 0 false && (boolC 31 [.ptr 20 0, .str 41 1] 5 3 0 false && (boolC 31 [.ptr 20 0, .str 41 1] 6 3 0 false && boolC 31 [.ptr 20 0, .str 41 1] 11 3 1 true))) &&
  ((boolC 14 [.ptr 20 0, .str 41 1] 6 3 0 false && boolC 14 [.ptr 20 0, .str 41 1] 11 3 0 true) &&
  ((nodeC 90 [.ptr 20 0] 3 3 1 32 && nodeC 90 [.ptr 20 0] 5 3 1 32) &&
  (unitC 16 [.ptr 20 0, .str 44 1] 6 3 1 && (boolC 8 [.ptr 20 0] 3 3 0 true && (boolC 8 [.ptr 20 0] 5 3 0 true && (boolC 8 [.ptr 20 0] 6 3 0 true && boolC 8 [.ptr 20 0] 11 3 0 true))))))
theorem chkF_true : chkF = true := by decide +kernel
structure ChkA (d : Nat) : Prop where
  tk3 : boolC 31 [.ptr 20 0, .str 93 1] 3 d 0 false = true
  tk4 : boolC 31 [.ptr 20 0, .str 93 1] 4 d 0 false = true
  tk6 : boolC 31 [.ptr 20 0, .str 93 1] 6 d 0 false = true
  tk7 : boolC 31 [.ptr 20 0, .str 93 1] 7 d 1 true = true
  is3 : boolC 14 [.ptr 20 0, .str 44 1] 3 d 0 false = true
  is4 : boolC 14 [.ptr 20 0, .str 44 1] 4 d 0 false = true
  is6 : boolC 14 [.ptr 20 0, .str 44 1] 6 d 0 true = true
  br6 : boolC 14 [.ptr 20 0, .str 93 1] 6 d 0 false = true
  br7 : boolC 14 [.ptr 20 0, .str 93 1] 7 d 0 true = true
  wa6 : unitC 16 [.ptr 20 0, .str 44 1] 6 d 1 = true
  to6 : tokC 9 [.ptr 20 0] 6 d = true
  sp3 : nodeC 90 [.ptr 20 0] 3 d 1 32 = true
  sp4 : nodeC 90 [.ptr 20 0] 4 d 1 32 = true
  ok3 : boolC 8 [.ptr 20 0] 3 d 0 true = true
  ok4 : boolC 8 [.ptr 20 0] 4 d 0 true = true
  ok6 : boolC 8 [.ptr 20 0] 6 d 0 true = true
  ok7 : boolC 8 [.ptr 20 0] 7 d 0 true = true
theorem chkA_of {d : Nat} (hd : d = 3 ∨ d = 5) : ChkA d := by
  have h : chkA d = true := by
    rcases hd with rfl | rfl
    · exact chkA3
    · exact chkA5
  unfold chkA at h
  simp only [Bool.and_eq_true] at h
  obtain ⟨⟨a1, a2, a3, a4⟩, ⟨b1, b2, b3⟩, ⟨c1, c2⟩, ⟨d1, d2⟩, ⟨e1, e2⟩, f1, f2, f3, f4⟩ := h
  exact ⟨a1, a2, a3, a4, b1, b2, b3, c1, c2, d1, d2, e1, e2, f1, f2, f3, f4⟩
end Go.Proofs.YtcaomilekhhhlaaDoor
