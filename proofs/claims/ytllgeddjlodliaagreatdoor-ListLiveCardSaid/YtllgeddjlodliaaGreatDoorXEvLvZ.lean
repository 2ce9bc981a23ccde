/- ListLive: the rounds, together. No condition. -/
import Derived.Test.YtllgeddjlodliaaGreatDoorXEvLr0
import Derived.Test.YtllgeddjlodliaaGreatDoorXEvLr1
import Derived.Test.YtllgeddjlodliaaGreatDoorXEvLr2
import Derived.Test.YtllgeddjlodliaaGreatDoorXEvLr3
import Derived.Test.YtllgeddjlodliaaGreatDoorXEvLr4
import Derived.Test.YtllgeddjlodliaaGreatDoorXEvLr5
namespace Go.Proofs.YtllgeddjlodliaaGreatDoor
open Go.Ev
theorem mpf : ∀ j, j < 103 → (j ∈ lpf0 ∨ j ∈ lpf2 ∨ j ∈ lpf3 ∨ j ∈ lpf1) := by decide +kernel
theorem apf (j : Nat) (h : j < 103) : fP false j = true := by
  rcases mpf j h with h | h | h | h
  · exact List.all_eq_true.1 rpf0 j h
  · exact List.all_eq_true.1 rpf2 j h
  · exact List.all_eq_true.1 rpf3 j h
  · exact List.all_eq_true.1 rpf1 j h
theorem mpt : ∀ j, j < 103 → (j ∈ lpt0 ∨ j ∈ lpt2 ∨ j ∈ lpt3 ∨ j ∈ lpt1) := by decide +kernel
theorem apt (j : Nat) (h : j < 103) : fP true j = true := by
  rcases mpt j h with h | h | h | h
  · exact List.all_eq_true.1 rpt0 j h
  · exact List.all_eq_true.1 rpt2 j h
  · exact List.all_eq_true.1 rpt3 j h
  · exact List.all_eq_true.1 rpt1 j h
theorem mqf : ∀ j, j < 103 → (j ∈ lqf0 ∨ j ∈ lqf2 ∨ j ∈ lqf3 ∨ j ∈ lqf1) := by decide +kernel
theorem aqf (j : Nat) (h : j < 103) : fQ false j = true := by
  rcases mqf j h with h | h | h | h
  · exact List.all_eq_true.1 rqf0 j h
  · exact List.all_eq_true.1 rqf2 j h
  · exact List.all_eq_true.1 rqf3 j h
  · exact List.all_eq_true.1 rqf1 j h
theorem mqt : ∀ j, j < 103 → (j ∈ lqt0 ∨ j ∈ lqt2 ∨ j ∈ lqt3 ∨ j ∈ lqt1) := by decide +kernel
theorem aqt (j : Nat) (h : j < 103) : fQ true j = true := by
  rcases mqt j h with h | h | h | h
  · exact List.all_eq_true.1 rqt0 j h
  · exact List.all_eq_true.1 rqt2 j h
  · exact List.all_eq_true.1 rqt3 j h
  · exact List.all_eq_true.1 rqt1 j h
theorem mb2 : ∀ j, j < 100 → (j ∈ lb20 ∨ j ∈ lb21 ∨ j ∈ lb22) := by decide +kernel
theorem ab2 (j : Nat) (h : j < 100) : fL 2 j = true := by
  rcases mb2 j h with h | h | h
  · exact List.all_eq_true.1 rb20 j h
  · exact List.all_eq_true.1 rb21 j h
  · exact List.all_eq_true.1 rb22 j h
theorem mg2 : ∀ j, j < 100 → (j ∈ lg20 ∨ j ∈ lg21 ∨ j ∈ lg22) := by decide +kernel
theorem ag2 (j : Nat) (h : j < 100) : fG 2 j = true := by
  rcases mg2 j h with h | h | h
  · exact List.all_eq_true.1 rg20 j h
  · exact List.all_eq_true.1 rg21 j h
  · exact List.all_eq_true.1 rg22 j h
theorem md2 : ∀ j, j < 100 → (j ∈ ld20 ∨ j ∈ ld21 ∨ j ∈ ld22) := by decide +kernel
theorem ad2 (j : Nat) (h : j < 100) : fD 2 j = true := by
  rcases md2 j h with h | h | h
  · exact List.all_eq_true.1 rd20 j h
  · exact List.all_eq_true.1 rd21 j h
  · exact List.all_eq_true.1 rd22 j h
theorem mb3 : ∀ j, j < 100 → (j ∈ lb30 ∨ j ∈ lb31 ∨ j ∈ lb32) := by decide +kernel
theorem ab3 (j : Nat) (h : j < 100) : fL 3 j = true := by
  rcases mb3 j h with h | h | h
  · exact List.all_eq_true.1 rb30 j h
  · exact List.all_eq_true.1 rb31 j h
  · exact List.all_eq_true.1 rb32 j h
theorem mg3 : ∀ j, j < 100 → (j ∈ lg30 ∨ j ∈ lg31 ∨ j ∈ lg32) := by decide +kernel
theorem ag3 (j : Nat) (h : j < 100) : fG 3 j = true := by
  rcases mg3 j h with h | h | h
  · exact List.all_eq_true.1 rg30 j h
  · exact List.all_eq_true.1 rg31 j h
  · exact List.all_eq_true.1 rg32 j h
theorem md3 : ∀ j, j < 100 → (j ∈ ld30 ∨ j ∈ ld31 ∨ j ∈ ld32) := by decide +kernel
theorem ad3 (j : Nat) (h : j < 100) : fD 3 j = true := by
  rcases md3 j h with h | h | h
  · exact List.all_eq_true.1 rd30 j h
  · exact List.all_eq_true.1 rd31 j h
  · exact List.all_eq_true.1 rd32 j h
theorem mzz : ∀ j, j < 101 → (j ∈ lzz0) := by decide +kernel
theorem azz (j : Nat) (h : j < 101) : fZ j = true := by
  exact List.all_eq_true.1 rzz0 j (mzz j h)
theorem facts : Lv.Facts bodyR where
  push d L h := by cases d; exact apf L (by omega); exact apt L (by omega)
  pop d L h := by cases d; exact aqf L (by omega); exact aqt L (by omega)
  below j q h hq := by rcases hq with rfl | rfl; exact ab2 j (by omega); exact ab3 j (by omega)
  above j q h hq := by rcases hq with rfl | rfl; exact ag2 j (by omega); exact ag3 j (by omega)
  gone j q h hq := by rcases hq with rfl | rfl; exact ad2 j (by omega); exact ad3 j (by omega)
theorem ends (n : Nat) (h : n ≤ 100) : fZ n = true := azz n (by omega)
end Go.Proofs.YtllgeddjlodliaaGreatDoor
