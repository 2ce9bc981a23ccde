/- ListLive: rounds by the kernel. No condition. -/
import Derived.Test.YtllgeddjlodliaaGreatDoorXEvLvY
namespace Go.Proofs.YtllgeddjlodliaaGreatDoor
open Go.Ev
def lpt1 : List Nat := [60, 61, 62, 63, 64, 65, 66, 67, 68, 69, 70, 71, 72, 73, 74, 75, 76, 77, 78, 79, 80, 81, 82, 83, 84, 85, 86, 87, 88, 89, 90, 91, 92, 93, 94, 95, 96, 97, 98, 99, 100, 101, 102]
set_option maxRecDepth 1000000 in
theorem rpt1 : (lpt1.all (fP true)) = true := by decide +kernel
def lqt1 : List Nat := [60, 61, 62, 63, 64, 65, 66, 67, 68, 69, 70, 71, 72, 73, 74, 75, 76, 77, 78, 79, 80, 81, 82, 83, 84, 85, 86, 87, 88, 89, 90, 91, 92, 93, 94, 95, 96, 97, 98, 99, 100, 101, 102]
set_option maxRecDepth 1000000 in
theorem rqt1 : (lqt1.all (fQ true)) = true := by decide +kernel
def lg20 : List Nat := [0, 1, 2, 3, 4, 5, 6, 7, 8, 9, 10, 11, 12, 13, 14, 15, 16, 17, 18, 19, 20, 21, 22, 23, 24, 25, 26, 27, 28, 29, 30, 31, 32, 33]
set_option maxRecDepth 1000000 in
theorem rg20 : (lg20.all (fG 2)) = true := by decide +kernel
def ld21 : List Nat := [34, 35, 36, 37, 38, 39, 40, 41, 42, 43, 44, 45, 46, 47, 48, 49, 50, 51, 52, 53, 54, 55, 56, 57, 58, 59, 60, 61, 62, 63, 64, 65, 66, 67]
set_option maxRecDepth 1000000 in
theorem rd21 : (ld21.all (fD 2)) = true := by decide +kernel
def lb32 : List Nat := [68, 69, 70, 71, 72, 73, 74, 75, 76, 77, 78, 79, 80, 81, 82, 83, 84, 85, 86, 87, 88, 89, 90, 91, 92, 93, 94, 95, 96, 97, 98, 99]
set_option maxRecDepth 1000000 in
theorem rb32 : (lb32.all (fL 3)) = true := by decide +kernel
def ld30 : List Nat := [0, 1, 2, 3, 4, 5, 6, 7, 8, 9, 10, 11, 12, 13, 14, 15, 16, 17, 18, 19, 20, 21, 22, 23, 24, 25, 26, 27, 28, 29, 30, 31, 32, 33]
set_option maxRecDepth 1000000 in
theorem rd30 : (ld30.all (fD 3)) = true := by decide +kernel
set_option maxRecDepth 1000000 in
theorem fI_true : fI = true := by decide +kernel
set_option maxRecDepth 1000000 in
theorem fB_void : fB (.cl2 0 60) = true := by decide +kernel
set_option maxRecDepth 1000000 in
theorem fB_long : fB (Lv.ss 9 1 0 101 9223372036854775807) = true := by decide +kernel
end Go.Proofs.YtllgeddjlodliaaGreatDoor
