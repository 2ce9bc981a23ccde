/- ListLive: rounds by the kernel. No condition. -/
import Derived.Test.YtllgeddjlodliaaGreatDoorXEvLvY
namespace Go.Proofs.YtllgeddjlodliaaGreatDoor
open Go.Ev
def lpf0 : List Nat := [0, 1, 2, 3, 4, 5, 6, 7, 8, 9, 10, 11, 12, 13, 14, 15, 16, 17, 18, 19]
set_option maxRecDepth 1000000 in
theorem rpf0 : (lpf0.all (fP false)) = true := by decide +kernel
def lpf3 : List Nat := [40, 41, 42, 43, 44, 45, 46, 47, 48, 49, 50, 51, 52, 53, 54, 55, 56, 57, 58, 59]
set_option maxRecDepth 1000000 in
theorem rpf3 : (lpf3.all (fP false)) = true := by decide +kernel
def lpt2 : List Nat := [20, 21, 22, 23, 24, 25, 26, 27, 28, 29, 30, 31, 32, 33, 34, 35, 36, 37, 38, 39]
set_option maxRecDepth 1000000 in
theorem rpt2 : (lpt2.all (fP true)) = true := by decide +kernel
def lqf0 : List Nat := [0, 1, 2, 3, 4, 5, 6, 7, 8, 9, 10, 11, 12, 13, 14, 15, 16, 17, 18, 19]
set_option maxRecDepth 1000000 in
theorem rqf0 : (lqf0.all (fQ false)) = true := by decide +kernel
def lqf3 : List Nat := [40, 41, 42, 43, 44, 45, 46, 47, 48, 49, 50, 51, 52, 53, 54, 55, 56, 57, 58, 59]
set_option maxRecDepth 1000000 in
theorem rqf3 : (lqf3.all (fQ false)) = true := by decide +kernel
def lqt2 : List Nat := [20, 21, 22, 23, 24, 25, 26, 27, 28, 29, 30, 31, 32, 33, 34, 35, 36, 37, 38, 39]
set_option maxRecDepth 1000000 in
theorem rqt2 : (lqt2.all (fQ true)) = true := by decide +kernel
end Go.Proofs.YtllgeddjlodliaaGreatDoor
