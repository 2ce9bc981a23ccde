/- ListMakes: runs by the kernel. No condition. -/
import Derived.Test.YtllgeddjlodliaaGreatDoorEvMakA
namespace Go.Proofs.YtllgeddjlodliaaGreatDoor
set_option maxRecDepth 1000000 in
theorem mr1 : (runS 1 && (runS 2 && (runS 3 && (runS 4 && (runS 5 && (runS 6)))))) = true := by decide +kernel
set_option maxRecDepth 1000000 in
theorem mr9 : (runS 41 && (runS 42 && (runS 43 && (runS 44)))) = true := by decide +kernel
set_option maxRecDepth 1000000 in
theorem mr17 : (runJ 18 && (runJ 19 && (runJ 20 && (runJ 21 && (runJ 22 && (runJ 23)))))) = true := by decide +kernel
end Go.Proofs.YtllgeddjlodliaaGreatDoor
