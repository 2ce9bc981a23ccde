/- ListMakes: runs by the kernel. No condition. -/
import Derived.Test.YtllgeddjlodliaaGreatDoorEvMakA
namespace Go.Proofs.YtllgeddjlodliaaGreatDoor
set_option maxRecDepth 1000000 in
theorem mr7 : (runS 33 && (runS 34 && (runS 35 && (runS 36)))) = true := by decide +kernel
set_option maxRecDepth 1000000 in
theorem mr15 : (runJ 6 && (runJ 7 && (runJ 8 && (runJ 9 && (runJ 10 && (runJ 11)))))) = true := by decide +kernel
set_option maxRecDepth 1000000 in
theorem mr23 : (runJ 50 && (runJ 51 && (runJ 52 && (runJ 53 && (runJ 54))))) = true := by decide +kernel
end Go.Proofs.YtllgeddjlodliaaGreatDoor
