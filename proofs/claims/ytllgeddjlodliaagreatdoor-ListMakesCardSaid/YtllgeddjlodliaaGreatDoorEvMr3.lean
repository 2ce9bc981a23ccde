/- ListMakes: runs by the kernel. No condition. -/
import Derived.Test.YtllgeddjlodliaaGreatDoorEvMakA
namespace Go.Proofs.YtllgeddjlodliaaGreatDoor
set_option maxRecDepth 1000000 in
theorem mr3 : (runS 13 && (runS 14 && (runS 15 && (runS 16 && (runS 17 && (runS 18)))))) = true := by decide +kernel
set_option maxRecDepth 1000000 in
theorem mr11 : (runS 49 && (runS 50 && (runS 51 && (runS 52)))) = true := by decide +kernel
set_option maxRecDepth 1000000 in
theorem mr19 : (runJ 30 && (runJ 31 && (runJ 32 && (runJ 33 && (runJ 34))))) = true := by decide +kernel
end Go.Proofs.YtllgeddjlodliaaGreatDoor
