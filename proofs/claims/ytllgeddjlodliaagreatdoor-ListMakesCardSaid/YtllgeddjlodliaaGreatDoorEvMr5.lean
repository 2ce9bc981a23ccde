/- ListMakes: runs by the kernel. No condition. -/
import Derived.Test.YtllgeddjlodliaaGreatDoorEvMakA
namespace Go.Proofs.YtllgeddjlodliaaGreatDoor
set_option maxRecDepth 1000000 in
theorem mr5 : (runS 25 && (runS 26 && (runS 27 && (runS 28)))) = true := by decide +kernel
set_option maxRecDepth 1000000 in
theorem mr13 : (runS 57 && (runS 58 && (runS 59 && (runS 60)))) = true := by decide +kernel
set_option maxRecDepth 1000000 in
theorem mr21 : (runJ 40 && (runJ 41 && (runJ 42 && (runJ 43 && (runJ 44))))) = true := by decide +kernel
end Go.Proofs.YtllgeddjlodliaaGreatDoor
