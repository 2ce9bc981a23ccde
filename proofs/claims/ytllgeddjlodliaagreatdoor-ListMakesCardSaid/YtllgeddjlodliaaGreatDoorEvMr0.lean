/- ListMakes: runs by the kernel. No condition. -/
import Derived.Test.YtllgeddjlodliaaGreatDoorEvMakA
namespace Go.Proofs.YtllgeddjlodliaaGreatDoor
set_option maxRecDepth 1000000 in
theorem mr0 : (runOf .nils h0 && (runOf (.cl2 0 61) h0 && (runOf (.slice 8 0 0 0 3) h0))) = true := by decide +kernel
set_option maxRecDepth 1000000 in
theorem mr8 : (runS 37 && (runS 38 && (runS 39 && (runS 40)))) = true := by decide +kernel
set_option maxRecDepth 1000000 in
theorem mr16 : (runJ 12 && (runJ 13 && (runJ 14 && (runJ 15 && (runJ 16 && (runJ 17)))))) = true := by decide +kernel
set_option maxRecDepth 1000000 in
theorem mr24 : (runJ 55 && (runJ 56 && (runJ 57 && (runJ 58 && (runJ 59))))) = true := by decide +kernel
end Go.Proofs.YtllgeddjlodliaaGreatDoor
