/- ListMakes: runs by the kernel. No condition. -/
import Derived.Test.YtllgeddjlodliaaGreatDoorEvMakA
namespace Go.Proofs.YtllgeddjlodliaaGreatDoor
set_option maxRecDepth 1000000 in
theorem mr4 : (runS 19 && (runS 20 && (runS 21 && (runS 22 && (runS 23 && (runS 24)))))) = true := by decide +kernel
set_option maxRecDepth 1000000 in
theorem mr12 : (runS 53 && (runS 54 && (runS 55 && (runS 56)))) = true := by decide +kernel
set_option maxRecDepth 1000000 in
theorem mr20 : (runJ 35 && (runJ 36 && (runJ 37 && (runJ 38 && (runJ 39))))) = true := by decide +kernel
end Go.Proofs.YtllgeddjlodliaaGreatDoor
