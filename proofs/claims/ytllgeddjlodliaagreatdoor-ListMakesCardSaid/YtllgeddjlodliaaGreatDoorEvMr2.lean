/- ListMakes: runs by the kernel. No condition. -/
import Derived.Test.YtllgeddjlodliaaGreatDoorEvMakA
namespace Go.Proofs.YtllgeddjlodliaaGreatDoor
set_option maxRecDepth 1000000 in
theorem mr2 : (runS 7 && (runS 8 && (runS 9 && (runS 10 && (runS 11 && (runS 12)))))) = true := by decide +kernel
set_option maxRecDepth 1000000 in
theorem mr10 : (runS 45 && (runS 46 && (runS 47 && (runS 48)))) = true := by decide +kernel
set_option maxRecDepth 1000000 in
theorem mr18 : (runJ 24 && (runJ 25 && (runJ 26 && (runJ 27 && (runJ 28 && (runJ 29)))))) = true := by decide +kernel
end Go.Proofs.YtllgeddjlodliaaGreatDoor
