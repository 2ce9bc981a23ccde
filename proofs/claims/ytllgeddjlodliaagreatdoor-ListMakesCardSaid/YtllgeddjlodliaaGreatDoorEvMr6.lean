/- ListMakes: runs by the kernel. No condition. -/
import Derived.Test.YtllgeddjlodliaaGreatDoorEvMakA
namespace Go.Proofs.YtllgeddjlodliaaGreatDoor
set_option maxRecDepth 1000000 in
theorem mr6 : (runS 29 && (runS 30 && (runS 31 && (runS 32)))) = true := by decide +kernel
set_option maxRecDepth 1000000 in
theorem mr14 : (runJ 0 && (runJ 1 && (runJ 2 && (runJ 3 && (runJ 4 && (runJ 5)))))) = true := by decide +kernel
set_option maxRecDepth 1000000 in
theorem mr22 : (runJ 45 && (runJ 46 && (runJ 47 && (runJ 48 && (runJ 49))))) = true := by decide +kernel
end Go.Proofs.YtllgeddjlodliaaGreatDoor
