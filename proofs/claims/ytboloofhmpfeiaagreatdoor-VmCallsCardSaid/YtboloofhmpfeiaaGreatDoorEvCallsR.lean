/- VmCalls at numbers of which nothing is known but their remainders' names, by the kernel's computation. No condition. -/
import Derived.Test.YtboloofhmpfeiaaGreatDoorEvBase
namespace Go.Proofs.YtboloofhmpfeiaaGreatDoor
open Go.Ev
set_option maxRecDepth 10000000
theorem calls_run : runAll [.cl1 0 5, .cl1 0 6] = true := by decide +kernel
end Go.Proofs.YtboloofhmpfeiaaGreatDoor
