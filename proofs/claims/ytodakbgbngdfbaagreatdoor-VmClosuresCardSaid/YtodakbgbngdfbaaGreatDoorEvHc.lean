/- VmClosures: the whole call for 14, 15 rounds, the machine's run by its pieces, by the kernel's computation. No condition. -/
import Derived.Test.YtodakbgbngdfbaaGreatDoorEvRun
import Derived.Test.YtodakbgbngdfbaaGreatDoorEvPe
import Derived.Test.YtodakbgbngdfbaaGreatDoorEvPf
namespace Go.Proofs.YtodakbgbngdfbaaGreatDoor
open Go.Ev
set_option maxRecDepth 10000000
theorem hd14 : headB 14 4850 4849 Pf.s14_0 Pf.s14_11 = true := by decide +kernel
theorem hd15 : headB 15 4850 4849 Pe.s15_0 Pe.s15_12 = true := by decide +kernel
end Go.Proofs.YtodakbgbngdfbaaGreatDoor
