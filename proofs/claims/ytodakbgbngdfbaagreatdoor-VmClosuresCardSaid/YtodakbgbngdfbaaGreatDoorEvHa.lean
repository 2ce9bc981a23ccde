/- VmClosures: the whole call for 17, 19 rounds, the machine's run by its pieces, by the kernel's computation. No condition. -/
import Derived.Test.YtodakbgbngdfbaaGreatDoorEvRun
import Derived.Test.YtodakbgbngdfbaaGreatDoorEvPa
import Derived.Test.YtodakbgbngdfbaaGreatDoorEvPb
namespace Go.Proofs.YtodakbgbngdfbaaGreatDoor
open Go.Ev
set_option maxRecDepth 10000000
theorem hd17 : headB 17 4850 4849 Pb.s17_0 Pb.s17_15 = true := by decide +kernel
theorem hd19 : headB 19 4850 4849 Pa.s19_0 Pa.s19_16 = true := by decide +kernel
end Go.Proofs.YtodakbgbngdfbaaGreatDoor
