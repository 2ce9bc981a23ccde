/- VmClosures: the whole call for 16, 18 rounds, the machine's run by its pieces, by the kernel's computation. No condition. -/
import Derived.Test.YtodakbgbngdfbaaGreatDoorEvRun
import Derived.Test.YtodakbgbngdfbaaGreatDoorEvPc
import Derived.Test.YtodakbgbngdfbaaGreatDoorEvPd
namespace Go.Proofs.YtodakbgbngdfbaaGreatDoor
open Go.Ev
set_option maxRecDepth 10000000
theorem hd16 : headB 16 4850 4849 Pd.s16_0 Pd.s16_14 = true := by decide +kernel
theorem hd18 : headB 18 4850 4849 Pc.s18_0 Pc.s18_15 = true := by decide +kernel
end Go.Proofs.YtodakbgbngdfbaaGreatDoor
