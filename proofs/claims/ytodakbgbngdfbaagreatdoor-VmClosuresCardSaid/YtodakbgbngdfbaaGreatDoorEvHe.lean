/- VmClosures: the whole call for 4, 6, 10, 11 rounds, the machine's run by its pieces, by the kernel's computation. No condition. -/
import Derived.Test.YtodakbgbngdfbaaGreatDoorEvRun
import Derived.Test.YtodakbgbngdfbaaGreatDoorEvPi
import Derived.Test.YtodakbgbngdfbaaGreatDoorEvPj
namespace Go.Proofs.YtodakbgbngdfbaaGreatDoor
open Go.Ev
set_option maxRecDepth 10000000
theorem hd4 : headB 4 4850 4849 Pi.s4_0 Pi.s4_3 = true := by decide +kernel
theorem hd6 : headB 6 4850 4849 Pj.s6_0 Pj.s6_4 = true := by decide +kernel
theorem hd10 : headB 10 4850 4849 Pj.s10_0 Pj.s10_7 = true := by decide +kernel
theorem hd11 : headB 11 4850 4849 Pi.s11_0 Pi.s11_8 = true := by decide +kernel
end Go.Proofs.YtodakbgbngdfbaaGreatDoor
