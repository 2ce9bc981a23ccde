/- VmClosures: the whole call for 0, 2, 12, 13 rounds, the machine's run by its pieces, by the kernel's computation. No condition. -/
import Derived.Test.YtodakbgbngdfbaaGreatDoorEvRun
import Derived.Test.YtodakbgbngdfbaaGreatDoorEvPg
import Derived.Test.YtodakbgbngdfbaaGreatDoorEvPh
namespace Go.Proofs.YtodakbgbngdfbaaGreatDoor
open Go.Ev
set_option maxRecDepth 10000000
theorem hd0 : headB 0 4844 4843 Pg.s0_0 Pg.s0_1 = true := by decide +kernel
theorem hd2 : headB 2 4845 4844 Ph.s2_0 Ph.s2_2 = true := by decide +kernel
theorem hd12 : headB 12 4850 4849 Ph.s12_0 Ph.s12_9 = true := by decide +kernel
theorem hd13 : headB 13 4850 4849 Pg.s13_0 Pg.s13_10 = true := by decide +kernel
end Go.Proofs.YtodakbgbngdfbaaGreatDoor
