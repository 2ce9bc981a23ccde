/- VmClosures: the whole call for 1, 3, 5, 7, 8, 9 rounds, the machine's run by its pieces, by the kernel's computation. No condition. -/
import Derived.Test.YtodakbgbngdfbaaGreatDoorEvRun
import Derived.Test.YtodakbgbngdfbaaGreatDoorEvPk
import Derived.Test.YtodakbgbngdfbaaGreatDoorEvPl
namespace Go.Proofs.YtodakbgbngdfbaaGreatDoor
open Go.Ev
set_option maxRecDepth 10000000
theorem hd1 : headB 1 4850 4849 Pk.s1_0 Pk.s1_1 = true := by decide +kernel
theorem hd3 : headB 3 4850 4849 Pl.s3_0 Pl.s3_2 = true := by decide +kernel
theorem hd5 : headB 5 4850 4849 Pl.s5_0 Pl.s5_4 = true := by decide +kernel
theorem hd7 : headB 7 4850 4849 Pk.s7_0 Pk.s7_5 = true := by decide +kernel
theorem hd8 : headB 8 4850 4849 Pk.s8_0 Pk.s8_6 = true := by decide +kernel
theorem hd9 : headB 9 4850 4849 Pl.s9_0 Pl.s9_6 = true := by decide +kernel
end Go.Proofs.YtodakbgbngdfbaaGreatDoor
