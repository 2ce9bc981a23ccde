/- CompileDeep is true for every argument: the statement, tied to the program's text. No condition of its own. -/
import Derived.Test.YtoecccbjhmejiaaGreatDoorEvWorld
import Derived.Test.YtoecccbjhmejiaaGreatDoorEvDeepR0
import Derived.Test.YtoecccbjhmejiaaGreatDoorEvDeepR1
import Derived.Test.YtoecccbjhmejiaaGreatDoorEvDeepR2
import Derived.Test.YtoecccbjhmejiaaGreatDoorEvDeepR3
import Derived.Test.YtoecccbjhmejiaaGreatDoorEvDeepR4
import Derived.Test.YtoecccbjhmejiaaGreatDoorEvDeepR5
import Derived.Test.YtoecccbjhmejiaaGreatDoorEvDeepR6
import Derived.Test.YtoecccbjhmejiaaGreatDoorEvDeepR7
import Derived.Test.YtoecccbjhmejiaaGreatDoorEvDeepR8
import Derived.Test.YtoecccbjhmejiaaGreatDoorEvDeepR9
import Derived.Test.YtoecccbjhmejiaaGreatDoorEvDeepR10
namespace Go.Proofs.YtoecccbjhmejiaaGreatDoor
open Go.Ev Go.ChangeShapes Go.WideShapes Go.ChangeAt Go.RowKit

theorem deep_all0 (a : Nat) (ha : a < 50) : runDeep [.cls 50 a, .cls 7 0] = true :=
  match a, ha with
  | 0, _ => List.all_eq_true.1 deep0x0 _ (.head _)
  | 1, _ => List.all_eq_true.1 deep0x0 _ (.tail _ (.head _))
  | 2, _ => List.all_eq_true.1 deep0x0 _ (.tail _ (.tail _ (.head _)))
  | 3, _ => List.all_eq_true.1 deep0x0 _ (.tail _ (.tail _ (.tail _ (.head _))))
  | 4, _ => List.all_eq_true.1 deep0x0 _ (.tail _ (.tail _ (.tail _ (.tail _ (.head _)))))
  | 5, _ => List.all_eq_true.1 deep0x0 _ (.tail _ (.tail _ (.tail _ (.tail _ (.tail _ (.head _))))))
  | 6, _ => List.all_eq_true.1 deep0x0 _ (.tail _ (.tail _ (.tail _ (.tail _ (.tail _ (.tail _ (.head _)))))))
  | 7, _ => List.all_eq_true.1 deep0x0 _ (.tail _ (.tail _ (.tail _ (.tail _ (.tail _ (.tail _ (.tail _ (.head _))))))))
  | 8, _ => List.all_eq_true.1 deep0x8 _ (.head _)
  | 9, _ => List.all_eq_true.1 deep0x8 _ (.tail _ (.head _))
  | 10, _ => List.all_eq_true.1 deep0x8 _ (.tail _ (.tail _ (.head _)))
  | 11, _ => List.all_eq_true.1 deep0x11 _ (.head _)
  | 12, _ => List.all_eq_true.1 deep0x11 _ (.tail _ (.head _))
  | 13, _ => List.all_eq_true.1 deep0x13 _ (.head _)
  | 14, _ => List.all_eq_true.1 deep0x13 _ (.tail _ (.head _))
  | 15, _ => List.all_eq_true.1 deep0x15 _ (.head _)
  | 16, _ => List.all_eq_true.1 deep0x15 _ (.tail _ (.head _))
  | 17, _ => List.all_eq_true.1 deep0x17 _ (.head _)
  | 18, _ => List.all_eq_true.1 deep0x18 _ (.head _)
  | 19, _ => List.all_eq_true.1 deep0x19 _ (.head _)
  | 20, _ => List.all_eq_true.1 deep0x20 _ (.head _)
  | 21, _ => List.all_eq_true.1 deep0x21 _ (.head _)
  | 22, _ => List.all_eq_true.1 deep0x22 _ (.head _)
  | 23, _ => List.all_eq_true.1 deep0x23 _ (.head _)
  | 24, _ => List.all_eq_true.1 deep0x24 _ (.head _)
  | 25, _ => List.all_eq_true.1 deep0x25 _ (.head _)
  | 26, _ => List.all_eq_true.1 deep0x26 _ (.head _)
  | 27, _ => List.all_eq_true.1 deep0x27 _ (.head _)
  | 28, _ => List.all_eq_true.1 deep0x28 _ (.head _)
  | 29, _ => List.all_eq_true.1 deep0x29 _ (.head _)
  | 30, _ => List.all_eq_true.1 deep0x30 _ (.head _)
  | 31, _ => List.all_eq_true.1 deep0x31 _ (.head _)
  | 32, _ => List.all_eq_true.1 deep0x32 _ (.head _)
  | 33, _ => List.all_eq_true.1 deep0x33 _ (.head _)
  | 34, _ => List.all_eq_true.1 deep0x34 _ (.head _)
  | 35, _ => List.all_eq_true.1 deep0x35 _ (.head _)
  | 36, _ => List.all_eq_true.1 deep0x36 _ (.head _)
  | 37, _ => List.all_eq_true.1 deep0x37 _ (.head _)
  | 38, _ => List.all_eq_true.1 deep0x38 _ (.head _)
  | 39, _ => List.all_eq_true.1 deep0x39 _ (.head _)
  | 40, _ => List.all_eq_true.1 deep0x40 _ (.head _)
  | 41, _ => List.all_eq_true.1 deep0x41 _ (.head _)
  | 42, _ => List.all_eq_true.1 deep0x42 _ (.head _)
  | 43, _ => List.all_eq_true.1 deep0x43 _ (.head _)
  | 44, _ => List.all_eq_true.1 deep0x44 _ (.head _)
  | 45, _ => List.all_eq_true.1 deep0x45 _ (.head _)
  | 46, _ => List.all_eq_true.1 deep0x46 _ (.head _)
  | 47, _ => List.all_eq_true.1 deep0x47 _ (.head _)
  | 48, _ => List.all_eq_true.1 deep0x48 _ (.head _)
  | 49, _ => List.all_eq_true.1 deep0x49 _ (.head _)
  | q + 50, h => absurd h (by omega)
theorem deep_all1 (a : Nat) (ha : a < 50) : runDeep [.cls 50 a, .cls 7 1] = true :=
  match a, ha with
  | 0, _ => List.all_eq_true.1 deep1x0 _ (.head _)
  | 1, _ => List.all_eq_true.1 deep1x0 _ (.tail _ (.head _))
  | 2, _ => List.all_eq_true.1 deep1x0 _ (.tail _ (.tail _ (.head _)))
  | 3, _ => List.all_eq_true.1 deep1x0 _ (.tail _ (.tail _ (.tail _ (.head _))))
  | 4, _ => List.all_eq_true.1 deep1x0 _ (.tail _ (.tail _ (.tail _ (.tail _ (.head _)))))
  | 5, _ => List.all_eq_true.1 deep1x0 _ (.tail _ (.tail _ (.tail _ (.tail _ (.tail _ (.head _))))))
  | 6, _ => List.all_eq_true.1 deep1x6 _ (.head _)
  | 7, _ => List.all_eq_true.1 deep1x6 _ (.tail _ (.head _))
  | 8, _ => List.all_eq_true.1 deep1x6 _ (.tail _ (.tail _ (.head _)))
  | 9, _ => List.all_eq_true.1 deep1x9 _ (.head _)
  | 10, _ => List.all_eq_true.1 deep1x9 _ (.tail _ (.head _))
  | 11, _ => List.all_eq_true.1 deep1x11 _ (.head _)
  | 12, _ => List.all_eq_true.1 deep1x12 _ (.head _)
  | 13, _ => List.all_eq_true.1 deep1x13 _ (.head _)
  | 14, _ => List.all_eq_true.1 deep1x14 _ (.head _)
  | 15, _ => List.all_eq_true.1 deep1x15 _ (.head _)
  | 16, _ => List.all_eq_true.1 deep1x16 _ (.head _)
  | 17, _ => List.all_eq_true.1 deep1x17 _ (.head _)
  | 18, _ => List.all_eq_true.1 deep1x18 _ (.head _)
  | 19, _ => List.all_eq_true.1 deep1x19 _ (.head _)
  | 20, _ => List.all_eq_true.1 deep1x20 _ (.head _)
  | 21, _ => List.all_eq_true.1 deep1x21 _ (.head _)
  | 22, _ => List.all_eq_true.1 deep1x22 _ (.head _)
  | 23, _ => List.all_eq_true.1 deep1x23 _ (.head _)
  | 24, _ => List.all_eq_true.1 deep1x24 _ (.head _)
  | 25, _ => List.all_eq_true.1 deep1x25 _ (.head _)
  | 26, _ => List.all_eq_true.1 deep1x26 _ (.head _)
  | 27, _ => List.all_eq_true.1 deep1x27 _ (.head _)
  | 28, _ => List.all_eq_true.1 deep1x28 _ (.head _)
  | 29, _ => List.all_eq_true.1 deep1x29 _ (.head _)
  | 30, _ => List.all_eq_true.1 deep1x30 _ (.head _)
  | 31, _ => List.all_eq_true.1 deep1x31 _ (.head _)
  | 32, _ => List.all_eq_true.1 deep1x32 _ (.head _)
  | 33, _ => List.all_eq_true.1 deep1x33 _ (.head _)
  | 34, _ => List.all_eq_true.1 deep1x34 _ (.head _)
  | 35, _ => List.all_eq_true.1 deep1x35 _ (.head _)
  | 36, _ => List.all_eq_true.1 deep1x36 _ (.head _)
  | 37, _ => List.all_eq_true.1 deep1x37 _ (.head _)
  | 38, _ => List.all_eq_true.1 deep1x38 _ (.head _)
  | 39, _ => List.all_eq_true.1 deep1x39 _ (.head _)
  | 40, _ => List.all_eq_true.1 deep1x40 _ (.head _)
  | 41, _ => List.all_eq_true.1 deep1x41 _ (.head _)
  | 42, _ => List.all_eq_true.1 deep1x42 _ (.head _)
  | 43, _ => List.all_eq_true.1 deep1x43 _ (.head _)
  | 44, _ => List.all_eq_true.1 deep1x44 _ (.head _)
  | 45, _ => List.all_eq_true.1 deep1x45 _ (.head _)
  | 46, _ => List.all_eq_true.1 deep1x46 _ (.head _)
  | 47, _ => List.all_eq_true.1 deep1x47 _ (.head _)
  | 48, _ => List.all_eq_true.1 deep1x48 _ (.head _)
  | 49, _ => List.all_eq_true.1 deep1x49 _ (.head _)
  | q + 50, h => absurd h (by omega)
theorem deep_all2 (a : Nat) (ha : a < 50) : runDeep [.cls 50 a, .cls 7 2] = true :=
  match a, ha with
  | 0, _ => List.all_eq_true.1 deep2x0 _ (.head _)
  | 1, _ => List.all_eq_true.1 deep2x0 _ (.tail _ (.head _))
  | 2, _ => List.all_eq_true.1 deep2x0 _ (.tail _ (.tail _ (.head _)))
  | 3, _ => List.all_eq_true.1 deep2x0 _ (.tail _ (.tail _ (.tail _ (.head _))))
  | 4, _ => List.all_eq_true.1 deep2x0 _ (.tail _ (.tail _ (.tail _ (.tail _ (.head _)))))
  | 5, _ => List.all_eq_true.1 deep2x0 _ (.tail _ (.tail _ (.tail _ (.tail _ (.tail _ (.head _))))))
  | 6, _ => List.all_eq_true.1 deep2x0 _ (.tail _ (.tail _ (.tail _ (.tail _ (.tail _ (.tail _ (.head _)))))))
  | 7, _ => List.all_eq_true.1 deep2x0 _ (.tail _ (.tail _ (.tail _ (.tail _ (.tail _ (.tail _ (.tail _ (.head _))))))))
  | 8, _ => List.all_eq_true.1 deep2x0 _ (.tail _ (.tail _ (.tail _ (.tail _ (.tail _ (.tail _ (.tail _ (.tail _ (.head _)))))))))
  | 9, _ => List.all_eq_true.1 deep2x0 _ (.tail _ (.tail _ (.tail _ (.tail _ (.tail _ (.tail _ (.tail _ (.tail _ (.tail _ (.head _))))))))))
  | 10, _ => List.all_eq_true.1 deep2x0 _ (.tail _ (.tail _ (.tail _ (.tail _ (.tail _ (.tail _ (.tail _ (.tail _ (.tail _ (.tail _ (.head _)))))))))))
  | 11, _ => List.all_eq_true.1 deep2x11 _ (.head _)
  | 12, _ => List.all_eq_true.1 deep2x11 _ (.tail _ (.head _))
  | 13, _ => List.all_eq_true.1 deep2x11 _ (.tail _ (.tail _ (.head _)))
  | 14, _ => List.all_eq_true.1 deep2x11 _ (.tail _ (.tail _ (.tail _ (.head _))))
  | 15, _ => List.all_eq_true.1 deep2x11 _ (.tail _ (.tail _ (.tail _ (.tail _ (.head _)))))
  | 16, _ => List.all_eq_true.1 deep2x16 _ (.head _)
  | 17, _ => List.all_eq_true.1 deep2x16 _ (.tail _ (.head _))
  | 18, _ => List.all_eq_true.1 deep2x16 _ (.tail _ (.tail _ (.head _)))
  | 19, _ => List.all_eq_true.1 deep2x19 _ (.head _)
  | 20, _ => List.all_eq_true.1 deep2x19 _ (.tail _ (.head _))
  | 21, _ => List.all_eq_true.1 deep2x19 _ (.tail _ (.tail _ (.head _)))
  | 22, _ => List.all_eq_true.1 deep2x22 _ (.head _)
  | 23, _ => List.all_eq_true.1 deep2x22 _ (.tail _ (.head _))
  | 24, _ => List.all_eq_true.1 deep2x24 _ (.head _)
  | 25, _ => List.all_eq_true.1 deep2x24 _ (.tail _ (.head _))
  | 26, _ => List.all_eq_true.1 deep2x26 _ (.head _)
  | 27, _ => List.all_eq_true.1 deep2x26 _ (.tail _ (.head _))
  | 28, _ => List.all_eq_true.1 deep2x28 _ (.head _)
  | 29, _ => List.all_eq_true.1 deep2x28 _ (.tail _ (.head _))
  | 30, _ => List.all_eq_true.1 deep2x30 _ (.head _)
  | 31, _ => List.all_eq_true.1 deep2x30 _ (.tail _ (.head _))
  | 32, _ => List.all_eq_true.1 deep2x32 _ (.head _)
  | 33, _ => List.all_eq_true.1 deep2x32 _ (.tail _ (.head _))
  | 34, _ => List.all_eq_true.1 deep2x34 _ (.head _)
  | 35, _ => List.all_eq_true.1 deep2x35 _ (.head _)
  | 36, _ => List.all_eq_true.1 deep2x36 _ (.head _)
  | 37, _ => List.all_eq_true.1 deep2x37 _ (.head _)
  | 38, _ => List.all_eq_true.1 deep2x38 _ (.head _)
  | 39, _ => List.all_eq_true.1 deep2x39 _ (.head _)
  | 40, _ => List.all_eq_true.1 deep2x40 _ (.head _)
  | 41, _ => List.all_eq_true.1 deep2x41 _ (.head _)
  | 42, _ => List.all_eq_true.1 deep2x42 _ (.head _)
  | 43, _ => List.all_eq_true.1 deep2x43 _ (.head _)
  | 44, _ => List.all_eq_true.1 deep2x44 _ (.head _)
  | 45, _ => List.all_eq_true.1 deep2x45 _ (.head _)
  | 46, _ => List.all_eq_true.1 deep2x46 _ (.head _)
  | 47, _ => List.all_eq_true.1 deep2x47 _ (.head _)
  | 48, _ => List.all_eq_true.1 deep2x48 _ (.head _)
  | 49, _ => List.all_eq_true.1 deep2x49 _ (.head _)
  | q + 50, h => absurd h (by omega)
theorem deep_all3 (a : Nat) (ha : a < 50) : runDeep [.cls 50 a, .cls 7 3] = true :=
  match a, ha with
  | 0, _ => List.all_eq_true.1 deep3x0 _ (.head _)
  | 1, _ => List.all_eq_true.1 deep3x0 _ (.tail _ (.head _))
  | 2, _ => List.all_eq_true.1 deep3x0 _ (.tail _ (.tail _ (.head _)))
  | 3, _ => List.all_eq_true.1 deep3x0 _ (.tail _ (.tail _ (.tail _ (.head _))))
  | 4, _ => List.all_eq_true.1 deep3x0 _ (.tail _ (.tail _ (.tail _ (.tail _ (.head _)))))
  | 5, _ => List.all_eq_true.1 deep3x0 _ (.tail _ (.tail _ (.tail _ (.tail _ (.tail _ (.head _))))))
  | 6, _ => List.all_eq_true.1 deep3x0 _ (.tail _ (.tail _ (.tail _ (.tail _ (.tail _ (.tail _ (.head _)))))))
  | 7, _ => List.all_eq_true.1 deep3x0 _ (.tail _ (.tail _ (.tail _ (.tail _ (.tail _ (.tail _ (.tail _ (.head _))))))))
  | 8, _ => List.all_eq_true.1 deep3x0 _ (.tail _ (.tail _ (.tail _ (.tail _ (.tail _ (.tail _ (.tail _ (.tail _ (.head _)))))))))
  | 9, _ => List.all_eq_true.1 deep3x0 _ (.tail _ (.tail _ (.tail _ (.tail _ (.tail _ (.tail _ (.tail _ (.tail _ (.tail _ (.head _))))))))))
  | 10, _ => List.all_eq_true.1 deep3x0 _ (.tail _ (.tail _ (.tail _ (.tail _ (.tail _ (.tail _ (.tail _ (.tail _ (.tail _ (.tail _ (.head _)))))))))))
  | 11, _ => List.all_eq_true.1 deep3x0 _ (.tail _ (.tail _ (.tail _ (.tail _ (.tail _ (.tail _ (.tail _ (.tail _ (.tail _ (.tail _ (.tail _ (.head _))))))))))))
  | 12, _ => List.all_eq_true.1 deep3x0 _ (.tail _ (.tail _ (.tail _ (.tail _ (.tail _ (.tail _ (.tail _ (.tail _ (.tail _ (.tail _ (.tail _ (.tail _ (.head _)))))))))))))
  | 13, _ => List.all_eq_true.1 deep3x0 _ (.tail _ (.tail _ (.tail _ (.tail _ (.tail _ (.tail _ (.tail _ (.tail _ (.tail _ (.tail _ (.tail _ (.tail _ (.tail _ (.head _))))))))))))))
  | 14, _ => List.all_eq_true.1 deep3x0 _ (.tail _ (.tail _ (.tail _ (.tail _ (.tail _ (.tail _ (.tail _ (.tail _ (.tail _ (.tail _ (.tail _ (.tail _ (.tail _ (.tail _ (.head _)))))))))))))))
  | 15, _ => List.all_eq_true.1 deep3x0 _ (.tail _ (.tail _ (.tail _ (.tail _ (.tail _ (.tail _ (.tail _ (.tail _ (.tail _ (.tail _ (.tail _ (.tail _ (.tail _ (.tail _ (.tail _ (.head _))))))))))))))))
  | 16, _ => List.all_eq_true.1 deep3x0 _ (.tail _ (.tail _ (.tail _ (.tail _ (.tail _ (.tail _ (.tail _ (.tail _ (.tail _ (.tail _ (.tail _ (.tail _ (.tail _ (.tail _ (.tail _ (.tail _ (.head _)))))))))))))))))
  | 17, _ => List.all_eq_true.1 deep3x0 _ (.tail _ (.tail _ (.tail _ (.tail _ (.tail _ (.tail _ (.tail _ (.tail _ (.tail _ (.tail _ (.tail _ (.tail _ (.tail _ (.tail _ (.tail _ (.tail _ (.tail _ (.head _))))))))))))))))))
  | 18, _ => List.all_eq_true.1 deep3x18 _ (.head _)
  | 19, _ => List.all_eq_true.1 deep3x18 _ (.tail _ (.head _))
  | 20, _ => List.all_eq_true.1 deep3x18 _ (.tail _ (.tail _ (.head _)))
  | 21, _ => List.all_eq_true.1 deep3x18 _ (.tail _ (.tail _ (.tail _ (.head _))))
  | 22, _ => List.all_eq_true.1 deep3x18 _ (.tail _ (.tail _ (.tail _ (.tail _ (.head _)))))
  | 23, _ => List.all_eq_true.1 deep3x18 _ (.tail _ (.tail _ (.tail _ (.tail _ (.tail _ (.head _))))))
  | 24, _ => List.all_eq_true.1 deep3x18 _ (.tail _ (.tail _ (.tail _ (.tail _ (.tail _ (.tail _ (.head _)))))))
  | 25, _ => List.all_eq_true.1 deep3x18 _ (.tail _ (.tail _ (.tail _ (.tail _ (.tail _ (.tail _ (.tail _ (.head _))))))))
  | 26, _ => List.all_eq_true.1 deep3x26 _ (.head _)
  | 27, _ => List.all_eq_true.1 deep3x26 _ (.tail _ (.head _))
  | 28, _ => List.all_eq_true.1 deep3x26 _ (.tail _ (.tail _ (.head _)))
  | 29, _ => List.all_eq_true.1 deep3x26 _ (.tail _ (.tail _ (.tail _ (.head _))))
  | 30, _ => List.all_eq_true.1 deep3x26 _ (.tail _ (.tail _ (.tail _ (.tail _ (.head _)))))
  | 31, _ => List.all_eq_true.1 deep3x26 _ (.tail _ (.tail _ (.tail _ (.tail _ (.tail _ (.head _))))))
  | 32, _ => List.all_eq_true.1 deep3x32 _ (.head _)
  | 33, _ => List.all_eq_true.1 deep3x32 _ (.tail _ (.head _))
  | 34, _ => List.all_eq_true.1 deep3x32 _ (.tail _ (.tail _ (.head _)))
  | 35, _ => List.all_eq_true.1 deep3x32 _ (.tail _ (.tail _ (.tail _ (.head _))))
  | 36, _ => List.all_eq_true.1 deep3x32 _ (.tail _ (.tail _ (.tail _ (.tail _ (.head _)))))
  | 37, _ => List.all_eq_true.1 deep3x37 _ (.head _)
  | 38, _ => List.all_eq_true.1 deep3x37 _ (.tail _ (.head _))
  | 39, _ => List.all_eq_true.1 deep3x37 _ (.tail _ (.tail _ (.head _)))
  | 40, _ => List.all_eq_true.1 deep3x37 _ (.tail _ (.tail _ (.tail _ (.head _))))
  | 41, _ => List.all_eq_true.1 deep3x41 _ (.head _)
  | 42, _ => List.all_eq_true.1 deep3x41 _ (.tail _ (.head _))
  | 43, _ => List.all_eq_true.1 deep3x41 _ (.tail _ (.tail _ (.head _)))
  | 44, _ => List.all_eq_true.1 deep3x41 _ (.tail _ (.tail _ (.tail _ (.head _))))
  | 45, _ => List.all_eq_true.1 deep3x45 _ (.head _)
  | 46, _ => List.all_eq_true.1 deep3x45 _ (.tail _ (.head _))
  | 47, _ => List.all_eq_true.1 deep3x45 _ (.tail _ (.tail _ (.head _)))
  | 48, _ => List.all_eq_true.1 deep3x48 _ (.head _)
  | 49, _ => List.all_eq_true.1 deep3x48 _ (.tail _ (.head _))
  | q + 50, h => absurd h (by omega)
theorem deep_all4 (a : Nat) (ha : a < 50) : runDeep [.cls 50 a, .cls 7 4] = true :=
  match a, ha with
  | 0, _ => List.all_eq_true.1 deep4x0 _ (.head _)
  | 1, _ => List.all_eq_true.1 deep4x0 _ (.tail _ (.head _))
  | 2, _ => List.all_eq_true.1 deep4x0 _ (.tail _ (.tail _ (.head _)))
  | 3, _ => List.all_eq_true.1 deep4x0 _ (.tail _ (.tail _ (.tail _ (.head _))))
  | 4, _ => List.all_eq_true.1 deep4x0 _ (.tail _ (.tail _ (.tail _ (.tail _ (.head _)))))
  | 5, _ => List.all_eq_true.1 deep4x0 _ (.tail _ (.tail _ (.tail _ (.tail _ (.tail _ (.head _))))))
  | 6, _ => List.all_eq_true.1 deep4x0 _ (.tail _ (.tail _ (.tail _ (.tail _ (.tail _ (.tail _ (.head _)))))))
  | 7, _ => List.all_eq_true.1 deep4x7 _ (.head _)
  | 8, _ => List.all_eq_true.1 deep4x7 _ (.tail _ (.head _))
  | 9, _ => List.all_eq_true.1 deep4x9 _ (.head _)
  | 10, _ => List.all_eq_true.1 deep4x9 _ (.tail _ (.head _))
  | 11, _ => List.all_eq_true.1 deep4x11 _ (.head _)
  | 12, _ => List.all_eq_true.1 deep4x12 _ (.head _)
  | 13, _ => List.all_eq_true.1 deep4x13 _ (.head _)
  | 14, _ => List.all_eq_true.1 deep4x14 _ (.head _)
  | 15, _ => List.all_eq_true.1 deep4x15 _ (.head _)
  | 16, _ => List.all_eq_true.1 deep4x16 _ (.head _)
  | 17, _ => List.all_eq_true.1 deep4x17 _ (.head _)
  | 18, _ => List.all_eq_true.1 deep4x18 _ (.head _)
  | 19, _ => List.all_eq_true.1 deep4x19 _ (.head _)
  | 20, _ => List.all_eq_true.1 deep4x20 _ (.head _)
  | 21, _ => List.all_eq_true.1 deep4x21 _ (.head _)
  | 22, _ => List.all_eq_true.1 deep4x22 _ (.head _)
  | 23, _ => List.all_eq_true.1 deep4x23 _ (.head _)
  | 24, _ => List.all_eq_true.1 deep4x24 _ (.head _)
  | 25, _ => List.all_eq_true.1 deep4x25 _ (.head _)
  | 26, _ => List.all_eq_true.1 deep4x26 _ (.head _)
  | 27, _ => List.all_eq_true.1 deep4x27 _ (.head _)
  | 28, _ => List.all_eq_true.1 deep4x28 _ (.head _)
  | 29, _ => List.all_eq_true.1 deep4x29 _ (.head _)
  | 30, _ => List.all_eq_true.1 deep4x30 _ (.head _)
  | 31, _ => List.all_eq_true.1 deep4x31 _ (.head _)
  | 32, _ => List.all_eq_true.1 deep4x32 _ (.head _)
  | 33, _ => List.all_eq_true.1 deep4x33 _ (.head _)
  | 34, _ => List.all_eq_true.1 deep4x34 _ (.head _)
  | 35, _ => List.all_eq_true.1 deep4x35 _ (.head _)
  | 36, _ => List.all_eq_true.1 deep4x36 _ (.head _)
  | 37, _ => List.all_eq_true.1 deep4x37 _ (.head _)
  | 38, _ => List.all_eq_true.1 deep4x38 _ (.head _)
  | 39, _ => List.all_eq_true.1 deep4x39 _ (.head _)
  | 40, _ => List.all_eq_true.1 deep4x40 _ (.head _)
  | 41, _ => List.all_eq_true.1 deep4x41 _ (.head _)
  | 42, _ => List.all_eq_true.1 deep4x42 _ (.head _)
  | 43, _ => List.all_eq_true.1 deep4x43 _ (.head _)
  | 44, _ => List.all_eq_true.1 deep4x44 _ (.head _)
  | 45, _ => List.all_eq_true.1 deep4x45 _ (.head _)
  | 46, _ => List.all_eq_true.1 deep4x46 _ (.head _)
  | 47, _ => List.all_eq_true.1 deep4x47 _ (.head _)
  | 48, _ => List.all_eq_true.1 deep4x48 _ (.head _)
  | 49, _ => List.all_eq_true.1 deep4x49 _ (.head _)
  | q + 50, h => absurd h (by omega)
theorem deep_all5 (a : Nat) (ha : a < 50) : runDeep [.cls 50 a, .cls 7 5] = true :=
  match a, ha with
  | 0, _ => List.all_eq_true.1 deep5x0 _ (.head _)
  | 1, _ => List.all_eq_true.1 deep5x0 _ (.tail _ (.head _))
  | 2, _ => List.all_eq_true.1 deep5x0 _ (.tail _ (.tail _ (.head _)))
  | 3, _ => List.all_eq_true.1 deep5x0 _ (.tail _ (.tail _ (.tail _ (.head _))))
  | 4, _ => List.all_eq_true.1 deep5x0 _ (.tail _ (.tail _ (.tail _ (.tail _ (.head _)))))
  | 5, _ => List.all_eq_true.1 deep5x0 _ (.tail _ (.tail _ (.tail _ (.tail _ (.tail _ (.head _))))))
  | 6, _ => List.all_eq_true.1 deep5x0 _ (.tail _ (.tail _ (.tail _ (.tail _ (.tail _ (.tail _ (.head _)))))))
  | 7, _ => List.all_eq_true.1 deep5x0 _ (.tail _ (.tail _ (.tail _ (.tail _ (.tail _ (.tail _ (.tail _ (.head _))))))))
  | 8, _ => List.all_eq_true.1 deep5x0 _ (.tail _ (.tail _ (.tail _ (.tail _ (.tail _ (.tail _ (.tail _ (.tail _ (.head _)))))))))
  | 9, _ => List.all_eq_true.1 deep5x0 _ (.tail _ (.tail _ (.tail _ (.tail _ (.tail _ (.tail _ (.tail _ (.tail _ (.tail _ (.head _))))))))))
  | 10, _ => List.all_eq_true.1 deep5x0 _ (.tail _ (.tail _ (.tail _ (.tail _ (.tail _ (.tail _ (.tail _ (.tail _ (.tail _ (.tail _ (.head _)))))))))))
  | 11, _ => List.all_eq_true.1 deep5x11 _ (.head _)
  | 12, _ => List.all_eq_true.1 deep5x11 _ (.tail _ (.head _))
  | 13, _ => List.all_eq_true.1 deep5x11 _ (.tail _ (.tail _ (.head _)))
  | 14, _ => List.all_eq_true.1 deep5x11 _ (.tail _ (.tail _ (.tail _ (.head _))))
  | 15, _ => List.all_eq_true.1 deep5x15 _ (.head _)
  | 16, _ => List.all_eq_true.1 deep5x15 _ (.tail _ (.head _))
  | 17, _ => List.all_eq_true.1 deep5x15 _ (.tail _ (.tail _ (.head _)))
  | 18, _ => List.all_eq_true.1 deep5x18 _ (.head _)
  | 19, _ => List.all_eq_true.1 deep5x18 _ (.tail _ (.head _))
  | 20, _ => List.all_eq_true.1 deep5x18 _ (.tail _ (.tail _ (.head _)))
  | 21, _ => List.all_eq_true.1 deep5x21 _ (.head _)
  | 22, _ => List.all_eq_true.1 deep5x21 _ (.tail _ (.head _))
  | 23, _ => List.all_eq_true.1 deep5x23 _ (.head _)
  | 24, _ => List.all_eq_true.1 deep5x23 _ (.tail _ (.head _))
  | 25, _ => List.all_eq_true.1 deep5x25 _ (.head _)
  | 26, _ => List.all_eq_true.1 deep5x25 _ (.tail _ (.head _))
  | 27, _ => List.all_eq_true.1 deep5x27 _ (.head _)
  | 28, _ => List.all_eq_true.1 deep5x27 _ (.tail _ (.head _))
  | 29, _ => List.all_eq_true.1 deep5x29 _ (.head _)
  | 30, _ => List.all_eq_true.1 deep5x29 _ (.tail _ (.head _))
  | 31, _ => List.all_eq_true.1 deep5x31 _ (.head _)
  | 32, _ => List.all_eq_true.1 deep5x31 _ (.tail _ (.head _))
  | 33, _ => List.all_eq_true.1 deep5x33 _ (.head _)
  | 34, _ => List.all_eq_true.1 deep5x34 _ (.head _)
  | 35, _ => List.all_eq_true.1 deep5x35 _ (.head _)
  | 36, _ => List.all_eq_true.1 deep5x36 _ (.head _)
  | 37, _ => List.all_eq_true.1 deep5x37 _ (.head _)
  | 38, _ => List.all_eq_true.1 deep5x38 _ (.head _)
  | 39, _ => List.all_eq_true.1 deep5x39 _ (.head _)
  | 40, _ => List.all_eq_true.1 deep5x40 _ (.head _)
  | 41, _ => List.all_eq_true.1 deep5x41 _ (.head _)
  | 42, _ => List.all_eq_true.1 deep5x42 _ (.head _)
  | 43, _ => List.all_eq_true.1 deep5x43 _ (.head _)
  | 44, _ => List.all_eq_true.1 deep5x44 _ (.head _)
  | 45, _ => List.all_eq_true.1 deep5x45 _ (.head _)
  | 46, _ => List.all_eq_true.1 deep5x46 _ (.head _)
  | 47, _ => List.all_eq_true.1 deep5x47 _ (.head _)
  | 48, _ => List.all_eq_true.1 deep5x48 _ (.head _)
  | 49, _ => List.all_eq_true.1 deep5x49 _ (.head _)
  | q + 50, h => absurd h (by omega)
theorem deep_all6 (a : Nat) (ha : a < 50) : runDeep [.cls 50 a, .cls 7 6] = true :=
  match a, ha with
  | 0, _ => List.all_eq_true.1 deep6x0 _ (.head _)
  | 1, _ => List.all_eq_true.1 deep6x0 _ (.tail _ (.head _))
  | 2, _ => List.all_eq_true.1 deep6x0 _ (.tail _ (.tail _ (.head _)))
  | 3, _ => List.all_eq_true.1 deep6x0 _ (.tail _ (.tail _ (.tail _ (.head _))))
  | 4, _ => List.all_eq_true.1 deep6x0 _ (.tail _ (.tail _ (.tail _ (.tail _ (.head _)))))
  | 5, _ => List.all_eq_true.1 deep6x0 _ (.tail _ (.tail _ (.tail _ (.tail _ (.tail _ (.head _))))))
  | 6, _ => List.all_eq_true.1 deep6x0 _ (.tail _ (.tail _ (.tail _ (.tail _ (.tail _ (.tail _ (.head _)))))))
  | 7, _ => List.all_eq_true.1 deep6x0 _ (.tail _ (.tail _ (.tail _ (.tail _ (.tail _ (.tail _ (.tail _ (.head _))))))))
  | 8, _ => List.all_eq_true.1 deep6x0 _ (.tail _ (.tail _ (.tail _ (.tail _ (.tail _ (.tail _ (.tail _ (.tail _ (.head _)))))))))
  | 9, _ => List.all_eq_true.1 deep6x0 _ (.tail _ (.tail _ (.tail _ (.tail _ (.tail _ (.tail _ (.tail _ (.tail _ (.tail _ (.head _))))))))))
  | 10, _ => List.all_eq_true.1 deep6x10 _ (.head _)
  | 11, _ => List.all_eq_true.1 deep6x10 _ (.tail _ (.head _))
  | 12, _ => List.all_eq_true.1 deep6x10 _ (.tail _ (.tail _ (.head _)))
  | 13, _ => List.all_eq_true.1 deep6x10 _ (.tail _ (.tail _ (.tail _ (.head _))))
  | 14, _ => List.all_eq_true.1 deep6x14 _ (.head _)
  | 15, _ => List.all_eq_true.1 deep6x14 _ (.tail _ (.head _))
  | 16, _ => List.all_eq_true.1 deep6x14 _ (.tail _ (.tail _ (.head _)))
  | 17, _ => List.all_eq_true.1 deep6x17 _ (.head _)
  | 18, _ => List.all_eq_true.1 deep6x17 _ (.tail _ (.head _))
  | 19, _ => List.all_eq_true.1 deep6x19 _ (.head _)
  | 20, _ => List.all_eq_true.1 deep6x19 _ (.tail _ (.head _))
  | 21, _ => List.all_eq_true.1 deep6x21 _ (.head _)
  | 22, _ => List.all_eq_true.1 deep6x21 _ (.tail _ (.head _))
  | 23, _ => List.all_eq_true.1 deep6x23 _ (.head _)
  | 24, _ => List.all_eq_true.1 deep6x23 _ (.tail _ (.head _))
  | 25, _ => List.all_eq_true.1 deep6x25 _ (.head _)
  | 26, _ => List.all_eq_true.1 deep6x25 _ (.tail _ (.head _))
  | 27, _ => List.all_eq_true.1 deep6x27 _ (.head _)
  | 28, _ => List.all_eq_true.1 deep6x28 _ (.head _)
  | 29, _ => List.all_eq_true.1 deep6x29 _ (.head _)
  | 30, _ => List.all_eq_true.1 deep6x30 _ (.head _)
  | 31, _ => List.all_eq_true.1 deep6x31 _ (.head _)
  | 32, _ => List.all_eq_true.1 deep6x32 _ (.head _)
  | 33, _ => List.all_eq_true.1 deep6x33 _ (.head _)
  | 34, _ => List.all_eq_true.1 deep6x34 _ (.head _)
  | 35, _ => List.all_eq_true.1 deep6x35 _ (.head _)
  | 36, _ => List.all_eq_true.1 deep6x36 _ (.head _)
  | 37, _ => List.all_eq_true.1 deep6x37 _ (.head _)
  | 38, _ => List.all_eq_true.1 deep6x38 _ (.head _)
  | 39, _ => List.all_eq_true.1 deep6x39 _ (.head _)
  | 40, _ => List.all_eq_true.1 deep6x40 _ (.head _)
  | 41, _ => List.all_eq_true.1 deep6x41 _ (.head _)
  | 42, _ => List.all_eq_true.1 deep6x42 _ (.head _)
  | 43, _ => List.all_eq_true.1 deep6x43 _ (.head _)
  | 44, _ => List.all_eq_true.1 deep6x44 _ (.head _)
  | 45, _ => List.all_eq_true.1 deep6x45 _ (.head _)
  | 46, _ => List.all_eq_true.1 deep6x46 _ (.head _)
  | 47, _ => List.all_eq_true.1 deep6x47 _ (.head _)
  | 48, _ => List.all_eq_true.1 deep6x48 _ (.head _)
  | 49, _ => List.all_eq_true.1 deep6x49 _ (.head _)
  | q + 50, h => absurd h (by omega)
theorem deep_all (a : Nat) (ha : a < 50) (b : Nat) (hb : b < 7) : runDeep [.cls 50 a, .cls 7 b] = true :=
  match b, hb with
  | 0, _ => deep_all0 a ha
  | 1, _ => deep_all1 a ha
  | 2, _ => deep_all2 a ha
  | 3, _ => deep_all3 a ha
  | 4, _ => deep_all4 a ha
  | 5, _ => deep_all5 a ha
  | 6, _ => deep_all6 a ha
  | q + 7, h => absurd h (by omega)

theorem deep_walk {W : World} (hW : At W) (a : Int) (b : Int) : Calls Tryz.prog 3 #[.int .i64 a, .int .i64 b] W fun e w' => e = .returned (.bool true) ∧ W.keptBut w' (fun _ => False) := by
  obtain ⟨qa, ha, ra⟩ := cls_of 50 (by omega) a
  obtain ⟨qb, hb, rb⟩ := cls_of 7 (by omega) b
  have hB := deep_all qa ha qb hb
  unfold runDeep at hB
  split at hB
  · rename_i b' h' he
    subst hB
    have hA : CallFnOk Tryz.prog W callDeep := ext2_sound hW 300 5000
    exact closes hW (hA 3 _ h0 _ h' he) (.cons (ra _) (.cons (rb _) .nil))
  · cases hB

set_option maxRecDepth 100000 in
/-- What the walk gives, for every argument and every world that holds the tables. -/
theorem deep_contract (H : Type) (enc : TypeId × Value → H) (W : World) (base : Nat) (args : Array Value) (ds gs : List (DataW H)) (before : List MemPlace)
    (hval : ∀ (j : Nat) t v, Tryz.f3.params[j]? = some t → args[j]? = some v → Value.okWide Tryz.prog W .any base t v)
    (hW : DataW.Whole enc Tryz.prog Tryz.f3.params.toList Rows.compileDeepSpec.vars false W args.toList ds gs before) (hA : At W) :
    Calls Tryz.prog 3 args W fun e W' => ∃ v, e = .returned v ∧ Rows.compileDeepSpec.post enc Tryz.prog Tryz.f3 false true false false W args v W' := by
  have hW' := hW
  obtain ⟨p, q, hA0, hV, rfl, hfz, hnd⟩ := hW
  have hT : DataW.TrodAll enc Tryz.prog W 0 (fun _ => true) true Tryz.f3.params.toList args.toList ds p := hA0
  rw [Tryz.params3] at hT hval
  obtain ⟨v0, v1, d0, d1, p0, p1, rfl, rfl, rfl, t0, t1⟩ := trodAll_two hT
  obtain ⟨rfl, rfl⟩ := trodVars_none hV
  obtain ⟨a, rfl, rfl, rfl, wa⟩ := open_int Tryz.underlying3 (hval 0 3 v0 rfl rfl) t0
  obtain ⟨b, rfl, rfl, rfl, wb⟩ := open_int Tryz.underlying3 (hval 1 3 v1 rfl rfl) t1
  refine (deep_walk hA a b).mono ?_
  rintro e W' ⟨rfl, hk⟩
  refine ⟨_, rfl, _, _, _, [], [], [], hW', trodAll_mk1 (shut_bool Tryz.underlying4 true), trodAll_mk2 (shut_int Tryz.underlying3 wa) (shut_int Tryz.underlying3 wb), rfl, World.keptBut_mono (fun _ h => h.elim) hk, fun h => by cases h⟩

theorem deep_laid_met (os : Os) (args : Array Value) : laidMet Tryz.prog Rows.compileDeepRow.laid ((laidWorld os).forCall (fun _ _ => 0) ⟨#[], args, []⟩).memory :=
  laidMet_of_run' 8 (by kernel_rfl) (by kernel_rfl)
theorem deep_reads (os : Os) {H : Type} (enc : TypeId × Value → H) : ∃ places, DataW.whole enc Tryz.prog ((laidWorld os).forCall (fun _ _ => 0) ⟨#[], #[.int .i64 0, .int .i64 0], []⟩).memory Tryz.f3.params.toList Rows.compileDeepSpec.vars false #[Value.int .i64 0, Value.int .i64 0].toList 8 = some ([.lit (.int .i64 0), .lit (.int .i64 0)], [], places) :=
  ⟨[], by kernel_rfl⟩

set_option maxRecDepth 100000 in
theorem deep_lifted (os : Os) (started : os.Started) (H : Type) (enc : TypeId × Value → H) (F : Stop.Interp) :
    ReturnsInHanded {} Tryz.checked os 3 .any ((OpenSpec.ofChange Rows.compileDeepSpec).preRow enc Tryz.prog Tryz.f3 Rows.compileDeepRow.domain false Rows.compileDeepRow.laid) (((OpenSpec.ofChange Rows.compileDeepSpec).at F).post enc Tryz.prog Tryz.f3 false true false false) := by
  obtain ⟨places, hx⟩ := deep_reads os enc
  refine returnsInHanded_of_row (C := Tryz.checked) (s := OpenSpec.ofChange Rows.compileDeepSpec) own started (by kernel_rfl) Tryz.func3
    (witness_row_atRef (enc := enc) (C := Tryz.checked) false (laidWorld os) #[.int .i64 0, .int .i64 0] rfl (by kernel_rfl) (by kernel_rfl) (by kernel_rfl)
      (OpenSpec.preRow_of_cond 8 hx (by kernel_rfl) (fun k hk => by cases hk) (by kernel_rfl) (deep_laid_met os _))) ?_
  intro W base args ds gs before hval hW _ _ _ hL hsh _
  exact deep_contract H enc W base args ds gs before hval hW (at_of hL hsh)

theorem deep_said : Rows.CompileDeepSaid :=
  OpenClaim.holds_of_cond 3 Tryz.f3 rfl rfl rfl rfl rfl rfl rfl ⟨rfl, rfl, rfl, rfl, rfl⟩ rfl rfl rfl rfl rfl (by kernel_rfl) Tryz.func3 (by kernel_rfl)
    (of_decide_eq_true (by kernel_rfl)) (by unfold Func.isWrapper; first | (rw [if_pos (by decide +kernel)]; kernel_rfl) | (rw [if_neg (by decide +kernel)]; exact ⟨rfl, rfl⟩))
    (fun os started H enc _ F => by rw [OpenClaim.pre_eq_preRow]; exact deep_lifted os started H enc F)

/-- No parameter wants a stand-in; the program's own looks are off. -/
theorem deep_plain (f : FuncId) (fn : Func) (hf : Tryz.pinned.checked.prog.funcNamed "ossuary/ossuarylaw12.CompileDeep" = some f) (hfn : Tryz.pinned.checked.prog.funcs[f]? = some fn) :
    false = Tryz.pinned.checked.prog.looks [] ∧ ∀ (j : Nat) t, fn.params[j]? = some t → Tryz.pinned.checked.prog.wantsStandIn t = false := by
  obtain rfl : f = 3 := Option.some.inj ((show Tryz.prog.funcNamed "ossuary/ossuarylaw12.CompileDeep" = some 3 by kernel_rfl).symm.trans hf) |>.symm
  obtain rfl : fn = Tryz.f3 := (Option.some.inj (Tryz.func3.symm.trans hfn)).symm
  refine ⟨by kernel_rfl, fun j t ht => ?_⟩
  rw [Tryz.params3] at ht
  obtain rfl : t = 3 := by
    have := Array.mem_of_getElem? ht
    simpa using this
  exact (show Tryz.prog.wantsStandIn 3 = false by kernel_rfl)

/-- THE CARD. -/
theorem compileDeep_holds : Rows.CompileDeepCardSaid :=
  Claim7.holds_tied_plain_at .later [] _ _ _ _ deep_said (fun _ h => by cases h) (by kernel_rfl) (fun _ h => by cases h) compileDeep_row_tie rfl ⟨rfl, rfl⟩ (by kernel_rfl) rfl deep_plain (by kernel_rfl)

end Go.Proofs.YtoecccbjhmejiaaGreatDoor
