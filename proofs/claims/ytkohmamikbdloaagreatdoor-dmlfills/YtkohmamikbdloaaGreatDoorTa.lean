/- The tie, first facts. -/
import Derived.Test.YtkohmamikbdloaaGreatDoorRows
import Derived.Test.YtkohmamikbdloaaGreatDoorPj
import Derived.LaidByTextLater
import Derived.SevenTiedAt
namespace Go.Proofs.YtkohmamikbdloaaGreatDoor
open Go
theorem T_w : Tryz.prog.worded (varsWordLater true) = true := by kernel_rfl
end Go.Proofs.YtkohmamikbdloaaGreatDoor

namespace Go.Proofs.YtkohmamikbdloaaGreatDoor
open Go
theorem T_w2 : Tryz.prog.worded (varsWordLater !true) = false := by kernel_rfl
end Go.Proofs.YtkohmamikbdloaaGreatDoor

namespace Go.Proofs.YtkohmamikbdloaaGreatDoor
open Go
theorem T_root : Tryz.prog.worded rootWordLater = true := by kernel_rfl
end Go.Proofs.YtkohmamikbdloaaGreatDoor
