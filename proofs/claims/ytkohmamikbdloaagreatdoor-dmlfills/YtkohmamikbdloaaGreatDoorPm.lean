/- The closed facts of the row. -/
import Derived.Test.YtkohmamikbdloaaGreatDoorPl
set_option linter.all false
namespace Go.Proofs.YtkohmamikbdloaaGreatDoor
theorem joined3 : joinedFacts Tryz.prog 3 Tryz.f3 Rows.dmlFillsSpec Rows.dmlFillsRow = true := by
  unfold joinedFacts
  rw [closed3.1, closed3.2.1, closed3.2.2, inPlace3, unfollowed3, recurses3, varsNamed3]
  kernel_rfl
end Go.Proofs.YtkohmamikbdloaaGreatDoor
