/- The closed facts of the row. -/
import Derived.Test.YtkohmamikbdloaaGreatDoorPl
namespace Go.Proofs.YtkohmamikbdloaaGreatDoor
theorem joined4 : joinedFacts Tryz.prog 4 Tryz.f4 Rows.dmlNobodySpec Rows.dmlNobodyRow = true := by
  unfold joinedFacts
  rw [closed3.1, closed3.2.1, closed3.2.2, inPlace4, unfollowed4, recurses4, varsNamed4]
  kernel_rfl
end Go.Proofs.YtkohmamikbdloaaGreatDoor
