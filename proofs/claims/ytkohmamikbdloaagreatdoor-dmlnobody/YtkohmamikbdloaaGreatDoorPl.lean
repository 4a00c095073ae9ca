/- What the law names. -/
import Derived.Test.YtkohmamikbdloaaGreatDoorPk
namespace Go.Proofs.YtkohmamikbdloaaGreatDoor
open Go.Sx
theorem inPlace4 : Tryz.prog.inPlace 4 = Rows.dmlNobodyRow.inPlace := by
  unfold Program.inPlace; rw [clo4]; kernel_rfl
theorem unfollowed4 : Tryz.prog.unfollowed 4 = true := by
  unfold Program.unfollowed; rw [clo4]; kernel_rfl
theorem recurses4 : Tryz.prog.recurses 4 = true := by
  unfold Program.recurses; rw [unfollowed4]; rfl
theorem varsNamed4 : Tryz.prog.varsNamed 4 = Rows.dmlNobodyRow.named := by
  unfold Program.varsNamed; rw [clo4]; kernel_rfl
end Go.Proofs.YtkohmamikbdloaaGreatDoor
