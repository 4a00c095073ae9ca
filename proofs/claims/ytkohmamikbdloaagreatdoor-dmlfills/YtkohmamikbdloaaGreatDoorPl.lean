/- What the law names. -/
import Derived.Test.YtkohmamikbdloaaGreatDoorPk
set_option linter.all false
namespace Go.Proofs.YtkohmamikbdloaaGreatDoor
open Go.Sx
theorem inPlace3 : Tryz.prog.inPlace 3 = Rows.dmlFillsRow.inPlace := by
  unfold Program.inPlace; rw [clo3]; kernel_rfl
theorem unfollowed3 : Tryz.prog.unfollowed 3 = true := by
  unfold Program.unfollowed; rw [clo3]; kernel_rfl
theorem recurses3 : Tryz.prog.recurses 3 = true := by
  unfold Program.recurses; rw [unfollowed3]; rfl
theorem varsNamed3 : Tryz.prog.varsNamed 3 = Rows.dmlFillsRow.named := by
  unfold Program.varsNamed; rw [clo3]; kernel_rfl
end Go.Proofs.YtkohmamikbdloaaGreatDoor
