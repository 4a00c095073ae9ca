/- Segments of the example, by the kernel: b. -/
import Derived.Test.YtkohmamikbdloaaGreatDoorPb
import Derived.Test.YtkohmamikbdloaaGreatDoorXg
namespace Go.Sx
set_option maxRecDepth 1000000
theorem q3_t_0 : chkR gM [] q3 (runL gP gX gM [4, 3, 0] (forkA (runL gP gX gM [0] (toR gP gM q2)))) = todosS gP q3 := by kernel_rfl
theorem q3_t_1 : chkR gM [] q3 (runL gP gX gM [4, 3, 0] (forkB (runL gP gX gM [0] (toR gP gM q2)))) = todosS gP q3 := by kernel_rfl
theorem q6_t : chk gM q6 (runL gP gX gM [12, 11, 10, 8, 7, 5, 4, 3, 1, 0] (toR gP gM q5)) = todosS gP q6 := by kernel_rfl
theorem q7_t_0 : chkR gM [] q7 (runL gP gX gM [4, 3, 0] (forkA (runL gP gX gM [3, 1] (forkA (runL gP gX gM [0] (toR gP gM q6)))))) = todosS gP q7 := by kernel_rfl
theorem q7_t_1 : chkR gM [] q7 (runL gP gX gM [4, 3, 0] (forkB (runL gP gX gM [3, 1] (forkA (runL gP gX gM [0] (toR gP gM q6)))))) = todosS gP q7 := by kernel_rfl
theorem q7_t_2 : chkR gM [] q7 (runL gP gX gM [4, 3, 0] (forkA (runL gP gX gM [3, 1] (forkA (runL gP gX gM [0] (forkB (runL gP gX gM [0] (toR gP gM q6)))))))) = todosS gP q7 := by kernel_rfl
theorem q7_t_3 : chkR gM [] q7 (runL gP gX gM [4, 3, 0] (forkB (runL gP gX gM [3, 1] (forkA (runL gP gX gM [0] (forkB (runL gP gX gM [0] (toR gP gM q6)))))))) = todosS gP q7 := by kernel_rfl
theorem q7_t_4 : chkR gM [] q7 (runL gP gX gM [4, 3, 0] (forkA (runL gP gX gM [3, 1] (forkB (runL gP gX gM [0] (forkB (runL gP gX gM [0] (toR gP gM q6)))))))) = todosS gP q7 := by kernel_rfl
theorem q7_t_5 : chkR gM [] q7 (runL gP gX gM [4, 3, 0] (forkB (runL gP gX gM [3, 1] (forkB (runL gP gX gM [0] (forkB (runL gP gX gM [0] (toR gP gM q6)))))))) = todosS gP q7 := by kernel_rfl
theorem q8_t : chk gM q8 (runL gP gX gM [13, 12, 11, 10, 9, 7] (toR gP gM q7)) = todosS gP q8 := by kernel_rfl
theorem q13_t : chk gM q13 (runL gP gX gM [13, 12, 11, 10, 9, 7] (toR gP gM q12)) = todosS gP q13 := by kernel_rfl
theorem q16_t : chk gM q16 (runL gP gX gM [13, 12, 11, 10, 9, 7, 1, 0] (toR gP gM q15)) = todosS gP q16 := by kernel_rfl
theorem q18_t : chk gM q18 (runL gP gX gM [13, 12, 11, 10, 9, 7] (toR gP gM q17)) = todosS gP q18 := by kernel_rfl
theorem q21_t_0 : chkR gM [] q21 (runL gP gX gM [12, 7, 6, 5, 3, 1, 0] (forkA (runL gP gX gM [0] (toR gP gM q20)))) = todosS gP q21 := by kernel_rfl
theorem q21_t_1 : chkR gM [(5205, 5204)] q21 (runL gP gX gM [12, 7, 6, 5, 3, 2, 1] (forkB (runL gP gX gM [0] (toR gP gM q20)))) = todosS gP q21 := by kernel_rfl
end Go.Sx
