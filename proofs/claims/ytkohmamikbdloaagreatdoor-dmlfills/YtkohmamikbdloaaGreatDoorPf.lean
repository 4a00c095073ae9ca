/- Segments of the example, by the kernel: d. -/
import Derived.Test.YtkohmamikbdloaaGreatDoorPb
import Derived.Test.YtkohmamikbdloaaGreatDoorXg
namespace Go.Sx
set_option maxRecDepth 1000000
theorem q1_t : chk gM q1 (runL gP gX gM [13, 12, 11, 10, 9, 7] s0) = todosS gP q1 := by kernel_rfl
theorem q4_t : chk gM q4 (runL gP gX gM [13, 12, 11, 10, 9, 7] (toR gP gM q3)) = todosS gP q4 := by kernel_rfl
theorem q10_t : chk gM q10 (runL gP gX gM [13, 12, 11, 10, 9, 7] (toR gP gM q9)) = todosS gP q10 := by kernel_rfl
theorem q15_t : chk gM q15 (runL gP gX gM [13, 12, 11, 10, 9, 7] (toR gP gM q14)) = todosS gP q15 := by kernel_rfl
theorem q23_t : chk gM q23 (runL gP gX gM [13, 12, 11, 10, 9, 7] (toR gP gM q22)) = todosS gP q23 := by kernel_rfl
end Go.Sx
