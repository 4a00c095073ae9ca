/- Segments of the example, by the kernel: a. -/
import Derived.Test.YtkohmamikbdloaaGreatDoorPb
import Derived.Test.YtkohmamikbdloaaGreatDoorXg
namespace Go.Sx
set_option maxRecDepth 1000000
theorem q2_t : chk gM q2 (runL gP gX gM [12, 10, 7, 6, 4] (toR gP gM q1)) = todosS gP q2 := by kernel_rfl
theorem q9_t : chk gM q9 (runL gP gX gM [13, 12, 11, 10, 9, 7] (toR gP gM q8)) = todosS gP q9 := by kernel_rfl
theorem q12_t : chk gM q12 (runL gP gX gM [13, 12, 11, 10, 9, 7, 2, 0] (toR gP gM q11)) = todosS gP q12 := by kernel_rfl
theorem q14_t : chk gM q14 (runL gP gX gM [13, 12, 11, 10, 9, 7] (toR gP gM q13)) = todosS gP q14 := by kernel_rfl
theorem q20_t : chk gM q20 (runL gP gX gM [11, 9, 8, 7, 5, 4, 3, 0] (toR gP gM q19)) = todosS gP q20 := by kernel_rfl
theorem q22_t : chk gM q22 (runL gP gX gM [13, 12, 11, 10, 9, 7] (toR gP gM q21)) = todosS gP q22 := by kernel_rfl
end Go.Sx
