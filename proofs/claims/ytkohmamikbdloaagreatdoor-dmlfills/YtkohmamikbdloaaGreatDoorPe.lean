/- Segments of the example, by the kernel: c. -/
import Derived.Test.YtkohmamikbdloaaGreatDoorPb
import Derived.Test.YtkohmamikbdloaaGreatDoorXg
namespace Go.Sx
set_option maxRecDepth 1000000
theorem q5_t : chk gM q5 (runL gP gX gM [13, 12, 11, 10, 9, 7] (toR gP gM q4)) = todosS gP q5 := by kernel_rfl
theorem q11_t : chk gM q11 (runL gP gX gM [13, 12, 11, 10, 9, 7] (toR gP gM q10)) = todosS gP q11 := by kernel_rfl
theorem q17_t : chk gM q17 (runL gP gX gM [13, 12, 11, 10, 9, 7] (toR gP gM q16)) = todosS gP q17 := by kernel_rfl
theorem q19_t : chk gM q19 (runL gP gX gM [13, 12, 11, 10, 9, 7, 0] (toR gP gM q18)) = todosS gP q19 := by kernel_rfl
theorem q24_t : finTrue (runL gP gX gM [13, 10, 9, 8, 7, 5, 4, 1, 0] (toR gP gM q23)) = true := by kernel_rfl
end Go.Sx
