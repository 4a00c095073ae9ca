/- The segments, one behind the other. -/
import Derived.Test.YtkohmamikbdloaaGreatDoorPc
import Derived.Test.YtkohmamikbdloaaGreatDoorPd
import Derived.Test.YtkohmamikbdloaaGreatDoorPe
import Derived.Test.YtkohmamikbdloaaGreatDoorPf
import Derived.Test.YtkohmamikbdloaaGreatDoorXg
set_option linter.all false
/- The segments, one behind the other. -/
namespace Go.Sx
theorem q1_l : Lead gP gX gM s0 (toR gP gM q1) := lead_chk q1_t
theorem q2_l : Lead gP gX gM (toR gP gM q1) (toR gP gM q2) := lead_chk q2_t
theorem q3_l : Lead gP gX gM (toR gP gM q2) (toR gP gM q3) := (lead_fork (l := [0]) (lead_chkR q3_t_0) (lead_chkR q3_t_1))
theorem q4_l : Lead gP gX gM (toR gP gM q3) (toR gP gM q4) := lead_chk q4_t
theorem q5_l : Lead gP gX gM (toR gP gM q4) (toR gP gM q5) := lead_chk q5_t
theorem q6_l : Lead gP gX gM (toR gP gM q5) (toR gP gM q6) := lead_chk q6_t
theorem q7_l : Lead gP gX gM (toR gP gM q6) (toR gP gM q7) := (lead_fork (l := [0]) (lead_fork (l := [3, 1]) (lead_chkR q7_t_0) (lead_chkR q7_t_1)) (lead_fork (l := [0]) (lead_fork (l := [3, 1]) (lead_chkR q7_t_2) (lead_chkR q7_t_3)) (lead_fork (l := [3, 1]) (lead_chkR q7_t_4) (lead_chkR q7_t_5))))
theorem q8_l : Lead gP gX gM (toR gP gM q7) (toR gP gM q8) := lead_chk q8_t
theorem q9_l : Lead gP gX gM (toR gP gM q8) (toR gP gM q9) := lead_chk q9_t
theorem q10_l : Lead gP gX gM (toR gP gM q9) (toR gP gM q10) := lead_chk q10_t
theorem q11_l : Lead gP gX gM (toR gP gM q10) (toR gP gM q11) := lead_chk q11_t
theorem q12_l : Lead gP gX gM (toR gP gM q11) (toR gP gM q12) := lead_chk q12_t
theorem q13_l : Lead gP gX gM (toR gP gM q12) (toR gP gM q13) := lead_chk q13_t
theorem q14_l : Lead gP gX gM (toR gP gM q13) (toR gP gM q14) := lead_chk q14_t
theorem q15_l : Lead gP gX gM (toR gP gM q14) (toR gP gM q15) := lead_chk q15_t
theorem q16_l : Lead gP gX gM (toR gP gM q15) (toR gP gM q16) := lead_chk q16_t
theorem q17_l : Lead gP gX gM (toR gP gM q16) (toR gP gM q17) := lead_chk q17_t
theorem q18_l : Lead gP gX gM (toR gP gM q17) (toR gP gM q18) := lead_chk q18_t
theorem q19_l : Lead gP gX gM (toR gP gM q18) (toR gP gM q19) := lead_chk q19_t
theorem q20_l : Lead gP gX gM (toR gP gM q19) (toR gP gM q20) := lead_chk q20_t
theorem q21_l : Lead gP gX gM (toR gP gM q20) (toR gP gM q21) := (lead_fork (l := [0]) (lead_chkR q21_t_0) (lead_chkR q21_t_1))
theorem q22_l : Lead gP gX gM (toR gP gM q21) (toR gP gM q22) := lead_chk q22_t
theorem q23_l : Lead gP gX gM (toR gP gM q22) (toR gP gM q23) := lead_chk q23_t
theorem q24_l : Ends gP gX gM (toR gP gM q23) := ends_of q24_t
theorem q_ends : Ends gP gX gM s0 := (q1_l.ends (q2_l.ends (q3_l.ends (q4_l.ends (q5_l.ends (q6_l.ends (q7_l.ends (q8_l.ends (q9_l.ends (q10_l.ends (q11_l.ends (q12_l.ends (q13_l.ends (q14_l.ends (q15_l.ends (q16_l.ends (q17_l.ends (q18_l.ends (q19_l.ends (q20_l.ends (q21_l.ends (q22_l.ends (q23_l.ends (q24_l))))))))))))))))))))))))
end Go.Sx
