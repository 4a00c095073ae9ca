/- Closed facts of the program. -/
import Derived.Test.YtkohmamikbdloaaGreatDoorCards
import Derived.ProofKit
import Derived.ClosedOfChecked
import Derived.SevenTiedAt
import Derived.Stop.Joined
namespace Go.Proofs.YtkohmamikbdloaaGreatDoor
abbrev tieRows : List (String × DataW Unit) := [("unicode/utf8.acceptRanges", Rows.laid_unicode_utf8_acceptRanges)]
theorem own : ownKnob Tryz.prog.godebug = none := by kernel_rfl
theorem closed3 : laidOutB Tryz.prog = true ∧ mapsRowed Tryz.prog = true ∧ Tryz.prog.plainKeys = true :=
  Go.ClosedOfChecked.closed_of_checked Tryz.checked (by kernel_rfl) (by kernel_rfl) (by kernel_rfl)
theorem laidOut : laidOutB Tryz.prog = true := closed3.1
end Go.Proofs.YtkohmamikbdloaaGreatDoor
