/- The tie, last facts. -/
import Derived.Test.YtkohmamikbdloaaGreatDoorRows
import Derived.Test.YtkohmamikbdloaaGreatDoorPj
import Derived.LaidByTextLater
import Derived.SevenTiedAt
namespace Go.Proofs.YtkohmamikbdloaaGreatDoor
open Go
theorem T_d : ∀ os tape, varsDone Tryz.prog 400 (varsId Tryz.prog) os tape = true := fun _ _ => by kernel_rfl
end Go.Proofs.YtkohmamikbdloaaGreatDoor

namespace Go.Proofs.YtkohmamikbdloaaGreatDoor
open Go
theorem T_h1 : ∀ os tape, (DataW.laidRun Tryz.prog (varsWorld Tryz.prog 400 (varsId Tryz.prog) os tape).memory 8 (tieRows.map (·.1))).map (·.1) = some tieRows := fun _ _ => by kernel_rfl
end Go.Proofs.YtkohmamikbdloaaGreatDoor

namespace Go.Proofs.YtkohmamikbdloaaGreatDoor
open Go
theorem T_h2 : ∀ os tape, (DataW.laidRun Tryz.prog (varsWorld Tryz.prog 400 (varsId Tryz.prog) os tape).memory 8 (tieRows.map (·.1))).map (fun x => decide x.2.Nodup && laidRowsB Tryz.prog (varsWorld Tryz.prog 400 (varsId Tryz.prog) os tape).memory x.2) = some true := fun _ _ => by kernel_rfl
end Go.Proofs.YtkohmamikbdloaaGreatDoor
