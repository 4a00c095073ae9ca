/- The tie, more facts. -/
import Derived.Test.YtkohmamikbdloaaGreatDoorRows
import Derived.Test.YtkohmamikbdloaaGreatDoorPj
import Derived.LaidByTextLater
import Derived.SevenTiedAt
namespace Go.Proofs.YtkohmamikbdloaaGreatDoor
open Go
theorem T_k : tieRows.map (fun x => Tryz.prog.kindOfLater x.1) = [LaidKind.data].map some := by kernel_rfl
end Go.Proofs.YtkohmamikbdloaaGreatDoor

namespace Go.Proofs.YtkohmamikbdloaaGreatDoor
open Go
theorem T_g : (Tryz.prog.funcNamed "gosem.cut.vars").isSome = true := by kernel_rfl
end Go.Proofs.YtkohmamikbdloaaGreatDoor

namespace Go.Proofs.YtkohmamikbdloaaGreatDoor
open Go
theorem T_n : varsNamedLaterB Tryz.prog (varsId Tryz.prog) tieRows = true := by kernel_rfl
end Go.Proofs.YtkohmamikbdloaaGreatDoor
