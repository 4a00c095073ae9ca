/-
  DERIVED. GIVEN WITH THE SEED: THE CARDS: each row of YtkohmamikbdloaaGreatDoorRows.lean that lists a variable, with what it lists TIED to the program's text (the seventh form; the later family's looks); each row that meets fmt, with fmt's text TOLD by the authors' own Lean function (tested against real Go, not proved from fmt's source: count such statements apart). THE CARD IS WHAT COUNTS. Prove the row's statement (the work); the ties are given (YtkohmamikbdloaaGreatDoorTie.lean); close each card by the builder's one call (the guide's Derived/Test/ToyasCard.lean, 'card_holds'). Laid BY PROGRAM, IN A SANDBOX (cutbox-door.mjs). By AI agents, Wed Nov 11 2026. No macro, syntax, notation, axiom, sorry.
-/
import Derived.Test.YtkohmamikbdloaaGreatDoorRows
import GoSem.ClaimSeven
namespace Go.Proofs.YtkohmamikbdloaaGreatDoor
namespace Rows

/-- THE TIED CARD OF 'tomelaw44.DmlFills'. -/
def dmlFillsCard : Claim7 := { stood := { row := dmlFillsRow, standIns := [], harness := (true, "77a73390ddd1d0950da67330fa1f95523f13d9f7f4d7633be846f475410e572b"), looks := true }, kinds := [], alts := [], laidByText := true, laidKinds := [.pinned, .data], laidTests := true, laidLooks := .later }
def DmlFillsCardSaid : Prop := Claim7.holds Tryz.pinned (.plain (OpenSpec.ofChange dmlFillsSpec)) dmlFillsCard

/-- THE TIED CARD OF 'tomelaw44.DmlNobody'. -/
def dmlNobodyCard : Claim7 := { stood := { row := dmlNobodyRow, standIns := [], harness := (true, "77a73390ddd1d0950da67330fa1f95523f13d9f7f4d7633be846f475410e572b"), looks := true }, kinds := [], alts := [], laidByText := true, laidKinds := [.pinned, .data], laidTests := true, laidLooks := .later }
def DmlNobodyCardSaid : Prop := Claim7.holds Tryz.pinned (.plain (OpenSpec.ofChange dmlNobodySpec)) dmlNobodyCard

/-- THE SECOND FORM's CARD OF 'tomelaw44.DmlFills'. -/
def dmlFillsUptoCard : Claim7 := { stood := { row := dmlFillsUptoRow, standIns := [], harness := (true, "77a73390ddd1d0950da67330fa1f95523f13d9f7f4d7633be846f475410e572b"), looks := true }, kinds := [], alts := [], laidByText := true, laidKinds := [.pinned, .data], laidTests := true, laidLooks := .later }
def DmlFillsUptoCardSaid : Prop := Claim7.holds Tryz.pinned (.plain (OpenSpec.upto dmlFillsSpec)) dmlFillsUptoCard

/-- THE SECOND FORM's CARD OF 'tomelaw44.DmlNobody'. -/
def dmlNobodyUptoCard : Claim7 := { stood := { row := dmlNobodyUptoRow, standIns := [], harness := (true, "77a73390ddd1d0950da67330fa1f95523f13d9f7f4d7633be846f475410e572b"), looks := true }, kinds := [], alts := [], laidByText := true, laidKinds := [.pinned, .data], laidTests := true, laidLooks := .later }
def DmlNobodyUptoCardSaid : Prop := Claim7.holds Tryz.pinned (.plain (OpenSpec.upto dmlNobodySpec)) dmlNobodyUptoCard
end Rows
end Go.Proofs.YtkohmamikbdloaaGreatDoor
