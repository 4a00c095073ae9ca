/- More closed facts of the row: no goroutine is started. -/
import Derived.Test.YtkohmamikbdloaaGreatDoorPl
set_option linter.all false
namespace Go.Proofs.YtkohmamikbdloaaGreatDoor
open Go.Sx
theorem named3 : Tryz.prog.funcNamed "tome/tomelaw44.DmlFills" = some 3 := by kernel_rfl
theorem wfText3 : Rows.dmlFillsRow.wfByText (OpenSpec.ofChange Rows.dmlFillsSpec) = true := by kernel_rfl
theorem g_a : ((Tryz.prog.funcs.toList.take 190).any Func.goes) = false := by kernel_rfl
theorem g_b : (((Tryz.prog.funcs.toList.drop 190).take 190).any Func.goes) = false := by kernel_rfl
theorem g_c : ((((Tryz.prog.funcs.toList.drop 190).drop 190).take 190).any Func.goes) = false := by kernel_rfl
theorem g_d : ((((Tryz.prog.funcs.toList.drop 190).drop 190).drop 190).any Func.goes) = false := by kernel_rfl
theorem any_cut {α : Type} (l : List α) (n : Nat) (f : α → Bool) (h1 : (l.take n).any f = false) (h2 : (l.drop n).any f = false) : l.any f = false := by
  rw [← List.take_append_drop n l, List.any_append, h1, h2]; rfl
theorem goesNone : Tryz.prog.funcs.toList.any Func.goes = false := any_cut _ _ _ g_a (any_cut _ _ _ g_b (any_cut _ _ _ g_c g_d))
theorem goes_any {P : Program} (h : P.funcs.toList.any Func.goes = false) (f : FuncId) : P.goes f = false := by
  have h2 : P.funcs.any Func.goes = false := by rw [← Array.any_toList]; exact h
  have h3 : (P.closure f).any (fun g => (P.funcs[g]?).any Func.goes) = false := by
    rw [List.any_eq_false]
    intro g _
    cases hg : P.funcs[g]? with
    | none => simp
    | some fn =>
      obtain ⟨hl, rfl⟩ := Array.getElem?_eq_some_iff.1 hg
      have := List.any_eq_false.1 h P.funcs[g] (Array.getElem_mem_toList hl)
      simpa using this
  unfold Program.goes
  rw [h2, h3, Bool.and_false]; rfl
theorem goes3 : Tryz.prog.goes 3 = false := goes_any goesNone 3
theorem goesBy3 : false = Rows.dmlFillsRow.goesBy Tryz.prog := by
  have h : Tryz.prog.goesFrom "tome/tomelaw44.DmlFills" = false := by
    unfold Program.goesFrom; rw [named3, Option.any_some]; exact goes3
  unfold OpenClaim.goesBy Program.goesAt
  show false = (Tryz.prog.goesFrom "tome/tomelaw44.DmlFills" || false)
  rw [h]; rfl
theorem looksT : true = Tryz.prog.looks [] := by kernel_rfl
theorem standIn3 : ([25, 26, 27].all fun u => !Tryz.prog.wantsStandIn u) = true := by kernel_rfl
theorem mainIs3 : Tryz.pinned.checked.prog.mainIs = some ((true, "77a73390ddd1d0950da67330fa1f95523f13d9f7f4d7633be846f475410e572b").1, (true, "77a73390ddd1d0950da67330fa1f95523f13d9f7f4d7633be846f475410e572b").2.toList) := by kernel_rfl
end Go.Proofs.YtkohmamikbdloaaGreatDoor
