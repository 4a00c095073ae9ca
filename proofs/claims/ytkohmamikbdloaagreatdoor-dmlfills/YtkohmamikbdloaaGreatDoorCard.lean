/- The law DmlFills returns true for every input, and its arguments read behind it as before: the tied card. -/
import Derived.Test.YtkohmamikbdloaaGreatDoorPn
import Derived.Test.YtkohmamikbdloaaGreatDoorPq
import Derived.Test.YtkohmamikbdloaaGreatDoorTa
import Derived.Test.YtkohmamikbdloaaGreatDoorTb
import Derived.Test.YtkohmamikbdloaaGreatDoorTc
set_option linter.all false
namespace Go.Proofs.YtkohmamikbdloaaGreatDoor
open Go
theorem pin_first : Tryz.pinned.checked.prog.pinnedFits "unicode/utf8.first" = true := by kernel_rfl
theorem noOwn : Tryz.pinned.checked.prog.headLifts.contains "ownunsafe" = false := by kernel_rfl
theorem fitsL : Tryz.pinned.checked.prog.listedFits laidL = true := by
  unfold Program.listedFits
  rw [noOwn]
  kernel_rfl
theorem tieL : Tryz.prog.laidByTextLater tieRows [.data] true :=
  Program.laidByTextLater_by_run 400 8 T_w T_w2 T_root T_k T_g T_n T_d T_h1 T_h2
theorem fills_tie : Rows.dmlFillsRow.laidByTextAt .later Tryz.pinned [.pinned, .data] true :=
  OpenClaim.laidByTextAt_pinned rfl rfl tieL rfl rfl rfl rfl (fun y hy _e => by
    simp only [Rows.dmlFillsRow, List.zip_cons_cons, List.zip_nil_right, List.mem_cons, List.mem_nil_iff, or_false] at hy
    rcases hy with rfl | rfl
    · exact ⟨pin_first, by kernel_rfl⟩
    · cases _e) fitsL
theorem fills_card : Rows.DmlFillsCardSaid :=
  Claim7.holds_tied_plain_at .later [] [.pinned, .data] true (true, "77a73390ddd1d0950da67330fa1f95523f13d9f7f4d7633be846f475410e572b") true
    fills_holds (fun _ h => by cases h) wfText3 (fun _ h => by cases h) fills_tie rfl ⟨rfl, rfl⟩ mainIs3 rfl
    (fun f fn hf hfn => by
      obtain rfl : f = 3 := Option.some.inj (named3.symm.trans hf) |>.symm
      obtain rfl : fn = Tryz.f3 := (Option.some.inj (Tryz.func3.symm.trans hfn)).symm
      exact ⟨looksT, fun j t ht => by
        rw [Tryz.params3] at ht
        have hm : t ∈ [25, 26, 27] := by simpa using Array.mem_of_getElem? ht
        exact (show Tryz.prog.wantsStandIn t = false by simpa using List.all_eq_true.1 standIn3 t hm)⟩)
    goesBy3
#print axioms fills_card
end Go.Proofs.YtkohmamikbdloaaGreatDoor
