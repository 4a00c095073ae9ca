/- The walk of the function that makes letters small: for strings that a machine can hold. -/
import Derived.Test.YtkohmamikbdloaaGreatDoorProg
import Derived.ProofKit
import Derived.WalkKit
import Derived.Laws.IdiomStrings
import Derived.RegionTactic
import Derived.LoopTactic
import Derived.WalkMore
import Derived.Tactics
import Derived.Tactics2
import Derived.StillTactics
import Derived.Laws.Cells
import Derived.Laws.Slices
import Derived.Laws.Strings
import Derived.Laws.BytesString
set_option linter.all false
namespace Go.Proofs.YtkohmamikbdloaaGreatDoor
open Go.RowKit
def low (n : Nat) : Nat := if 65 ≤ n ∧ n ≤ 90 then n + 32 else n
def bAt (s : ByteArray) (j : Nat) : Nat := (s.data.getD j 0).toNat
theorem bAt_lt (s : ByteArray) (j : Nat) : bAt s j < 256 := UInt8.toNat_lt _
theorem low_lt {n : Nat} (h : n < 256) : low n < 256 := by unfold low; split <;> omega
/-- the letters, small -/
def lowS (s : ByteArray) : ByteArray := ⟨((List.range s.size).map fun j => UInt8.ofNat (low (bAt s j))).toArray⟩
def FI (s : ByteArray) (w : World) (k : Nat) (wr : World) : Prop :=
  (∀ j, j < s.size → wr.cell? ⟨w.heap.size, j, none⟩ = some (.int .u8 ((if j < k then low (bAt s j) else bAt s j : Nat) : Int))) ∧
  (∀ j, j < s.size → wr.frozen? ⟨w.heap.size, j, none⟩ = false) ∧ Below w.heap.size w wr
theorem FI_keep {s : ByteArray} {w wr : World} {k : Nat} (h : FI s w k wr) (hl : low (bAt s k) = bAt s k) : FI s w (k + 1) wr := by
  refine ⟨fun j hj => ?_, h.2⟩
  rw [h.1 j hj]
  by_cases e : j = k
  · subst e; rw [if_neg (Nat.lt_irrefl _), if_pos (Nat.lt_succ_self _), hl]
  · by_cases e2 : j < k
    · rw [if_pos e2, if_pos (by omega)]
    · rw [if_neg e2, if_neg (by omega)]
theorem FI_set {s : ByteArray} {w wr : World} {k : Nat} (h : FI s w k wr) (hk : k < s.size) {n : Int} (hn : n = (low (bAt s k) : Int)) : FI s w (k + 1) (wr.setCell ⟨w.heap.size, k, none⟩ (.int .u8 n)) := by
  refine ⟨fun j hj => ?_, fun j hj => ?_, ?_⟩
  · by_cases e : j = k
    · subst e
      rw [World.cell?_setCell_same _ _ _ (h.1 j hj), if_pos (Nat.lt_succ_self _), hn]
    · rw [World.cell?_setCell_other _ _ _ _ (by simpa using fun e2 => e e2.symm), h.1 j hj]
      by_cases e2 : j < k
      · rw [if_pos e2, if_pos (by omega)]
      · rw [if_neg e2, if_neg (by omega)]
  · rw [World.frozen?_setCell]; exact h.2.1 j hj
  · exact h.2.2.setCell (Nat.le_refl _) _
theorem FI_start (s : ByteArray) (w : World) (cap : Nat) : FI s w 0 (w.alloc (.cells (bytesRow s cap) 5 ((bytesRow s cap).size, (bytesRow s cap).size + 1))).drew := by
  refine ⟨fun j hj => ?_, fun j hj => ?_, ⟨rfl, rfl, rfl, by simp [World.drew], fun b hb => Below.heap_alloc _ _ _ hb⟩⟩
  · show (w.alloc _).cell? _ = _
    rw [World.cell?_alloc_mark, bytesRow_at s cap j hj, if_neg (Nat.not_lt_zero _)]
    have hj' : j < s.data.size := hj
    simp [bAt, Array.getElem?_eq_getElem hj']
  · show (w.alloc _).frozen? _ = _
    rw [World.frozen?_alloc_mark]
    have : s.data.size ≤ (bytesRow s cap).size := by simp [bytesRow]
    have hj' : j < s.data.size := hj
    have : ¬ (bytesRow s cap).size ≤ j := by omega
    simp [this]
set_option maxHeartbeats 1600000 in
set_option maxRecDepth 100000 in
theorem fold_calls (s : ByteArray) (hs : s.size < 9223372036854775808) (w : World) : Calls Tryz.prog 92 #[.string s] w fun e w' => e = .returned (.string (lowS s)) ∧ Below w.heap.size w w' := by
  have hconv := run_bytes_of_string (P := Tryz.prog) w 9 135 5 s Tryz.underlying9 Tryz.underlying135 Tryz.underlying5
  go_enter Tryz.func92, Tryz.ntmps92
  go_wp2
  clear hconv
  go_loopw [10] (fun i wr => ∃ k : Nat, k ≤ s.size ∧ i = .int .i64 k ∧ FI s w k wr)
    (fun i _ => s.size - (intOf i).toNat)
  case atStart =>
    exact ⟨0, Nat.zero_le _, rfl, FI_start s w _⟩
  case round =>
    obtain ⟨k, hk, rfl, hF⟩ := hrel
    by_cases hlt : k < s.size
    · have hcx : wr.cell? ⟨w.heap.size, k, none⟩ = some (.int .u8 (bAt s k : Int)) := by have := hF.1 k hlt; simpa using this
      have hfx : wr.frozen? ⟨w.heap.size, k, none⟩ = false := hF.2.1 k hlt
      have hb := bAt_lt s k
      have hK := @FI_keep s w wr k hF
      have hS := fun n => @FI_set s w wr k hF hlt n
      clear hF
      obtain ⟨x, hx⟩ : ∃ x, bAt s k = x := ⟨_, rfl⟩
      rw [hx] at hcx hb hK hS
      have HK : Hid (low x = x → FI s w (k + 1) wr) := hK
      have HS : Hid (∀ n : Int, n = (low x : Int) → FI s w (k + 1) (wr.setCell ⟨w.heap.size, k, none⟩ (.int .u8 n))) := hS
      clear hK hS hx
      have hms : Hid (s.size - (intOf (Value.int IntKind.i64 ((k + 1 : Nat) : Int))).toNat < s.size - (intOf (Value.int IntKind.i64 k)).toNat) := by show _ < _; simp only [intOf, Int.toNat_natCast]; omega
      go_wp2
      · exact ⟨⟨k + 1, hlt, rfl, HS.out _ (by unfold low; rw [if_pos (by omega)]; omega)⟩, hms.out⟩
      · exact ⟨⟨k + 1, hlt, rfl, HK.out (by unfold low; rw [if_neg (by omega)])⟩, hms.out⟩
      · exact ⟨⟨k + 1, hlt, rfl, HK.out (by unfold low; rw [if_neg (by omega)])⟩, hms.out⟩
    · obtain rfl : k = s.size := by omega
      have hback := run_convert_bytes_back (P := Tryz.prog) wr 135 9 5 ⟨w.heap.size, 0, none⟩ (grownCap w s.size 0 5) ((List.range s.size).map fun j => UInt8.ofNat (low (bAt s j))) Tryz.underlying135 Tryz.underlying5 Tryz.underlying9
        (fun j hj => by
          have hj' : j < s.size := by simpa using hj
          have := hF.1 j hj'
          have ha : (⟨w.heap.size, 0, none⟩ : Addr).add j = ⟨w.heap.size, j, none⟩ := by unfold Addr.add; split <;> simp_all
          simp only [List.getElem_map, List.getElem_range]
          rw [ha, this, if_pos hj']
          have := low_lt (bAt_lt s j)
          simp [UInt8.toNat_ofNat']
          omega)
      simp only [List.length_map, List.length_range] at hback
      have hB := hF.2.2
      clear hF
      go_wp2
      go_ret
      exact ⟨rfl, hB⟩
end Go.Proofs.YtkohmamikbdloaaGreatDoor
