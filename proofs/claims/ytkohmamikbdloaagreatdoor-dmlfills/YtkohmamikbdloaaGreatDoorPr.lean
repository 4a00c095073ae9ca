/- The walks of the small functions: names are folded, compared, sought; rows of values are compared. -/
import Derived.Test.YtkohmamikbdloaaGreatDoorPh
import Derived.ProofKit
import Derived.WalkKit
import Derived.Laws.IdiomStrings
import Derived.RegionTactic
import Derived.LoopTactic
import Derived.WalkMore
import Derived.Tactics
import Derived.Tactics2
import Derived.StillTactics
import Derived.Laws.Cells
import Derived.Laws.Slices
import Derived.Laws.Strings
import Derived.Laws.BytesString
import Derived.Laws.Concat
import Derived.BigCall
import Derived.RegionCalls
import Derived.Deep.QuietTactic
import Derived.BigQuiet
set_option linter.all false
namespace Go.Proofs.YtkohmamikbdloaaGreatDoor
open Go.RowKit
set_option maxHeartbeats 1600000 in
set_option maxRecDepth 100000 in
theorem dfold_calls (s : ByteArray) (hs : s.size < 9223372036854775808) (w : World) : Calls Tryz.prog 136 #[.string s] w fun e w' => e = .returned (.string (lowS s)) ∧ Below w.heap.size w w' := by
  have hconv := run_bytes_of_string (P := Tryz.prog) w 9 135 5 s Tryz.underlying9 Tryz.underlying135 Tryz.underlying5
  go_enter Tryz.func136, Tryz.ntmps136
  go_wp2
  clear hconv
  go_loopw [10] (fun i wr => ∃ k : Nat, k ≤ s.size ∧ i = .int .i64 k ∧ FI s w k wr)
    (fun i _ => s.size - (intOf i).toNat)
  case atStart =>
    exact ⟨0, Nat.zero_le _, rfl, FI_start s w _⟩
  case round =>
    obtain ⟨k, hk, rfl, hF⟩ := hrel
    by_cases hlt : k < s.size
    · have hcx : wr.cell? ⟨w.heap.size, k, none⟩ = some (.int .u8 (bAt s k : Int)) := by have := hF.1 k hlt; simpa using this
      have hfx : wr.frozen? ⟨w.heap.size, k, none⟩ = false := hF.2.1 k hlt
      have hb := bAt_lt s k
      have hK := @FI_keep s w wr k hF
      have hS := fun n => @FI_set s w wr k hF hlt n
      clear hF
      obtain ⟨x, hx⟩ : ∃ x, bAt s k = x := ⟨_, rfl⟩
      rw [hx] at hcx hb hK hS
      have HK : Hid (low x = x → FI s w (k + 1) wr) := hK
      have HS : Hid (∀ n : Int, n = (low x : Int) → FI s w (k + 1) (wr.setCell ⟨w.heap.size, k, none⟩ (.int .u8 n))) := hS
      clear hK hS hx
      have hms : Hid (s.size - (intOf (Value.int IntKind.i64 ((k + 1 : Nat) : Int))).toNat < s.size - (intOf (Value.int IntKind.i64 k)).toNat) := by show _ < _; simp only [intOf, Int.toNat_natCast]; omega
      go_wp2
      · exact ⟨⟨k + 1, hlt, rfl, HS.out _ (by unfold low; rw [if_pos (by omega)]; omega)⟩, hms.out⟩
      · exact ⟨⟨k + 1, hlt, rfl, HK.out (by unfold low; rw [if_neg (by omega)])⟩, hms.out⟩
      · exact ⟨⟨k + 1, hlt, rfl, HK.out (by unfold low; rw [if_neg (by omega)])⟩, hms.out⟩
    · obtain rfl : k = s.size := by omega
      have hback := run_convert_bytes_back (P := Tryz.prog) wr 135 9 5 ⟨w.heap.size, 0, none⟩ (grownCap w s.size 0 5) ((List.range s.size).map fun j => UInt8.ofNat (low (bAt s j))) Tryz.underlying135 Tryz.underlying5 Tryz.underlying9
        (fun j hj => by
          have hj' : j < s.size := by simpa using hj
          have := hF.1 j hj'
          have ha : (⟨w.heap.size, 0, none⟩ : Addr).add j = ⟨w.heap.size, j, none⟩ := by unfold Addr.add; split <;> simp_all
          simp only [List.getElem_map, List.getElem_range]
          rw [ha, this, if_pos hj']
          have := low_lt (bAt_lt s j)
          simp [UInt8.toNat_ofNat']
          omega)
      simp only [List.length_map, List.length_range] at hback
      have hB := hF.2.2
      clear hF
      go_wp2
      go_ret
      exact ⟨rfl, hB⟩
end Go.Proofs.YtkohmamikbdloaaGreatDoor

namespace Go.Proofs.YtkohmamikbdloaaGreatDoor
open Go.RowKit
def lowK (s : ByteArray) (k : Nat) : ByteArray := ⟨((List.range k).map fun j => UInt8.ofNat (low (bAt s j))).toArray⟩
theorem lowK_size (s : ByteArray) (k : Nat) : (lowK s k).size = k := by simp [lowK, ByteArray.size]
theorem lowK_succ (s : ByteArray) (k : Nat) {c : UInt8} (h : c = UInt8.ofNat (low (bAt s k))) : lowK s k ++ ⟨#[c]⟩ = lowK s (k + 1) := by
  subst h
  apply ByteArray.ext
  rw [ByteArray.data_append]
  apply Array.ext'
  simp [lowK, List.range_succ]
theorem one_byte (wr : World) (n : Nat) (hn : n < 256) : (convert 135 9 (.slice (some ⟨wr.heap.size, 0, none⟩) 1 1)).run Tryz.prog (wr.alloc (.cells #[.int .u8 (n : Int)] 5)) = .ok (.string ⟨#[UInt8.ofNat n]⟩) (wr.alloc (.cells #[.int .u8 (n : Int)] 5)) := by
  have := run_convert_bytes_back (P := Tryz.prog) (wr.alloc (.cells #[.int .u8 (n : Int)] 5)) 135 9 5 ⟨wr.heap.size, 0, none⟩ 1 [UInt8.ofNat n] Tryz.underlying135 Tryz.underlying5 Tryz.underlying9
    (fun j hj => by
      obtain rfl : j = 0 := by simpa using hj
      have ha : (⟨wr.heap.size, 0, none⟩ : Addr).add 0 = ⟨wr.heap.size, 0, none⟩ := rfl
      rw [ha, World.cell?_alloc_mark]
      simp [UInt8.toNat_ofNat']
      omega)
  exact this
set_option maxHeartbeats 1600000 in
set_option maxRecDepth 100000 in
theorem rfold_calls (s : ByteArray) (hs : s.size ≤ 140737488351232) (w : World) : Calls Tryz.prog 138 #[.string s] w fun e w' => e = .returned (.string (lowS s)) ∧ Below w.heap.size w w' := by
  go_enter Tryz.func138, Tryz.ntmps138
  go_wp2
  go_loopw [3, 4] (fun o i wr => ∃ k : Nat, k ≤ s.size ∧ i = .int .i64 k ∧ o = .string (lowK s k) ∧ Below w.heap.size w wr)
    (fun _ i _ => s.size - (intOf i).toNat)
  case atStart => exact ⟨0, Nat.zero_le _, rfl, rfl, Below.refl _ _⟩
  case round =>
    obtain ⟨k, hk, rfl, rfl, hB⟩ := hrel
    by_cases hlt : k < s.size
    · have hx : s[k].toNat = bAt s k := by
        unfold bAt; rw [Array.getD_eq_getD_getElem?, Array.getElem?_eq_getElem (show k < s.data.size from hlt)]; rfl
      have hb := bAt_lt s k
      have hback := fun (n : Nat) (hn : n < 256) => one_byte wr n hn
      have h1 := hback (bAt s k) hb
      have hlk := lowK_size s k
      have hms : Hid (s.size - (intOf (Value.int IntKind.i64 ((k : Int) + 1))).toNat < s.size - (intOf (Value.int IntKind.i64 k)).toNat) := by show _ < _; simp only [intOf]; omega
      by_cases hr : 65 ≤ bAt s k ∧ bAt s k ≤ 90
      · have h2 := hback (bAt s k + 32) (by omega)
        have e2 : ((bAt s k + 32 : Nat) : Int) = (bAt s k : Int) + 32 := by omega
        rw [e2] at h2
        clear hback
        have r1 := hr.1
        have r2 := hr.2
        go_wp2
        · exact ⟨⟨k + 1, hlt, by simp, congrArg Value.string (lowK_succ s k (by unfold low; rw [if_pos hr, UInt8.ofNat_add]; rfl)), hB.alloc hB.size _⟩, hms.out⟩
      · clear hback
        go_wp2
        · exact ⟨⟨k + 1, hlt, by simp, congrArg Value.string (lowK_succ s k (by unfold low; rw [if_neg hr])), hB.alloc hB.size _⟩, hms.out⟩
        · exact ⟨⟨k + 1, hlt, by simp, congrArg Value.string (lowK_succ s k (by unfold low; rw [if_neg hr])), hB.alloc hB.size _⟩, hms.out⟩
    · obtain rfl : k = s.size := by omega
      go_wp2
      go_ret
      exact ⟨rfl, hB⟩
end Go.Proofs.YtkohmamikbdloaaGreatDoor

namespace Go.Proofs.YtkohmamikbdloaaGreatDoor
open Go.RowKit
set_option maxHeartbeats 1600000 in
set_option maxRecDepth 100000 in
theorem same_calls (a b : ByteArray) (ha : a.size ≤ 140737488351232) (hb : b.size ≤ 140737488351232) (w : World) : Calls Tryz.prog 59 #[.string a, .string b] w fun e w' => e = .returned (.bool ((lowS a).toList == (lowS b).toList)) ∧ Below w.heap.size w w' := by
  go_enter Tryz.func59, Tryz.ntmps59
  go_wp2_with (go_at_call 138; refine (rfold_calls a ha _).mono ?_)
  rintro e w1 ⟨rfl, hb1⟩
  go_wp2_with (go_at_call 138; refine (rfold_calls b hb _).mono ?_)
  rintro e w2 ⟨rfl, hb2⟩
  go_wp2
  go_ret
  exact ⟨rfl, hb1.trans (hb2.mono hb1.size)⟩
end Go.Proofs.YtkohmamikbdloaaGreatDoor

namespace Go.Proofs.YtkohmamikbdloaaGreatDoor
open Go.RowKit
def sameN (a b : ByteArray) : Bool := (lowS a).toList == (lowS b).toList
def colAt (nm : Nat → ByteArray) (n : Nat) (s : ByteArray) : Int := match (List.range n).find? (fun i => sameN (nm i) s) with | some i => i | none => -1
theorem colAt_hit {nm : Nat → ByteArray} {n k : Nat} {s : ByteArray} (hk : k < n) (hN : ∀ j, j < k → sameN (nm j) s = false) (h : sameN (nm k) s = true) : colAt nm n s = k := by
  have : (List.range n).find? (fun i => sameN (nm i) s) = some k := by
    rw [List.find?_range_eq_some]
    exact ⟨h, List.mem_range.2 hk, fun j hj => by simp [hN j hj]⟩
  unfold colAt; rw [this]
theorem colAt_none {nm : Nat → ByteArray} {n : Nat} {s : ByteArray} (hN : ∀ j, j < n → sameN (nm j) s = false) : colAt nm n s = -1 := by
  have : (List.range n).find? (fun i => sameN (nm i) s) = none := by
    rw [List.find?_range_eq_none]
    exact fun j hj => by simp [hN j hj]
  unfold colAt; rw [this]
set_option maxHeartbeats 1600000 in
set_option maxRecDepth 100000 in
theorem column_calls (tn chk root : Value) (ao : Option Addr) (b off n cap : Nat) (nm : Nat → ByteArray) (s : ByteArray) (w : World) (hn : n ≤ 40) (hs : s.size ≤ 140737488351232)
    (hao : 0 < n → ao = some ⟨b, off, none⟩) (hc : ∀ i, i < n → w.cell? ⟨b, off + i * 9, none⟩ = some (.string (nm i))) (hz : ∀ i, i < n → (nm i).size ≤ 140737488351232) (hbl : 0 < n → b < w.heap.size) :
    Calls Tryz.prog 25 #[.agg #[tn, .slice ao n cap, chk, root], .string s] w fun e w' => e = .returned (.int .i64 (colAt nm n s)) ∧ Below w.heap.size w w' := by
  have HC : Hid (∀ i, i < n → w.cell? ⟨b, off + i * 9, none⟩ = some (.string (nm i))) := hc
  have HZ : Hid (∀ i, i < n → (nm i).size ≤ 140737488351232) := hz
  have HA : Hid (0 < n → ao = some ⟨b, off, none⟩) := hao
  have HL : Hid (0 < n → b < w.heap.size) := hbl
  clear hc hz hao hbl
  go_enter Tryz.func25, Tryz.ntmps25
  go_wp2
  go_loopw [5] (fun i wr => ∃ k : Nat, k ≤ n ∧ i = .int .i64 k ∧ Hid (∀ j, j < k → sameN (nm j) s = false) ∧ wr.cell? ⟨w.heap.size, 1, none⟩ = some (.slice ao n cap) ∧ Hid (Below w.heap.size w wr) ∧ w.heap.size < wr.heap.size)
    (fun i _ => n - (intOf i).toNat)
  case atStart =>
    refine ⟨0, Nat.zero_le _, rfl, (fun j hj => absurd hj (Nat.not_lt_zero _)), ?_, (Below.refl _ _).alloc (Nat.le_refl _) _, (by show w.heap.size < (w.heap.push _).size; simp)⟩
    rw [World.cell?_alloc_mark]; rfl
  case round =>
    obtain ⟨k, hk, rfl, HN, hT, HB, hsz⟩ := hrel
    by_cases hlt : k < n
    · obtain rfl := HA.out (by omega)
      have hck : wr.cell? ⟨b, off + k * 9, none⟩ = some (.string (nm k)) := (HB.out.cell (HL.out (by omega))).trans (HC.out k hlt)
      have hzk := HZ.out k hlt
      go_wp2_with (go_at_call 59; refine (same_calls (nm k) s hzk hs _).mono ?_)
      rintro e w2 rfl hb2
      have hT2 : w2.cell? ⟨w.heap.size, 1, none⟩ = some (.slice (some ⟨b, off, none⟩) n cap) := (hb2.cell hsz).trans hT
      have HB2 : Hid (Below w.heap.size w w2) := HB.out.trans (hb2.mono (Nat.le_of_lt hsz))
      have hsz2 : w.heap.size < w2.heap.size := Nat.lt_of_lt_of_le hsz hb2.size
      cases hsm : sameN (nm k) s with
      | false =>
        have e1 : ((lowS (nm k)).toList == (lowS s).toList) = false := hsm
        rw [e1]
        have HN2 : Hid (∀ j, j < k + 1 → sameN (nm j) s = false) := fun j hj => by
          by_cases e : j = k
          · subst e; exact hsm
          · exact HN.out j (by omega)
        clear hsm e1
        go_wp2
        exact ⟨⟨k + 1, hlt, by simp, HN2, hT2, HB2, hsz2⟩, by simp only [intOf]; omega⟩
      | true =>
        have e1 : ((lowS (nm k)).toList == (lowS s).toList) = true := hsm
        rw [e1]
        have HR : Hid (colAt nm n s = k) := colAt_hit hlt HN.out hsm
        clear hsm e1
        go_wp2
        go_ret
        exact ⟨by rw [HR.out]; rfl, HB2.out⟩
    · obtain rfl : k = n := by omega
      have HR : Hid (colAt nm k s = -1) := colAt_none HN.out
      go_wp2
      go_ret
      exact ⟨by rw [HR.out]; rfl, HB.out⟩
end Go.Proofs.YtkohmamikbdloaaGreatDoor

namespace Go.Proofs.YtkohmamikbdloaaGreatDoor
open Go.RowKit
/-- a column, as it lies -/
structure ColD where
  nm : ByteArray
  ty : Int
  co : Int
  ke : Bool
  nn : Bool
  un : Bool
  dk : Int
  dn : Int
  ds : ByteArray
def ColD.cell (c : ColD) : Nat → Value
  | 0 => .string c.nm
  | 1 => .int .i64 c.ty
  | 2 => .int .i64 c.co
  | 3 => .bool c.ke
  | 4 => .bool c.nn
  | 5 => .bool c.un
  | 6 => .int .i64 c.dk
  | 7 => .int .i64 c.dn
  | _ => .string c.ds
set_option maxHeartbeats 1600000 in
set_option maxRecDepth 100000 in
theorem place_calls (tn chk root : Value) (ao : Option Addr) (b off n cap : Nat) (nm : Nat → ByteArray) (s : ByteArray) (w : World) (hn : n ≤ 40) (hs : s.size ≤ 140737488351232)
    (hao : 0 < n → ao = some ⟨b, off, none⟩) (hz : ∀ i, i < n → (nm i).size ≤ 140737488351232) (hbl : 0 < n → b < w.heap.size)
    (C : Nat → ColD) (hX : ∀ i, (C i).nm = nm i) (hl : ∀ i j, i < n → j < 9 → w.cell? ⟨b, off + i * 9 + j, none⟩ = some ((C i).cell j)) :
    Calls Tryz.prog 57 #[.agg #[tn, .slice ao n cap, chk, root], .string s] w fun e w' => e = .returned (.int .i64 (colAt nm n s)) ∧ Below w.heap.size w w' := by
  have HZ : Hid (∀ i, i < n → (nm i).size ≤ 140737488351232) := hz
  have HA : Hid (0 < n → ao = some ⟨b, off, none⟩) := hao
  have HL : Hid (0 < n → b < w.heap.size) := hbl
  have HLo : Hid (∀ i j, i < n → j < 9 → w.cell? ⟨b, off + i * 9 + j, none⟩ = some ((C i).cell j)) := hl
  clear hz hao hbl hl
  go_enter Tryz.func57, Tryz.ntmps57
  go_wp2
  go_loopw [10] (fun i wr => ∃ k : Nat, k ≤ n ∧ i = .int .i64 k ∧ Hid (∀ j, j < k → sameN (nm j) s = false) ∧ Hid (Below w.heap.size w wr) ∧ w.heap.size < wr.heap.size)
    (fun i _ => n - (intOf i).toNat)
  case atStart =>
    exact ⟨0, Nat.zero_le _, rfl, (fun j hj => absurd hj (Nat.not_lt_zero _)), (Below.refl _ _).alloc (Nat.le_refl _) _, (by show w.heap.size < (w.heap.push _).size; simp)⟩
  case round =>
    obtain ⟨k, hk, rfl, HN, HB, hsz⟩ := hrel
    by_cases hlt : k < n
    · obtain rfl := HA.out (by omega)
      have hcj : ∀ j, j < 9 → wr.cell? ⟨b, off + k * 9 + j, none⟩ = some ((C k).cell j) := fun j hj => (HB.out.cell (HL.out (by omega))).trans (HLo.out k j hlt hj)
      have c0 : wr.cell? ⟨b, off + k * 9, none⟩ = some (.string (nm k)) := (hcj 0 (by omega)).trans (by rw [← hX]; rfl)
      have c1 : wr.cell? ⟨b, off + k * 9 + 1, none⟩ = some (.int .i64 (C k).ty) := hcj 1 (by omega)
      have c2 : wr.cell? ⟨b, off + k * 9 + 2, none⟩ = some (.int .i64 (C k).co) := hcj 2 (by omega)
      have c3 : wr.cell? ⟨b, off + k * 9 + 3, none⟩ = some (.bool (C k).ke) := hcj 3 (by omega)
      have c4 : wr.cell? ⟨b, off + k * 9 + 4, none⟩ = some (.bool (C k).nn) := hcj 4 (by omega)
      have c5 : wr.cell? ⟨b, off + k * 9 + 5, none⟩ = some (.bool (C k).un) := hcj 5 (by omega)
      have c6 : wr.cell? ⟨b, off + k * 9 + 6, none⟩ = some (.int .i64 (C k).dk) := hcj 6 (by omega)
      have c7 : wr.cell? ⟨b, off + k * 9 + 7, none⟩ = some (.int .i64 (C k).dn) := hcj 7 (by omega)
      have c8 : wr.cell? ⟨b, off + k * 9 + 8, none⟩ = some (.string (C k).ds) := hcj 8 (by omega)
      clear hcj
      have hzk := HZ.out k hlt
      have hal : ∀ o : Obj, (wr.alloc o).heap.size = wr.heap.size + 1 := fun o => by show (wr.heap.push _).size = _; simp
      go_wp2_with (go_at_call 136; refine (dfold_calls (nm k) (by omega) _).mono ?_)
      rintro e w1 rfl hb1
      have HB1 : Hid (Below w.heap.size w w1) := (HB.out.alloc (Nat.le_of_lt hsz) _).trans (hb1.mono (by omega))
      have hsz1 : w.heap.size < w1.heap.size := by have := hb1.size; rw [hal] at this; omega
      clear hb1 c0 c1 c2 c3 c4 c5 c6 c7 c8 hal
      go_wp2_with (go_at_call 136; refine (dfold_calls s (by omega) _).mono ?_)
      rintro e w2 ⟨rfl, hb2⟩
      have HB2 : Hid (Below w.heap.size w w2) := HB1.out.trans (hb2.mono (Nat.le_of_lt hsz1))
      have hsz2 : w.heap.size < w2.heap.size := Nat.lt_of_lt_of_le hsz1 hb2.size
      clear hb2
      cases hsm : sameN (nm k) s with
      | false =>
        have e1 : ((lowS (nm k)).toList == (lowS s).toList) = false := hsm
        have HN2 : Hid (∀ j, j < k + 1 → sameN (nm j) s = false) := fun j hj => by
          by_cases e : j = k
          · subst e; exact hsm
          · exact HN.out j (by omega)
        clear hsm
        go_wp2
        exact ⟨⟨k + 1, hlt, by simp, HN2, HB2, hsz2⟩, by simp only [intOf]; omega⟩
      | true =>
        have e1 : ((lowS (nm k)).toList == (lowS s).toList) = true := hsm
        have HR : Hid (colAt nm n s = k) := colAt_hit hlt HN.out hsm
        clear hsm
        go_wp2
        go_ret
        exact ⟨by rw [HR.out]; rfl, HB2.out⟩
    · obtain rfl : k = n := by omega
      have HR : Hid (colAt nm k s = -1) := colAt_none HN.out
      go_wp2
      go_ret
      exact ⟨by rw [HR.out]; rfl, HB.out⟩
end Go.Proofs.YtkohmamikbdloaaGreatDoor

namespace Go.Proofs.YtkohmamikbdloaaGreatDoor
open Go.RowKit
def intAt (z : List Int) (x : Int) : Int := match z.findIdx? (· == x) with | some i => i | none => -1
set_option maxHeartbeats 1600000 in
set_option maxRecDepth 100000 in
theorem index_calls (ao : Option Addr) (b off cap : Nat) (z : List Int) (x : Int) (w : World) (hn : z.length ≤ 40)
    (hao : 0 < z.length → ao = some ⟨b, off, none⟩) (hc : ∀ i, i < z.length → w.cell? ⟨b, off + i, none⟩ = some (.int .i64 (z.getD i 0))) :
    Calls Tryz.prog 137 #[.slice ao z.length cap, .int .i64 x] w fun e w' => (∃ r : Int, e = .returned (.int .i64 r) ∧ (0 ≤ r ↔ x ∈ z) ∧ -1 ≤ r) ∧ w' = w := by
  have HC : Hid (∀ i, i < z.length → w.cell? ⟨b, off + i, none⟩ = some (.int .i64 (z.getD i 0))) := hc
  have HA : Hid (0 < z.length → ao = some ⟨b, off, none⟩) := hao
  clear hc hao
  go_enter Tryz.func137, Tryz.ntmps137
  go_wp2
  go_loopw [8] (fun i wr => ∃ k : Nat, k ≤ z.length ∧ i = .int .i64 k ∧ Hid (∀ j, j < k → z.getD j 0 ≠ x) ∧ wr = w)
    (fun i _ => z.length - (intOf i).toNat)
  case atStart => exact ⟨0, Nat.zero_le _, rfl, (fun j hj => absurd hj (Nat.not_lt_zero _)), rfl⟩
  case round =>
    obtain ⟨k, hk, rfl, HN, rfl⟩ := hrel
    by_cases hlt : k < z.length
    · obtain rfl := HA.out (by omega)
      have hck := HC.out k hlt
      obtain ⟨y, hy⟩ : ∃ y, z.getD k 0 = y := ⟨_, rfl⟩
      rw [hy] at hck
      by_cases hxy : x = y
      · go_wp2
        go_ret
        refine ⟨⟨(k : Int), rfl, ⟨fun _ => ?_, fun _ => by omega⟩, by omega⟩, rfl⟩
        rw [← hy, List.getD_eq_getElem?_getD, List.getElem?_eq_getElem hlt]; exact List.getElem_mem hlt
      · have HN2 : Hid (∀ j, j < k + 1 → z.getD j 0 ≠ x) := fun j hj => by
          by_cases e : j = k
          · subst e; rw [hy]; exact fun h => hxy h.symm
          · exact HN.out j (by omega)
        clear hy
        go_wp2
        exact ⟨⟨k + 1, hlt, by simp, HN2, trivial⟩, by simp only [intOf]; omega⟩
    · obtain rfl : k = z.length := by omega
      go_wp2
      go_ret
      refine ⟨⟨-1, rfl, ⟨fun h => by omega, fun h => ?_⟩, by omega⟩, rfl⟩
      obtain ⟨j, hj, e⟩ := List.getElem_of_mem h
      exact absurd (by rw [List.getD_eq_getElem?_getD, List.getElem?_eq_getElem hj]; exact e) (HN.out j hj)
end Go.Proofs.YtkohmamikbdloaaGreatDoor

namespace Go.Proofs.YtkohmamikbdloaaGreatDoor
open Go.RowKit
set_option maxHeartbeats 1600000 in
set_option maxRecDepth 100000 in
theorem contains_calls (ao : Option Addr) (b off cap : Nat) (z : List Int) (x : Int) (w : World) (hn : z.length ≤ 40)
    (hao : 0 < z.length → ao = some ⟨b, off, none⟩) (hc : ∀ i, i < z.length → w.cell? ⟨b, off + i, none⟩ = some (.int .i64 (z.getD i 0))) :
    Calls Tryz.prog 58 #[.slice ao z.length cap, .int .i64 x] w fun e w' => e = .returned (.bool (decide (x ∈ z))) ∧ w' = w := by
  have HI : Hid (Calls Tryz.prog 137 #[.slice ao z.length cap, .int .i64 x] w fun e w' => (∃ r : Int, e = .returned (.int .i64 r) ∧ (0 ≤ r ↔ x ∈ z) ∧ -1 ≤ r) ∧ w' = w) := index_calls ao b off cap z x w hn hao hc
  clear hao hc
  go_enter Tryz.func58, Tryz.ntmps58
  go_wp2_with (go_at_call 137; refine HI.out.mono ?_)
  rintro e w1 ⟨⟨r, rfl, hr, hr1⟩, rfl⟩
  have HR : Hid (decide (0 ≤ r) = decide (x ∈ z)) := decide_eq_decide.2 hr
  clear hr hr1
  go_wp2
  go_ret
  exact ⟨by rw [← HR.out]; rfl, rfl⟩
end Go.Proofs.YtkohmamikbdloaaGreatDoor

namespace Go.Proofs.YtkohmamikbdloaaGreatDoor
open Go.RowKit
set_option maxHeartbeats 1600000 in
set_option maxRecDepth 100000 in
theorem name_calls (p : Addr) (b off n cap : Nat) (k : Nat) (s : ByteArray) (w : World) (hk : k < n) (hn : n ≤ 40)
    (hp : w.cell? p = some (.slice (some ⟨b, off, none⟩) n cap)) (hc : w.cell? ⟨b, off + k, none⟩ = some (.string s)) :
    Calls Tryz.prog 24 #[.int .i64 k, .pointer (some p)] w fun e w' => e = .returned (.string s) ∧ w' = w := by
  go_enter Tryz.func24, Tryz.ntmps24
  go_wp2
  go_ret
  exact ⟨rfl, rfl⟩
end Go.Proofs.YtkohmamikbdloaaGreatDoor

namespace Go.Proofs.YtkohmamikbdloaaGreatDoor
open Go.RowKit
/-- a value, as it lies -/
structure ValD where
  k : Int
  n : Int
  s : ByteArray
def ValD.cell (c : ValD) : Nat → Value
  | 0 => .int .i64 c.k
  | 1 => .int .i64 c.n
  | _ => .string c.s
/-- a row of values lies there -/
def ValRow (w : World) (a : Option Addr) (l : List ValD) : Prop := 0 < l.length → ∃ b off, a = some ⟨b, off, none⟩ ∧ b < w.heap.size ∧ ∀ i (h : i < l.length) j, j < 3 → w.cell? ⟨b, off + i * 3 + j, none⟩ = some (l[i].cell j)
set_option maxHeartbeats 1600000 in
set_option maxRecDepth 100000 in
theorem sameRow_calls (a b : Option Addr) (l : List ValD) (ca cb : Nat) (w : World) (hn : l.length ≤ 40) (ha : ValRow w a l) (hb : ValRow w b l) :
    Calls Tryz.prog 8 #[.slice a l.length ca, .slice b l.length cb] w fun e w' => e = .returned (.bool true) ∧ Below w.heap.size w w' := by
  go_enter Tryz.func8, Tryz.ntmps8
  go_wp2
  go_loopw [5] (fun i wr => ∃ k : Nat, k ≤ l.length ∧ i = .int .i64 k ∧ Hid (Below w.heap.size w wr))
    (fun i _ => l.length - (intOf i).toNat)
  case atStart => exact ⟨0, Nat.zero_le _, rfl, Below.refl _ _⟩
  case round =>
    obtain ⟨k, hk, rfl, HB⟩ := hrel
    by_cases hlt : k < l.length
    · obtain ⟨x, ox, rfl, hx, hcx⟩ := ha (by omega)
      obtain ⟨y, oy, rfl, hy, hcy⟩ := hb (by omega)
      have x0 : wr.cell? ⟨x, ox + k * 3, none⟩ = some (.int .i64 l[k].k) := (HB.out.cell hx).trans (hcx k hlt 0 (by omega))
      have x1 : wr.cell? ⟨x, ox + k * 3 + 1, none⟩ = some (.int .i64 l[k].n) := (HB.out.cell hx).trans (hcx k hlt 1 (by omega))
      have x2 : wr.cell? ⟨x, ox + k * 3 + 2, none⟩ = some (.string l[k].s) := (HB.out.cell hx).trans (hcx k hlt 2 (by omega))
      have y0 : wr.cell? ⟨y, oy + k * 3, none⟩ = some (.int .i64 l[k].k) := (HB.out.cell hy).trans (hcy k hlt 0 (by omega))
      have y1 : wr.cell? ⟨y, oy + k * 3 + 1, none⟩ = some (.int .i64 l[k].n) := (HB.out.cell hy).trans (hcy k hlt 1 (by omega))
      have y2 : wr.cell? ⟨y, oy + k * 3 + 2, none⟩ = some (.string l[k].s) := (HB.out.cell hy).trans (hcy k hlt 2 (by omega))
      clear hcx hcy ha hb
      have mixed : Tryz.prog.follows .mixedOrders = true := by kernel_rfl
      go_wp2
      go_quiet (fail)
      go_wp2
      have hB := HB.out
      exact ⟨⟨k + 1, hlt, by simp, (⟨hB.os, hB.tape, hB.output, hB.size, hB.block⟩ : Below w.heap.size w (wr.drewN nq))⟩, by simp only [intOf]; omega⟩
    · obtain rfl : k = l.length := by omega
      go_wp2
      go_ret
      exact ⟨rfl, HB.out⟩
end Go.Proofs.YtkohmamikbdloaaGreatDoor
