/- What Fill says, in plain words; the walks of the program: columns, Clone, Fill. -/
import Derived.Test.YtkohmamikbdloaaGreatDoorPr
import Derived.Deep.AppendLies
import Derived.Maps.AppendAt
import Derived.Deep.RegionWith
import Derived.ArgAppend
import Derived.WalkSpells
set_option linter.all false
namespace Go.Proofs.YtkohmamikbdloaaGreatDoor
open Go.RowKit
/-- a column's default -/
def ColD.dflt (c : ColD) : ValD := ⟨c.dk, c.dn, c.ds⟩
/-- the cells of a row of values -/
def rowOf (f : Nat → ValD) (n : Nat) : List Value := (List.range (n * 3)).map fun j => (f (j / 3)).cell (j % 3)
theorem rowOf_length (f : Nat → ValD) (n : Nat) : (rowOf f n).length = n * 3 := by simp [rowOf]
theorem rowOf_get (f : Nat → ValD) (n j : Nat) (h : j < n * 3) : (rowOf f n)[j]? = some ((f (j / 3)).cell (j % 3)) := by
  unfold rowOf; rw [List.getElem?_map, List.getElem?_range h]; rfl
theorem rowOf_succ (f : Nat → ValD) (n : Nat) : rowOf f n ++ [.int .i64 (f n).k, .int .i64 (f n).n, .string (f n).s] = rowOf f (n + 1) := by
  have e0 : n * 3 / 3 = n := by omega
  have e1 : (n * 3 + 1) / 3 = n := by omega
  have e2 : (n * 3 + 2) / 3 = n := by omega
  have m0 : n * 3 % 3 = 0 := by omega
  have m1 : (n * 3 + 1) % 3 = 1 := by omega
  have m2 : (n * 3 + 2) % 3 = 2 := by omega
  unfold rowOf
  rw [show (n + 1) * 3 = n * 3 + 2 + 1 by omega, List.range_succ, List.range_succ, List.range_succ]
  simp [e0, e1, e2, m0, m1, m2, ValD.cell]
theorem rowOf_set (f : Nat → ValD) (n p : Nat) (v : ValD) (hp : p < n) :
    (((rowOf f n).set (p * 3) (.int .i64 v.k)).set (p * 3 + 1) (.int .i64 v.n)).set (p * 3 + 2) (.string v.s) = rowOf (fun c => if c = p then v else f c) n := by
  apply List.ext_getElem?
  intro j
  by_cases hj : j < n * 3
  · rw [rowOf_get _ _ _ hj]
    simp only [List.getElem?_set, List.length_set, rowOf_length]
    by_cases h2 : p * 3 + 2 = j
    · subst h2; rw [if_pos rfl, if_pos hj, show (p * 3 + 2) / 3 = p by omega, show (p * 3 + 2) % 3 = 2 by omega, if_pos rfl]; rfl
    · rw [if_neg h2]
      by_cases h1 : p * 3 + 1 = j
      · subst h1; rw [if_pos rfl, if_pos hj, show (p * 3 + 1) / 3 = p by omega, show (p * 3 + 1) % 3 = 1 by omega, if_pos rfl]; rfl
      · rw [if_neg h1]
        by_cases h0 : p * 3 = j
        · subst h0; rw [if_pos rfl, if_pos hj, show (p * 3) / 3 = p by omega, show (p * 3) % 3 = 0 by omega, if_pos rfl]; rfl
        · rw [if_neg h0, rowOf_get _ _ _ hj, if_neg (by omega)]
  · rw [List.getElem?_eq_none (by simp [rowOf_length]; omega), List.getElem?_eq_none (by rw [rowOf_length]; omega)]
/-- the values behind k names -/
def outAt (D : Nat → ValD) (P : Nat → Int) (vs : Nat → ValD) : Nat → Nat → ValD
  | 0 => D
  | k + 1 => fun c => if (c : Int) = P k then vs k else outAt D P vs k c
/-- the first i names stand, each once -/
def Good (P : Nat → Int) (i : Nat) : Prop := ∀ j, j < i → 0 ≤ P j ∧ ∀ j', j' < j → P j' ≠ P j
theorem Good.zero (P : Nat → Int) : Good P 0 := fun j hj => absurd hj (Nat.not_lt_zero _)
theorem Good.succ {P : Nat → Int} {i : Nat} (h : Good P i) (h0 : 0 ≤ P i) (hn : ∀ j, j < i → P j ≠ P i) : Good P (i + 1) := fun j hj => by
  by_cases e : j = i
  · subst e; exact ⟨h0, hn⟩
  · exact h j (by omega)
/-- where the names stand -/
def plc (P : Nat → Int) (k : Nat) : List Value := (List.range k).map fun j => .int .i64 (P j)
theorem plc_succ (P : Nat → Int) (k : Nat) : plc P k ++ [.int .i64 (P k)] = plc P (k + 1) := by simp [plc, List.range_succ]
theorem plc_get (P : Nat → Int) (k j : Nat) (h : j < k) : (plc P k)[j]? = some (.int .i64 (P j)) := by
  unfold plc; rw [List.getElem?_map, List.getElem?_range h]; rfl
/-- what the names say: the values, and the error -/
def NamesSay (D : Nat → ValD) (n : Nat) (P : Nat → Int) (vs : Nat → ValD) (m : Nat) (l : List ValD) (er : Int) : Prop :=
  (∃ i, i < m ∧ Good P i ∧ P i < 0 ∧ l = [] ∧ er = 22) ∨ (∃ i, i < m ∧ Good P i ∧ 0 ≤ P i ∧ (∃ j, j < i ∧ P j = P i) ∧ l = [] ∧ er = 7) ∨
  (Good P m ∧ l = (List.range n).map (outAt D P vs m) ∧ er = 0)
theorem NamesSay.one {D : Nat → ValD} {n : Nat} {P : Nat → Int} {vs : Nat → ValD} {m : Nat} {l l' : List ValD} {er er' : Int} (h : NamesSay D n P vs m l er) (h' : NamesSay D n P vs m l' er') : l = l' ∧ er = er' := by
  have dup : ∀ {i k : Nat}, i < k → Good P k → 0 ≤ P i ∧ ∀ j, j < i → P j ≠ P i := fun hik hk => ⟨(hk _ hik).1, (hk _ hik).2⟩
  rcases h with ⟨i, hi, hg, hn, rfl, rfl⟩ | ⟨i, hi, hg, hn, ⟨j, hj, e⟩, rfl, rfl⟩ | ⟨hg, rfl, rfl⟩ <;>
  rcases h' with ⟨i', hi', hg', hn', rfl, rfl⟩ | ⟨i', hi', hg', hn', ⟨j', hj', e'⟩, rfl, rfl⟩ | ⟨hg', rfl, rfl⟩
  · exact ⟨rfl, rfl⟩
  · exfalso
    rcases Nat.lt_trichotomy i i' with h | h | h
    · have := (dup h hg').1; omega
    · subst h; omega
    · exact (dup h hg).2 j' hj' e'
  · exfalso; have := (dup hi hg').1; omega
  · exfalso
    rcases Nat.lt_trichotomy i i' with h | h | h
    · exact (dup h hg').2 j hj e
    · subst h; omega
    · have := (dup h hg).1; omega
  · exact ⟨rfl, rfl⟩
  · exact ((dup hi hg').2 j hj e).elim
  · exfalso; have := (dup hi' hg).1; omega
  · exact ((dup hi' hg).2 j' hj' e').elim
  · exact ⟨rfl, rfl⟩
/-- what Fill says, of as many columns (n), names (m) and values -/
def FillSay (D : Nat → ValD) (n : Nat) (P : Nat → Int) (m : Nat) (vals l : List ValD) (er : Int) : Prop :=
  if m = 0 then (if vals.length = n then l = vals ∧ er = 0 else l = [] ∧ er = 27)
  else if vals.length = m then NamesSay D n P (fun i => vals.getD i ⟨0, 0, ByteArray.empty⟩) m l er else l = [] ∧ er = 27
theorem FillSay.one {D : Nat → ValD} {n : Nat} {P : Nat → Int} {m : Nat} {vals l l' : List ValD} {er er' : Int} (h : FillSay D n P m vals l er) (h' : FillSay D n P m vals l' er') : l = l' ∧ er = er' := by
  unfold FillSay at h h'
  split at h
  · rename_i hm
    rw [if_pos hm] at h'
    split at h
    · rename_i hv; rw [if_pos hv] at h'; exact ⟨h.1.trans h'.1.symm, h.2.trans h'.2.symm⟩
    · rename_i hv; rw [if_neg hv] at h'; exact ⟨h.1.trans h'.1.symm, h.2.trans h'.2.symm⟩
  · rename_i hm
    rw [if_neg hm] at h'
    split at h
    · rename_i hv; rw [if_pos hv] at h'; exact h.one h'
    · rename_i hv; rw [if_neg hv] at h'; exact ⟨h.1.trans h'.1.symm, h.2.trans h'.2.symm⟩
/-- what a walk of Fill shows -/
def FillPost (w : World) (D : Nat → ValD) (n : Nat) (P : Nat → Int) (m : Nat) (vals : List ValD) (e : Ending) (w' : World) : Prop :=
  Below w.heap.size w w' ∧ ∃ (a : Option Addr) (l : List ValD) (ca : Nat) (er : Int), e = .returned (.tuple #[.slice a l.length ca, .int .i64 er]) ∧ ValRow w' a l ∧ FillSay D n P m vals l er
/-- a row of the call's own reads as values -/
theorem own_valRow {w : World} {base : Nat} {f : Nat → ValD} {n : Nat} {v : Value} (h : w.ownsRow base 62 3 v n (rowOf f n)) : ∃ a ca, v = .slice a n ca ∧ ValRow w a ((List.range n).map f) := by
  by_cases hn : n = 0
  · subst hn
    rcases h.2 with ⟨rfl, _⟩ | ⟨g, cap, cur, rfl, _⟩
    · exact ⟨_, _, rfl, fun h => by simp at h⟩
    · exact ⟨_, _, rfl, fun h => by simp at h⟩
  · obtain ⟨g, cap, rfl, _, hlt⟩ := h.form (by omega)
    refine ⟨_, _, rfl, fun _ => ⟨g, 0, rfl, hlt, fun i hi j hj => ?_⟩⟩
    have hi' : i < n := by simpa using hi
    have := h.cellAt (i * 3 + j) (by omega)
    rw [rowOf_get _ _ _ (by omega), show (i * 3 + j) / 3 = i by omega, show (i * 3 + j) % 3 = j by omega] at this
    rw [show 0 + i * 3 + j = i * 3 + j by omega, this]
    simp
theorem own_plc {w : World} {base : Nat} {P : Nat → Int} {k : Nat} {v : Value} (h : w.ownsRow base 3 1 v k (plc P k)) :
    ∃ ao g cap, v = .slice ao k cap ∧ (0 < k → ao = some ⟨g, 0, none⟩) ∧ ∀ i, i < k → w.cell? ⟨g, 0 + i, none⟩ = some (.int .i64 (P i)) := by
  by_cases hn : k = 0
  · subst hn
    rcases h.2 with ⟨rfl, _⟩ | ⟨g, cap, cur, rfl, _⟩
    · exact ⟨_, 0, _, rfl, fun h => by omega, fun i hi => by omega⟩
    · exact ⟨_, 0, _, rfl, fun h => by omega, fun i hi => by omega⟩
  · obtain ⟨g, cap, rfl, _, hlt⟩ := h.form (by omega)
    refine ⟨_, g, _, rfl, fun _ => rfl, fun i hi => ?_⟩
    have := h.cellAt (0 + i) (by omega)
    rw [this, show 0 + i = i by omega, plc_get _ _ _ hi]
end Go.Proofs.YtkohmamikbdloaaGreatDoor

namespace Go.Proofs.YtkohmamikbdloaaGreatDoor
open Go.RowKit
def ColsPost (w : World) (P : Nat → Int) (m : Nat) (e : Ending) (w' : World) : Prop := Below w.heap.size w w' ∧
  ((∃ i, i < m ∧ Good P i ∧ P i < 0 ∧ e = .returned (.tuple #[.slice none 0 0, .int .i64 22])) ∨
   (∃ i, i < m ∧ Good P i ∧ 0 ≤ P i ∧ (∃ j, j < i ∧ P j = P i) ∧ e = .returned (.tuple #[.slice none 0 0, .int .i64 7])) ∨
   (Good P m ∧ ∃ v, e = .returned (.tuple #[v, .int .i64 0]) ∧ w'.ownsRow (w.heap.size + 1) 3 1 v m (plc P m)))
theorem contains_at (ao : Option Addr) (b off cap k : Nat) (z : List Int) (hk : z.length = k) (x : Int) (w : World) (hn : k ≤ 40)
    (hao : 0 < k → ao = some ⟨b, off, none⟩) (hc : ∀ i, i < k → w.cell? ⟨b, off + i, none⟩ = some (.int .i64 (z.getD i 0))) :
    Calls Tryz.prog 58 #[.slice ao k cap, .int .i64 x] w fun e w' => e = .returned (.bool (decide (x ∈ z))) ∧ w' = w := by
  subst hk; exact contains_calls ao b off cap z x w hn hao hc
theorem news_new (w : World) (t : TypeId) (l : List Value) : ∀ j u, l[j]? = some u → (w.alloc (.cells l.toArray t)).cell? ((⟨w.heap.size, 0, none⟩ : Addr).add j) = some u := by
  intro j u h
  rw [show (⟨w.heap.size, 0, none⟩ : Addr).add j = ⟨w.heap.size, j, none⟩ from by unfold Addr.add; split <;> simp_all]
  rw [World.cell?_alloc_mark]
  simpa using h
theorem one_int (k : IntKind) (n : Int) : ∀ u ∈ [Value.int k n], u.oneCell' = true := by intro u h; rw [List.mem_singleton] at h; subst h; rfl
theorem alloc_ge {a : Nat} {w : World} (h : a ≤ w.heap.size) (o : Obj) : a ≤ (w.alloc o).heap.size := by simp; omega
theorem own_below {w w' : World} {base : Nat} {e : TypeId} {size : Nat} {v : Value} {n : Nat} {xs : List Value} (h : w.ownsRow base e size v n xs) (hb : Below w.heap.size w w') : w'.ownsRow base e size v n xs :=
  h.kept (row := none) ⟨hb.os, hb.tape, hb.output, hb.size, fun k hk _ => hb.block k hk⟩ (by cases v.ownBlock <;> simp)
theorem Tryz.info3 : (Tryz.prog.info? 3).map (fun i => (i.zero, i.size, i.bytes)) = some (some (.int .i64 0), 1, 8) := by kernel_rfl
set_option maxHeartbeats 3200000 in
set_option maxRecDepth 100000 in
theorem columns_calls (tn chk root : Value) (ao : Option Addr) (b off n cap : Nat) (C : Nat → ColD) (w : World) (hn : n ≤ 40) (m : Nat) (hm : m ≤ 40) (cs : Nat → ByteArray) (p : Addr) (cb coff ccap : Nat)
    (hao : 0 < n → ao = some ⟨b, off, none⟩) (hz : ∀ i, i < n → (C i).nm.size ≤ 140737488351232) (hbl : 0 < n → b < w.heap.size) (hl : ∀ i j, i < n → j < 9 → w.cell? ⟨b, off + i * 9 + j, none⟩ = some ((C i).cell j))
    (hp : w.cell? p = some (.slice (some ⟨cb, coff, none⟩) m ccap)) (hpl : p.block < w.heap.size) (hcs : ∀ i, i < m → w.cell? ⟨cb, coff + i, none⟩ = some (.string (cs i))) (hcb : cb < w.heap.size) (hcz : ∀ i, i < m → (cs i).size ≤ 140737488351232) :
    Calls Tryz.prog 23 #[.agg #[tn, .slice ao n cap, chk, root], .int .i64 m, .func (.func 24) #[] #[.pointer (some p)]] w (ColsPost w (fun i => colAt (fun i => (C i).nm) n (cs i)) m) := by
  obtain ⟨P, hP⟩ : ∃ P : Nat → Int, P = fun i => colAt (fun i => (C i).nm) n (cs i) := ⟨_, rfl⟩
  rw [← hP]
  have HP : Hid (P = fun i => colAt (fun i => (C i).nm) n (cs i)) := hP
  have HAO : Hid (0 < n → ao = some ⟨b, off, none⟩) := hao
  have HZ : Hid (∀ i, i < n → (C i).nm.size ≤ 140737488351232) := hz
  have HBL : Hid (0 < n → b < w.heap.size) := hbl
  have HL : Hid (∀ i j, i < n → j < 9 → w.cell? ⟨b, off + i * 9 + j, none⟩ = some ((C i).cell j)) := hl
  have HPC : Hid (w.cell? p = some (.slice (some ⟨cb, coff, none⟩) m ccap)) := hp
  have HCS : Hid (∀ i, i < m → w.cell? ⟨cb, coff + i, none⟩ = some (.string (cs i))) := hcs
  have HCZ : Hid (∀ i, i < m → (cs i).size ≤ 140737488351232) := hcz
  clear hP hao hz hbl hl hp hcs hcz
  obtain ⟨i0, hi0, hz0, hz1, hz2⟩ := info_parts Tryz.info3
  have HI : Hid (Tryz.prog.info? 3 = some i0 ∧ i0.zero = some (.int .i64 0) ∧ i0.size = 1 ∧ i0.bytes = 8) := ⟨hi0, hz0, hz1, hz2⟩
  clear hi0 hz0 hz1 hz2
  go_enter Tryz.func23, Tryz.ntmps23
  go_wp2
  go_loopw [8, 12] (fun v i wr => ∃ k : Nat, k ≤ m ∧ i = .int .i64 k ∧ Hid (Good P k) ∧ Hid (wr.ownsRow (w.heap.size + 1) 3 1 v k (plc P k)) ∧
      Hid (wr.cell? ⟨w.heap.size, 0, none⟩ = some tn ∧ wr.cell? ⟨w.heap.size, 1, none⟩ = some (.slice ao n cap) ∧ wr.cell? ⟨w.heap.size, 2, none⟩ = some chk ∧ wr.cell? ⟨w.heap.size, 3, none⟩ = some root) ∧
      Hid (Below w.heap.size w wr) ∧ w.heap.size < wr.heap.size)
    (fun _ i _ => m - (intOf i).toNat)
  case atStart =>
    refine ⟨0, Nat.zero_le _, rfl, Good.zero _, World.ownsRow_nil _ _ _ _, ⟨?_, ?_, ?_, ?_⟩, (Below.refl _ _).alloc (Nat.le_refl _) _, (by show w.heap.size < (w.heap.push _).size; simp)⟩ <;>
    (rw [World.cell?_alloc_mark]; rfl)
  case round =>
    obtain ⟨k, hk, rfl, HG, HO, HT, HB, hsz⟩ := hrel
    by_cases hlt : k < m
    · obtain ⟨t0, t1, t2, t3⟩ := HT.out
      have hpk : wr.cell? p = some (.slice (some ⟨cb, coff, none⟩) m ccap) := (HB.out.cell hpl).trans HPC.out
      have hck : wr.cell? ⟨cb, coff + k, none⟩ = some (.string (cs k)) := (HB.out.cell hcb).trans (HCS.out k hlt)
      have hzk := HCZ.out k hlt
      go_wp2
      have HS1 : Hid (0 < n → b < wr.heap.size) := fun h => Nat.lt_of_lt_of_le (HBL.out h) HB.out.size
      have HS2 : Hid (∀ i j, i < n → j < 9 → wr.cell? ⟨b, off + i * 9 + j, none⟩ = some ((C i).cell j)) := fun i j hi hj => (HB.out.cell (HBL.out (by omega))).trans (HL.out i j hi hj)
      go_region_with ((first
        | (go_at_call 24; refine (name_calls p cb coff m ccap k (cs k) _ hlt hm ?_ ?_).mono ?_; exact hpk; exact hck; rintro e w' ⟨rfl, rfl⟩)
        | (go_at_call 57; refine (place_calls tn chk root ao b off n cap (fun i => (C i).nm) (cs k) _ hn hzk HAO.out HZ.out ?_ C (fun _ => rfl) ?_).mono ?_; exact HS1.out; exact HS2.out; rintro e w1 ⟨rfl, hb1⟩)))
      all_goals
        rw [show colAt (fun i => (C i).nm) n (cs k) = P k from by rw [HP.out]]
        obtain ⟨x, hx⟩ : ∃ x, P k = x := ⟨_, rfl⟩
        rw [hx]
        have HX : Hid (P k = x) := hx
        clear hx
        have hb2 : Below wr.heap.size wr w1 := ⟨hb1.os, hb1.tape, hb1.output, hb1.size, hb1.block⟩
        have HO1 : Hid (w1.ownsRow (w.heap.size + 1) 3 1 u8 k (plc P k)) := own_below HO.out hb2
        have HT1 : Hid (w1.cell? ⟨w.heap.size, 0, none⟩ = some tn ∧ w1.cell? ⟨w.heap.size, 1, none⟩ = some (.slice ao n cap) ∧ w1.cell? ⟨w.heap.size, 2, none⟩ = some chk ∧ w1.cell? ⟨w.heap.size, 3, none⟩ = some root) :=
          ⟨(hb2.cell hsz).trans t0, (hb2.cell hsz).trans t1, (hb2.cell hsz).trans t2, (hb2.cell hsz).trans t3⟩
        have HB1 : Hid (Below w.heap.size w w1) := HB.out.trans (hb2.mono (by omega))
        have hsz1 : w.heap.size < w1.heap.size := by have := hb2.size; omega
        clear hb1 hb2 t0 t1 t2 t3 hpk hck hzk HS1 HS2 HT
        by_cases hneg : x < 0
        · go_wp2
          go_ret2
          exact ⟨HB1.out, Or.inl ⟨k, hlt, HG.out, by rw [HX.out]; exact hneg, rfl⟩⟩
        · obtain ⟨ao', g, cp, rfl, hgo, hcell⟩ := own_plc HO1.out
          have h0 : 0 ≤ x := by omega
          have HCell : Hid (∀ i, i < k → w1.cell? ⟨g, 0 + i, none⟩ = some (.int .i64 (((List.range k).map P).getD i 0))) := fun i hi => by
            rw [hcell i hi, List.getD_eq_getElem?_getD, List.getElem?_map, List.getElem?_range hi]; rfl
          have HCon : Hid (Calls Tryz.prog 58 #[.slice ao' k cp, .int .i64 x] w1 fun e w' => e = .returned (.bool (decide (x ∈ (List.range k).map P))) ∧ w' = w1) :=
            contains_at ao' g 0 cp k ((List.range k).map P) (by simp) x w1 (by omega) hgo HCell.out
          clear hcell hgo HCell
          by_cases hin : x ∈ (List.range k).map P
          · have HCon2 : Hid (Calls Tryz.prog 58 #[.slice ao' k cp, .int .i64 x] w1 fun e w' => e = .returned (.bool true) ∧ w' = w1) := by have := HCon.out; rw [decide_eq_true hin] at this; exact this
            have HIN : Hid (∃ j, j < k ∧ P j = P k) := by
              obtain ⟨j, hj, e⟩ := List.mem_map.1 hin
              exact ⟨j, List.mem_range.1 hj, e.trans HX.out.symm⟩
            clear hin HCon
            go_wp2_with (go_at_call 58; refine HCon2.out.mono ?_)
            go_ret2
            exact ⟨HB1.out, Or.inr (Or.inl ⟨k, hlt, HG.out, by rw [HX.out]; exact h0, HIN.out, rfl⟩)⟩
          · have HCon2 : Hid (Calls Tryz.prog 58 #[.slice ao' k cp, .int .i64 x] w1 fun e w' => e = .returned (.bool false) ∧ w' = w1) := by have := HCon.out; rw [decide_eq_false hin] at this; exact this
            have HIN : Hid (∀ j, j < k → P j ≠ P k) := fun j hj e => hin (List.mem_map.2 ⟨j, List.mem_range.2 hj, e.trans HX.out⟩)
            clear hin HCon
            obtain ⟨hi0, hz0, hz1, hz2⟩ := HI.out
            have H63 : Hid (k + 1 ≤ maxLen) := by show _ ≤ _; simp only [maxLen]; omega
            have H47 : Hid ((k + 1) * 8 ≤ 140737488355328) := by show _ ≤ _; omega
            go_wp2_with (first
              | (go_at_call 58; refine HCon2.out.mono ?_)
              | (at_builtin; refine wpList_append_own _ rfl _ _ 78 rfl (w.heap.size + 1) 3 i0 (.int .i64 0) 1 8 Tryz.underlying78 hi0 hz0 hz1 hz2 rfl (by decide) _ _ _ rfl (HO1.out.alloc _) ⟨w1.heap.size, 0, none⟩ 1 1 [.int .i64 x] rfl rfl (news_new w1 3 [.int .i64 x]) (one_int _ _) H63.out H47.out (alloc_ge hsz1 _) ?_))
            intro v' w2 hown2 hgrow _
            have HBx : Below (w.heap.size + 1) w1 w2 := ((Below.refl _ _).alloc hsz1 _).grown hgrow (alloc_ge hsz1 _) (fun q e => (HO1.out.lt q e).1)
            have HO2 : Hid (w2.ownsRow (w.heap.size + 1) 3 1 v' (k + 1) (plc P (k + 1))) := by rw [← plc_succ, HX.out]; exact hown2
            obtain ⟨s0, s1, s2, s3⟩ := HT1.out
            have HT2 : Hid (w2.cell? ⟨w.heap.size, 0, none⟩ = some tn ∧ w2.cell? ⟨w.heap.size, 1, none⟩ = some (.slice ao n cap) ∧ w2.cell? ⟨w.heap.size, 2, none⟩ = some chk ∧ w2.cell? ⟨w.heap.size, 3, none⟩ = some root) :=
              ⟨(HBx.cell (Nat.lt_succ_self _)).trans s0, (HBx.cell (Nat.lt_succ_self _)).trans s1, (HBx.cell (Nat.lt_succ_self _)).trans s2, (HBx.cell (Nat.lt_succ_self _)).trans s3⟩
            have HB2 : Hid (Below w.heap.size w w2) := HB1.out.trans (HBx.mono (by omega))
            have hsz2 : w.heap.size < w2.heap.size := by have := HBx.size; omega
            have HG2 : Hid (Good P (k + 1)) := HG.out.succ (by rw [HX.out]; exact h0) HIN.out
            clear HBx hown2 hgrow s0 s1 s2 s3 hi0 hz0 hz1 hz2
            go_wp2
            exact ⟨⟨k + 1, hlt, by simp, HG2, HO2, HT2, HB2, hsz2⟩, by simp only [intOf]; omega⟩
    · obtain rfl : k = m := by omega
      have HO1 : Hid (wr.ownsRow (w.heap.size + 1) 3 1 u8 k (plc P k)) := HO
      go_wp2
      go_ret2
      exact ⟨HB.out, Or.inr (Or.inr ⟨HG.out, _, rfl, HO1.out⟩)⟩
end Go.Proofs.YtkohmamikbdloaaGreatDoor

namespace Go.Proofs.YtkohmamikbdloaaGreatDoor
open Go.RowKit
theorem Tryz.info62 : (Tryz.prog.info? 62).map (fun i => (i.zero, i.size, i.bytes)) = some (some (.agg #[.int .i64 0, .int .i64 0, .string ByteArray.empty]), 3, 32) := by kernel_rfl
def valF (l : List ValD) (i : Nat) : ValD := l.getD i ⟨0, 0, ByteArray.empty⟩
theorem valF_map (l : List ValD) : (List.range l.length).map (valF l) = l := by
  apply List.ext_getElem
  · simp
  · intro i h1 h2; simp [valF, h2]
theorem ValRow.lt {w : World} {a : Option Addr} {l : List ValD} (h : ValRow w a l) : ∀ ad, a = some ad → 0 < l.length → ad.block < w.heap.size := by
  rintro ad rfl h0
  obtain ⟨b, off, e, hb, _⟩ := h h0
  cases e; exact hb
theorem ValRow.cells {w : World} {ad : Addr} {l : List ValD} (h : ValRow w (some ad) l) : ∀ j u, (rowOf (valF l) l.length)[j]? = some u → w.cell? (ad.add j) = some u := by
  intro j u hu
  have hj : j < l.length * 3 := by
    rw [← rowOf_length (valF l)]; exact (List.getElem?_eq_some_iff.1 hu).1
  obtain ⟨b, off, e, hb, hc⟩ := h (by omega)
  cases e
  rw [rowOf_get _ _ _ hj] at hu
  cases hu
  have := hc (j / 3) (by omega) (j % 3) (by omega)
  rw [show (⟨b, off, none⟩ : Addr).add j = ⟨b, off + j, none⟩ from by unfold Addr.add; split <;> simp_all]
  rw [show off + j / 3 * 3 + j % 3 = off + j by omega] at this
  rw [this]
  have hl : j / 3 < l.length := by omega
  simp [valF, hl]
theorem ValRow.kept {w w' : World} {a : Option Addr} {l : List ValD} (h : ValRow w a l) (hb : Below w.heap.size w w') : ValRow w' a l := fun h0 => by
  obtain ⟨b, off, e, hl, hc⟩ := h h0
  exact ⟨b, off, e, Nat.lt_of_lt_of_le hl hb.size, fun i hi j hj => (hb.cell hl).trans (hc i hi j hj)⟩
theorem one_rowOf (f : Nat → ValD) (n : Nat) : ∀ u ∈ rowOf f n, u.oneCell' = true := by
  intro u hu
  obtain ⟨j, _, rfl⟩ := List.mem_map.1 hu
  generalize hm : j % 3 = m
  match m with
  | 0 => rfl
  | 1 => rfl
  | _ + 2 => rfl
set_option maxHeartbeats 3200000 in
set_option maxRecDepth 100000 in
theorem clone_calls (a : Option Addr) (l : List ValD) (ca : Nat) (w : World) (hn : l.length ≤ 40) (ha : ValRow w a l) (hnil : a = none → l.length = 0 ∧ ca = 0) (hca : l.length ≤ ca) :
    Calls Tryz.prog 22 #[.slice a l.length ca] w fun e w' => (∃ a' ca', e = .returned (.slice a' l.length ca') ∧ ValRow w' a' l) ∧ Below w.heap.size w w' := by
  obtain ⟨i0, hi0, hz0, hz1, hz2⟩ := info_parts Tryz.info62
  have HI : Hid (Tryz.prog.info? 62 = some i0 ∧ i0.zero = some (.agg #[.int .i64 0, .int .i64 0, .string ByteArray.empty]) ∧ i0.size = 3 ∧ i0.bytes = 32) := ⟨hi0, hz0, hz1, hz2⟩
  clear hi0 hz0 hz1 hz2
  cases a with
  | none =>
    obtain ⟨h0, rfl⟩ := hnil rfl
    obtain rfl : l = [] := List.eq_nil_of_length_eq_zero h0
    clear hnil ha
    have hq : ∀ W, (binOp .eql 27 (.slice none 0 0) (.slice none 0 0)).run Tryz.prog W = .ok (.bool true) W := fun W => Lib.run_eql_slice_nil W 27 62 none 0 0 0 0 Tryz.underlying27
    go_enter Tryz.func22, Tryz.ntmps22
    go_wp2
    go_ret
    exact ⟨⟨_, _, rfl, fun h => by simp at h⟩, Below.refl _ _⟩
  | some ad =>
    have HR : Hid (ValRow w (some ad) l) := ha
    clear hnil ha
    by_cases h0 : l.length = 0
    · obtain rfl : l = [] := List.eq_nil_of_length_eq_zero h0
      have hq : ∀ W, (binOp .eql 27 (.slice (some ad) 0 ca) (.slice none 0 0)).run Tryz.prog W = .ok (.bool false) W := fun W => Lib.run_eql_slice_nil W 27 62 (some ad) 0 ca 0 0 Tryz.underlying27
      go_enter Tryz.func22, Tryz.ntmps22
      go_wp2
      go_ret
      exact ⟨⟨_, _, rfl, fun h => by simp at h⟩, (Below.refl _ _).alloc (Nat.le_refl _) _⟩
    · have hq : ∀ W, (binOp .eql 27 (.slice (some ad) l.length ca) (.slice none 0 0)).run Tryz.prog W = .ok (.bool false) W := fun W => Lib.run_eql_slice_nil W 27 62 (some ad) l.length ca 0 0 Tryz.underlying27
      obtain ⟨hi0, hz0, hz1, hz2⟩ := HI.out
      have HC : Hid (∀ j u, (rowOf (valF l) l.length)[j]? = some u → (w.alloc (.cells #[] 62)).cell? (ad.add j) = some u) := fun j u h => by
        rw [World.cell?_alloc_lt _ _ _ (by
          have := HR.out.lt ad rfl (by omega)
          unfold Addr.add; split <;> exact this)]
        exact HR.out.cells j u h
      have HO : Hid ((w.alloc (.cells #[] 62)).ownsRow w.heap.size 62 3 (.slice (some ⟨w.heap.size, 0, none⟩) 0 0) 0 []) := World.ownsRow_made w #[] 0 (Nat.le_refl _) (by simp [maxLen]) rfl
      have H63 : Hid (0 + l.length ≤ maxLen) := by show _ ≤ _; simp only [maxLen]; omega
      have H47 : Hid ((0 + l.length) * 32 ≤ 140737488355328) := by show _ ≤ _; omega
      go_enter Tryz.func22, Tryz.ntmps22
      go_wp2_with (at_builtin; (refine wpList_append_own _ rfl _ _ 27 rfl w.heap.size 62 i0 (.agg #[.int .i64 0, .int .i64 0, .string ByteArray.empty]) 3 32 Tryz.underlying27 hi0 hz0 hz1 hz2 rfl (by decide) _ _ _ rfl HO.out ad l.length ca (rowOf (valF l) l.length) rfl (rowOf_length _ _) HC.out (one_rowOf _ _) H63.out H47.out (alloc_ge (Nat.le_refl _) _) ?_))
      intro v' w2 hown hgrow _
      have HO2 : Hid (w2.ownsRow w.heap.size 62 3 v' l.length (rowOf (valF l) l.length)) := hown
      have HB : Hid (Below w.heap.size w w2) := ((Below.refl _ _).alloc (Nat.le_refl _) _).grown hgrow (alloc_ge (Nat.le_refl _) _) (fun q e => (HO.out.lt q e).1)
      clear hown hgrow hq
      go_wp2
      go_ret
      obtain ⟨a', ca', rfl, hr⟩ := own_valRow HO2.out
      rw [valF_map] at hr
      exact ⟨⟨_, _, rfl, hr⟩, HB.out⟩
end Go.Proofs.YtkohmamikbdloaaGreatDoor

namespace Go.Proofs.YtkohmamikbdloaaGreatDoor
open Go.RowKit
theorem colAt_lt {nm : Nat → ByteArray} {n : Nat} {s : ByteArray} (_h : 0 ≤ colAt nm n s) : colAt nm n s < n ∨ colAt nm n s < 0 := by
  unfold colAt
  split
  · rename_i i hi
    have := List.mem_range.1 (List.mem_of_find?_eq_some hi)
    left; omega
  · right; omega
theorem news_at (w : World) (H : Nat) (hH : w.heap.size = H) (t : TypeId) (l : List Value) : ∀ j u, l[j]? = some u → (w.alloc (.cells l.toArray t)).cell? ((⟨H, 0, none⟩ : Addr).add j) = some u := by
  subst hH; exact news_new w t l
theorem own_plc2 {w : World} {base : Nat} {P : Nat → Int} {k : Nat} {v : Value} (h : w.ownsRow base 3 1 v k (plc P k)) (hk : 0 < k) :
    ∃ g cap, v = .slice (some ⟨g, 0, none⟩) k cap ∧ g < w.heap.size ∧ ∀ i, i < k → w.cell? ⟨g, i, none⟩ = some (.int .i64 (P i)) := by
  obtain ⟨g, cap, rfl, _, hlt⟩ := h.form hk
  refine ⟨g, _, rfl, hlt, fun i hi => ?_⟩
  rw [h.cellAt i (by omega), plc_get _ _ _ hi]
/-- the table's columns, as they lie -/
def TabAt (w : World) (ao : Option Addr) (n : Nat) (C : Nat → ColD) : Prop := ∃ b off, (0 < n → ao = some ⟨b, off, none⟩) ∧ (0 < n → b < w.heap.size) ∧ (∀ i j, i < n → j < 9 → w.cell? ⟨b, off + i * 9 + j, none⟩ = some ((C i).cell j))
theorem TabAt.kept {w w' : World} {ao : Option Addr} {n : Nat} {C : Nat → ColD} (h : TabAt w ao n C) (hb : Below w.heap.size w w') : TabAt w' ao n C := by
  obtain ⟨b, off, h1, h2, h3⟩ := h
  exact ⟨b, off, h1, fun h => Nat.lt_of_lt_of_le (h2 h) hb.size, fun i j hi hj => (hb.cell (h2 (by omega))).trans (h3 i j hi hj)⟩
/-- names, as they lie -/
def StrsAt (w : World) (ao : Option Addr) (m : Nat) (cs : Nat → ByteArray) : Prop := 0 < m → ∃ b off, ao = some ⟨b, off, none⟩ ∧ b < w.heap.size ∧ ∀ i, i < m → w.cell? ⟨b, off + i, none⟩ = some (.string (cs i))
theorem StrsAt.kept {w w' : World} {ao : Option Addr} {m : Nat} {cs : Nat → ByteArray} (h : StrsAt w ao m cs) (hb : Below w.heap.size w w') : StrsAt w' ao m cs := fun h0 => by
  obtain ⟨b, off, h1, h2, h3⟩ := h h0
  exact ⟨b, off, h1, Nat.lt_of_lt_of_le h2 hb.size, fun i hi => (hb.cell h2).trans (h3 i hi)⟩
def PAt (C : Nat → ColD) (n : Nat) (cs : Nat → ByteArray) (i : Nat) : Int := colAt (fun i => (C i).nm) n (cs i)
def DAt (C : Nat → ColD) (i : Nat) : ValD := (C i).dflt
theorem clone_at (a : Option Addr) (l : List ValD) (k ca : Nat) (w : World) (hl : l.length = k) (hn : k ≤ 40) (ha : ValRow w a l) (hnil : a = none → l.length = 0 ∧ ca = 0) (hca : k ≤ ca) :
    Calls Tryz.prog 22 #[.slice a k ca] w fun e w' => (∃ a' ca', e = .returned (.slice a' k ca') ∧ ValRow w' a' l) ∧ Below w.heap.size w w' := by
  subst hl; exact clone_calls a l ca w hn ha hnil hca
theorem one_val (a b : Int) (c : ByteArray) : ∀ u ∈ [Value.int .i64 a, .int .i64 b, .string c], u.oneCell' = true := by
  intro u h
  simp only [List.mem_cons, List.not_mem_nil, or_false] at h
  rcases h with rfl | rfl | rfl <;> rfl
theorem own_store {w : World} {base g n cap p : Nat} {f : Nat → ValD} {v : ValD} (h : w.ownsRow base 62 3 (.slice (some ⟨g, 0, none⟩) n cap) n (rowOf f n)) (hp : p < n) :
    (((w.setCell ⟨g, p * 3, none⟩ (.int .i64 v.k)).setCell ⟨g, p * 3 + 1, none⟩ (.int .i64 v.n)).setCell ⟨g, p * 3 + 2, none⟩ (.string v.s)).ownsRow base 62 3 (.slice (some ⟨g, 0, none⟩) n cap) n (rowOf (fun c => if c = p then v else f c) n) := by
  have := (((h.stored (p * 3) (.int .i64 v.k)).1.stored (p * 3 + 1) (.int .i64 v.n)).1.stored (p * 3 + 2) (.string v.s)).1
  rw [rowOf_set f n p v hp] at this
  exact this
theorem outAt_succ {D : Nat → ValD} {P : Nat → Int} {vs : Nat → ValD} {q p : Nat} (h : P q = p) : (fun c => if c = p then vs q else outAt D P vs q c) = outAt D P vs (q + 1) := by
  funext c
  show _ = if (c : Int) = P q then vs q else outAt D P vs q c
  rw [h]
  by_cases e : c = p
  · rw [if_pos e, if_pos (by omega)]
  · rw [if_neg e, if_neg (by omega)]
theorem PAt_lt {C : Nat → ColD} {n m : Nat} {cs : Nat → ByteArray} (h : Good (PAt C n cs) m) {q : Nat} (hq : q < m) : ∃ p : Nat, PAt C n cs q = p ∧ p < n := by
  have h0 := (h q hq).1
  have := colAt_lt (nm := fun i => (C i).nm) (n := n) (s := cs q) h0
  refine ⟨(PAt C n cs q).toNat, by omega, ?_⟩
  have h1 : PAt C n cs q = colAt (fun i => (C i).nm) n (cs q) := rfl
  omega
theorem nil_row (w : World) : ValRow w none [] := fun h => by simp at h
set_option maxHeartbeats 6400000 in
set_option maxRecDepth 100000 in
theorem dfill_calls (tn chk root : Value) (ao : Option Addr) (n cap : Nat) (C : Nat → ColD) (w : World) (hn : n ≤ 40) (m : Nat) (hm : m ≤ 40) (cs : Nat → ByteArray) (cao : Option Addr) (ccap : Nat)
    (va : Option Addr) (vals : List ValD) (vcap : Nat) (hv : vals.length ≤ 40)
    (ht : TabAt w ao n C) (hz : ∀ i, i < n → (C i).nm.size ≤ 140737488351232) (hcs : StrsAt w cao m cs) (hcz : ∀ i, i < m → (cs i).size ≤ 140737488351232)
    (hvr : ValRow w va vals) (hvn : va = none → vals.length = 0 ∧ vcap = 0) (hvc : vals.length ≤ vcap) :
    Calls Tryz.prog 6 #[.agg #[tn, .slice ao n cap, chk, root], .slice cao m ccap, .slice va vals.length vcap] w (FillPost w (DAt C) n (PAt C n cs) m vals) := by
  have HT : Hid (TabAt w ao n C) := ht
  have HZ : Hid (∀ i, i < n → (C i).nm.size ≤ 140737488351232) := hz
  have HCS : Hid (StrsAt w cao m cs) := hcs
  have HCZ : Hid (∀ i, i < m → (cs i).size ≤ 140737488351232) := hcz
  have HV : Hid (ValRow w va vals) := hvr
  have HVN : Hid (va = none → vals.length = 0 ∧ vcap = 0) := hvn
  clear ht hz hcs hcz hvr hvn
  obtain ⟨i0, hi0, hz0, hz1, hz2⟩ := info_parts Tryz.info62
  have HI : Hid (Tryz.prog.info? 62 = some i0 ∧ i0.zero = some (.agg #[.int .i64 0, .int .i64 0, .string ByteArray.empty]) ∧ i0.size = 3 ∧ i0.bytes = 32) := ⟨hi0, hz0, hz1, hz2⟩
  clear hi0 hz0 hz1 hz2
  obtain ⟨lv, hlv⟩ : ∃ lv, vals.length = lv := ⟨_, rfl⟩
  have HLV : Hid (vals.length = lv) := hlv
  rw [hlv] at hv hvc ⊢
  clear hlv
  by_cases hm0 : m = 0
  · subst hm0
    by_cases hlv : lv = n
    · subst hlv
      have HB0 : Hid (∀ o1 o2, Below w.heap.size w ((w.alloc o1).alloc o2)) := fun o1 o2 => ((Below.refl _ _).alloc (Nat.le_refl _) _).alloc (alloc_ge (Nat.le_refl _) _) _
      have HC : Hid (∀ o1 o2, Calls Tryz.prog 22 #[.slice va lv vcap] ((w.alloc o1).alloc o2) fun e w' => (∃ a' ca', e = .returned (.slice a' lv ca') ∧ ValRow w' a' vals) ∧ Below w.heap.size w w') := fun o1 o2 =>
        (clone_at va vals lv vcap _ HLV.out hn (HV.out.kept (HB0.out o1 o2)) HVN.out hvc).mono fun e w' ⟨h1, h2⟩ => ⟨h1, (HB0.out o1 o2).trans (h2.mono (HB0.out o1 o2).size)⟩
      go_enter Tryz.func6, Tryz.ntmps6
      go_wp2_with (go_at_call 22; refine (HC.out _ _).mono ?_)
      rintro e w1 ⟨⟨a', ca', rfl, hr⟩, hb⟩
      have HR : Hid (ValRow w1 a' vals) := hr
      have HB : Hid (Below w.heap.size w w1) := hb
      clear hr hb
      go_wp2
      go_ret2
      refine ⟨HB.out, a', vals, ca', 0, by rw [HLV.out]; rfl, HR.out, ?_⟩
      unfold FillSay
      rw [if_pos rfl, if_pos HLV.out]
      exact ⟨rfl, rfl⟩
    · have h1 : ((lv : Int) == (n : Int)) = false := by simp; omega
      have h2 : ((lv : Int) != (n : Int)) = true := by simp; omega
      go_enter Tryz.func6, Tryz.ntmps6
      go_wp2
      go_ret2
      refine ⟨((Below.refl _ _).alloc (Nat.le_refl _) _).alloc (alloc_ge (Nat.le_refl _) _) _, none, [], 0, 27, rfl, nil_row _, ?_⟩
      unfold FillSay
      rw [if_pos rfl, if_neg (by rw [HLV.out]; exact hlv)]
      exact ⟨rfl, rfl⟩
  · have hm1 : ((m : Int) == 0) = false := by simp; omega
    by_cases hlv : lv = m
    · subst hlv
      have HB0 : Hid (∀ o1 o2, Below w.heap.size w ((w.alloc o1).alloc o2)) := fun o1 o2 => ((Below.refl _ _).alloc (Nat.le_refl _) _).alloc (alloc_ge (Nat.le_refl _) _) _
      obtain ⟨b, off, tb1, tb2, tb3⟩ := HT.out
      obtain ⟨cb, coff, rfl, hcb, hcc⟩ := HCS.out (by omega)
      have HCC : Hid (Calls Tryz.prog 23 #[.agg #[tn, .slice ao n cap, chk, root], .int .i64 lv, .func (.func 24) #[] #[.pointer (some ⟨w.heap.size + 1, 0, none⟩)]]
          ((w.alloc (.cells #[tn, .slice ao n cap, chk, root] 25)).alloc (.cells #[.slice (some ⟨cb, coff, none⟩) lv ccap] 26))
          (ColsPost ((w.alloc (.cells #[tn, .slice ao n cap, chk, root] 25)).alloc (.cells #[.slice (some ⟨cb, coff, none⟩) lv ccap] 26)) (PAt C n cs) lv)) :=
        columns_calls tn chk root ao b off n cap C _ hn lv hm cs ⟨w.heap.size + 1, 0, none⟩ cb coff ccap tb1 HZ.out (fun h => Nat.lt_of_lt_of_le (tb2 h) (HB0.out _ _).size)
          (fun i j hi hj => ((HB0.out _ _).cell (tb2 (by omega))).trans (tb3 i j hi hj)) (by rw [World.cell?_alloc_at _ _ _ _ (by simp)]; rfl) (by simp) (fun i hi => ((HB0.out _ _).cell hcb).trans (hcc i hi)) (Nat.lt_of_lt_of_le hcb (HB0.out _ _).size) HCZ.out
      clear tb1 tb2 tb3 hcc
      go_enter Tryz.func6, Tryz.ntmps6
      go_wp2_with (go_at_call 23; refine HCC.out.mono ?_)
      rintro e w1 ⟨hb, ⟨i, hi, hg, hneg, rfl⟩ | ⟨i, hi, hg, h0, hdup, rfl⟩ | ⟨hg, v, rfl, hown⟩⟩
      · have HB : Hid (Below w.heap.size w w1) := (HB0.out _ _).trans (hb.mono (HB0.out _ _).size)
        have HG : Hid (Good (PAt C n cs) i ∧ PAt C n cs i < 0) := ⟨hg, hneg⟩
        clear hb hg hneg
        go_wp2
        go_ret2
        refine ⟨HB.out, none, [], 0, 22, rfl, nil_row _, ?_⟩
        unfold FillSay
        rw [if_neg hm0, if_pos HLV.out]
        exact Or.inl ⟨i, hi, HG.out.1, HG.out.2, rfl, rfl⟩
      · have HB : Hid (Below w.heap.size w w1) := (HB0.out _ _).trans (hb.mono (HB0.out _ _).size)
        have HG : Hid (Good (PAt C n cs) i ∧ 0 ≤ PAt C n cs i ∧ ∃ j, j < i ∧ PAt C n cs j = PAt C n cs i) := ⟨hg, h0, hdup⟩
        clear hb hg h0 hdup
        go_wp2
        go_ret2
        refine ⟨HB.out, none, [], 0, 7, rfl, nil_row _, ?_⟩
        unfold FillSay
        rw [if_neg hm0, if_pos HLV.out]
        exact Or.inr (Or.inl ⟨i, hi, HG.out.1, HG.out.2.1, HG.out.2.2, rfl, rfl⟩)
      · have HB : Hid (Below w.heap.size w w1) := (HB0.out _ _).trans (hb.mono (HB0.out _ _).size)
        have HG : Hid (Good (PAt C n cs) lv) := hg
        have HS : Hid ((w1.cell? ⟨w.heap.size, 1, none⟩ = some (.slice ao n cap))) := by
          show _ = _
          rw [hb.cell (by show w.heap.size < _; simp; omega), World.cell?_alloc_lt _ _ _ (by simp), World.cell?_alloc_at _ _ _ _ rfl]; rfl
        obtain ⟨pg, pcap, rfl, hpg, hpc⟩ := own_plc2 hown (by omega)
        have HP : Hid (∀ i, i < lv → w1.cell? ⟨pg, i, none⟩ = some (.int .i64 (PAt C n cs i))) := hpc
        have hsz : w.heap.size + 1 < w1.heap.size := by have := hb.size; simp at this; omega
        clear hb hg hown hpc
        have s1 := HS.out
        go_wp2
        clear s1
        go_loopw [10, 45] (fun out i wr => ∃ k : Nat, k ≤ n ∧ i = .int .i64 k ∧ Hid (wr.ownsRow w1.heap.size 62 3 out k (rowOf (DAt C) k)) ∧ Hid (Below w1.heap.size w1 wr))
          (fun _ i _ => n - (intOf i).toNat)
        case atStart => exact ⟨0, Nat.zero_le _, rfl, World.ownsRow_nil _ _ _ _, Below.refl _ _⟩
        case round =>
          obtain ⟨k, hk, rfl, HO, HBl⟩ := hrel
          by_cases hlt : k < n
          · obtain ⟨tb, toff, tb1, tb2, tb3⟩ := (HT.out.kept (HB.out.trans (HBl.out.mono (by omega))))
            obtain rfl := tb1 (by omega)
            have hcj : ∀ j, j < 9 → wr.cell? ⟨tb, toff + k * 9 + j, none⟩ = some ((C k).cell j) := fun j hj => tb3 k j hlt hj
            have c0 : wr.cell? ⟨tb, toff + k * 9, none⟩ = some (.string (C k).nm) := hcj 0 (by omega)
            have c1 : wr.cell? ⟨tb, toff + k * 9 + 1, none⟩ = some (.int .i64 (C k).ty) := hcj 1 (by omega)
            have c2 : wr.cell? ⟨tb, toff + k * 9 + 2, none⟩ = some (.int .i64 (C k).co) := hcj 2 (by omega)
            have c3 : wr.cell? ⟨tb, toff + k * 9 + 3, none⟩ = some (.bool (C k).ke) := hcj 3 (by omega)
            have c4 : wr.cell? ⟨tb, toff + k * 9 + 4, none⟩ = some (.bool (C k).nn) := hcj 4 (by omega)
            have c5 : wr.cell? ⟨tb, toff + k * 9 + 5, none⟩ = some (.bool (C k).un) := hcj 5 (by omega)
            have c6 : wr.cell? ⟨tb, toff + k * 9 + 6, none⟩ = some (.int .i64 (C k).dk) := hcj 6 (by omega)
            have c7 : wr.cell? ⟨tb, toff + k * 9 + 7, none⟩ = some (.int .i64 (C k).dn) := hcj 7 (by omega)
            have c8 : wr.cell? ⟨tb, toff + k * 9 + 8, none⟩ = some (.string (C k).ds) := hcj 8 (by omega)
            clear tb1 tb2 tb3 hcj
            obtain ⟨hi0, hz0, hz1, hz2⟩ := HI.out
            have H63 : Hid (k + 1 ≤ maxLen) := by show _ ≤ _; simp only [maxLen]; omega
            have H47 : Hid ((k + 1) * 32 ≤ 140737488355328) := by show _ ≤ _; omega
            have HSZ : Hid (∀ o : Obj, (wr.alloc o).heap.size = wr.heap.size + 1) := fun o => by simp
            have HGE : Hid (∀ o1 o2 : Obj, w1.heap.size ≤ ((wr.alloc o1).alloc o2).heap.size) := fun o1 o2 => alloc_ge (alloc_ge HBl.out.size _) _
            go_wp2_with (at_builtin; refine wpList_append_own _ rfl _ _ 27 rfl w1.heap.size 62 i0 (.agg #[.int .i64 0, .int .i64 0, .string ByteArray.empty]) 3 32 Tryz.underlying27 hi0 hz0 hz1 hz2 rfl (by decide) _ _ _ rfl ((HO.out.alloc _).alloc _) ⟨wr.heap.size + 1, 0, none⟩ 1 1 [.int .i64 (C k).dk, .int .i64 (C k).dn, .string (C k).ds] rfl rfl (news_at _ (wr.heap.size + 1) (HSZ.out _) 62 [.int .i64 (C k).dk, .int .i64 (C k).dn, .string (C k).ds]) (one_val _ _ _) H63.out H47.out (HGE.out _ _) ?_)
            intro v' w2 hown hgrow _
            have HO2 : Hid (w2.ownsRow w1.heap.size 62 3 v' (k + 1) (rowOf (DAt C) (k + 1))) := by rw [← rowOf_succ]; exact hown
            have HBl2 : Hid (Below w1.heap.size w1 w2) := ((HBl.out.alloc HBl.out.size _).alloc (alloc_ge HBl.out.size _) _).grown hgrow (HGE.out _ _) (fun q e => (HO.out.lt q e).1)
            clear hown hgrow hi0 hz0 hz1 hz2 c0 c1 c2 c3 c4 c5 c6 c7 c8
            go_wp2
            exact ⟨⟨k + 1, hlt, by simp, HO2, HBl2⟩, by simp only [intOf]; omega⟩
          · obtain rfl : k = n := by omega
            obtain ⟨p0, hp0, hp0n⟩ := PAt_lt HG.out (q := 0) (by omega)
            obtain ⟨g, gcap, rfl, hgb, hgl⟩ := HO.out.form (by omega)
            obtain ⟨vb, voff, rfl, hvb, hvcell⟩ := HV.out (by rw [HLV.out]; omega)
            have HVC : Hid (∀ i, i < lv → ∀ j, j < 3 → w.cell? ⟨vb, voff + i * 3 + j, none⟩ = some ((valF vals i).cell j)) := fun i hi j hj => by
              have hl : i < vals.length := by rw [HLV.out]; exact hi
              rw [hvcell i hl j hj]; simp [valF, hl]
            clear hvcell hp0
            obtain ⟨wo, hwo⟩ : ∃ wo : World, wo = wr := ⟨_, rfl⟩
            subst hwo
            go_wp2
            go_loopw [57] (fun i wr => ∃ q : Nat, q ≤ lv ∧ i = .int .i64 q ∧ Hid (wr.ownsRow w1.heap.size 62 3 (.slice (some ⟨g, 0, none⟩) k gcap) k (rowOf (outAt (DAt C) (PAt C k cs) (valF vals) q) k)) ∧ Hid (Below w1.heap.size w1 wr))
              (fun i _ => lv - (intOf i).toNat)
            case atStart => exact ⟨0, Nat.zero_le _, rfl, HO, HBl⟩
            case round =>
              obtain ⟨q, hq, rfl, HOq, HBq⟩ := hrel
              by_cases hqlt : q < lv
              · obtain ⟨p, hpx, hpn⟩ := PAt_lt HG.out hqlt
                have pc : wr.cell? ⟨pg, q, none⟩ = some (.int .i64 p) := by rw [HBq.out.cell hpg, HP.out q hqlt, hpx]
                have HX : Hid (PAt C k cs q = p) := hpx
                clear hpx
                have hbw : Below w.heap.size w wr := HB.out.trans (HBq.out.mono (by omega))
                have v0 : wr.cell? ⟨vb, voff + q * 3, none⟩ = some (.int .i64 (valF vals q).k) := (hbw.cell hvb).trans (HVC.out q hqlt 0 (by omega))
                have v1 : wr.cell? ⟨vb, voff + q * 3 + 1, none⟩ = some (.int .i64 (valF vals q).n) := (hbw.cell hvb).trans (HVC.out q hqlt 1 (by omega))
                have v2 : wr.cell? ⟨vb, voff + q * 3 + 2, none⟩ = some (.string (valF vals q).s) := (hbw.cell hvb).trans (HVC.out q hqlt 2 (by omega))
                clear hbw
                have o0 := HOq.out.cellAt (p * 3) (by omega)
                have o1 := HOq.out.cellAt (p * 3 + 1) (by omega)
                have o2 := HOq.out.cellAt (p * 3 + 2) (by omega)
                rw [rowOf_get _ _ _ (by omega)] at o0 o1 o2
                have f0 := HOq.out.frozenAt (p * 3)
                have f1 := HOq.out.frozenAt (p * 3 + 1)
                have f2 := HOq.out.frozenAt (p * 3 + 2)
                go_wp2
                exact ⟨⟨q + 1, hqlt, by simp, (by
                  show World.ownsRow _ _ _ _ _ _ _
                  rw [← outAt_succ HX.out]; exact own_store HOq.out hpn), ((HBq.out.setCell hgb _).setCell hgb _).setCell hgb _⟩, by simp only [intOf]; omega⟩
              · obtain rfl : q = lv := by omega
                go_wp2
                go_ret2
                obtain ⟨a', ca', e', hr⟩ := own_valRow HOq.out
                refine ⟨HB.out.trans (HBq.out.mono (by omega)), a', _, ca', 0, ?_, hr, ?_⟩
                · rw [List.length_map, List.length_range, ← e']; rfl
                · unfold FillSay
                  rw [if_neg hm0, if_pos HLV.out]
                  exact Or.inr (Or.inr ⟨HG.out, rfl, rfl⟩)
    · have h1 : ((lv : Int) == (m : Int)) = false := by simp; omega
      have h2 : ((lv : Int) != (m : Int)) = true := by simp; omega
      go_enter Tryz.func6, Tryz.ntmps6
      go_wp2
      go_ret2
      refine ⟨((Below.refl _ _).alloc (Nat.le_refl _) _).alloc (alloc_ge (Nat.le_refl _) _) _, none, [], 0, 27, rfl, nil_row _, ?_⟩
      unfold FillSay
      rw [if_neg hm0, if_neg (by rw [HLV.out]; exact hlv)]
      exact ⟨rfl, rfl⟩
end Go.Proofs.YtkohmamikbdloaaGreatDoor
