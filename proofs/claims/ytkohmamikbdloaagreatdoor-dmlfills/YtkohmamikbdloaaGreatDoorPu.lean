/- The arguments of the law, opened to their cells. -/
import Derived.Test.YtkohmamikbdloaaGreatDoorPt
import Derived.OpenShut
import Derived.SizedLaws
import Derived.Deep.Slices
import Derived.Lib.SmallJoins
import Derived.SliceStrings
set_option linter.all false
namespace Go.Proofs.YtkohmamikbdloaaGreatDoor
open Go.ChangeShapes Go.WideShapes Go.Joins Go.RowKit Go.Deep
theorem cells2 : Tryz.prog.cellsOf 2 = 1 := by kernel_rfl
theorem cells3 : Tryz.prog.cellsOf 3 = 1 := by kernel_rfl
theorem cells4 : Tryz.prog.cellsOf 4 = 1 := by kernel_rfl
theorem cells9 : Tryz.prog.cellsOf 9 = 1 := by kernel_rfl
theorem cells62 : Tryz.prog.cellsOf 62 = 3 := by kernel_rfl
theorem cells64 : Tryz.prog.cellsOf 64 = 9 := by kernel_rfl
theorem len3 {α : Type} {l : List α} (h : l.length = 3) : ∃ a b c, l = [a, b, c] := match l, h with | [a, b, c], _ => ⟨a, b, c, rfl⟩
theorem len7 {α : Type} {l : List α} (h : l.length = 7) : ∃ a b c d e f g, l = [a, b, c, d, e, f, g] := match l, h with | [a, b, c, d, e, f, g], _ => ⟨a, b, c, d, e, f, g, rfl⟩
theorem len9 {α : Type} {l : List α} (h : l.length = 9) : ∃ a b c d e f g i j, l = [a, b, c, d, e, f, g, i, j] := match l, h with | [a, b, c, d, e, f, g, i, j], _ => ⟨a, b, c, d, e, f, g, i, j, rfl⟩
section
variable {H : Type} {enc : TypeId × Value → H} {W : World} {base : Nat} {sp : Nat → Bool} {held : Bool} {fuel : Nat} {cs : List Value} {x : DataW H × List MemPlace}
theorem val_of_trod (h : DataW.trod enc Tryz.prog W base sp held fuel 62 cs = some x) : ∃ v : ValD, cs = [.int .i64 v.k, .int .i64 v.n, .string v.s] := by
  obtain ⟨xs, n, _, _, hcl, hxl, hf⟩ := DataW.trod_struct Tryz.underlying62 h
  rw [cells62] at hcl
  obtain ⟨a, b, c, rfl⟩ := len3 hcl
  obtain ⟨xa, xb, xc, rfl⟩ := len3 hxl
  ·
    have ha : DataW.trod enc Tryz.prog W base sp held n 3 (List.take (Tryz.prog.cellsOf 3) [a, b, c]) = some xa := hf 0 _ rfl
    have hb : DataW.trod enc Tryz.prog W base sp held n 2 (List.take (Tryz.prog.cellsOf 2) [b, c]) = some xb := hf 1 _ rfl
    have hc : DataW.trod enc Tryz.prog W base sp held n 9 (List.take (Tryz.prog.cellsOf 9) [c]) = some xc := hf 2 _ rfl
    rw [cells3] at ha
    rw [cells2] at hb
    rw [cells9] at hc
    obtain ⟨k, e1, _, _⟩ := DataW.trod_int (k := .i64) Tryz.underlying3 ha
    obtain ⟨m, e2, _, _⟩ := DataW.trod_int (k := .i64) Tryz.underlying2 hb
    obtain ⟨s, e3, _, _⟩ := DataW.trod_string Tryz.underlying9 hc
    simp at e1 e2 e3
    exact ⟨⟨k, m, s⟩, by rw [e1, e2, e3]⟩
theorem col_of_trod (h : DataW.trod enc Tryz.prog W base sp held fuel 64 cs = some x) :
    ∃ c : ColD, (∀ j, j < 9 → cs[j]? = some (c.cell j)) ∧ ∃ rest, x.1 = .agg (.lit (.string c.nm.data.toList) :: rest) := by
  obtain ⟨xs, n, _, hx, hcl, hxl, hf⟩ := DataW.trod_struct Tryz.underlying64 h
  rw [cells64] at hcl
  obtain ⟨a0, a1, a2, a3, a4, a5, a6, a7, a8, rfl⟩ := len9 hcl
  obtain ⟨x0, x1, x2, x3, x4, x5, x6, rfl⟩ := len7 hxl
  ·
    have h0 : DataW.trod enc Tryz.prog W base sp held n 9 (List.take (Tryz.prog.cellsOf 9) [a0, a1, a2, a3, a4, a5, a6, a7, a8]) = some x0 := hf 0 _ rfl
    have h1 : DataW.trod enc Tryz.prog W base sp held n 3 (List.take (Tryz.prog.cellsOf 3) [a1, a2, a3, a4, a5, a6, a7, a8]) = some x1 := hf 1 _ rfl
    have h2 : DataW.trod enc Tryz.prog W base sp held n 3 (List.take (Tryz.prog.cellsOf 3) [a2, a3, a4, a5, a6, a7, a8]) = some x2 := hf 2 _ rfl
    have h3 : DataW.trod enc Tryz.prog W base sp held n 4 (List.take (Tryz.prog.cellsOf 4) [a3, a4, a5, a6, a7, a8]) = some x3 := hf 3 _ rfl
    have h4 : DataW.trod enc Tryz.prog W base sp held n 4 (List.take (Tryz.prog.cellsOf 4) [a4, a5, a6, a7, a8]) = some x4 := hf 4 _ rfl
    have h5 : DataW.trod enc Tryz.prog W base sp held n 4 (List.take (Tryz.prog.cellsOf 4) [a5, a6, a7, a8]) = some x5 := hf 5 _ rfl
    have h6 : DataW.trod enc Tryz.prog W base sp held n 62 (List.take (Tryz.prog.cellsOf 62) [a6, a7, a8]) = some x6 := hf 6 _ rfl
    rw [cells9] at h0
    rw [cells3] at h1 h2
    rw [cells4] at h3 h4 h5
    rw [cells62] at h6
    obtain ⟨nm, e0, y0, _⟩ := DataW.trod_string Tryz.underlying9 h0
    obtain ⟨ty, e1, _, _⟩ := DataW.trod_int (k := .i64) Tryz.underlying3 h1
    obtain ⟨co, e2, _, _⟩ := DataW.trod_int (k := .i64) Tryz.underlying3 h2
    obtain ⟨ke, e3, _⟩ := DataW.trod_bool Tryz.underlying4 h3
    obtain ⟨nn, e4, _⟩ := DataW.trod_bool Tryz.underlying4 h4
    obtain ⟨un, e5, _⟩ := DataW.trod_bool Tryz.underlying4 h5
    obtain ⟨v, e6⟩ := val_of_trod h6
    simp at e0 e1 e2 e3 e4 e5 e6
    obtain ⟨e6, e7, e8⟩ := e6
    subst e0 e1 e2 e3 e4 e5 e6 e7 e8
    refine ⟨⟨nm, ty, co, ke, nn, un, v.k, v.n, v.s⟩, fun j hj => ?_, ?_⟩
    · match j, hj with
      | 0, _ => rfl
      | 1, _ => rfl
      | 2, _ => rfl
      | 3, _ => rfl
      | 4, _ => rfl
      | 5, _ => rfl
      | 6, _ => rfl
      | 7, _ => rfl
      | 8, _ => rfl
    · rw [hx]; simp [y0]
end
theorem weightsAll_mem {H : Type} {P : Program} {e : TypeId} {l : List (DataW H)} {d : DataW H} (hd : d ∈ l) {n : Nat} (hn : n ∈ d.weights P e) : n ∈ DataW.weightsAll P e l := by
  induction l with
  | nil => cases hd
  | cons a l ih =>
    unfold DataW.weightsAll
    rcases List.mem_cons.1 hd with rfl | h
    · exact List.mem_append.2 (.inl hn)
    · exact List.mem_append.2 (.inr (ih h))
theorem addr_form {W : World} {a : Addr} {v : Value} (h : W.cell? a = some v) : a = ⟨a.block, a.off, none⟩ := by
  obtain ⟨b, o, s⟩ := a
  cases s with
  | none => rfl
  | some s =>
    unfold World.cell? at h
    split at h
    · simp at h
    · cases h
theorem addr_add (b o k : Nat) : (⟨b, o, none⟩ : Addr).add k = ⟨b, o + k, none⟩ := by unfold Addr.add; split <;> simp_all
theorem add_form {W : World} {a : Addr} {v : Value} (h : W.cell? a = some v) (k : Nat) : a.add k = ⟨a.block, a.off + k, none⟩ := (congrArg (·.add k) (addr_form h)).trans (addr_add _ _ _)
theorem add_add' (a : Addr) (i j : Nat) : (a.add i).add j = a.add (i + j) := by
  unfold Addr.add
  by_cases hi : i = 0 <;> by_cases hj : j = 0 <;> simp [hi, hj, Nat.add_assoc]
theorem cells_here {W : World} {base : Nat} {a : Addr} {n i : Nat} {cs : List Value} (hc : W.cells? base (a.add (i * n)) n = some cs) (hl : ∀ j, j < n → cs[j]?.isSome = true) : ∀ j v, j < n → cs[j]? = some v → W.cell? (a.add (i * n + j)) = some v := by
  intro j v hj hv
  obtain ⟨_, _, hat⟩ := World.cells?_some hc
  have := hat j hj
  rw [add_add'] at this
  rw [this, hv]
section
variable {H : Type} {enc : TypeId × Value → H} {W : World} {held : Bool}
set_option maxRecDepth 100000 in
theorem open_table {r : Reach} {b0 : Nat} {v : Value} {d : DataW H} {p : List MemPlace} (hv : Value.okWide Tryz.prog W r b0 25 v) (h : DataW.Trod enc Tryz.prog W 0 (fun _ => true) held 25 v d p)
    (hw : ∀ n ∈ d.weights Tryz.prog 25, n ≤ reachBytes) :
    ∃ (tn : Value) (ao : Option Addr) (n cap : Nat) (chk root : Value) (C : Nat → ColD), v = .agg #[tn, .slice ao n cap, chk, root] ∧ n ≤ maxLen ∧ TabAt W ao n C ∧ ∀ i, i < n → (C i).nm.size ≤ 140737488351232 := by
  obtain ⟨v0, v1, v2, v3, y0, y1, y2, y3, m, rfl, rfl, _, h0, h1, h2, h3⟩ := open_agg4 Tryz.underlying25 (by kernel_rfl) (by kernel_rfl) hv h
  rcases open_slice Tryz.underlying22 h1 with ⟨e, _⟩ | ⟨a, len, cap, mm, k, D, Pl, e, _, hlc, hcm, hm, hy, hi⟩
  · obtain rfl : v1 = .slice none 0 0 := by simpa using e
    exact ⟨v0, none, 0, 0, v2, v3, fun _ => ⟨ByteArray.empty, 0, 0, false, false, false, 0, 0, ByteArray.empty⟩, rfl, by simp [maxLen], ⟨0, 0, fun h => by omega, fun h => by omega, fun i j h => by omega⟩, fun i h => by omega⟩
  · obtain rfl : v1 = .slice (some a) len cap := by simpa using e
    have hm' : mm = cap := by simpa using hm
    subst hm'
    rw [cells64] at hi
    have each : ∀ i, ∃ c : ColD, i < len → (∀ j, j < 9 → W.cell? (a.add (i * 9 + j)) = some (c.cell j)) ∧ c.nm.size ≤ 140737488351232 := by
      intro i
      by_cases hl : i < len
      · obtain ⟨cs, hc, ht⟩ := hi i (by omega)
        obtain ⟨c, hcc, rest, hD⟩ := col_of_trod ht
        refine ⟨c, fun _ => ⟨fun j hj => cells_here hc (fun j hj => by rw [hcc j hj]; rfl) j _ hj (hcc j hj), ?_⟩⟩
        have hmem : c.nm.data.toList.length ∈ DataW.weights Tryz.prog 25 (.agg [y0.1, y1.1, y2.1, y3.1]) := by
          rw [hy]
          simp only [DataW.weights, Tryz.underlying25, Tryz.underlying22, DataW.weightsEach, List.map_cons, List.mem_append, List.mem_cons]
          refine .inr (.inl (.inr (.inl ?_)))
          refine weightsAll_mem (d := D i) (List.mem_map.2 ⟨i, List.mem_range.2 hl, rfl⟩) ?_
          simp only at hD
          rw [hD]
          simp [DataW.weights, Tryz.underlying64, DataW.weightsEach]
        have := hw _ hmem
        simpa [reachBytes] using this
      · exact ⟨⟨ByteArray.empty, 0, 0, false, false, false, 0, 0, ByteArray.empty⟩, fun h => absurd h hl⟩
    refine ⟨v0, some a, len, mm, v2, v3, fun i => Classical.choose (each i), rfl, by omega, ⟨a.block, a.off, fun hn => ?_, fun hn => ?_, fun i j hi hj => ?_⟩, fun i hi => (Classical.choose_spec (each i) hi).2⟩
    · have h9 := (Classical.choose_spec (each 0) hn).1 0 (by omega)
      rw [show a.add (0 * 9 + 0) = a from by unfold Addr.add; simp] at h9
      exact congrArg some (addr_form h9)
    · have h9 := (Classical.choose_spec (each 0) hn).1 0 (by omega)
      rw [show a.add (0 * 9 + 0) = a from by unfold Addr.add; simp] at h9
      exact World.block_lt_of_cell? _ _ h9
    · have h9 := (Classical.choose_spec (each 0) (by omega)).1 0 (by omega)
      rw [show a.add (0 * 9 + 0) = a from by unfold Addr.add; simp] at h9
      have := (Classical.choose_spec (each i) hi).1 j hj
      rw [add_form h9] at this
      rw [show a.off + i * 9 + j = a.off + (i * 9 + j) by omega]
      exact this
theorem open_strs {v : Value} {d : DataW H} {p : List MemPlace} (hv : ∃ a l c, v = .slice a l c) (h : DataW.Trod enc Tryz.prog W 0 (fun _ => true) held 26 v d p) (hw : ∀ n ∈ d.weights Tryz.prog 26, n ≤ reachBytes) :
    ∃ (ao : Option Addr) (m cap : Nat) (cs : Nat → ByteArray), v = .slice ao m cap ∧ m ≤ maxLen ∧ StrsAt W ao m cs ∧ ∀ i, i < m → (cs i).size ≤ 140737488351232 := by
  obtain ⟨A, len, cap, rfl⟩ := hv
  obtain ⟨fuel, h⟩ := h
  rcases Go.ChangeShapes.open_strings Tryz.underlying26 Tryz.underlying9 cells9 h with ⟨e, _⟩ | ⟨a, len', cap', ss, e, _, hlc, hcm, hsl, hx, hc, _⟩
  · obtain ⟨e1, e2, e3⟩ : A = none ∧ len = 0 ∧ cap = 0 := by simpa [Value.cells] using e
    subst e1 e2 e3
    exact ⟨none, 0, 0, fun _ => ByteArray.empty, rfl, by simp [maxLen], fun h => by omega, fun i h => by omega⟩
  · obtain ⟨e1, e2, e3⟩ : A = some a ∧ len = len' ∧ cap = cap' := by simpa [Value.cells] using e
    subst e1 e2 e3
    have hsl' : ss.length = cap := by simpa using hsl
    refine ⟨some a, len, cap, fun i => ss.getD i ByteArray.empty, rfl, by omega, fun h0 => ?_, fun i hi => ?_⟩
    · have h9 := hc 0 (by omega)
      rw [show a.add 0 = a from by unfold Addr.add; simp] at h9
      refine ⟨a.block, a.off, congrArg some (addr_form h9), World.block_lt_of_cell? _ _ h9, fun i hi => ?_⟩
      have := hc i (by omega)
      rw [add_form h9] at this
      exact this
    · have hd : d = .slice (strs (ss.take len)) (strs (ss.drop len)) := congrArg Prod.fst hx
      have hmem : (ss.getD i ByteArray.empty).data.toList.length ∈ DataW.weights Tryz.prog 26 d := by
        rw [hd]
        simp only [DataW.weights, Tryz.underlying26, List.mem_append, List.mem_cons]
        refine .inr (.inl (weightsAll_mem (d := .lit (.string (ss.getD i ByteArray.empty).data.toList)) (List.mem_map.2 ⟨ss.getD i ByteArray.empty, ?_, rfl⟩) (by simp [DataW.weights])))
        have hil : i < ss.length := by omega
        rw [List.getD_eq_getElem?_getD, List.getElem?_eq_getElem hil, Option.getD_some]
        exact List.mem_take_iff_getElem.2 ⟨i, by omega, rfl⟩
      have := hw _ hmem
      simpa [reachBytes] using this
theorem open_vals {v : Value} {d : DataW H} {p : List MemPlace} (hv : ∃ a l c, v = .slice a l c) (h : DataW.Trod enc Tryz.prog W 0 (fun _ => true) held 27 v d p) :
    ∃ (ao : Option Addr) (vals : List ValD) (cap : Nat), v = .slice ao vals.length cap ∧ vals.length ≤ maxLen ∧ ValRow W ao vals ∧ (ao = none → vals.length = 0 ∧ cap = 0) ∧ vals.length ≤ cap := by
  obtain ⟨A, len, cap, rfl⟩ := hv
  obtain ⟨fuel, h⟩ := h
  rcases open_slice Tryz.underlying27 h with ⟨e, _⟩ | ⟨a, len', cap', mm, k, D, Pl, e, _, hlc, hcm, hm, hy, hi⟩
  · obtain ⟨e1, e2, e3⟩ : A = none ∧ len = 0 ∧ cap = 0 := by simpa [Value.cells] using e
    subst e1 e2 e3
    exact ⟨none, [], 0, rfl, by simp [maxLen], fun h => by simp at h, fun _ => ⟨rfl, rfl⟩, by simp⟩
  · obtain ⟨e1, e2, e3⟩ : A = some a ∧ len = len' ∧ cap = cap' := by simpa [Value.cells] using e
    subst e1 e2 e3
    have hm' : mm = cap := by simpa using hm
    subst hm'
    rw [cells62] at hi
    have each : ∀ i, ∃ c : ValD, i < len → ∀ j, j < 3 → W.cell? (a.add (i * 3 + j)) = some (c.cell j) := by
      intro i
      by_cases hl : i < len
      · obtain ⟨cs, hc, ht⟩ := hi i (by omega)
        obtain ⟨c, rfl⟩ := val_of_trod ht
        have hcc : ∀ j, j < 3 → ([.int .i64 c.k, .int .i64 c.n, .string c.s] : List Value)[j]? = some (c.cell j) := fun j hj => match j, hj with | 0, _ => rfl | 1, _ => rfl | 2, _ => rfl
        exact ⟨c, fun _ j hj => cells_here hc (fun j hj => by rw [hcc j hj]; rfl) j _ hj (hcc j hj)⟩
      · exact ⟨⟨0, 0, ByteArray.empty⟩, fun h => absurd h hl⟩
    have hlen : ((List.range len).map fun i => Classical.choose (each i)).length = len := by simp
    refine ⟨some a, (List.range len).map fun i => Classical.choose (each i), mm, by rw [hlen], by rw [hlen]; omega, fun h0 => ?_, (fun h => by cases h), by rw [hlen]; exact hlc⟩
    rw [hlen] at h0
    have h9 := Classical.choose_spec (each 0) h0 0 (by omega)
    rw [show a.add (0 * 3 + 0) = a from by unfold Addr.add; simp] at h9
    refine ⟨a.block, a.off, congrArg some (addr_form h9), World.block_lt_of_cell? _ _ h9, fun i hi j hj => ?_⟩
    have hi' : i < len := by rw [hlen] at hi; exact hi
    have := Classical.choose_spec (each i) hi' j hj
    rw [add_form h9] at this
    rw [show a.off + i * 3 + j = a.off + (i * 3 + j) by omega, this]
    simp
end
end Go.Proofs.YtkohmamikbdloaaGreatDoor
