/- The walk of the reference Fill, and of the law, the example by its contract. -/
import Derived.Test.YtkohmamikbdloaaGreatDoorPs
set_option linter.all false
namespace Go.Proofs.YtkohmamikbdloaaGreatDoor
open Go.RowKit
theorem Tryz.info4 : (Tryz.prog.info? 4).map (fun i => (i.zero, i.size, i.bytes)) = some (some (.bool false), 1, 1) := by kernel_rfl
/-- has a column been named by the first q names? -/
def hit (P : Nat → Int) (q c : Nat) : Bool := (List.range q).any fun j => P j == (c : Int)
theorem hit_succ (P : Nat → Int) (q c : Nat) : hit P (q + 1) c = (hit P q c || P q == (c : Int)) := by unfold hit; rw [List.range_succ, List.any_append]; simp
theorem hit_true {P : Nat → Int} {q c : Nat} : hit P q c = true ↔ ∃ j, j < q ∧ P j = c := by
  unfold hit; rw [List.any_eq_true]
  constructor
  · rintro ⟨j, hj, e⟩; exact ⟨j, List.mem_range.1 hj, by simpa using e⟩
  · rintro ⟨j, hj, e⟩; exact ⟨j, List.mem_range.2 hj, by simpa using e⟩
def setOf (P : Nat → Int) (q n : Nat) : List Value := (List.range n).map fun c => .bool (hit P q c)
theorem setOf_length (P : Nat → Int) (q n : Nat) : (setOf P q n).length = n := by simp [setOf]
theorem setOf_zero (P : Nat → Int) (n : Nat) : setOf P 0 n = List.replicate n (.bool false) := by
  apply List.ext_getElem <;> simp [setOf, hit]
theorem setOf_get (P : Nat → Int) (q n c : Nat) (h : c < n) : (setOf P q n)[c]? = some (.bool (hit P q c)) := by
  unfold setOf; rw [List.getElem?_map, List.getElem?_range h]; rfl
theorem setOf_set {P : Nat → Int} {q n p : Nat} (h : P q = p) : (setOf P q n).set p (.bool true) = setOf P (q + 1) n := by
  apply List.ext_getElem?
  intro c
  by_cases hc : c < n
  · rw [setOf_get _ _ _ _ hc, hit_succ, h]
    simp only [List.getElem?_set, setOf_length]
    by_cases e : p = c
    · subst e; rw [if_pos rfl, if_pos hc]; simp
    · rw [if_neg e, setOf_get _ _ _ _ hc]
      have : ((p : Int) == (c : Int)) = false := by simp; omega
      rw [this, Bool.or_false]
  · rw [List.getElem?_eq_none (by simp [setOf_length]; omega), List.getElem?_eq_none (by rw [setOf_length]; omega)]
theorem own_far {w : World} {base : Nat} {e : TypeId} {size n g cap : Nat} {xs : List Value} (h : w.ownsRow base e size (.slice (some ⟨g, 0, none⟩) n cap) n xs) {a : Addr} (ha : a.block ≠ g) (u : Value) : (w.setCell a u).ownsRow base e size (.slice (some ⟨g, 0, none⟩) n cap) n xs :=
  h.kept (row := some a.block) ⟨rfl, rfl, rfl, by simp [World.setCell], fun k _ hk => Below.heap_setCell w a u k (fun e => hk (by rw [e]))⟩ (by right; simp [Value.ownBlock]; exact fun e => ha e.symm)
theorem PAt_nat {C : Nat → ColD} {n : Nat} {cs : Nat → ByteArray} {q : Nat} (h0 : 0 ≤ PAt C n cs q) : ∃ p : Nat, PAt C n cs q = p ∧ p < n := by
  have := colAt_lt (nm := fun i => (C i).nm) (n := n) (s := cs q) h0
  refine ⟨(PAt C n cs q).toNat, by omega, ?_⟩
  have h1 : PAt C n cs q = colAt (fun i => (C i).nm) n (cs q) := rfl
  omega
set_option maxHeartbeats 6400000 in
set_option maxRecDepth 100000 in
theorem rfill_calls (tn chk root : Value) (ao : Option Addr) (n cap : Nat) (C : Nat → ColD) (w : World) (hn : n ≤ 40) (m : Nat) (hm : m ≤ 40) (cs : Nat → ByteArray) (cao : Option Addr) (ccap : Nat)
    (va : Option Addr) (vals : List ValD) (vcap : Nat) (hv : vals.length ≤ 40)
    (ht : TabAt w ao n C) (hz : ∀ i, i < n → (C i).nm.size ≤ 140737488351232) (hcs : StrsAt w cao m cs) (hcz : ∀ i, i < m → (cs i).size ≤ 140737488351232)
    (hvr : ValRow w va vals) (hvn : va = none → vals.length = 0 ∧ vcap = 0) (_hvc : vals.length ≤ vcap) :
    Calls Tryz.prog 7 #[.agg #[tn, .slice ao n cap, chk, root], .slice cao m ccap, .slice va vals.length vcap] w (FillPost w (DAt C) n (PAt C n cs) m vals) := by
  have HT : Hid (TabAt w ao n C) := ht
  have HZ : Hid (∀ i, i < n → (C i).nm.size ≤ 140737488351232) := hz
  have HCS : Hid (StrsAt w cao m cs) := hcs
  have HCZ : Hid (∀ i, i < m → (cs i).size ≤ 140737488351232) := hcz
  have HV : Hid (ValRow w va vals) := hvr
  have HVN : Hid (va = none → vals.length = 0 ∧ vcap = 0) := hvn
  clear ht hz hcs hcz hvr hvn _hvc
  obtain ⟨i0, hi0, hz0, hz1, hz2⟩ := info_parts Tryz.info62
  have HI : Hid (Tryz.prog.info? 62 = some i0 ∧ i0.zero = some (.agg #[.int .i64 0, .int .i64 0, .string ByteArray.empty]) ∧ i0.size = 3 ∧ i0.bytes = 32) := ⟨hi0, hz0, hz1, hz2⟩
  clear hi0 hz0 hz1 hz2
  obtain ⟨j0, hi0, hz0, hz1, hz2⟩ := info_parts Tryz.info4
  have HJ : Hid (Tryz.prog.info? 4 = some j0 ∧ j0.zero = some (.bool false) ∧ j0.size = 1 ∧ j0.bytes = 1) := ⟨hi0, hz0, hz1, hz2⟩
  clear hi0 hz0 hz1 hz2
  obtain ⟨lv, hlv⟩ : ∃ lv, vals.length = lv := ⟨_, rfl⟩
  have HLV : Hid (vals.length = lv) := hlv
  rw [hlv] at hv ⊢
  clear hlv
  by_cases hm0 : m = 0
  · subst hm0
    by_cases hlv : lv = n
    · subst hlv
      have HB0 : Hid (∀ o1 o2, Below w.heap.size w ((w.alloc o1).alloc o2)) := fun o1 o2 => ((Below.refl _ _).alloc (Nat.le_refl _) _).alloc (alloc_ge (Nat.le_refl _) _) _
      by_cases h0 : lv = 0
      · subst h0
        obtain rfl : vals = [] := List.eq_nil_of_length_eq_zero HLV.out
        cases va with
        | none =>
          obtain ⟨_, rfl⟩ := HVN.out rfl
          go_enter Tryz.func7, Tryz.ntmps7
          go_wp2
          go_ret2
          refine ⟨HB0.out _ _, _, [], _, 0, rfl, fun h => by simp at h, ?_⟩
          unfold FillSay
          rw [if_pos rfl, if_pos HLV.out]
          exact ⟨rfl, rfl⟩
        | some ad =>
          go_enter Tryz.func7, Tryz.ntmps7
          go_wp2
          go_ret2
          refine ⟨HB0.out _ _, _, [], _, 0, rfl, fun h => by simp at h, ?_⟩
          unfold FillSay
          rw [if_pos rfl, if_pos HLV.out]
          exact ⟨rfl, rfl⟩
      · obtain ⟨vb, voff, rfl, hvb, _⟩ := HV.out (by rw [HLV.out]; omega)
        obtain ⟨hi0, hz0, hz1, hz2⟩ := HI.out
        have HC : Hid (∀ o1 o2 : Obj, ∀ j u, (rowOf (valF vals) vals.length)[j]? = some u → ((w.alloc o1).alloc o2).cell? ((⟨vb, voff, none⟩ : Addr).add j) = some u) := fun o1 o2 j u h =>
          (HV.out.kept (HB0.out o1 o2)).cells j u h
        have HO : Hid (∀ o1 : Obj, ((w.alloc o1).alloc (.cells #[] 62)).ownsRow w.heap.size 62 3 (.slice (some ⟨w.heap.size + 1, 0, none⟩) 0 0) 0 []) := fun o1 => by
          have := World.ownsRow_made (base := w.heap.size) (e := 62) (size := 3) (w.alloc o1) #[] 0 (alloc_ge (Nat.le_refl _) _) (by simp [maxLen]) rfl
          simpa using this
        have HLEN : Hid ((rowOf (valF vals) vals.length).length = lv * 3) := by show _ = _; rw [rowOf_length, HLV.out]
        have H63 : Hid (0 + lv ≤ maxLen) := by show _ ≤ _; simp only [maxLen]; omega
        have H47 : Hid ((0 + lv) * 32 ≤ 140737488355328) := by show _ ≤ _; omega
        go_enter Tryz.func7, Tryz.ntmps7
        go_wp2_with (at_builtin; refine wpList_append_own _ rfl _ _ 27 rfl w.heap.size 62 i0 (.agg #[.int .i64 0, .int .i64 0, .string ByteArray.empty]) 3 32 Tryz.underlying27 hi0 hz0 hz1 hz2 rfl (by decide) _ _ _ rfl (HO.out _) ⟨vb, voff, none⟩ lv vcap (rowOf (valF vals) vals.length) rfl HLEN.out (HC.out _ _) (one_rowOf _ _) H63.out H47.out (HB0.out _ _).size ?_)
        intro v' w2 hown hgrow _
        have HO2 : Hid (w2.ownsRow w.heap.size 62 3 v' vals.length (rowOf (valF vals) vals.length)) := by rw [HLV.out] at *; exact hown
        have HB : Hid (Below w.heap.size w w2) := (HB0.out _ _).grown hgrow (HB0.out _ _).size (fun q e => by simp [Value.ownBlock] at e; omega)
        clear hown hgrow
        go_wp2
        go_ret2
        obtain ⟨a', ca', rfl, hr⟩ := own_valRow HO2.out
        rw [valF_map] at hr
        refine ⟨HB.out, a', vals, ca', 0, rfl, hr, ?_⟩
        unfold FillSay
        rw [if_pos rfl, if_pos HLV.out]
        exact ⟨rfl, rfl⟩
    · have h1 : ((lv : Int) == (n : Int)) = false := by simp; omega
      have h2 : ((lv : Int) != (n : Int)) = true := by simp; omega
      go_enter Tryz.func7, Tryz.ntmps7
      go_wp2
      go_ret2
      refine ⟨(Below.refl _ _).alloc (Nat.le_refl _) _, none, [], 0, 27, rfl, nil_row _, ?_⟩
      unfold FillSay
      rw [if_pos rfl, if_neg (by rw [HLV.out]; exact hlv)]
      exact ⟨rfl, rfl⟩
  · have hm1 : ((m : Int) == 0) = false := by simp; omega
    by_cases hlv : lv = m
    · subst hlv
      obtain ⟨hi0, hz0, hz1, hz2⟩ := HJ.out
      have HGE : Hid (∀ o1 : Obj, w.heap.size + 1 ≤ (w.alloc o1).heap.size) := fun o1 => by simp
      have H63 : Hid (n ≤ maxLen) := by show _ ≤ _; simp only [maxLen]; omega
      have H47 : Hid (j0.bytes * n ≤ 281474976710656) := by show _ ≤ _; rw [hz2]; omega
      have HB1 : Hid (∀ o1, Below w.heap.size w (w.alloc o1)) := fun o1 => (Below.refl _ _).alloc (Nat.le_refl _) _
      have HBB : Hid (∀ (o1 : Obj) (w2 : World), (w.alloc o1).grownBy w2 none → Below (w.heap.size + 1) (w.alloc o1) w2) := fun o1 w2 h => (Below.refl _ _).grown h (by simp) (fun q e => by cases e)
      have HT0 : Hid (∀ w2 : World, Below (w.heap.size + 1) (w.alloc (.cells #[tn, .slice ao n cap, chk, root] 25)) w2 →
          w2.cell? ⟨w.heap.size, 0, none⟩ = some tn ∧ w2.cell? ⟨w.heap.size, 1, none⟩ = some (.slice ao n cap) ∧ w2.cell? ⟨w.heap.size, 2, none⟩ = some chk ∧ w2.cell? ⟨w.heap.size, 3, none⟩ = some root) := fun w2 hb => by
        refine ⟨?_, ?_, ?_, ?_⟩ <;>
        (rw [hb.cell (Nat.lt_succ_self _), World.cell?_alloc_at _ _ _ _ rfl]; rfl)
      obtain ⟨cb, coff, rfl, hcb, hcc⟩ := HCS.out (by omega)
      have HCC : Hid (∀ i, i < lv → w.cell? ⟨cb, coff + i, none⟩ = some (.string (cs i))) := hcc
      clear hcc
      have HBW : Hid (∀ wr : World, Below (w.heap.size + 1) (w.alloc (.cells #[tn, .slice ao n cap, chk, root] 25)) wr → Below w.heap.size w wr) := fun wr h => (HB1.out _).trans (h.mono (by omega))
      have HCOL : Hid (∀ q, q < lv → ∀ W : World, Below w.heap.size w W → Calls Tryz.prog 25 #[.agg #[tn, .slice ao n cap, chk, root], .string (cs q)] W fun e w' => e = .returned (.int .i64 (PAt C n cs q)) ∧ Below W.heap.size W w') := fun q hq W hW => by
        obtain ⟨b, off, tb1, tb2, tb3⟩ := HT.out.kept hW
        exact column_calls tn chk root ao b off n cap (fun i => (C i).nm) (cs q) W hn (HCZ.out q hq) tb1 (fun i hi => tb3 i 0 hi (by omega)) HZ.out tb2
      go_enter Tryz.func7, Tryz.ntmps7
      go_wp2_with (refine wpList_make_full _ rfl _ _ 82 rfl (w.heap.size + 1) 4 j0 (.bool false) 1 Tryz.underlying82 hi0 hz0 hz1 .i64 .i64 n n n rfl rfl rfl rfl H47.out H63.out (HGE.out _) ?_)
      intro w1 hown hgrow
      have HW1 : Hid (Below (w.heap.size + 1) (w.alloc (.cells #[tn, .slice ao n cap, chk, root] 25)) w1) := HBB.out _ _ hgrow
      have HS1 : Hid (w1.ownsRow (w.heap.size + 1) 4 1 (.slice (some ⟨w.heap.size + 1, 0, none⟩) n n) n (setOf (PAt C n cs) 0 n)) := by
        rw [toList_madeCells_one, ← setOf_zero (PAt C n cs)] at hown; exact hown
      have hsz1 : w.heap.size + 1 < w1.heap.size := (hown.lt (w.heap.size + 1) rfl).2
      clear hown hgrow hi0 hz0 hz1 hz2
      go_wp2
      go_loopw [8, 10] (fun out i wr => ∃ k : Nat, k ≤ n ∧ i = .int .i64 k ∧ Hid (wr.ownsRow w1.heap.size 62 3 out k (rowOf (DAt C) k)) ∧ Hid (Below w1.heap.size w1 wr))
        (fun _ i _ => n - (intOf i).toNat)
      case atStart => exact ⟨0, Nat.zero_le _, rfl, World.ownsRow_nil _ _ _ _, Below.refl _ _⟩
      case round =>
        obtain ⟨k, hk, rfl, HO, HBl⟩ := hrel
        have s1 : wr.cell? ⟨w.heap.size, 1, none⟩ = some (.slice ao n cap) := (HBl.out.cell (by show w.heap.size < _; omega)).trans (HT0.out w1 HW1.out).2.1
        by_cases hlt : k < n
        · obtain ⟨tb, toff, tb1, tb2, tb3⟩ := (HT.out.kept ((HBW.out _ HW1.out).trans (HBl.out.mono (by omega))))
          obtain rfl := tb1 (by omega)
          have hcj : ∀ j, j < 9 → wr.cell? ⟨tb, toff + k * 9 + j, none⟩ = some ((C k).cell j) := fun j hj => tb3 k j hlt hj
          have c6 : wr.cell? ⟨tb, toff + k * 9 + 6, none⟩ = some (.int .i64 (C k).dk) := hcj 6 (by omega)
          have c7 : wr.cell? ⟨tb, toff + k * 9 + 7, none⟩ = some (.int .i64 (C k).dn) := hcj 7 (by omega)
          have c8 : wr.cell? ⟨tb, toff + k * 9 + 8, none⟩ = some (.string (C k).ds) := hcj 8 (by omega)
          clear tb1 tb2 tb3 hcj
          obtain ⟨hi0, hz0, hz1, hz2⟩ := HI.out
          have H63 : Hid (k + 1 ≤ maxLen) := by show _ ≤ _; simp only [maxLen]; omega
          have H47 : Hid ((k + 1) * 32 ≤ 140737488355328) := by show _ ≤ _; omega
          have HGE : Hid (∀ o1 : Obj, w1.heap.size ≤ (wr.alloc o1).heap.size) := fun o1 => alloc_ge HBl.out.size _
          go_wp2_with (at_builtin; refine wpList_append_own _ rfl _ _ 27 rfl w1.heap.size 62 i0 (.agg #[.int .i64 0, .int .i64 0, .string ByteArray.empty]) 3 32 Tryz.underlying27 hi0 hz0 hz1 hz2 rfl (by decide) _ _ _ rfl (HO.out.alloc _) ⟨wr.heap.size, 0, none⟩ 1 1 [.int .i64 (C k).dk, .int .i64 (C k).dn, .string (C k).ds] rfl rfl (news_new wr 62 [.int .i64 (C k).dk, .int .i64 (C k).dn, .string (C k).ds]) (one_val _ _ _) H63.out H47.out (HGE.out _) ?_)
          intro v' w2 hown hgrow _
          have HO2 : Hid (w2.ownsRow w1.heap.size 62 3 v' (k + 1) (rowOf (DAt C) (k + 1))) := by rw [← rowOf_succ]; exact hown
          have HBl2 : Hid (Below w1.heap.size w1 w2) := (HBl.out.alloc HBl.out.size _).grown hgrow (HGE.out _) (fun q e => (HO.out.lt q e).1)
          clear hown hgrow hi0 hz0 hz1 hz2 c6 c7 c8 s1
          go_wp2
          exact ⟨⟨k + 1, hlt, by simp, HO2, HBl2⟩, by simp only [intOf]; omega⟩
        · obtain rfl : k = n := by omega
          have HWr : Hid (Below (w.heap.size + 1) (w.alloc (.cells #[tn, .slice ao k cap, chk, root] 25)) wr) := HW1.out.trans (HBl.out.mono (by omega))
          have HSr : Hid (wr.ownsRow (w.heap.size + 1) 4 1 (.slice (some ⟨w.heap.size + 1, 0, none⟩) k k) k (setOf (PAt C k cs) 0 k)) := own_below HS1.out HBl.out
          have hszr : w1.heap.size ≤ wr.heap.size := HBl.out.size
          obtain ⟨vb, voff, rfl, hvb, hvcell⟩ := HV.out (by rw [HLV.out]; omega)
          have HVC : Hid (∀ i, i < lv → ∀ j, j < 3 → w.cell? ⟨vb, voff + i * 3 + j, none⟩ = some ((valF vals i).cell j)) := fun i hi j hj => by
            have hl : i < vals.length := by rw [HLV.out]; exact hi
            rw [hvcell i hl j hj]; simp [valF, hl]
          clear hvcell
          go_wp2
          clear s1
          obtain ⟨wo, hwo⟩ : ∃ wo : World, wo = wr := ⟨_, rfl⟩
          subst hwo
          go_loopw [11] (fun i wr => ∃ q : Nat, q ≤ lv ∧ i = .int .i64 q ∧ Hid (Good (PAt C k cs) q) ∧
              Hid (wr.ownsRow (w.heap.size + 1) 4 1 (.slice (some ⟨w.heap.size + 1, 0, none⟩) k k) k (setOf (PAt C k cs) q k)) ∧
              Hid (wr.ownsRow w1.heap.size 62 3 u8 k (rowOf (outAt (DAt C) (PAt C k cs) (valF vals) q) k)) ∧
              Hid (Below (w.heap.size + 1) (w.alloc (.cells #[tn, .slice ao k cap, chk, root] 25)) wr) ∧ w1.heap.size ≤ wr.heap.size)
            (fun i _ => lv - (intOf i).toNat)
          case atStart => exact ⟨0, Nat.zero_le _, rfl, Good.zero _, HSr, HO, HWr, hszr⟩
          case round =>
            obtain ⟨q, hq, rfl, HG, HSq, HOq, HBq, hszq⟩ := hrel
            by_cases hqlt : q < lv
            · obtain ⟨t0, t1, t2, t3⟩ := HT0.out wr HBq.out
              have ck : wr.cell? ⟨cb, coff + q, none⟩ = some (.string (cs q)) := ((HBW.out wr HBq.out).cell hcb).trans (HCC.out q hqlt)
              have hbd : Below w.heap.size w wr.drew := (HBW.out wr HBq.out).drew
              have HCQ : Hid (Calls Tryz.prog 25 #[.agg #[tn, .slice ao k cap, chk, root], .string (cs q)] wr.drew fun e w' => e = .returned (.int .i64 (PAt C k cs q)) ∧ Below wr.drew.heap.size wr.drew w') := HCOL.out q hqlt wr.drew hbd
              clear hbd
              go_wp2
              go_region_with ((go_at_call 25; refine HCQ.out.mono ?_; rintro e w3 ⟨rfl, hb3⟩))
              all_goals
                obtain ⟨x, hx⟩ : ∃ x, PAt C k cs q = x := ⟨_, rfl⟩
                rw [hx]
                have HX : Hid (PAt C k cs q = x) := hx
                clear hx
                have hb4 : Below wr.heap.size wr w3 := ⟨hb3.os, hb3.tape, hb3.output, hb3.size, hb3.block⟩
                have HS3 : Hid (w3.ownsRow (w.heap.size + 1) 4 1 (.slice (some ⟨w.heap.size + 1, 0, none⟩) k k) k (setOf (PAt C k cs) q k)) := own_below HSq.out hb4
                have HO3 : Hid (w3.ownsRow w1.heap.size 62 3 u8 k (rowOf (outAt (DAt C) (PAt C k cs) (valF vals) q) k)) := own_below HOq.out hb4
                have HB3 : Hid (Below (w.heap.size + 1) (w.alloc (.cells #[tn, .slice ao k cap, chk, root] 25)) w3) := HBq.out.trans (hb4.mono (by omega))
                have hsz3 : w1.heap.size ≤ w3.heap.size := Nat.le_trans hszq hb4.size
                clear hb3 hb4 t0 t1 t2 t3 ck HCQ
                by_cases hneg : x < 0
                · go_wp2
                  go_ret2
                  refine ⟨HBW.out _ HB3.out, none, [], 0, 22, rfl, nil_row _, ?_⟩
                  unfold FillSay
                  rw [if_neg hm0, if_pos HLV.out]
                  exact Or.inl ⟨q, hqlt, HG.out, by rw [HX.out]; exact hneg, rfl, rfl⟩
                · obtain ⟨p, hpx, hpn⟩ := PAt_nat (C := C) (n := k) (cs := cs) (q := q) (by rw [HX.out]; omega)
                  obtain rfl : x = (p : Int) := HX.out.symm.trans hpx
                  clear hpx hneg
                  have sp := HS3.out.cellAt p (by omega)
                  rw [setOf_get _ _ _ _ hpn] at sp
                  cases hh : hit (PAt C k cs) q p with
                  | true =>
                    rw [hh] at sp
                    obtain ⟨j, hj, hje⟩ := hit_true.1 hh
                    have HJJ : Hid (∃ j, j < q ∧ PAt C k cs j = PAt C k cs q) := ⟨j, hj, hje.trans HX.out.symm⟩
                    clear hh hj hje
                    go_wp2
                    go_ret2
                    refine ⟨HBW.out _ HB3.out, none, [], 0, 7, rfl, nil_row _, ?_⟩
                    unfold FillSay
                    rw [if_neg hm0, if_pos HLV.out]
                    exact Or.inr (Or.inl ⟨q, hqlt, HG.out, by rw [HX.out]; omega, HJJ.out, rfl, rfl⟩)
                  | false =>
                    rw [hh] at sp
                    have HNN : Hid (∀ j, j < q → PAt C k cs j ≠ PAt C k cs q) := fun j hj e => by
                      have : hit (PAt C k cs) q p = true := hit_true.2 ⟨j, hj, e.trans HX.out⟩
                      rw [hh] at this; cases this
                    clear hh
                    obtain ⟨g, gcap, rfl, hgb, hgl⟩ := HO3.out.form (by omega)
                    have sf := HS3.out.frozenAt p
                    have HW4 : Hid (Below w.heap.size w (w3.setCell ⟨w.heap.size + 1, p, none⟩ (.bool true))) := (HBW.out _ HB3.out).setCell (by simp) _
                    have v0 : (w3.setCell ⟨w.heap.size + 1, p, none⟩ (.bool true)).cell? ⟨vb, voff + q * 3, none⟩ = some (.int .i64 (valF vals q).k) := (HW4.out.cell hvb).trans (HVC.out q hqlt 0 (by omega))
                    have v1 : (w3.setCell ⟨w.heap.size + 1, p, none⟩ (.bool true)).cell? ⟨vb, voff + q * 3 + 1, none⟩ = some (.int .i64 (valF vals q).n) := (HW4.out.cell hvb).trans (HVC.out q hqlt 1 (by omega))
                    have v2 : (w3.setCell ⟨w.heap.size + 1, p, none⟩ (.bool true)).cell? ⟨vb, voff + q * 3 + 2, none⟩ = some (.string (valF vals q).s) := (HW4.out.cell hvb).trans (HVC.out q hqlt 2 (by omega))
                    have HO4 : Hid ((w3.setCell ⟨w.heap.size + 1, p, none⟩ (.bool true)).ownsRow w1.heap.size 62 3 (.slice (some ⟨g, 0, none⟩) k gcap) k (rowOf (outAt (DAt C) (PAt C k cs) (valF vals) q) k)) := own_far HO3.out (by show w.heap.size + 1 ≠ g; omega) _
                    have o0 := HO4.out.cellAt (p * 3) (by omega)
                    have o1 := HO4.out.cellAt (p * 3 + 1) (by omega)
                    have o2 := HO4.out.cellAt (p * 3 + 2) (by omega)
                    rw [rowOf_get _ _ _ (by omega)] at o0 o1 o2
                    have f0 := HO4.out.frozenAt (p * 3)
                    have f1 := HO4.out.frozenAt (p * 3 + 1)
                    have f2 := HO4.out.frozenAt (p * 3 + 2)
                    go_wp2
                    refine ⟨⟨q + 1, hqlt, by simp, HG.out.succ (by rw [HX.out]; omega) HNN.out, ?_, ?_, ?_, ?_⟩, by simp only [intOf]; omega⟩
                    · show World.ownsRow _ _ _ _ _ _ _
                      rw [← setOf_set HX.out]
                      exact own_far (own_far (own_far ((HS3.out.stored p (.bool true)).1) (by show g ≠ _; omega) _) (by show g ≠ _; omega) _) (by show g ≠ _; omega) _
                    · show World.ownsRow _ _ _ _ _ _ _
                      rw [← outAt_succ HX.out]; exact own_store HO4.out hpn
                    · exact (((HB3.out.setCell (Nat.le_refl _) _).setCell (by show _ ≤ g; omega) _).setCell (by show _ ≤ g; omega) _).setCell (by show _ ≤ g; omega) _
                    · simpa [World.setCell] using hsz3
            · obtain rfl : q = lv := by omega
              go_wp2
              go_ret2
              obtain ⟨a', ca', e', hr⟩ := own_valRow HOq.out
              refine ⟨HBW.out _ HBq.out, a', _, ca', 0, ?_, hr, ?_⟩
              · rw [List.length_map, List.length_range, ← e']; rfl
              · unfold FillSay
                rw [if_neg hm0, if_pos HLV.out]
                exact Or.inr (Or.inr ⟨HG.out, rfl, rfl⟩)
    · have h1 : ((m : Int) == (lv : Int)) = false := by simp; omega
      have h2 : ((m : Int) != (lv : Int)) = true := by simp; omega
      go_enter Tryz.func7, Tryz.ntmps7
      go_wp2
      go_ret2
      refine ⟨(Below.refl _ _).alloc (Nat.le_refl _) _, none, [], 0, 27, rfl, nil_row _, ?_⟩
      unfold FillSay
      rw [if_neg hm0, if_neg (by rw [HLV.out]; exact hlv)]
      exact ⟨rfl, rfl⟩
end Go.Proofs.YtkohmamikbdloaaGreatDoor

namespace Go.Proofs.YtkohmamikbdloaaGreatDoor
open Go.RowKit
theorem hideP {p : Prop} (h : p) : Hid p := h
theorem sameRow_at (a b : Option Addr) (l : List ValD) (la ca cb : Nat) (w : World) (hl : l.length = la) (hn : la ≤ 40) (ha : ValRow w a l) (hb : ValRow w b l) :
    Calls Tryz.prog 8 #[.slice a la ca, .slice b la cb] w fun e w' => e = .returned (.bool true) ∧ Below w.heap.size w w' := by
  subst hl; exact sameRow_calls a b l ca cb w hn ha hb
theorem FillSay.le {D : Nat → ValD} {n : Nat} {P : Nat → Int} {m : Nat} {vals l : List ValD} {er : Int} (h : FillSay D n P m vals l er) (hn : n ≤ 40) (hv : vals.length ≤ 40) : l.length ≤ 40 := by
  unfold FillSay at h
  split at h
  · split at h
    · rw [h.1]; exact hv
    · rw [h.1]; simp
  · split at h
    · rcases h with ⟨_, _, _, _, rfl, _⟩ | ⟨_, _, _, _, _, rfl, _⟩ | ⟨_, rfl, _⟩
      · simp
      · simp
      · simpa using hn
    · rw [h.1]; simp
set_option maxHeartbeats 6400000 in
set_option maxRecDepth 100000 in
theorem fills_calls (live : ∀ w : World, Calls Tryz.prog 5 #[] w fun e w' => e = .returned (.bool true) ∧ Below w.heap.size w w')
    (tn chk root : Value) (ao : Option Addr) (n cap : Nat) (C : Nat → ColD) (w : World) (hn : n ≤ 9223372036854775807) (m : Nat) (hm : m ≤ 9223372036854775807) (cs : Nat → ByteArray) (cao : Option Addr) (ccap : Nat)
    (va : Option Addr) (vals : List ValD) (vcap : Nat) (hv : vals.length ≤ 9223372036854775807)
    (ht : TabAt w ao n C) (hz : ∀ i, i < n → (C i).nm.size ≤ 140737488351232) (hcs : StrsAt w cao m cs) (hcz : ∀ i, i < m → (cs i).size ≤ 140737488351232)
    (hvr : ValRow w va vals) (hvn : va = none → vals.length = 0 ∧ vcap = 0) (hvc : vals.length ≤ vcap) :
    Calls Tryz.prog 3 #[.agg #[tn, .slice ao n cap, chk, root], .slice cao m ccap, .slice va vals.length vcap] w fun e w' => e = .returned (.bool true) ∧ Below w.heap.size w w' := by
  have HL := hideP live
  have HB1 : Hid (∀ o1 : Obj, Below w.heap.size w (w.alloc o1)) := fun o1 => (Below.refl _ _).alloc (Nat.le_refl _) _
  have HD : Hid (n ≤ 40 → m ≤ 40 → vals.length ≤ 40 → ∀ W : World, Below w.heap.size w W → Calls Tryz.prog 6 #[.agg #[tn, .slice ao n cap, chk, root], .slice cao m ccap, .slice va vals.length vcap] W (FillPost W (DAt C) n (PAt C n cs) m vals)) := fun h1 h2 h3 W hW =>
    dfill_calls tn chk root ao n cap C W h1 m h2 cs cao ccap va vals vcap h3 (ht.kept hW) hz (hcs.kept hW) hcz (hvr.kept hW) hvn hvc
  have HR : Hid (n ≤ 40 → m ≤ 40 → vals.length ≤ 40 → ∀ W : World, Below w.heap.size w W → Calls Tryz.prog 7 #[.agg #[tn, .slice ao n cap, chk, root], .slice cao m ccap, .slice va vals.length vcap] W (FillPost W (DAt C) n (PAt C n cs) m vals)) := fun h1 h2 h3 W hW =>
    rfill_calls tn chk root ao n cap C W h1 m h2 cs cao ccap va vals vcap h3 (ht.kept hW) hz (hcs.kept hW) hcz (hvr.kept hW) hvn hvc
  clear live ht hz hcs hcz hvr hvn hvc
  obtain ⟨lv, hlv⟩ : ∃ lv, vals.length = lv := ⟨_, rfl⟩
  rw [hlv] at hv HD HR ⊢
  have HLV : Hid (vals.length = lv) := hlv
  clear hlv
  by_cases h1 : n ≤ 40
  · by_cases h2 : m ≤ 40
    · by_cases h3 : lv ≤ 40
      · have HD1 := hideP (HD.out h1 h2 h3)
        have HR1 := hideP (HR.out h1 h2 h3)
        clear HD HR
        go_enter Tryz.func3, Tryz.ntmps3
        go_wp2_with (go_at_call 6; refine (HD1.out _ (HB1.out _)).mono ?_)
        rintro e w1 ⟨hb, a, l, ca, er, rfl, hra, hsa⟩
        have HB2 : Hid (Below w.heap.size w w1) := (HB1.out _).trans (hb.mono (by simp))
        have HRA : Hid (ValRow w1 a l) := hra
        have HSA : Hid (FillSay (DAt C) n (PAt C n cs) m vals l er) := hsa
        have t0 : w1.cell? ⟨w.heap.size, 0, none⟩ = some tn := by rw [hb.cell (by simp), World.cell?_alloc_at _ _ _ _ rfl]; rfl
        have t1 : w1.cell? ⟨w.heap.size, 1, none⟩ = some (.slice ao n cap) := by rw [hb.cell (by simp), World.cell?_alloc_at _ _ _ _ rfl]; rfl
        have t2 : w1.cell? ⟨w.heap.size, 2, none⟩ = some chk := by rw [hb.cell (by simp), World.cell?_alloc_at _ _ _ _ rfl]; rfl
        have t3 : w1.cell? ⟨w.heap.size, 3, none⟩ = some root := by rw [hb.cell (by simp), World.cell?_alloc_at _ _ _ _ rfl]; rfl
        clear hb hra hsa HD1
        go_wp2_with (go_at_call 7; refine (HR1.out _ HB2.out).mono ?_)
        rintro e w2 ⟨hb, b, l', cb, er', rfl, hrb, hsb⟩
        obtain ⟨rfl, rfl⟩ := HSA.out.one hsb
        have HB3 : Hid (Below w.heap.size w w2) := HB2.out.trans (hb.mono HB2.out.size)
        have HRA2 : Hid (ValRow w2 a l) := HRA.out.kept hb
        have HRB2 : Hid (ValRow w2 b l) := hrb
        have HLE : Hid (l.length ≤ 40) := hsb.le h1 (by rw [HLV.out]; exact h3)
        clear hb hrb hsb HSA HRA HR1 t0 t1 t2 t3
        go_wp2_with (go_at_call 5; refine (HL.out _).mono ?_)
        first | (rintro e w3 rfl hb) | (rintro e w3 ⟨rfl, hb⟩)
        have HB4 : Hid (Below w.heap.size w w3) := HB3.out.trans (hb.mono HB3.out.size)
        have HCS : Hid (Calls Tryz.prog 8 #[.slice a l.length ca, .slice b l.length cb] w3 fun e w' => e = .returned (.bool true) ∧ Below w3.heap.size w3 w') :=
          sameRow_calls a b l ca cb w3 HLE.out (HRA2.out.kept hb) (HRB2.out.kept hb)
        clear hb
        go_wp2_with (go_at_call 8; refine HCS.out.mono ?_)
        first | (rintro e w4 rfl hb) | (rintro e w4 ⟨rfl, hb⟩)
        have HB5 : Hid (Below w.heap.size w w4) := HB4.out.trans (hb.mono HB4.out.size)
        clear hb
        go_wp2
        go_ret
        exact ⟨rfl, HB5.out⟩
      · go_enter Tryz.func3, Tryz.ntmps3
        go_wp2_with (go_at_call 5; refine (HL.out _).mono ?_)
        first | (rintro e w1 rfl hb) | (rintro e w1 ⟨rfl, hb⟩)
        have HB2 : Hid (Below w.heap.size w w1) := (HB1.out _).trans (hb.mono (by simp))
        clear hb
        go_wp2
        go_ret
        exact ⟨rfl, HB2.out⟩
    · go_enter Tryz.func3, Tryz.ntmps3
      go_wp2_with (go_at_call 5; refine (HL.out _).mono ?_)
      first | (rintro e w1 rfl hb) | (rintro e w1 ⟨rfl, hb⟩)
      have HB2 : Hid (Below w.heap.size w w1) := (HB1.out _).trans (hb.mono (by simp))
      clear hb
      go_wp2
      go_ret
      exact ⟨rfl, HB2.out⟩
  · go_enter Tryz.func3, Tryz.ntmps3
    go_wp2_with (go_at_call 5; refine (HL.out _).mono ?_)
    first | (rintro e w1 rfl hb) | (rintro e w1 ⟨rfl, hb⟩)
    have HB2 : Hid (Below w.heap.size w w1) := (HB1.out _).trans (hb.mono (by simp))
    clear hb
    go_wp2
    go_ret
    exact ⟨rfl, HB2.out⟩
end Go.Proofs.YtkohmamikbdloaaGreatDoor
