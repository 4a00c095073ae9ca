/- Orders of regions, steps of the machine, snapshots, and drawn regions. -/
import Derived.Test.YtkohmamikbdloaaGreatDoorXa
import Derived.Orders
import Derived.Test.YtkohmamikbdloaaGreatDoorXd
set_option linter.all false
/- The control, part 1: orders and plans. -/
namespace Go.Sx

theorem tst_eq (m i : Nat) : tst m i = m.testBit i := by
  rw [Nat.testBit_eq_decide_div_mod_eq]
  have h1 : Nat.shiftRight m i = m / 2 ^ i := Nat.shiftRight_eq_div_pow m i
  have h2 : ∀ x : Nat, Nat.land x 1 = x % 2 := fun x => Nat.and_one_is_mod x
  unfold tst
  rw [h1, h2, Bool.eq_iff_iff]
  simp
theorem tst_lor (a b i : Nat) : tst (Nat.lor a b) i = (tst a i || tst b i) := by
  rw [tst_eq, tst_eq, tst_eq]; exact Nat.testBit_or a b i
theorem tst_bit (k i : Nat) : tst (Nat.shiftLeft 1 k) i = decide (k = i) := by
  have h : Nat.shiftLeft 1 k = 2 ^ k := Nat.one_shiftLeft k
  rw [tst_eq, h, Nat.testBit_two_pow]
theorem tst_zero (i : Nat) : tst 0 i = false := by rw [tst_eq]; exact Nat.zero_testBit i

/-- an order of a region's operations, such as may come -/
structure OrdOk (ops : Array Oper) (L : List Nat) : Prop where
  mem : ∀ j, j ∈ L ↔ j < ops.size
  nodup : L.Nodup
  pre : ∀ pre j post, L = pre ++ j :: post → ∀ o, ops[j]? = some o → ∀ e ∈ o.after, Region.binds .any e = true → e.on ∈ pre

def Acyc (ops : Array Oper) : Prop := ∀ (i : Nat) (o : Oper), ops[i]? = some o → ∀ e ∈ o.after, Region.binds .any e = true → e.on < i

theorem ready_all {ops : Array Oper} (hac : Acyc ops) {listed : Array Bool} (hs : listed.size = ops.size) (hr : Region.ready .any ops listed = []) :
    ∀ j, j < ops.size → listed.getD j true = true := by
  intro j
  induction j using Nat.strongRecOn with
  | _ j ih =>
    intro hj
    cases h : listed.getD j true with
    | true => rfl
    | false =>
      exfalso
      have : j ∈ Region.ready .any ops listed := by
        rw [mem_ready]
        refine ⟨h, ops[j], by simp [hj], fun e he hb => ?_⟩
        have hlt := hac j ops[j] (by simp [hj]) e he hb
        have := ih e.on hlt (by omega)
        have hsz : e.on < listed.size := by omega
        simp only [Array.getD_eq_getD_getElem?, Array.getElem?_eq_getElem hsz, Option.getD_some] at this ⊢
        exact this
      rw [hr] at this; cases this

theorem go_spec {ops : Array Oper} (hac : Acyc ops) : ∀ (fuel t : Nat) (listed : Array Bool), listed.size = ops.size → listed.toList.countP (fun b => !b) ≤ fuel →
    (∀ j, j ∈ Region.linearise.go .any ops fuel t listed [] ↔ j < ops.size ∧ listed.getD j true = false) ∧ (Region.linearise.go .any ops fuel t listed []).Nodup ∧
    ∀ pre j post, Region.linearise.go .any ops fuel t listed [] = pre ++ j :: post → ∀ o, ops[j]? = some o → ∀ e ∈ o.after, Region.binds .any e = true → listed.getD e.on false = true ∨ e.on ∈ pre := by
  intro fuel
  induction fuel with
  | zero =>
    intro t listed hs hc
    simp only [Region.linearise.go, List.reverse_nil]
    refine ⟨fun j => ⟨fun h => by simp at h, fun ⟨h1, h2⟩ => ?_⟩, List.nodup_nil, fun pre j post h => by simp at h⟩
    exfalso
    have hz : listed.toList.countP (fun b => !b) = 0 := by omega
    rw [List.countP_eq_zero] at hz
    have hj : j < listed.size := by omega
    have := hz listed[j] (by simp)
    simp only [Array.getD_eq_getD_getElem?, Array.getElem?_eq_getElem hj, Option.getD_some] at h2
    rw [h2] at this; exact this rfl
  | succ fuel ih =>
    intro t listed hs hc
    simp only [Region.linearise.go]
    change (∀ j, j ∈ (match (Region.ready .any ops listed)[t % (Region.ready .any ops listed).length]? with
        | some i => Region.linearise.go .any ops fuel (t / (Region.ready .any ops listed).length) (listed.setIfInBounds i true) [i]
        | none => [].reverse) ↔ _) ∧ (match (Region.ready .any ops listed)[t % (Region.ready .any ops listed).length]? with
        | some i => Region.linearise.go .any ops fuel (t / (Region.ready .any ops listed).length) (listed.setIfInBounds i true) [i]
        | none => [].reverse).Nodup ∧ ∀ pre j post, (match (Region.ready .any ops listed)[t % (Region.ready .any ops listed).length]? with
        | some i => Region.linearise.go .any ops fuel (t / (Region.ready .any ops listed).length) (listed.setIfInBounds i true) [i]
        | none => [].reverse) = pre ++ j :: post → _
    cases hr : (Region.ready .any ops listed)[t % (Region.ready .any ops listed).length]? with
    | none =>
      simp only [List.reverse_nil]
      have he : Region.ready .any ops listed = [] := by
        rcases hl : Region.ready .any ops listed with _ | ⟨x, l⟩
        · rfl
        · rw [hl] at hr
          rw [List.getElem?_eq_none_iff] at hr
          have := Nat.mod_lt t (show 0 < (x :: l).length by simp)
          omega
      refine ⟨fun j => ⟨fun h => by simp at h, fun ⟨h1, h2⟩ => ?_⟩, List.nodup_nil, fun pre j post h => by simp at h⟩
      rw [ready_all hac hs he j h1] at h2; cases h2
    | some i =>
      simp only []
      have hi := List.mem_of_getElem? hr
      rw [mem_ready] at hi
      obtain ⟨hi0, o, ho, hall⟩ := hi
      have hisz : i < ops.size := (Array.getElem?_eq_some_iff.1 ho).1
      have hil : i < listed.size := by omega
      have hi1 : listed[i] = false := by
        simp only [Array.getD_eq_getD_getElem?, Array.getElem?_eq_getElem hil, Option.getD_some] at hi0; exact hi0
      rw [linearise_go_acc, List.reverse_singleton, List.singleton_append]
      have hcount : (listed.setIfInBounds i true).toList.countP (fun b => !b) ≤ fuel := by
        rw [Array.toList_setIfInBounds, List.countP_set (by simpa using hil)]
        have h1 : 0 < listed.toList.countP (fun b => !b) := by
          rw [List.countP_pos_iff]
          exact ⟨listed[i], by simp, by rw [hi1]; rfl⟩
        have h2 : listed.toList[i]'(by simpa using hil) = false := by simpa using hi1
        rw [h2]
        simp only [Bool.not_false, if_true, Bool.not_true, Bool.false_eq_true, if_false]
        omega
      obtain ⟨g1, g2, g3⟩ := ih (t / (Region.ready .any ops listed).length) (listed.setIfInBounds i true) (by simpa using hs) hcount
      have hset : ∀ (j : Nat) (d : Bool), j ≠ i → (listed.setIfInBounds i true).getD j d = listed.getD j d := fun j d hj => getD_set_ne d (Ne.symm hj)
      have hself : ∀ d, (listed.setIfInBounds i true).getD i d = true := fun d => by simp [hil]
      refine ⟨fun j => ?_, ?_, ?_⟩
      · rw [List.mem_cons, g1 j]
        by_cases e : j = i
        · subst e; exact ⟨fun _ => ⟨hisz, hi0⟩, fun _ => .inl rfl⟩
        · rw [hset j true e]; exact ⟨fun h => h.resolve_left e, .inr⟩
      · refine List.nodup_cons.2 ⟨fun h => ?_, g2⟩
        have := ((g1 i).1 h).2
        rw [hself] at this; cases this
      · intro pre j post hL o' ho' e he hb
        cases pre with
        | nil =>
          simp only [List.nil_append, List.cons.injEq] at hL
          obtain ⟨rfl, _⟩ := hL
          rw [ho] at ho'; cases ho'
          exact .inl (hall e he hb)
        | cons x pre =>
          simp only [List.cons_append, List.cons.injEq] at hL
          obtain ⟨rfl, hL⟩ := hL
          rcases g3 pre j post hL o' ho' e he hb with h | h
          · by_cases h2 : e.on = i
            · exact .inr (by simp [h2])
            · rw [hset _ _ h2] at h; exact .inl h
          · exact .inr (List.mem_cons_of_mem _ h)

theorem sched_ok {ops : Array Oper} (hac : Acyc ops) (t : Nat) : OrdOk ops (Region.schedule true ops t) := by
  simp only [Region.schedule, Bool.true_or, if_true]
  unfold Region.linearise
  obtain ⟨g1, g2, g3⟩ := go_spec hac ops.size t (Array.replicate ops.size false) (by simp) (by
    refine Nat.le_trans (List.countP_le_length) (by simp))
  refine ⟨fun j => ?_, g2, fun pre j post hL o ho e he hb => ?_⟩
  · rw [g1 j]
    refine ⟨fun h => h.1, fun h => ⟨h, ?_⟩⟩
    simp [h]
  · rcases g3 pre j post hL o ho e he hb with h | h
    · exfalso
      by_cases h2 : e.on < ops.size
      · simp [h2] at h
      · simp [h2] at h
    · exact h

-- what stands before
theorem befOne_spec (acc : List Nat) (i : Nat) : ∀ (es : List Edge) (s : Nat), tst (es.foldl (fun s e => match Region.binds .any e with
    | true => Nat.lor (Nat.lor s (Nat.shiftLeft 1 e.on)) (nthN acc e.on)
    | false => s) s) i = true → tst s i = true ∨ ∃ e ∈ es, Region.binds .any e = true ∧ (e.on = i ∨ tst (nthN acc e.on) i = true)
  | [], s, h => .inl h
  | e :: es, s, h => by
    simp only [List.foldl_cons] at h
    rcases befOne_spec acc i es _ h with h | ⟨e', h1, h2⟩
    · cases hb : Region.binds .any e with
      | false => rw [hb] at h; exact .inl h
      | true =>
        rw [hb] at h
        simp only [tst_lor, tst_bit, Bool.or_eq_true, decide_eq_true_eq] at h
        rcases h with (h | h) | h
        · exact .inl h
        · exact .inr ⟨e, by simp, hb, .inl h⟩
        · exact .inr ⟨e, by simp, hb, .inr h⟩
    · exact .inr ⟨e', by simp [h1], h2⟩
theorem nthN_append_left : ∀ (a b : List Nat) (j : Nat), j < a.length → nthN (a ++ b) j = nthN a j
  | [], b, j, h => by simp at h
  | x :: a, b, 0, h => rfl
  | x :: a, b, j + 1, h => nthN_append_left a b j (by simpa using h)
theorem nthN_append_self : ∀ (a : List Nat) (x : Nat), nthN (a ++ [x]) a.length = x
  | [], x => rfl
  | y :: a, x => nthN_append_self a x
theorem nthN_big : ∀ (a : List Nat) (j : Nat), a.length ≤ j → nthN a j = 0
  | [], j, _ => by cases j <;> rfl
  | x :: a, 0, h => by simp at h
  | x :: a, j + 1, h => nthN_big a j (by simpa using h)
theorem befs_old : ∀ (l : List Oper) (acc : List Nat) (j : Nat), j < acc.length → nthN (befs l acc) j = nthN acc j
  | [], acc, j, h => rfl
  | o :: l, acc, j, h => by
    simp only [befs]
    rw [befs_old l _ j (by simp; omega), nthN_append_left _ _ _ h]
theorem befs_get : ∀ (l : List Oper) (acc : List Nat) (j : Nat) (o : Oper), l[j]? = some o →
    ∃ acc', (∀ k, k < acc.length + j → nthN acc' k = nthN (befs l acc) k) ∧ (∀ k, acc.length + j ≤ k → nthN acc' k = 0) ∧ nthN (befs l acc) (acc.length + j) = befOne acc' o.after.toList
  | [], acc, j, o, h => by simp at h
  | x :: l, acc, 0, o, h => by
    simp only [List.getElem?_cons_zero, Option.some.injEq] at h
    subst h
    refine ⟨acc, fun k hk => (befs_old _ _ _ (by omega)).symm, fun k hk => nthN_big _ _ (by omega), ?_⟩
    simp only [befs, Nat.add_zero]
    rw [befs_old l _ _ (by simp), nthN_append_self]
  | x :: l, acc, j + 1, o, h => by
    simp only [List.getElem?_cons_succ] at h
    obtain ⟨acc', h1, h2, h3⟩ := befs_get l (acc ++ [befOne acc x.after.toList]) j o h
    have e : (acc ++ [befOne acc x.after.toList]).length + j = acc.length + (j + 1) := by simp; omega
    rw [e] at h1 h2 h3
    exact ⟨acc', h1, h2, h3⟩

theorem befs_ord {ops : Array Oper} {L : List Nat} (hL : OrdOk ops L) (hac : Acyc ops) : ∀ (j i : Nat), j < ops.size → tst (nthN (befs ops.toList []) j) i = true → ∀ pre post, L = pre ++ j :: post → i ∈ pre := by
  intro j
  induction j using Nat.strongRecOn with
  | _ j ih =>
    intro i hj hb pre post hp
    have ho : ops.toList[j]? = some ops[j] := by simp [hj]
    obtain ⟨acc', h1, h2, h3⟩ := befs_get ops.toList [] j _ ho
    simp only [List.length_nil, Nat.zero_add] at h1 h2 h3
    rw [h3] at hb
    rcases befOne_spec acc' i _ 0 hb with h | ⟨e, he, hbd, h⟩
    · rw [tst_zero] at h; cases h
    · have he : e ∈ ops[j].after := by simpa using he
      have hlt := hac j ops[j] (by simp [hj]) e he hbd
      have hmem := hL.pre pre j post hp ops[j] (by simp [hj]) e he hbd
      rcases h with h | h
      · rw [← h]; exact hmem
      · obtain ⟨p1, p2, e2⟩ := List.append_of_mem hmem
        have hlt2 : e.on < ops.size := by omega
        rw [h1 e.on hlt] at h
        have := ih e.on hlt i hlt2 h p1 (p2 ++ j :: post) (by rw [hp, e2]; simp)
        rw [e2]; simp [this]

-- a sound plan
theorem okDst_spec {P : Program} {ops : List Oper} {b : List Nat} {i d : Nat} : ∀ (l : List Oper) (k : Nat), okDst P ops b i d l k = true →
    ∀ (j : Nat) (q : Oper), l[j]? = some q → (q.dst = some d → i = k + j) ∧ (d ∈ readsOf ops q → okRead P ops b i (k + j) = true)
  | [], k, _, j, q, h => by simp at h
  | x :: l, k, hk, j, q, h => by
    simp only [okDst, Bool.and_eq_true] at hk
    obtain ⟨⟨h1, h2⟩, h3⟩ := hk
    cases j with
    | zero =>
      simp only [List.getElem?_cons_zero, Option.some.injEq] at h
      subst h
      refine ⟨fun hd => ?_, fun hd => ?_⟩
      · rw [hd] at h1
        simp only [] at h1
        have : Nat.beq d d = true := Nat.beq_refl d
        rw [this] at h1
        simpa using h1
      · have : (readsOf ops x).any (Nat.beq d ·) = true := List.any_eq_true.2 ⟨d, hd, Nat.beq_refl d⟩
        rw [this] at h2; exact h2
    | succ j =>
      have := okDst_spec l (k + 1) h3 j q (by simpa using h)
      rwa [show k + 1 + j = k + (j + 1) from by omega] at this
theorem okS_spec {P : Program} {ops : List Oper} {b : List Nat} : ∀ (l : List Oper) (k : Nat), okS P ops b l k = true → ∀ (j : Nat) (o : Oper), l[j]? = some o →
    (∀ e ∈ o.after, Region.binds .any e = true → e.on < k + j) ∧ ∀ d, o.dst = some d → okDst P ops b (k + j) d ops 0 = true
  | [], k, _, j, q, h => by simp at h
  | x :: l, k, hk, j, q, h => by
    simp only [okS, Bool.and_eq_true] at hk
    obtain ⟨⟨h1, h2⟩, h3⟩ := hk
    cases j with
    | zero =>
      simp only [List.getElem?_cons_zero, Option.some.injEq] at h
      subst h
      refine ⟨fun e he hb => ?_, fun d hd => ?_⟩
      · have := List.all_eq_true.1 h1 e (by simpa using he)
        rw [hb] at this
        simpa using this
      · rw [hd] at h2; exact h2
    | succ j =>
      have := okS_spec l (k + 1) h3 j q (by simpa using h)
      rwa [show k + 1 + j = k + (j + 1) from by omega] at this
/-- what okS says of a region -/
structure Sound (P : Program) (ops : List Oper) : Prop where
  acyc : ∀ (i : Nat) (o : Oper), ops[i]? = some o → ∀ e ∈ o.after, Region.binds .any e = true → e.on < i
  one : ∀ (i j : Nat) (o q : Oper) (d : Nat), ops[i]? = some o → ops[j]? = some q → o.dst = some d → q.dst = some d → i = j
  read : ∀ (i j : Nat) (o q : Oper) (d : Nat), ops[i]? = some o → ops[j]? = some q → o.dst = some d → d ∈ readsOf ops q →
    (i = j ∧ anchAt P ops i = true) ∨ (i ≠ j ∧ (tst (nthN (befs ops []) j) i = true ∨ (anchAt P ops i = true ∧ tst (nthN (befs ops []) i) j = true)))
theorem sound_of {P : Program} {ops : List Oper} (h : okS P ops (befs ops []) ops 0 = true) : Sound P ops := by
  have hs := okS_spec ops 0 h
  refine ⟨fun i o ho e he hb => ?_, fun i j o q d ho hq hd hd' => ?_, fun i j o q d ho hq hd hr => ?_⟩
  · have := (hs i o ho).1 e he hb; omega
  · have h1 := (hs i o ho).2 d hd
    have := (okDst_spec ops 0 h1 j q hq).1 hd'
    omega
  · have h1 := (hs i o ho).2 d hd
    have h2 := (okDst_spec ops 0 h1 j q hq).2 hr
    unfold okRead at h2
    have e1 : 0 + i = i := Nat.zero_add i
    have e2 : 0 + j = j := Nat.zero_add j
    rw [e1, e2] at h2
    cases e : Nat.beq i j with
    | true => rw [e] at h2; exact .inl ⟨Nat.eq_of_beq_eq_true e, h2⟩
    | false =>
      rw [e] at h2
      simp only [Bool.or_eq_true, Bool.and_eq_true] at h2
      exact .inr ⟨Nat.ne_of_beq_eq_false e, h2⟩
theorem okAn_spec {b : List Nat} {i V K S : Nat} : ∀ (n : Nat), okAn b i V K S n = true → ∀ j, j < n → j = i ∨ (tst V j = true ∧ (tst K j = true ∨ tst S j = true)) ∨ (tst V j = false ∧ tst (nthN b j) i = true)
  | 0, _, j, h => by omega
  | n + 1, hk, j, h => by
    simp only [okAn, Bool.and_eq_true] at hk
    obtain ⟨h1, h2⟩ := hk
    by_cases e : j = n
    · subst e
      simp only [Bool.or_eq_true, Nat.beq_eq] at h1
      rcases h1 with h1 | h1
      · exact .inl h1
      · cases hv : tst V j with
        | true => rw [hv] at h1; simp only [Bool.or_eq_true] at h1; exact .inr (.inl ⟨rfl, h1⟩)
        | false => rw [hv] at h1; exact .inr (.inr ⟨rfl, h1⟩)
    · exact okAn_spec n h2 j (by omega)
theorem okAn2_spec {b : List Nat} {i i2 V K S : Nat} : ∀ (n : Nat), okAn2 b i i2 V K S n = true → ∀ j, j < n → j = i ∨ j = i2 ∨
    (tst V j = true ∧ (tst S j = true ∨ (tst K j = true ∧ tst (nthN b i) j = true ∧ tst (nthN b i2) j = true))) ∨ (tst V j = false ∧ tst (nthN b j) i = true ∧ tst (nthN b j) i2 = true)
  | 0, _, j, h => by omega
  | n + 1, hk, j, h => by
    simp only [okAn2, Bool.and_eq_true] at hk
    obtain ⟨h1, h2⟩ := hk
    by_cases e : j = n
    · subst e
      simp only [Bool.or_eq_true, Nat.beq_eq] at h1
      rcases h1 with (h1 | h1) | h1
      · exact .inl h1
      · exact .inr (.inl h1)
      · cases hv : tst V j with
        | true => rw [hv] at h1; simp only [Bool.or_eq_true, Bool.and_eq_true] at h1; exact .inr (.inr (.inl ⟨rfl, h1.imp id fun x => ⟨x.1.1, x.1.2, x.2⟩⟩))
        | false => rw [hv] at h1; simp only [Bool.and_eq_true] at h1; exact .inr (.inr (.inr ⟨rfl, h1⟩))
    · exact okAn2_spec n h2 j (by omega)
theorem okEnd_spec {V K S : Nat} : ∀ (n : Nat), okEnd V K S n = true → ∀ j, j < n → tst V j = true ∧ (tst K j = true ∨ tst S j = true)
  | 0, _, j, h => by omega
  | n + 1, hk, j, h => by
    simp only [okEnd, Bool.and_eq_true] at hk
    obtain ⟨h1, h2⟩ := hk
    by_cases e : j = n
    · subst e; simpa using h1
    · exact okEnd_spec n h2 j (by omega)
theorem planOf_some {P : Program} {ops : List Oper} {pl : List PS} (h : planOf P ops = some pl) : Sound P ops ∧ okP P ops (befs ops []) ops.length pl 0 0 0 = true := by
  unfold planOf at h
  split at h
  · cases h
  · split at h
    · rename_i hk
      cases h
      simp only [Bool.and_eq_true] at hk
      exact ⟨sound_of hk.1, hk.2⟩
    · cases h
end Go.Sx

/- Snapshots: states, written down. -/
namespace Go.Sx
noncomputable section

inductive SI where
  | code (p : List Bool)
  | inBlock (id : Nat)
  | inLoop (p : List Bool)
  | inScope (p : List Bool)
  | ops (p : List Bool) (k : Nat)
  | draw (p : List Bool) (k : Nat)
  | inRange (l : Nat)
  | endRange (l : Nat)
  | beginRound

inductive SF where
  | mk (fn : Nat) (todo : List SI) (tm loc : List (Nat × AV)) (defers : List AD) (dfr : Bool) (round : Option Nat)

inductive SS where
  | mk (top : SF) (fs : List SF) (h : List (Nat × AObj)) (nx : Nat)

def codeAt : List Bool → Code → Option Code
  | [], c => some c
  | x :: p, c => match c with
    | .seq a b => match x with | false => codeAt p a | true => codeAt p b
    | .cond _ a b => match x with | false => codeAt p a | true => codeAt p b
    | .rangeFunc _ _ a b => match x with | false => codeAt p a | true => codeAt p b
    | .block _ a => codeAt p a
    | .loop a => codeAt p a
    | .scope a => codeAt p a
    | _ => none

def itAt (P : Program) (c : Code) (i : SI) : Option It := match i with
  | .code p => match codeAt p c with | some c => some (.code c) | none => none
  | .inBlock id => some (.inBlock id)
  | .inLoop p => match codeAt p c with | some c => some (.inLoop c) | none => none
  | .inScope p => match codeAt p c with | some c => some (.inScope c) | none => none
  | .ops p k => match codeAt p c with | some (.region _ ops _) => some (.ops (ops.toList.drop k) ops) | _ => none
  | .draw p k => match codeAt p c with
    | some (.region _ ops _) => match mkPlan P ops.toList with | some pl => some (.draw (pl.drop k) ops) | none => none
    | _ => none
  | .inRange l => some (.inRange l)
  | .endRange l => some (.endRange l)
  | .beginRound => some .beginRound
def itsAt (P : Program) (c : Code) : List SI → Option (List It)
  | [] => some []
  | i :: l => match itAt P c i, itsAt P c l with
    | some i, some l => some (i :: l)
    | _, _ => none
def todoOf (P : Program) (f : SF) : Option (List It) := match f with
  | .mk fn todo _ _ _ _ _ => match P.funcs[fn]? with
    | some g => match g.body with
      | some c => itsAt P c todo
      | none => none
    | none => none
def todosOf (P : Program) : List SF → Option (List (List It))
  | [] => some []
  | f :: l => match todoOf P f, todosOf P l with
    | some t, some ts => some (t :: ts)
    | _, _ => none

def locOf : List (Nat × AV) → Loc
  | [] => .nil
  | (t, v) :: l => .cons t v (locOf l)
def trOf {α β : Type} (l : List (Nat × α)) : Tr α → (Tr α → β) → β :=
  lRec (fun t k => k t) (fun x _ ih t k => t.setK (some x.2) x.1 fun t => ih t k) l
def tfOf {β : Type} (M : Nat → Nat) (f : SF) (todo : List It) (k : TF → β) : β := match f with
  | .mk fn _ tm loc defers dfr round => trOf tm .leaf fun tm => fN (M fn) fun m => k (.mk fn m tm (locOf loc) todo defers dfr round)
def tfsOf {β : Type} (M : Nat → Nat) : List SF → List (List It) → (List TF → β) → β
  | f :: fs, t :: ts, k => tfOf M f t fun f => tfsOf M fs ts fun fs => k (f :: fs)
  | _, _, k => k []

/-- the state that is written -/
def toR (P : Program) (M : Nat → Nat) (s : SS) : R := match s with
  | .mk top fs h nx => match todosOf P (top :: fs) with
    | some (t :: ts) => tfOf M top t fun top => tfsOf M fs ts fun cs => trOf h .leaf fun h => match top with
      | .mk fn m tm loc todo defers dfr round => .go todo fn m tm loc defers dfr round cs h nx
    | _ => .fail "snapshot"

-- does a state bear what is written?
def leTm (l : List (Nat × AV)) (m : Nat) (tm : Tr AV) (loc : Loc) (one : Bool) : Bool := match l with
  | [] => true
  | (t, v) :: l => (match one with | true => Nat.beq (place m t) 1 | false => Nat.blt 1 (place m t)) && leV v (evT t m tm loc) && leTm l m tm loc one
def leD (a b : AD) : Bool := match a, b with
  | .call f x, .call g y => Nat.beq f g && leL x y
  | .coll a, .coll b => Nat.beq a b
  | _, _ => false
def leDs : List AD → List AD → Bool
  | [], [] => true
  | a :: l, b :: m => leD a b && leDs l m
  | _, _ => false
def leF (M : Nat → Nat) (s : SF) (f : TF) : Bool := match s, f with
  | .mk fn _ tm loc defers dfr round, .mk fn' m tm' loc' _ defers' dfr' round' =>
    Nat.beq fn fn' && Nat.beq (M fn) m && leTm tm m tm' loc' false && leTm loc m tm' loc' true && leDs defers defers' && (dfr == dfr') && leOpt round round'
def leFs (M : Nat → Nat) : List SF → List TF → Bool
  | [], [] => true
  | s :: l, f :: m => leF M s f && leFs M l m
  | _, _ => false
def leEs : List AME → List AME → Bool
  | [], [] => true
  | .mk k v b :: l, .mk k' v' b' :: m => leV k k' && leV v v' && Nat.beq b b' && leEs l m
  | _, _ => false
def leN : List Nat → List Nat → Bool
  | [], [] => true
  | a :: l, b :: m => Nat.beq a b && leN l m
  | _, _ => false
def leO2 (o p : AObj) : Bool := match o, p with
  | .cells x n c, .cells y m d => (!x || y) && Nat.beq n m && leCells c d n
  | .bytes x n b, .bytes y m c => (!x || y) && Nat.beq n m && Nat.beq b c
  | .ro n c, .ro m d => Nat.beq n m && leCells c d n
  | .map l k, .map m j => Nat.beq k j && leEs l m
  | .strIter l n p, .strIter l' n' p' => Nat.beq l l' && Nat.beq n n' && Nat.beq p p'
  | .mapIter m a s b, .mapIter m' a' s' b' => leOpt m m' && Nat.beq a a' && leN s s' && Nat.beq b b'
  | .defd none, .defd none => true
  | .defd (some l), .defd (some m) => leDs l m
  | _, _ => false
def leH (h : Tr AObj) : List (Nat × AObj) → Bool
  | [] => true
  | (a, o) :: l => (match h.getF a with | some p => leO2 o p | none => false) && leH h l
def todoTF (f : TF) : List It := match f with | .mk _ _ _ _ t _ _ _ => t
def noDraw (t : List It) : Bool := match t with | .draw _ _ :: _ => false | _ => true
/-- what is yet to be compared: what the frames have to do -/
def chk (M : Nat → Nat) (s : SS) (r : R) : Option (List (List It)) := match s, r with
  | .mk top fs hs nx', .go todo fn m tm loc defers dfr round cs h nx =>
    match leF M top (.mk fn m tm loc todo defers dfr round) && leFs M fs cs && leH h hs && Nat.ble nx nx' && noDraw todo with
    | true => some (todo :: cs.map todoTF)
    | false => none
  | _, _ => none
def todosS (P : Program) (s : SS) : Option (List (List It)) := match s with | .mk top fs _ _ => todosOf P (top :: fs)
end
end Go.Sx

/- The control, part 2: frames and the steps of the machine. -/
namespace Go.Sx

/-- a running frame -/
def FR (fn : FuncId) (tmps : Array Value) (todo : List Item) (ds : List Deferred) (dfr : Bool) (rd : Option Nat) : Frame :=
  { fn, tmps, todo, defers := ds, mode := .run, kind := if dfr then .deferred else .normal, roundOf := rd }
/-- a frame that returns -/
def FT (fn : FuncId) (tmps : Array Value) (todo : List Item) (ds : List Deferred) (dfr : Bool) (rd : Option Nat) : Frame :=
  { fn, tmps, todo, defers := ds, mode := .returning, kind := if dfr then .deferred else .normal, roundOf := rd }

section
variable {P : Program} {fn : FuncId} {tmps : Array Value} {ds : List Deferred} {dfr : Bool} {rd : Option Nat} {k : List Item} {cs : List Frame} {w : World}

theorem FR_eval (todo : List Item) : (FR fn tmps todo ds dfr rd).eval = Act.eval { tmps, defers := ds } := by
  funext x; cases x <;> rfl

theorem st_skip : Go.step P (lone (FR fn tmps (.code .skip :: k) ds dfr rd) cs w) = .next (lone (FR fn tmps k ds dfr rd) cs w) :=
  step_lone_go (by simp [stepG, stepG.exec, FR])
theorem st_label {l : Nat} : Go.step P (lone (FR fn tmps (.code (.label l) :: k) ds dfr rd) cs w) = .next (lone (FR fn tmps k ds dfr rd) cs w) :=
  step_lone_go (by simp [stepG, stepG.exec, FR])
theorem st_inBlock {id : Nat} : Go.step P (lone (FR fn tmps (.inBlock id :: k) ds dfr rd) cs w) = .next (lone (FR fn tmps k ds dfr rd) cs w) :=
  step_lone_go (by simp [stepG, stepG.exec, FR])
theorem st_inScope {c : Code} : Go.step P (lone (FR fn tmps (.inScope c :: k) ds dfr rd) cs w) = .next (lone (FR fn tmps k ds dfr rd) cs w) :=
  step_lone_go (by simp [stepG, stepG.exec, FR])
theorem st_seq {a b : Code} : Go.step P (lone (FR fn tmps (.code (.seq a b) :: k) ds dfr rd) cs w) = .next (lone (FR fn tmps (.code a :: .code b :: k) ds dfr rd) cs w) :=
  step_lone_go (by simp [stepG, stepG.exec, FR])
theorem st_cond {c : Operand} {a b : Code} {t : Bool} (h : (FR fn tmps [] ds dfr rd).eval c = .bool t) :
    Go.step P (lone (FR fn tmps (.code (.cond c a b) :: k) ds dfr rd) cs w) = .next (lone (FR fn tmps (.code (if t then a else b) :: k) ds dfr rd) cs w) :=
  step_lone_go (by
    have h2 : (FR fn tmps (.code (.cond c a b) :: k) ds dfr rd).eval c = .bool t := by rw [FR_eval] at h ⊢; exact h
    simp only [FR] at h2
    simp [stepG, stepG.exec, FR, h2])
theorem st_block {id : Nat} {c : Code} : Go.step P (lone (FR fn tmps (.code (.block id c) :: k) ds dfr rd) cs w) = .next (lone (FR fn tmps (.code c :: .inBlock id :: k) ds dfr rd) cs w) :=
  step_lone_go (by simp [stepG, stepG.exec, FR])
theorem st_loop {c : Code} : Go.step P (lone (FR fn tmps (.code (.loop c) :: k) ds dfr rd) cs w) = .next (lone (FR fn tmps (.code c :: .inLoop c :: k) ds dfr rd) cs w) :=
  step_lone_go (by simp [stepG, stepG.exec, FR])
theorem st_inLoop {c : Code} : Go.step P (lone (FR fn tmps (.inLoop c :: k) ds dfr rd) cs w) = .next (lone (FR fn tmps (.code c :: .inLoop c :: k) ds dfr rd) cs w) :=
  step_lone_go (by simp [stepG, stepG.exec, FR])
theorem st_scope {c : Code} : Go.step P (lone (FR fn tmps (.code (.scope c) :: k) ds dfr rd) cs w) = .next (lone (FR fn tmps (.code c :: .inScope c :: k) ds dfr rd) cs w) :=
  step_lone_go (by simp [stepG, stepG.exec, FR])
theorem st_region {id : Nat} {ops : Array Oper} : Go.step P (lone (FR fn tmps (.code (.region id ops false) :: k) ds dfr rd) cs w) = .next (lone (FR fn tmps (.inRegion ops (List.range ops.size) :: k) ds dfr rd) cs w) :=
  step_lone_go (by simp [stepG, stepG.exec, FR])
theorem st_draw {id : Nat} {ops : Array Oper} : Go.step P (lone (FR fn tmps (.code (.region id ops true) :: k) ds dfr rd) cs w) =
    .next (lone (FR fn tmps (.inRegion ops (Region.schedule (P.follows .mixedOrders) ops (w.tape w.drawn (.order fn id))) :: k) ds dfr rd) cs { w with drawn := w.drawn + 1 }) :=
  step_lone_go (by simp [stepG, stepG.exec, FR, choose, Sem.run, Question.forced, Question.cut])
theorem st_end {ops : Array Oper} : Go.step P (lone (FR fn tmps (.inRegion ops [] :: k) ds dfr rd) cs w) = .next (lone (FR fn tmps k ds dfr rd) cs w) :=
  step_lone_go (by simp [stepG, stepG.exec, FR])

-- leaving
theorem st_fall : Go.step P (lone (FR fn tmps [] ds dfr none) cs w) = .next (lone (FT fn tmps [] ds dfr none) cs w) :=
  step_lone_go (by simp [stepG, stepG.exec, FR, FT])
theorem st_ret : Go.step P (lone (FR fn tmps (.code .ret :: k) ds dfr none) cs w) = .next (lone (FT fn tmps (.code .ret :: k) ds dfr none) cs w) :=
  step_lone_go (by simp [stepG, stepG.exec, FR, FT])
theorem st_exit {id : Nat} {k' : List Item} (h : exitTo id k = some k') : Go.step P (lone (FR fn tmps (.code (.exit id) :: k) ds dfr rd) cs w) = .next (lone (FR fn tmps k' ds dfr rd) cs w) :=
  step_lone_go (by simp [stepG, stepG.exec, FR, h])
theorem st_goto {l : Nat} {k' : List Item} (h : gotoIn l k = some k') : Go.step P (lone (FR fn tmps (.code (.goto l) :: k) ds dfr rd) cs w) = .next (lone (FR fn tmps k' ds dfr rd) cs w) :=
  step_lone_go (by simp [stepG, stepG.exec, FR, h])
/-- a round's end, in whatever way -/
theorem st_leave {l : Nat} {todo : List Item} {jump : Option Code} {c : Frame} {v : Value} {w' : World} (hr : (Instr.endRound l jump).run P w = .ok v w')
    (h : (todo = [] ∧ jump = none) ∨ (∃ k, todo = .code .ret :: k ∧ jump = some .ret) ∨ (∃ k id, todo = .code (.exit id) :: k ∧ jump = some (.exit id) ∧ exitTo id k = none) ∨ (∃ k l, todo = .code (.goto l) :: k ∧ jump = some (.goto l) ∧ gotoIn l k = none)) :
    Go.step P (lone (FR fn tmps todo ds false (some l)) (c :: cs) w) = .next (lone (c.finish v) cs w') := by
  rcases h with ⟨rfl, rfl⟩ | ⟨k, rfl, rfl⟩ | ⟨k, id, rfl, rfl, he⟩ | ⟨k, l2, rfl, rfl, he⟩
  · exact step_lone_go (by simp [stepG, stepG.exec, FR, hr, doReturn])
  · exact step_lone_go (by simp [stepG, stepG.exec, FR, hr, doReturn])
  · exact step_lone_go (by simp [stepG, stepG.exec, FR, hr, doReturn, he])
  · exact step_lone_go (by simp [stepG, stepG.exec, FR, hr, doReturn, he])

-- operations
theorem st_opSkip {ops : Array Oper} {i : Nat} {rest : List Nat} {o : Oper} (ho : ops[i]? = some o) (h : Region.wanted o (yielded ops tmps) = false) :
    Go.step P (lone (FR fn tmps (.inRegion ops (i :: rest) :: k) ds dfr rd) cs w) = .next (lone ((FR fn tmps (.inRegion ops (i :: rest) :: k) ds dfr rd).finish undef) cs w) :=
  step_lone_go (by simp [stepG, stepG.exec, FR, ho, h])
theorem stG_op {ops : Array Oper} {i : Nat} {rest : List Nat} {o : Oper} (ho : ops[i]? = some o) (h : Region.wanted o (yielded ops tmps) = true) (hd : rd = none ∨ ∀ c, o.op ≠ .defer c) :
    stepG P true { frame := FR fn tmps (.inRegion ops (i :: rest) :: k) ds dfr rd, callers := cs, status := .running, dying := none } w =
      stepG.apply P true (FR fn tmps (.inRegion ops (i :: rest) :: k) ds dfr rd) cs none (execOp (Act.eval { tmps, defers := ds }) o) w := by
  have he := FR_eval (fn := fn) (tmps := tmps) (ds := ds) (dfr := dfr) (rd := rd) (.inRegion ops (i :: rest) :: k)
  simp only [FR] at he
  rcases hd with rfl | hd
  · simp [stepG, stepG.exec, stepG.oper, Frame.oper?, FR, ho, h, he]
  · simp only [stepG, stepG.exec, stepG.oper, Frame.oper?, FR, ho, h, he, Option.map_some, Option.getD_some, if_true]
    cases rd with
    | none => rfl
    | some l =>
      generalize hop : o.op = op at hd
      cases op <;> first | rfl | exact absurd rfl (hd _)
theorem fin_op {ops : Array Oper} {i : Nat} {rest : List Nat} {o : Oper} (ho : ops[i]? = some o) (v : Value) :
    (FR fn tmps (.inRegion ops (i :: rest) :: k) ds dfr rd).finish v = FR fn (match o.dst with | some d => tmps.setIfInBounds d v | none => tmps) (.inRegion ops rest :: k) ds dfr rd := by
  simp only [Frame.finish, FR, ho, Option.bind_some]
  cases o.dst <;> rfl
theorem st_value {ops : Array Oper} {i : Nat} {rest : List Nat} {o : Oper} {v : Value} {w' : World} (ho : ops[i]? = some o) (h : Region.wanted o (yielded ops tmps) = true) (hd : rd = none ∨ ∀ c, o.op ≠ .defer c)
    (hr : (execOp (Act.eval { tmps, defers := ds }) o).run P w = .ok (.value v) w') :
    Go.step P (lone (FR fn tmps (.inRegion ops (i :: rest) :: k) ds dfr rd) cs w) = .next (lone ((FR fn tmps (.inRegion ops (i :: rest) :: k) ds dfr rd).finish v) cs w') :=
  step_lone_go (by rw [stG_op ho h hd]; simp [stepG.apply, hr])
theorem st_skipped {ops : Array Oper} {i : Nat} {rest : List Nat} {o : Oper} {w' : World} (ho : ops[i]? = some o) (h : Region.wanted o (yielded ops tmps) = true) (hd : rd = none ∨ ∀ c, o.op ≠ .defer c)
    (hr : (execOp (Act.eval { tmps, defers := ds }) o).run P w = .ok .skip w') :
    Go.step P (lone (FR fn tmps (.inRegion ops (i :: rest) :: k) ds dfr rd) cs w) = .next (lone ((FR fn tmps (.inRegion ops (i :: rest) :: k) ds dfr rd).finish undef) cs w') :=
  step_lone_go (by rw [stG_op ho h hd]; simp [stepG.apply, hr])
theorem st_enter {ops : Array Oper} {i : Nat} {rest : List Nat} {o : Oper} {f : FuncId} {args : Array Value} {w' : World} (ho : ops[i]? = some o) (h : Region.wanted o (yielded ops tmps) = true) (hd : rd = none ∨ ∀ c, o.op ≠ .defer c)
    (hr : (execOp (Act.eval { tmps, defers := ds }) o).run P w = .ok (.enter f args) w') :
    Go.step P (lone (FR fn tmps (.inRegion ops (i :: rest) :: k) ds dfr rd) cs w) = .next (lone (Frame.enter P f args .normal) (FR fn tmps (.inRegion ops (i :: rest) :: k) ds dfr rd :: cs) w') :=
  step_lone_go (by rw [stG_op ho h hd]; simp [stepG.apply, hr, FR])
theorem st_round {ops : Array Oper} {i : Nat} {rest : List Nat} {o : Oper} {l : Nat} {f : FuncId} {tm2 : Array Value} {asg body : Code} {w' : World} (ho : ops[i]? = some o) (h : Region.wanted o (yielded ops tmps) = true) (hd : rd = none ∨ ∀ c, o.op ≠ .defer c)
    (hr : (execOp (Act.eval { tmps, defers := ds }) o).run P w = .ok (.round l f tm2 asg body) w') :
    Go.step P (lone (FR fn tmps (.inRegion ops (i :: rest) :: k) ds dfr rd) cs w) = .next (lone (FR f tm2 [.code asg, .beginRound, .code body] [] false (some l)) (FR fn tmps (.inRegion ops (i :: rest) :: k) ds dfr rd :: cs) w') :=
  step_lone_go (by rw [stG_op ho h hd]; simp [stepG.apply, hr, FR, Frame.round])
theorem st_defer {ops : Array Oper} {i : Nat} {rest : List Nat} {o : Oper} {d : Deferred} {w' : World} (ho : ops[i]? = some o) (h : Region.wanted o (yielded ops tmps) = true)
    (hr : (execOp (Act.eval { tmps, defers := ds }) o).run P w = .ok (.defer d) w') :
    Go.step P (lone (FR fn tmps (.inRegion ops (i :: rest) :: k) ds dfr none) cs w) = .next (lone ((FR fn tmps (.inRegion ops (i :: rest) :: k) (d :: ds) dfr none).finish undef) cs w') :=
  step_lone_go (by rw [stG_op ho h (.inl rfl)]; simp [stepG.apply, hr, FR])
/-- recover, where nothing panics -/
theorem st_recover {ops : Array Oper} {i : Nat} {rest : List Nat} {o : Oper} {c : Frame} (ho : ops[i]? = some o) (h : Region.wanted o (yielded ops tmps) = true) (hm : c.mode = .returning)
    (hr : (execOp (Act.eval { tmps, defers := ds }) o).run P w = .ok .recover w) :
    Go.step P (lone (FR fn tmps (.inRegion ops (i :: rest) :: k) ds true none) (c :: cs) w) = .next (lone ((FR fn tmps (.inRegion ops (i :: rest) :: k) ds true none).finish .nilIface) (c :: cs) w) :=
  step_lone_go (by rw [stG_op ho h (.inl rfl)]; simp [stepG.apply, hr, FR, tryRecover, hm])

-- rounds
theorem st_beginRound {l : Nat} {w' : World} (hr : (Instr.beginRound l).run P w = .ok () w') :
    Go.step P (lone (FR fn tmps (.beginRound :: k) ds dfr (some l)) cs w) = .next (lone (FR fn tmps k ds dfr (some l)) cs w') :=
  step_lone_go (by simp [stepG, stepG.exec, FR, stepG.apply, hr, Frame.finish])
theorem st_endRange {l : Nat} {jump : Option Code} {w' : World} (hr : (Instr.endLoop l).run P w = .ok jump w') :
    Go.step P (lone (FR fn tmps (.endRangeFunc l :: k) ds dfr rd) cs w) = .next (lone (FR fn tmps ((jump.map Item.code).toList ++ k) ds dfr rd) cs w') :=
  step_lone_go (by simp [stepG, stepG.exec, FR, hr])
theorem st_rangeFunc {f : Operand} {ps : Array Tmp} {asg body : Code} {l : Nat} {mk : List Deferred} {w1 w' : World} {g : FuncId} {args : Array Value}
    (hr : (Instr.enterLoop fn tmps ps asg body rd).run P w = .ok (l, mk) w1)
    (hc : (do let d ← resolve (Act.eval { tmps, defers := mk ++ ds }) { callee := .value f, args := #[.const (.func (.yield l) #[] #[])], argTypes := #[] } 0; invoke d.target d.args).run P w1 = .ok (.enter g args) w') :
    Go.step P (lone (FR fn tmps (.code (.rangeFunc f ps asg body) :: k) ds dfr rd) cs w) =
      .next (lone (Frame.enter P g args .normal) (FR fn tmps (.inRangeFunc l :: k) (mk ++ ds) dfr rd :: cs) w') := by
  have he := FR_eval (fn := fn) (tmps := tmps) (ds := mk ++ ds) (dfr := dfr) (rd := rd) (.inRangeFunc l :: k)
  simp only [FR] at he
  refine step_lone_go ?_
  simp only [stepG, stepG.exec, FR, Sem.runT_eq, hr, GStep.bare_after, stepG.apply, he, hc, if_true]
  rfl

-- returning
theorem st_collected {b : Nat} {as : Array Value} {calls : List Deferred} {todo : List Item} {w' : World} (hr : (Instr.takeDeferred b).run P w = .ok calls w') :
    Go.step P (lone (FT fn tmps todo ({ target := .collected b, args := as } :: ds) dfr rd) cs w) = .next (lone (FT fn tmps todo (calls ++ ds) dfr rd) cs w') :=
  step_lone_go (by simp [stepG, unwind, FT, hr])
theorem st_deferred {d : Deferred} {todo : List Item} {g : FuncId} {args : Array Value} {w' : World} (hd : ∃ f cap, d.target = .fn f cap) (hr : (invoke d.target d.args).run P w = .ok (.enter g args) w') :
    Go.step P (lone (FT fn tmps todo (d :: ds) dfr rd) cs w) = .next (lone (Frame.enter P g args .deferred) (FT fn tmps todo ds dfr rd :: cs) w') := by
  obtain ⟨target, as⟩ := d
  obtain ⟨f, cap, rfl⟩ := hd
  exact step_lone_go (by simp [stepG, unwind, FT, callDeferred, hr])
theorem st_returned {todo : List Item} {f : Func} {v : Value} {c : Frame} (hf : P.funcs[fn]? = some f) (hr : (results f tmps).run P w = .ok v w) :
    Go.step P (lone (FT fn tmps todo [] false rd) (c :: cs) w) = .next (lone (c.finish v) cs w) :=
  step_lone_go (by simp [stepG, unwind, FT, hf, hr, doReturn])
theorem st_returnedD {todo : List Item} {f : Func} {v : Value} {c : Frame} (hf : P.funcs[fn]? = some f) (hm : c.mode = .returning) (hr : (results f tmps).run P w = .ok v w) :
    Go.step P (lone (FT fn tmps todo [] true rd) (c :: cs) w) = .next (lone c cs w) :=
  step_lone_go (by simp [stepG, unwind, FT, hf, hr, doReturn, hm])
end
end Go.Sx

/- The control, part 3: what an abstract state says of a machine. -/
namespace Go.Sx

inductive OpsIx (all : Array Oper) : List Oper → List Nat → Prop
  | nil : OpsIx all [] []
  | cons {o : Oper} {l : List Oper} {i : Nat} {is : List Nat} : all[i]? = some o → OpsIx all l is → OpsIx all (o :: l) (i :: is)
theorem opsIx_drop (ops : Array Oper) : ∀ (l : List Oper) (k : Nat), ops.toList.drop k = l → OpsIx ops l (List.range' k l.length)
  | [], k, _ => .nil
  | o :: l, k, h => by
    have h1 : ops.toList[k]? = some o := by
      have : (ops.toList.drop k)[0]? = some o := by rw [h]; rfl
      simpa using this
    have h2 : ops.toList.drop (k + 1) = l := by rw [← List.drop_drop (i := 1), h]; rfl
    simp only [List.length_cons, List.range'_succ]
    exact .cons (by simpa using h1) (opsIx_drop ops l (k + 1) h2)
theorem opsIx_all (ops : Array Oper) : OpsIx ops ops.toList (List.range ops.size) := by
  have := opsIx_drop ops ops.toList 0 rfl
  rwa [List.range_eq_range', ← Array.length_toList]

inductive ItRel (ρ : Rho) : It → Item → Prop
  | code {c : Code} : ItRel ρ (.code c) (.code c)
  | inBlock {id : Nat} : ItRel ρ (.inBlock id) (.inBlock id)
  | inLoop {c : Code} : ItRel ρ (.inLoop c) (.inLoop c)
  | inScope {c : Code} : ItRel ρ (.inScope c) (.inScope c)
  | ops {l : List Oper} {all : Array Oper} {is : List Nat} : OpsIx all l is → ItRel ρ (.ops l all) (.inRegion all is)
  | inRange {l b N : Nat} : ρ l = some (b, N) → ItRel ρ (.inRange l) (.inRangeFunc b)
  | endRange {l b N : Nat} : ρ l = some (b, N) → ItRel ρ (.endRange l) (.endRangeFunc b)
  | beginRound : ItRel ρ .beginRound .beginRound
inductive ItsRel (ρ : Rho) : List It → List Item → Prop
  | nil : ItsRel ρ [] []
  | cons {i : It} {j : Item} {k : List It} {k' : List Item} : ItRel ρ i j → ItsRel ρ k k' → ItsRel ρ (i :: k) (j :: k')
theorem ItRel.mono {ρ ρ' : Rho} (h : ρ.le ρ') {i : It} {j : Item} (hr : ItRel ρ i j) : ItRel ρ' i j := by
  cases hr with
  | code => exact .code
  | inBlock => exact .inBlock
  | inLoop => exact .inLoop
  | inScope => exact .inScope
  | ops x => exact .ops x
  | inRange x => exact .inRange (h _ _ x)
  | endRange x => exact .endRange (h _ _ x)
  | beginRound => exact .beginRound
theorem ItsRel.mono {ρ ρ' : Rho} (h : ρ.le ρ') {k : List It} {k' : List Item} (hr : ItsRel ρ k k') : ItsRel ρ' k k' := by
  induction hr with
  | nil => exact .nil
  | cons a _ ih => exact .cons (a.mono h) ih

def RdRel (ρ : Rho) : Option Nat → Option Nat → Prop
  | none, r => r = none
  | some l, r => ∃ b N, ρ l = some (b, N) ∧ r = some b
theorem RdRel.mono {ρ ρ' : Rho} (h : ρ.le ρ') {r r' : Option Nat} (hr : RdRel ρ r r') : RdRel ρ' r r' := by
  cases r with
  | none => exact hr
  | some l => obtain ⟨b, N, h1, h2⟩ := hr; exact ⟨b, N, h _ _ h1, h2⟩

-- temporaries
def putA (d : Option Nat) (v : AV) (m : Nat) (tm : Tr AV) (loc : Loc) : Tr AV × Loc := match d with
  | none => (tm, loc)
  | some d => match Nat.blt 1 (place m d) with
    | true => (tm.set (some v) d, loc)
    | false => (tm, .cons d v loc)
theorem setDst_eq {β : Type} (d : Option Nat) (v : AV) (m : Nat) (tm : Tr AV) (loc : Loc) (k : Tr AV → Loc → β) : setDst d v m tm loc k = k (putA d v m tm loc).1 (putA d v m tm loc).2 := by
  cases d with
  | none => rfl
  | some d =>
    simp only [setDst, oRec_some, setK_eq', putA]
    cases Nat.blt 1 (place m d) <;> rfl
theorem lookF_cons (i : Nat) (v : AV) (l : Loc) (t : Nat) : lookF (.cons i v l) t = if i = t then v else lookF l t := by
  show Bool.rec (motive := fun _ => AV) (lookF l t) v (Nat.beq i t) = _
  by_cases e : i = t
  · subst e; rw [if_pos rfl, Nat.beq_refl]
  · rw [if_neg e]
    have : Nat.beq i t = false := by
      cases h : Nat.beq i t with
      | false => rfl
      | true => exact absurd (Nat.eq_of_beq_eq_true h) e
    rw [this]
theorem place_lt (m t : Nat) : place m t < 4 := by
  have h : ∀ x : Nat, Nat.land x 3 = x % 4 := fun x => Nat.and_two_pow_sub_one_eq_mod x 2
  unfold place; rw [h]; omega
theorem evT_other {d t : Nat} (v : AV) (m : Nat) (tm : Tr AV) (loc : Loc) (h : t ≠ d) : evT t m (putA (some d) v m tm loc).1 (putA (some d) v m tm loc).2 = evT t m tm loc := by
  unfold putA
  simp only []
  cases hb : Nat.blt 1 (place m d) with
  | true => simp only [evT, getF_eq']; rw [Tr.get_set, if_neg h]
  | false => simp only [evT]; rw [lookF_cons, if_neg (Ne.symm h)]
theorem evT_self {d : Nat} (v : AV) (m : Nat) (tm : Tr AV) (loc : Loc) : evT d m (putA (some d) v m tm loc).1 (putA (some d) v m tm loc).2 = v ∨ evT d m (putA (some d) v m tm loc).1 (putA (some d) v m tm loc).2 = .unk := by
  unfold putA
  simp only []
  have hp := place_lt m d
  cases hb : Nat.blt 1 (place m d) with
  | true =>
    have hb : 1 < place m d := by simpa using hb
    left
    obtain ⟨n, hn⟩ : ∃ n, place m d = n + 2 := ⟨place m d - 2, by omega⟩
    simp only [evT, getF_eq', hn, place3_two]; rw [Tr.get_set, if_pos rfl]; simp [orUnk]
  | false =>
    have hb : ¬ 1 < place m d := by
      intro h; have : Nat.blt 1 (place m d) = true := by simpa using h
      rw [this] at hb; cases hb
    have : place m d = 0 ∨ place m d = 1 := by omega
    rcases this with h | h
    · right; simp only [evT, h, place3_zero]
    · left; simp only [evT, h, place3_one]; rw [lookF_cons, if_pos rfl]
def putC (d : Option Nat) (v : Value) (tmps : Array Value) : Array Value := match d with
  | some d => tmps.setIfInBounds d v
  | none => tmps
theorem putC_size (d : Option Nat) (v : Value) (tmps : Array Value) : (putC d v tmps).size = tmps.size := by cases d <;> simp [putC]
theorem place_big {m n t : Nat} (h : m < 2 ^ (2 * n)) (ht : n ≤ t) : place m t = 0 := by
  have h1 : Nat.shiftRight m (Nat.mul 2 t) = m / 2 ^ (2 * t) := Nat.shiftRight_eq_div_pow m (2 * t)
  unfold place
  rw [h1]
  have : m / 2 ^ (2 * t) = 0 := Nat.div_eq_of_lt (Nat.lt_of_lt_of_le h (Nat.pow_le_pow_right (by decide) (by omega)))
  rw [this]; rfl
theorem evT_big {σ : Nat → Value} {ρ : Rho} {m n t : Nat} (tm : Tr AV) (loc : Loc) (h : m < 2 ^ (2 * n)) (ht : n ≤ t) (v : Value) : VRel σ ρ (evT t m tm loc) v := by
  simp only [evT, place_big h ht, place3_zero, VRel]

section tm
variable {σ : Nat → Value} {ρ : Rho} {ex ex' : Nat → Prop} {m : Nat} {tm : Tr AV} {loc : Loc} {tmps : Array Value}
theorem TmOk.weaken (ht : TmOk σ ρ ex m tm loc tmps) (h : ∀ t, ¬ ex' t → ¬ ex t) : TmOk σ ρ ex' m tm loc tmps := ⟨ht.1, fun t hx => ht.2 t (h t hx)⟩
theorem getD_put (d t : Nat) (v : Value) (tmps : Array Value) : (tmps.setIfInBounds d v).getD t undef = if t = d ∧ d < tmps.size then v else tmps.getD t undef := by
  simp only [Array.getD_eq_getD_getElem?, Array.getElem?_setIfInBounds]
  by_cases h : d = t
  · subst h
    by_cases h2 : d < tmps.size
    · simp [h2]
    · simp [h2]
  · rw [if_neg h, if_neg (fun x => h x.1.symm)]
theorem TmOk.put (ht : TmOk σ ρ ex m tm loc tmps) {d : Option Nat} {v : AV} {val : Value} (hv : VRel σ ρ v val) (h : ∀ t, ¬ ex' t → d = some t ∨ ¬ ex t) :
    TmOk σ ρ ex' m (putA d v m tm loc).1 (putA d v m tm loc).2 (putC d val tmps) := by
  refine ⟨by rw [putC_size]; exact ht.1, fun t hx => ?_⟩
  cases d with
  | none =>
    rcases h t hx with h | h
    · cases h
    · exact ht.2 t h
  | some d =>
    simp only [putC]
    by_cases e : t = d
    · subst e
      by_cases hs : t < tmps.size
      · rw [getD_put, if_pos ⟨rfl, hs⟩]
        rcases evT_self (d := t) v m tm loc with h | h
        · rw [h]; exact hv
        · rw [h]; simp [VRel]
      · exact evT_big _ _ ht.1 (by omega) _
    · rw [evT_other _ _ _ _ e, getD_put, if_neg (fun x => e x.1)]
      rcases h t hx with h | h
      · cases h; exact absurd rfl e
      · exact ht.2 t h
/-- laid in the executor alone -/
theorem TmOk.putAbs (ht : TmOk σ ρ ex m tm loc tmps) {d : Nat} {v : AV} (h : ∀ t, ¬ ex' t → t ≠ d ∧ ¬ ex t) : TmOk σ ρ ex' m (putA (some d) v m tm loc).1 (putA (some d) v m tm loc).2 tmps :=
  ⟨ht.1, fun t hx => by rw [evT_other _ _ _ _ (h t hx).1]; exact ht.2 t (h t hx).2⟩
/-- laid in the machine alone -/
theorem TmOk.putConc (ht : TmOk σ ρ ex m tm loc tmps) {d : Nat} {val : Value} (hv : VRel σ ρ (evT d m tm loc) val) (h : ∀ t, ¬ ex' t → t = d ∨ ¬ ex t) : TmOk σ ρ ex' m tm loc (tmps.setIfInBounds d val) := by
  refine ⟨by simpa using ht.1, fun t hx => ?_⟩
  by_cases e : t = d
  · subst e
    by_cases hs : t < tmps.size
    · rw [getD_put, if_pos ⟨rfl, hs⟩]; exact hv
    · exact evT_big _ _ ht.1 (by omega) _
  · rw [getD_put, if_neg (fun x => e x.1)]
    exact ht.2 t ((h t hx).resolve_left e)
end tm

-- a region that draws, on its way
structure DrawI (E : Env) (P : Program) (ρ : Rho) (lo : Nat) (all : Array Oper) (pl : List PS) (done rest : List Nat) (V K S : Nat) (m : Nat) (tm : Tr AV) (loc : Loc) (nx : Nat) (tmps : Array Value) : Prop where
  ord : OrdOk all (done ++ rest)
  snd : Sound P all.toList
  okp : okP P all.toList (befs all.toList []) all.toList.length pl V K S = true
  dv : ∀ i ∈ done, tst V i = true
  an : ∀ i ∈ rest, tst V i = true → anchAt P all.toList i = false
  sd : ∀ i, i < all.size → tst S i = true → i ∈ done
  tms : TmOk E.σ ρ (fun t => ∃ i ∈ rest, tst V i = true ∧ dstL all.toList i = some t) m tm loc tmps
  pend : ∀ (i : Nat) (o : Oper) (d a : Nat), i ∈ rest → tst V i = true → all[i]? = some o → kindOf P o = .alloc → o.dst = some d → idOf (evT d m tm loc) = some a → ρ a = none ∧ lo ≤ a ∧ a < nx
  dist : ∀ (i j : Nat) (o q : Oper) (d e a : Nat), i ∈ rest → j ∈ rest → tst V i = true → tst V j = true → all[i]? = some o → all[j]? = some q → kindOf P o = .alloc → kindOf P q = .alloc →
    o.dst = some d → q.dst = some e → idOf (evT d m tm loc) = some a → idOf (evT e m tm loc) = some a → i = j
def CkAll (P : Program) (X : Nat → Option EK) (all : Array Oper) (rest : List Nat) (K m : Nat) (tm : Tr AV) (loc : Loc) (h : Tr AObj) (nx : Nat) : Prop :=
  ∀ (i : Nat) (o : Oper), i ∈ rest → tst K i = true → all[i]? = some o → ckB P X o all m tm loc h nx = true

theorem DrawI.mono {E : Env} {P : Program} {ρ ρ' : Rho} {lo : Nat} {all : Array Oper} {pl : List PS} {done rest : List Nat} {V K S : Nat} {m : Nat} {tm : Tr AV} {loc : Loc} {nx nx' : Nat} {tmps : Array Value}
    (D : DrawI E P ρ lo all pl done rest V K S m tm loc nx tmps) (h : ρ.le ρ') (hg : ∀ a, a < nx → ρ a = none → ρ' a = none) (hn : nx ≤ nx') : DrawI E P ρ' lo all pl done rest V K S m tm loc nx' tmps :=
  ⟨D.ord, D.snd, D.okp, D.dv, D.an, D.sd, D.tms.mono h, fun i o d a h1 h2 h3 h4 h5 h6 => by
    obtain ⟨g1, g2, g3⟩ := D.pend i o d a h1 h2 h3 h4 h5 h6
    exact ⟨hg a g3 g1, g2, by omega⟩, D.dist⟩

-- the frames
structure Cx where
  E : Env
  P : Program
  X : Nat → Option EK
  M : Nat → Nat
  base : List Frame
  root : FuncId
  hm : P.follows .mixedOrders = true

def TodoRel (C : Cx) (ρ : Rho) (lo : Nat) (todo : List It) (T : List Item) (m : Nat) (tm : Tr AV) (loc : Loc) (h : Tr AObj) (nx : Nat) (tmps : Array Value) : Prop :=
  (∃ pl all k done rest V K S k', todo = .draw pl all :: k ∧ T = .inRegion all rest :: k' ∧ ItsRel ρ k k' ∧ DrawI C.E C.P ρ lo all pl done rest V K S m tm loc nx tmps ∧ CkAll C.P C.X all rest K m tm loc h nx) ∨
  (ItsRel ρ todo T ∧ TmOk C.E.σ ρ noEx m tm loc tmps)
def SuspTodo (C : Cx) (ρ : Rho) (lo : Nat) (todo : List It) (T : List Item) (m : Nat) (tm : Tr AV) (loc : Loc) (nx : Nat) (tmps : Array Value) : Prop :=
  (∃ i l all k done rest V K S k', todo = .draw (.an i :: l) all :: k ∧ T = .inRegion all (i :: rest) :: k' ∧ ItsRel ρ k k' ∧ DrawI C.E C.P ρ lo all (.an i :: l) done (i :: rest) V K S m tm loc nx tmps) ∨
  (ItsRel ρ todo T ∧ TmOk C.E.σ ρ noEx m tm loc tmps)
theorem SuspTodo.mono {C : Cx} {ρ ρ' : Rho} {lo : Nat} {todo : List It} {T : List Item} {m : Nat} {tm : Tr AV} {loc : Loc} {nx nx' : Nat} {tmps : Array Value} (D : SuspTodo C ρ lo todo T m tm loc nx tmps)
    (h : ρ.le ρ') (hg : ∀ a, a < nx → ρ a = none → ρ' a = none) (hn : nx ≤ nx') : SuspTodo C ρ' lo todo T m tm loc nx' tmps := by
  rcases D with ⟨i, l, all, k, done, rest, V, K, S, k', h1, h2, h3, h4⟩ | ⟨h1, h2⟩
  · exact .inl ⟨i, l, all, k, done, rest, V, K, S, k', h1, h2, h3.mono h, h4.mono h hg hn⟩
  · exact .inr ⟨h1.mono h, h2.mono h⟩

/-- the frames below; `d`: the one above is a deferred call; `up`: its function -/
def StackOk (C : Cx) (ρ : Rho) (lim : Nat) (d : Bool) (up : FuncId) : List TF → List Frame → Prop
  | [], fs => d = false ∧ fs = C.base ∧ up = C.root
  | .mk fn m tm loc todo defers dfr round :: cs, fs => ∃ f fs' tmps T ds rd lo, fs = f :: fs' ∧ lo ≤ lim ∧ DsRel C.E.σ ρ defers ds ∧ RdRel ρ round rd ∧
      ((d = true ∧ f = FT fn tmps T ds dfr rd ∧ round = none ∧ TmOk C.E.σ ρ noEx m tm loc tmps) ∨ (d = false ∧ f = FR fn tmps T ds dfr rd ∧ SuspTodo C ρ lo todo T m tm loc lim tmps)) ∧ StackOk C ρ lo dfr fn cs fs'
theorem StackOk.mono {C : Cx} {ρ ρ' : Rho} (h : ρ.le ρ') : ∀ {cs : List TF} {lim lim' : Nat} {d : Bool} {up : FuncId} {fs : List Frame}, (∀ a, a < lim → ρ a = none → ρ' a = none) → lim ≤ lim' → StackOk C ρ lim d up cs fs → StackOk C ρ' lim' d up cs fs
  | [], lim, lim', d, up, fs, _, _, hs => hs
  | .mk fn m tm loc todo defers dfr round :: cs, lim, lim', d, up, fs, hg, hn, hs => by
    obtain ⟨f, fs', tmps, T, ds, rd, lo, h1, h2, h3, h4, h5, h6⟩ := hs
    refine ⟨f, fs', tmps, T, ds, rd, lo, h1, by omega, h3.mono h, h4.mono h, ?_, StackOk.mono h (fun a ha => hg a (by omega)) (Nat.le_refl _) h6⟩
    rcases h5 with ⟨a, b, c, e⟩ | ⟨a, b, c⟩
    · exact .inl ⟨a, b, c, e.mono h⟩
    · exact .inr ⟨a, b, c.mono h hg hn⟩

/-- what an abstract state says of a machine -/
def ROk (C : Cx) : R → Machine → Prop
  | .go todo fn m tm loc defers dfr round cs h nx, Mc => ∃ ρ w tmps T ds rd fs lo, Mc = lone (FR fn tmps T ds dfr rd) fs w ∧ HRel C.E ρ h nx w ∧ lo ≤ nx ∧ TodoRel C ρ lo todo T m tm loc h nx tmps ∧
      DsRel C.E.σ ρ defers ds ∧ RdRel ρ round rd ∧ StackOk C ρ lo dfr fn cs fs
  | .ret fn m tm loc defers dfr round cs h nx, Mc => round = none ∧ ∃ ρ w tmps T ds fs lo, Mc = lone (FT fn tmps T ds dfr none) fs w ∧ HRel C.E ρ h nx w ∧ lo ≤ nx ∧ TmOk C.E.σ ρ noEx m tm loc tmps ∧
      DsRel C.E.σ ρ defers ds ∧ StackOk C ρ lo dfr fn cs fs
  | .fin v h nx, Mc => ∃ ρ w fr val, Mc = lone fr C.base w ∧ fr.leaving C.P w (.returned val) ∧ fr.fn = C.root ∧ HRel C.E ρ h nx w ∧ VRel C.E.σ ρ v val
  | .fork a b, Mc => ROk C a Mc ∨ ROk C b Mc
  | .fail _, _ => True
def Sim (C : Cx) (r : R) (Mc : Machine) : Prop := ∃ Mc', Steps C.P Mc Mc' ∧ ROk C r Mc'
theorem Sim.of_steps {C : Cx} {r : R} {A B : Machine} (h : Steps C.P A B) (g : Sim C r B) : Sim C r A := by
  obtain ⟨D, h1, h2⟩ := g; exact ⟨D, h.trans h1, h2⟩
theorem Sim.of_step {C : Cx} {r : R} {A B : Machine} (h : Go.step C.P A = .next B) (g : Sim C r B) : Sim C r A := g.of_steps (.one h)
theorem Sim.now {C : Cx} {r : R} {A : Machine} (h : ROk C r A) : Sim C r A := ⟨A, .refl _ _, h⟩
theorem Sim.fail {C : Cx} {why : String} {A : Machine} : Sim C (.fail why) A := ⟨A, .refl _ _, trivial⟩
theorem Sim.fork {C : Cx} {a b : R} {A : Machine} (h : Sim C a A) : Sim C (.fork a b) A := let ⟨D, h1, h2⟩ := h; ⟨D, h1, .inl h2⟩
theorem Sim.fork2 {C : Cx} {a b : R} {A : Machine} (h : Sim C b A) : Sim C (.fork a b) A := let ⟨D, h1, h2⟩ := h; ⟨D, h1, .inr h2⟩
end Go.Sx

/- The control, part 4: regions that draw. -/
namespace Go.Sx
variable {E : Env} {P : Program} {X : Nat → Option EK} {ρ : Rho} {h : Tr AObj} {nx : Nat} {w : World}

-- weaker values
theorem leOpt_eq {a b : Option Nat} (h : leOpt a b = true) : a = b := by
  unfold leOpt at h
  split at h
  · rfl
  · rw [Nat.eq_of_beq_eq_true h]
  · cases h
mutual
theorem leV_ok : ∀ (u v : AV) (x : Value), leV u v = true → VRel E.σ ρ v x → VRel E.σ ρ u x
  | .unk, v, x, _, _ => by simp [VRel]
  | .one, v, x, hl, hv => by simp only [VRel]; exact VRel.isOne (by simpa [leV] using hl) hv
  | .sym i, v, x, hl, hv => by
    cases v <;> simp only [leV, Bool.false_eq_true] at hl
    rw [Nat.eq_of_beq_eq_true hl]; exact hv
  | .anyB, v, x, hl, hv => by
    cases v <;> simp only [leV, Bool.false_eq_true] at hl
    · exact hv
    · simp only [VRel] at hv ⊢; exact ⟨_, hv⟩
  | .anyI k, v, x, hl, hv => by
    cases v <;> simp only [leV, Bool.false_eq_true, beq_iff_eq] at hl
    · rw [hl]; exact hv
    · simp only [VRel] at hv ⊢; rw [hl]; exact ⟨_, hv⟩
  | .bool b, v, x, hl, hv => by
    cases v <;> simp only [leV, Bool.false_eq_true, beq_iff_eq] at hl
    rw [hl]; exact hv
  | .int k n, v, x, hl, hv => by
    cases v <;> simp only [leV, Bool.false_eq_true, Bool.and_eq_true, beq_iff_eq, eqI_eq] at hl
    rw [hl.1, hl.2]; exact hv
  | .intGe lo, v, x, hl, hv => by
    cases v <;> simp only [leV, Bool.false_eq_true, Nat.ble_eq] at hl
    simp only [VRel] at hv ⊢
    obtain ⟨n, h1, h2⟩ := hv
    exact ⟨n, by omega, h2⟩
  | .str l n, v, x, hl, hv => by
    cases v <;> simp only [leV, Bool.false_eq_true, Bool.and_eq_true] at hl
    rw [Nat.eq_of_beq_eq_true hl.1, Nat.eq_of_beq_eq_true hl.2]; exact hv
  | .nilPtr, v, x, hl, hv => by cases v <;> simp only [leV, Bool.false_eq_true] at hl; exact hv
  | .ptr a off, v, x, hl, hv => by
    cases v <;> simp only [leV, Bool.false_eq_true, Bool.and_eq_true] at hl
    rw [Nat.eq_of_beq_eq_true hl.1, Nat.eq_of_beq_eq_true hl.2]; exact hv
  | .nilSl, v, x, hl, hv => by cases v <;> simp only [leV, Bool.false_eq_true] at hl; exact hv
  | .sl a off len sz cap, v, x, hl, hv => by
    cases v <;> simp only [leV, Bool.false_eq_true, Bool.and_eq_true] at hl
    obtain ⟨⟨⟨⟨h1, h2⟩, h3⟩, h4⟩, h5⟩ := hl
    rw [Nat.eq_of_beq_eq_true h1, Nat.eq_of_beq_eq_true h2, Nat.eq_of_beq_eq_true h3, Nat.eq_of_beq_eq_true h4, leOpt_eq h5]; exact hv
  | .nilMap, v, x, hl, hv => by cases v <;> simp only [leV, Bool.false_eq_true] at hl; exact hv
  | .map a, v, x, hl, hv => by
    cases v <;> simp only [leV, Bool.false_eq_true] at hl
    rw [Nat.eq_of_beq_eq_true hl]; exact hv
  | .nilFn, v, x, hl, hv => by cases v <;> simp only [leV, Bool.false_eq_true] at hl; exact hv
  | .fn f a b, v, x, hl, hv => by
    cases v <;> simp only [leV, Bool.false_eq_true, Bool.and_eq_true] at hl
    obtain ⟨⟨h1, h2⟩, h3⟩ := hl
    simp only [VRel] at hv ⊢
    obtain ⟨xs, ys, e, g1, g2⟩ := hv
    rw [Nat.eq_of_beq_eq_true h1]
    exact ⟨xs, ys, e, leL_ok _ _ _ h2 g1, leL_ok _ _ _ h3 g2⟩
  | .yield l, v, x, hl, hv => by
    cases v <;> simp only [leV, Bool.false_eq_true] at hl
    rw [Nat.eq_of_beq_eq_true hl]; exact hv
  | .nilIf, v, x, hl, hv => by cases v <;> simp only [leV, Bool.false_eq_true] at hl; exact hv
  | .iface t y, v, x, hl, hv => by
    cases v <;> simp only [leV, Bool.false_eq_true, Bool.and_eq_true] at hl
    simp only [VRel] at hv ⊢
    obtain ⟨z, e, g⟩ := hv
    rw [Nat.eq_of_beq_eq_true hl.1]
    exact ⟨z, e, leV_ok _ _ _ hl.2 g⟩
  | .agg a, v, x, hl, hv => by
    cases v <;> simp only [leV, Bool.false_eq_true] at hl
    simp only [VRel] at hv ⊢
    obtain ⟨vs, e, g⟩ := hv
    exact ⟨vs, e, leL_ok _ _ _ hl g⟩
  | .tup a, v, x, hl, hv => by
    cases v <;> simp only [leV, Bool.false_eq_true] at hl
    simp only [VRel] at hv ⊢
    obtain ⟨vs, e, g⟩ := hv
    exact ⟨vs, e, leL_ok _ _ _ hl g⟩
theorem leL_ok : ∀ (a b : List AV) (xs : List Value), leL a b = true → LRel E.σ ρ b xs → LRel E.σ ρ a xs
  | [], b, xs, hl, hv => by cases b <;> simp only [leL, Bool.false_eq_true] at hl; exact hv
  | u :: a, b, xs, hl, hv => by
    cases b <;> simp only [leL, Bool.false_eq_true, Bool.and_eq_true] at hl
    simp only [LRel] at hv ⊢
    obtain ⟨x, ys, e, g1, g2⟩ := hv
    exact ⟨x, ys, e, leV_ok _ _ _ hl.1 g1, leL_ok _ _ _ hl.2 g2⟩
end
theorem leCells_spec {t u : Tr AV} : ∀ (n : Nat), leCells t u n = true → ∀ i, i < n → leV (orOne (t.get i)) (orOne (u.get i)) = true
  | 0, _, i, h => by omega
  | n + 1, hk, i, h => by
    simp only [leCells, Bool.and_eq_true, getF_eq'] at hk
    by_cases e : i = n
    · subst e; exact hk.1
    · exact leCells_spec n hk.2 i (by omega)
theorem leO_ok {o p : AObj} {N : Nat} {O : Obj} (hl : leO o p = true) (hp : ObjRel E.σ ρ N p O) : ObjRel E.σ ρ N o O := by
  unfold leO at hl
  split at hl
  · rename_i x n c y m d
    simp only [Bool.and_eq_true, Bool.or_eq_true, Bool.not_eq_true'] at hl
    obtain ⟨⟨h1, h2⟩, h3⟩ := hl
    have h2 := Nat.eq_of_beq_eq_true h2
    subst h2
    obtain ⟨cs, e, q1, q2, q3, q4, q5⟩ := hp
    refine ⟨cs, e, q1, q2, q3, fun hx => q4 ?_, fun i v hi hv => leV_ok _ _ _ (leCells_spec n h3 i hi) (q5 i v hi hv)⟩
    rcases h1 with h1 | h1
    · rw [hx] at h1; cases h1
    · exact h1
  · rename_i x n c y m d
    simp only [Bool.and_eq_true, Bool.or_eq_true, Bool.not_eq_true'] at hl
    obtain ⟨⟨h1, h2⟩, h3⟩ := hl
    have h2 := Nat.eq_of_beq_eq_true h2
    have h3 := Nat.eq_of_beq_eq_true h3
    subst h2; subst h3
    obtain ⟨cs, e, fr, q1, q0, q2, q3, q4, q5⟩ := hp
    refine ⟨cs, e, fr, q1, q0, q2, q3, fun hx => q4 ?_, q5⟩
    rcases h1 with h1 | h1
    · rw [hx] at h1; cases h1
    · exact h1
  · rename_i k l
    have := Nat.eq_of_beq_eq_true hl
    subst this; exact hp
  · cases hl

/-- a block is laid for an object that the executor has already -/
theorem HRel.bind (H : HRel E ρ h nx w) {a N : Nat} {o : AObj} {O : Obj} (hn : ρ a = none) (ha : a < nx) (hg : h.get a = some o) (ho : ObjRel E.σ ρ N o O) :
    HRel E (ρ.set a (w.heap.size, N)) h nx (w.alloc O) ∧ ρ.le (ρ.set a (w.heap.size, N)) := by
  have hle : ρ.le (ρ.set a (w.heap.size, N)) := Rho.le_set hn
  refine ⟨⟨?_, ?_, ?_, ?_, ?_, ?_, ?_, H.tape, H.os, H.out, H.low⟩, hle⟩
  · intro x ox b M hx hp
    by_cases e : x = a
    · subst e
      rw [Rho.set_same] at hp; cases hp
      rw [hg] at hx; cases hx
      exact ⟨O, by simp only [World.alloc, Array.getElem?_push, if_pos], ObjRel.mono hle ho⟩
    · rw [Rho.set_other _ _ e] at hp
      obtain ⟨O', h1, h2⟩ := H.obj x ox b M hx hp
      refine ⟨O', ?_, ObjRel.mono hle h2⟩
      have hb : b < w.heap.size := (Array.getElem?_eq_some_iff.1 h1).1
      simp only [World.alloc, Array.getElem?_push]; rw [if_neg (by omega)]; exact h1
  · intro x y o1 o2 b M M' hx hy hp hp'
    by_cases e : x = a <;> by_cases e' : y = a
    · omega
    · subst e
      rw [Rho.set_same] at hp; rw [Rho.set_other _ _ e'] at hp'; cases hp
      obtain ⟨O', h1, _⟩ := H.obj y o2 _ _ hy hp'
      simp at h1
    · subst e'
      rw [Rho.set_same] at hp'; rw [Rho.set_other _ _ e] at hp; cases hp'
      obtain ⟨O', h1, _⟩ := H.obj x o1 _ _ hx hp
      simp at h1
    · rw [Rho.set_other _ _ e] at hp; rw [Rho.set_other _ _ e'] at hp'
      exact H.inj x y o1 o2 b M M' hx hy hp hp'
  · intro x hx; rw [Rho.set_other _ _ (by omega)]; exact H.new x hx
  · intro g hgl; obtain ⟨M, hM⟩ := H.glob g hgl; exact ⟨M, hle _ _ hM⟩
  · intro x ox b M hx hro hp
    by_cases e : x = a
    · subst e; rw [Rho.set_same] at hp; cases hp; exact H.size
    · rw [Rho.set_other _ _ e] at hp; exact H.own x ox b M hx hro hp
  · intro b hb
    have := H.size
    simp only [World.alloc, Array.getElem?_push]; rw [if_neg (by omega)]; exact H.keep b hb
  · simp only [World.size_alloc]; have := H.size; omega

-- guards
section guards
variable {σ : Nat → Value} {ex : Nat → Prop} {m : Nat} {tm : Tr AV} {loc : Loc} {tmps : Array Value} {all : Array Oper}
theorem dstAt_eq (all : Array Oper) (j : Nat) : dstAt all j = (all[j]?).bind (·.dst) := by
  unfold dstAt
  rw [Array.getElem?_toList]
  cases all[j]? <;> rfl
theorem wantedG_ok (ht : TmOk σ ρ ex m tm loc tmps) (g : Nat × Bool) (hx : ∀ d, dstAt all g.1 = some d → ¬ ex d) :
    (wantedG all m tm loc g = .yes → (yielded all tmps g.1 == some g.2) = true) ∧ (wantedG all m tm loc g = .no → (yielded all tmps g.1 == some g.2) = false) := by
  unfold wantedG yielded
  rw [← dstAt_eq]
  cases hd : dstAt all g.1 with
  | none => simp
  | some d =>
    have hv := ht.2 d (hx d hd)
    simp only [Option.bind_some]
    have key : ∀ b, evT d m tm loc = .bool b → tmps[d]? = some (.bool b) := by
      intro b hb
      rw [hb] at hv
      simp only [VRel] at hv
      simp only [Array.getD_eq_getD_getElem?] at hv
      cases hc : tmps[d]? with
      | none => rw [hc] at hv; simp [undef] at hv
      | some x => rw [hc] at hv; simp at hv; rw [hv]
    cases hv2 : evT d m tm loc <;> simp only [reduceCtorEq, false_implies, true_and, and_self, and_true, forall_const]
    · rename_i b
      rw [key b hv2]
      cases b <;> cases g.2 <;> simp
    · rename_i l
      rw [hv2] at hv
      simp only [VRel] at hv
      obtain ⟨vs, e, _⟩ := hv
      simp only [Array.getD_eq_getD_getElem?] at e
      cases hc : tmps[d]? with
      | none => simp
      | some x => rw [hc] at e; simp at e; rw [e]; simp
theorem wantedO_ok (ht : TmOk σ ρ ex m tm loc tmps) (o : Oper) (hx : ∀ g d, o.guard = some g → dstAt all g.1 = some d → ¬ ex d) :
    (wantedO o all m tm loc = .yes → Region.wanted o (yielded all tmps) = true) ∧ (wantedO o all m tm loc = .no → Region.wanted o (yielded all tmps) = false) := by
  unfold wantedO Region.wanted
  cases hg : o.guard with
  | none => simp
  | some g =>
    have := wantedG_ok (all := all) ht g (fun d hd => hx g d hg hd)
    exact this
end guards

-- what an operation looks at
theorem mem_tmpsOf : ∀ {l : List Operand} {x : Operand} {t : Nat}, x ∈ l → tmpOf x = some t → t ∈ tmpsOf l
  | y :: l, x, t, hx, ht => by
    rcases List.mem_cons.1 hx with rfl | hx
    · cases x <;> simp only [tmpOf, Option.some.injEq, reduceCtorEq] at ht
      subst ht; simp [tmpsOf]
    · have := mem_tmpsOf hx ht
      cases y <;> simp [tmpsOf, this]
theorem reads_op {ops : List Oper} {o : Oper} {x : Operand} {t : Nat} (hx : x ∈ o.op.operands.toList) (ht : tmpOf x = some t) : t ∈ readsOf ops o := by
  have := mem_tmpsOf hx ht
  unfold readsOf
  split
  · exact this
  · split
    · split
      · exact List.mem_cons_of_mem _ this
      · exact this
    · exact this
theorem reads_guard {all : Array Oper} {o : Oper} {g : Nat × Bool} {d : Nat} (hg : o.guard = some g) (hd : dstAt all g.1 = some d) : d ∈ readsOf all.toList o := by
  unfold readsOf
  rw [hg]
  simp only []
  unfold dstAt at hd
  split at hd
  · rename_i q hq
    simp only [hq, hd]; exact List.mem_cons_self
  · cases hd

section draw
variable {lo : Nat} {all : Array Oper} {pl : List PS} {done rest : List Nat} {V K S m : Nat} {tm : Tr AV} {loc : Loc} {tmps : Array Value}

theorem dstL_eq {i : Nat} {o : Oper} (ho : all[i]? = some o) : dstL all.toList i = o.dst := by
  unfold dstL; rw [Array.getElem?_toList, ho]
theorem anchAt_eq {i : Nat} {o : Oper} (ho : all[i]? = some o) : anchAt P all.toList i = (kindOf P o).isAnchor := by
  unfold anchAt; rw [Array.getElem?_toList, ho]
theorem DrawI.acyc (D : DrawI E P ρ lo all pl done rest V K S m tm loc nx tmps) : Acyc all := fun i o ho => D.snd.acyc i o (by rw [Array.getElem?_toList]; exact ho)
theorem DrawI.bef {i : Nat} (D : DrawI E P ρ lo all pl done (i :: rest) V K S m tm loc nx tmps) {j : Nat} (hb : tst (nthN (befs all.toList []) i) j = true) : j ∈ done :=
  befs_ord D.ord D.acyc i j ((D.ord.mem i).1 (by simp)) hb done rest rfl
theorem DrawI.lt (D : DrawI E P ρ lo all pl done rest V K S m tm loc nx tmps) {i : Nat} (hi : i ∈ rest) : i < all.size := (D.ord.mem i).1 (by simp [hi])
theorem DrawI.notDone (D : DrawI E P ρ lo all pl done rest V K S m tm loc nx tmps) {i : Nat} (hi : i ∈ rest) : i ∉ done := by
  have := D.ord.nodup
  rw [List.nodup_append] at this
  intro h; exact this.2.2 i h i hi rfl
theorem DrawI.head {i : Nat} (D : DrawI E P ρ lo all pl done (i :: rest) V K S m tm loc nx tmps) : i ∉ rest := by
  have := D.ord.nodup
  rw [List.nodup_append] at this
  exact (List.nodup_cons.1 this.2.1).1
theorem DrawI.inRest (D : DrawI E P ρ lo all pl done rest V K S m tm loc nx tmps) {i : Nat} (hi : i < all.size) (hv : tst V i = false) : i ∈ rest := by
  have := (D.ord.mem i).2 hi
  rcases List.mem_append.1 this with h | h
  · rw [D.dv i h] at hv; cases hv
  · exact h
/-- what the next operation looks at is there -/
theorem DrawI.reads {i : Nat} {o : Oper} (D : DrawI E P ρ lo all pl done (i :: rest) V K S m tm loc nx tmps) (ho : all[i]? = some o) {t : Nat} (ht : t ∈ readsOf all.toList o) :
    ¬ ∃ j ∈ i :: rest, tst V j = true ∧ dstL all.toList j = some t := by
  rintro ⟨j, hj, hv, hd⟩
  have hjl := D.lt hj
  have hjo : all[j]? = some all[j] := by simp [hjl]
  rw [dstL_eq hjo] at hd
  have ha := D.an j hj hv
  rcases D.snd.read j i all[j] o t (by simp [hjl]) (by rw [Array.getElem?_toList]; exact ho) hd ht with ⟨_, h⟩ | ⟨hne, h | ⟨h, _⟩⟩
  · rw [ha] at h; cases h
  · exact D.notDone hj (D.bef h)
  · rw [ha] at h; cases h
theorem DrawI.evOk {i : Nat} {o : Oper} (D : DrawI E P ρ lo all pl done (i :: rest) V K S m tm loc nx tmps) (H : HRel E ρ h nx w) (ho : all[i]? = some o) (ds : List Deferred) :
    EvOk E ρ m tm loc (Act.eval { tmps, defers := ds }) o.op.operands.toList :=
  fun x hx => ev_ok (a := { tmps, defers := ds }) H.glob D.tms x fun t ht => D.reads ho (reads_op hx ht)
theorem DrawI.want {i : Nat} {o : Oper} (D : DrawI E P ρ lo all pl done (i :: rest) V K S m tm loc nx tmps) (ho : all[i]? = some o) :
    (wantedO o all m tm loc = .yes → Region.wanted o (yielded all tmps) = true) ∧ (wantedO o all m tm loc = .no → Region.wanted o (yielded all tmps) = false) :=
  wantedO_ok D.tms o fun g d hg hd => D.reads ho (reads_guard hg hd)

theorem kind_notDefer {o : Oper} (hk : (kindOf P o).isAnchor = false) : ∀ c, o.op ≠ .defer c := by
  intro c hc; rw [kindOf, hc] at hk; cases hk

/-- an operation that floats is done -/
theorem DrawI.float {i : Nat} (D : DrawI E P ρ lo all pl done (i :: rest) V K S m tm loc nx tmps) (H : HRel E ρ h nx w) (hc : CkAll P X all (i :: rest) K m tm loc h nx) (hv : tst V i = true) (hk : tst K i = true)
    {fn : FuncId} {ds : List Deferred} {dfr : Bool} {rd : Option Nat} {k : List Item} {fs : List Frame} :
    ∃ ρ' w' tmps', Go.step P (lone (FR fn tmps (.inRegion all (i :: rest) :: k) ds dfr rd) fs w) = .next (lone (FR fn tmps' (.inRegion all rest :: k) ds dfr rd) fs w') ∧
      HRel E ρ' h nx w' ∧ DrawI E P ρ' lo all pl (done ++ [i]) rest V K S m tm loc nx tmps' ∧ CkAll P X all rest K m tm loc h nx ∧ ρ.le ρ' ∧ ∀ a, a < lo → ρ a = none → ρ' a = none := by
  have hi : i < all.size := D.lt (by simp)
  obtain ⟨o, ho⟩ : ∃ o, all[i]? = some o := ⟨all[i], by simp [hi]⟩
  have hanch : (kindOf P o).isAnchor = false := by rw [← anchAt_eq ho]; exact D.an i (by simp) hv
  have hck := hc i o (by simp) hk ho
  have hcr : CkAll P X all rest K m tm loc h nx := fun j q hj => hc j q (by simp [hj])
  -- what is new behind it
  have next : ∀ (ρ' : Rho) (d : Nat) (val : Value), o.dst = some d → ρ.le ρ' → VRel E.σ ρ' (evT d m tm loc) val → (∀ (j : Nat) (q : Oper) (e a : Nat), j ∈ rest → tst V j = true → all[j]? = some q → kindOf P q = .alloc → q.dst = some e → idOf (evT e m tm loc) = some a → ρ' a = none) →
      DrawI E P ρ' lo all pl (done ++ [i]) rest V K S m tm loc nx (tmps.setIfInBounds d val) := by
    intro ρ' d val hd hle hval hp
    refine ⟨by simpa using D.ord, D.snd, D.okp, fun j hj => ?_, fun j hj => D.an j (by simp [hj]), fun j hj hs => by simp [D.sd j hj hs], ?_, fun j q e a h1 h2 h3 h4 h5 h6 => ?_, fun j1 j2 q1 q2 e1 e2 a h1 h2 => D.dist j1 j2 q1 q2 e1 e2 a (by simp [h1]) (by simp [h2])⟩
    · rcases List.mem_append.1 hj with hj | hj
      · exact D.dv j hj
      · simp at hj; rw [hj]; exact hv
    · refine (D.tms.mono hle).putConc hval fun t hx => ?_
      by_cases e : t = d
      · exact .inl e
      · refine .inr fun ⟨j, hj, h1, h2⟩ => hx ⟨j, ?_, h1, h2⟩
        rcases List.mem_cons.1 hj with rfl | hj
        · rw [dstL_eq ho, hd] at h2; cases h2; exact absurd rfl e
        · exact hj
    · obtain ⟨g1, g2, g3⟩ := D.pend j q e a (by simp [h1]) h2 h3 h4 h5 h6
      exact ⟨hp j q e a h1 h2 h3 h4 h5 h6, g2, g3⟩
  have pendOld : ∀ (j : Nat) (q : Oper) (e a : Nat), j ∈ rest → tst V j = true → all[j]? = some q → kindOf P q = .alloc → q.dst = some e → idOf (evT e m tm loc) = some a → ρ a = none :=
    fun j q e a h1 h2 h3 h4 h5 h6 => (D.pend j q e a (by simp [h1]) h2 h3 h4 h5 h6).1
  obtain ⟨hw1, hw2⟩ := D.want ho
  have hnd := kind_notDefer hanch
  unfold ckB at hck
  split at hck
  · cases hck
  · rename_i d hd
    have hfin : ∀ v, (FR fn tmps (.inRegion all (i :: rest) :: k) ds dfr rd).finish v = FR fn (tmps.setIfInBounds d v) (.inRegion all rest :: k) ds dfr rd := fun v => by
      rw [fin_op ho, hd]
    split at hck
    · rename_i hwn
      refine ⟨ρ, w, tmps.setIfInBounds d undef, ?_, H, next ρ d undef hd (Rho.le_refl _) (leV_ok _ _ _ hck (by simp only [VRel, LRel]; exact ⟨_, rfl, rfl⟩)) pendOld, hcr, Rho.le_refl _, fun _ _ h => h⟩
      rw [← hfin]; exact st_opSkip ho (hw2 hwn)
    · cases hck
    · cases hck
    · rename_i hwy
      have hf := doOp_float (P := P) (X := X) H (D.evOk H ho ds)
      split at hck
      · rename_i v h' nx' hop
        rw [hop] at hf
        split at hck
        · rename_i hkind
          rw [hkind] at hf
          obtain ⟨s', hs, hgood⟩ := hf.resolve_left (fun ⟨_, e⟩ => by cases e)
          obtain ⟨ob, O, N, n, val, rfl, rfl, hrun, hobj, hre, hval⟩ := hgood
          split at hck
          · rename_i a b ha hb
            split at hck
            · rename_i oa ob' hoa hob
              simp only [Bool.and_eq_true] at hck
              obtain ⟨hc1, hc2⟩ := hck
              rw [getF_eq'] at hoa hob
              have hbn : b = nx := by
                cases v <;> simp only [idOf, reduceCtorEq, Option.some.injEq] at hb <;> simp only [reId] at hre <;> cases hre <;> exact hb.symm
              subst hbn
              rw [Tr.get_set, if_pos rfl] at hob
              cases hob
              obtain ⟨hun, hlo, hlt⟩ := D.pend i o d a (by simp) hv ho hkind hd ha
              have hHn := H.drawn n
              obtain ⟨hB, hle⟩ := hHn.bind hun hlt hoa (leO_ok hc1 hobj)
              have hsz : ({ w with drawn := n } : World).heap.size = w.heap.size := rfl
              rw [hsz] at hB hle
              have hvr := leV_ok _ _ _ hc2 (hval (ρ.set a (w.heap.size, N)) a hle (Rho.set_same _ _ _))
              refine ⟨ρ.set a (w.heap.size, N), _, tmps.setIfInBounds d val, ?_, hB, next _ d val hd hle hvr ?_, hcr, hle, fun x hx hxn => by rw [Rho.set_other _ _ (by omega)]; exact hxn⟩
              · rw [← hfin]; exact st_value ho (hw1 hwy) (.inr hnd) (by rw [hs, hrun]; rfl)
              · intro j q e x h1 h2 h3 h4 h5 h6
                have hne : x ≠ a := fun e2 => by
                  subst e2
                  have := D.dist i j o q d e x (by simp) (by simp [h1]) hv h2 ho h3 hkind h4 hd h5 ha h6
                  subst this; exact D.head h1
                rw [Rho.set_other _ _ hne]
                exact pendOld j q e x h1 h2 h3 h4 h5 h6
            · cases hck
          · cases hck
        · rename_i hkind
          have hgood : ∃ s', ValIs P (execOp (Act.eval { tmps, defers := ds }) o) s' ∧ GoodP E P ρ h nx w s' (.val v h' nx') := by
            have hf := hf.resolve_left (fun ⟨_, e⟩ => by cases e)
            generalize kindOf P o = kd at hf hanch hkind
            cases kd
            · exact hf
            · exact hf
            · exact absurd rfl hkind
            · cases hanch
          obtain ⟨s', hs, rfl, rfl, val, hrun, hval⟩ := hgood
          refine ⟨ρ, w, tmps.setIfInBounds d val, ?_, H, next ρ d val hd (Rho.le_refl _) (leV_ok _ _ _ hck hval) pendOld, hcr, Rho.le_refl _, fun _ _ h => h⟩
          rw [← hfin]; exact st_value ho (hw1 hwy) (.inr hnd) (by rw [hs, hrun]; rfl)
      · cases hck
end draw
end Go.Sx

/- The control, part 5: the steps of a region that draws. -/
namespace Go.Sx
variable {E : Env} {P : Program} {X : Nat → Option EK} {ρ : Rho} {h : Tr AObj} {nx : Nat} {w : World}
variable {lo : Nat} {all : Array Oper} {pl : List PS} {done rest : List Nat} {V K S m : Nat} {tm : Tr AV} {loc : Loc} {tmps : Array Value}

/-- what floats is done, up to where it stops -/
theorem draw_run (stop : Nat → Prop) [DecidablePred stop] {fn : FuncId} {ds : List Deferred} {dfr : Bool} {rd : Option Nat} {k : List Item} {fs : List Frame}
    (hh : ∀ (ρ : Rho) (done : List Nat) (j : Nat) (rest : List Nat) (tmps : Array Value), DrawI E P ρ lo all pl done (j :: rest) V K S m tm loc nx tmps → ¬ stop j → tst V j = true ∧ tst K j = true) :
    ∀ (rest done : List Nat) (ρ : Rho) (tmps : Array Value) (w : World), DrawI E P ρ lo all pl done rest V K S m tm loc nx tmps → HRel E ρ h nx w → CkAll P X all rest K m tm loc h nx →
      ∃ ρ' w' tmps' done' rest', Steps P (lone (FR fn tmps (.inRegion all rest :: k) ds dfr rd) fs w) (lone (FR fn tmps' (.inRegion all rest' :: k) ds dfr rd) fs w') ∧
        HRel E ρ' h nx w' ∧ DrawI E P ρ' lo all pl done' rest' V K S m tm loc nx tmps' ∧ CkAll P X all rest' K m tm loc h nx ∧ ρ.le ρ' ∧ (∀ a, a < lo → ρ a = none → ρ' a = none) ∧
        (rest' = [] ∨ ∃ j r, rest' = j :: r ∧ stop j)
  | [], done, ρ, tmps, w, D, H, hc => ⟨ρ, w, tmps, done, [], .refl _ _, H, D, hc, Rho.le_refl _, fun _ _ h => h, .inl rfl⟩
  | j :: rest, done, ρ, tmps, w, D, H, hc => by
    by_cases hs : stop j
    · exact ⟨ρ, w, tmps, done, j :: rest, .refl _ _, H, D, hc, Rho.le_refl _, fun _ _ h => h, .inr ⟨j, rest, rfl, hs⟩⟩
    · obtain ⟨hv, hk⟩ := hh ρ done j rest tmps D hs
      obtain ⟨ρ1, w1, tmps1, g1, g2, g3, g4, g5, g6⟩ := D.float H hc hv hk (fn := fn) (ds := ds) (dfr := dfr) (rd := rd) (k := k) (fs := fs)
      obtain ⟨ρ2, w2, tmps2, done2, rest2, k1, k2, k3, k4, k5, k6, k7⟩ := draw_run stop hh rest (done ++ [j]) ρ1 tmps1 w1 g3 g2 g4
      exact ⟨ρ2, w2, tmps2, done2, rest2, .head g1 k1, k2, k3, k4, Rho.le_trans g5 k5, fun a ha hn => k6 a ha (g6 a ha hn), k7⟩

theorem bit_V {i j V : Nat} : tst (Nat.lor V (Nat.shiftLeft 1 i)) j = true ↔ tst V j = true ∨ i = j := by
  rw [tst_lor, tst_bit]; simp

/-- an operation is known ahead -/
theorem DrawI.ev {i : Nat} {l : List PS} {o : Oper} {v : AV} {nx' : Nat} (D : DrawI E P ρ lo all (.ev i :: l) done rest V K S m tm loc nx tmps) (ho : all[i]? = some o) (hn : nx ≤ nx')
    (hv : ∀ a, kindOf P o = .alloc → idOf v = some a → ρ a = none ∧ lo ≤ a ∧ a < nx' ∧ nx ≤ a) :
    DrawI E P ρ lo all l done rest (Nat.lor V (Nat.shiftLeft 1 i)) 0 S m (putA o.dst v m tm loc).1 (putA o.dst v m tm loc).2 nx' tmps := by
  have hok := D.okp
  simp only [okP, Bool.and_eq_true, Bool.not_eq_true', Nat.blt_eq, fN_eq'] at hok
  obtain ⟨⟨⟨h1, h2⟩, h3⟩, h4⟩ := hok
  have h1 : i < all.size := by simpa using h1
  have hir := D.inRest h1 h3
  have hol : all.toList[i]? = some o := by rw [Array.getElem?_toList]; exact ho
  have other : ∀ (j : Nat) (q : Oper) (e : Nat), all[j]? = some q → q.dst = some e → j ≠ i → evT e m (putA o.dst v m tm loc).1 (putA o.dst v m tm loc).2 = evT e m tm loc := by
    intro j q e hq he hne
    cases hd : o.dst with
    | none => rfl
    | some d =>
      refine evT_other _ _ _ _ fun h => ?_
      subst h
      exact hne (D.snd.one j i q o e (by rw [Array.getElem?_toList]; exact hq) hol he hd)
  have self : ∀ d a, o.dst = some d → idOf (evT d m (putA o.dst v m tm loc).1 (putA o.dst v m tm loc).2) = some a → idOf v = some a := by
    intro d a hd ha
    rw [hd] at ha
    rcases evT_self (d := d) v m tm loc with h | h
    · rw [h] at ha; exact ha
    · rw [h] at ha; cases ha
  refine ⟨D.ord, D.snd, h4, fun j hj => bit_V.2 (.inl (D.dv j hj)), fun j hj hv => ?_, D.sd, ?_, fun j q d a g1 g2 g3 g4 g5 g6 => ?_, fun j1 j2 q1 q2 e1 e2 a g1 g2 g3 g4 g5 g6 g7 g8 g9 g10 g11 g12 => ?_⟩
  · rcases bit_V.1 hv with h | rfl
    · exact D.an j hj h
    · exact h2
  · cases hd : o.dst with
    | none =>
      refine D.tms.weaken fun t hx => ?_
      rintro ⟨j, hj, g1, g2⟩
      exact hx ⟨j, hj, bit_V.2 (.inl g1), g2⟩
    | some d =>
      refine D.tms.putAbs fun t hx => ⟨?_, ?_⟩
      · intro e; subst e
        exact hx ⟨i, hir, bit_V.2 (.inr rfl), by rw [dstL_eq ho, hd]⟩
      · rintro ⟨j, hj, g1, g2⟩
        exact hx ⟨j, hj, bit_V.2 (.inl g1), g2⟩
  · by_cases e : j = i
    · subst e
      rw [ho] at g3; cases g3
      obtain ⟨k1, k2, k3, _⟩ := hv a g4 (self d a g5 g6)
      exact ⟨k1, k2, k3⟩
    · rw [other j q d g3 g5 e] at g6
      obtain ⟨k1, k2, k3⟩ := D.pend j q d a g1 ((bit_V.1 g2).resolve_right (Ne.symm e)) g3 g4 g5 g6
      exact ⟨k1, k2, by omega⟩
  · by_cases f1 : j1 = i <;> by_cases f2 : j2 = i
    · omega
    · subst f1
      rw [ho] at g5; cases g5
      obtain ⟨_, _, _, k4⟩ := hv a g7 (self e1 a g9 g11)
      rw [other j2 q2 e2 g6 g10 f2] at g12
      obtain ⟨_, _, k3⟩ := D.pend j2 q2 e2 a g2 ((bit_V.1 g4).resolve_right (Ne.symm f2)) g6 g8 g10 g12
      omega
    · subst f2
      rw [ho] at g6; cases g6
      obtain ⟨_, _, _, k4⟩ := hv a g8 (self e2 a g10 g12)
      rw [other j1 q1 e1 g5 g9 f1] at g11
      obtain ⟨_, _, k3⟩ := D.pend j1 q1 e1 a g1 ((bit_V.1 g3).resolve_right (Ne.symm f1)) g5 g7 g9 g11
      omega
    · rw [other j1 q1 e1 g5 g9 f1] at g11
      rw [other j2 q2 e2 g6 g10 f2] at g12
      exact D.dist j1 j2 q1 q2 e1 e2 a g1 g2 ((bit_V.1 g3).resolve_right (Ne.symm f1)) ((bit_V.1 g4).resolve_right (Ne.symm f2)) g5 g6 g7 g8 g9 g10 g11 g12

theorem DrawI.ck {i : Nat} {l : List PS} {o : Oper} (D : DrawI E P ρ lo all (.ck i :: l) done rest V K S m tm loc nx tmps) (ho : all[i]? = some o) (hc : CkAll P X all rest K m tm loc h nx)
    (hb : ckB P X o all m tm loc h nx = true) : DrawI E P ρ lo all l done rest V (Nat.lor K (Nat.shiftLeft 1 i)) S m tm loc nx tmps ∧ CkAll P X all rest (Nat.lor K (Nat.shiftLeft 1 i)) m tm loc h nx := by
  have hok := D.okp
  simp only [okP, Bool.and_eq_true, Bool.not_eq_true', Nat.blt_eq, fN_eq'] at hok
  refine ⟨⟨D.ord, D.snd, hok.2, D.dv, D.an, D.sd, D.tms, D.pend, D.dist⟩, fun j q hj hk hq => ?_⟩
  rcases bit_V.1 hk with hk | rfl
  · exact hc j q hj hk hq
  · rw [ho] at hq; cases hq; exact hb

/-- an anchor stands next, once what floats before it is done -/
theorem DrawI.toAnchor {i : Nat} {l : List PS} {fn : FuncId} {ds : List Deferred} {dfr : Bool} {rd : Option Nat} {k : List Item} {fs : List Frame}
    (D : DrawI E P ρ lo all (.an i :: l) done rest V K S m tm loc nx tmps) (H : HRel E ρ h nx w) (hc : CkAll P X all rest K m tm loc h nx) :
    ∃ ρ' w' tmps' done' rest', Steps P (lone (FR fn tmps (.inRegion all rest :: k) ds dfr rd) fs w) (lone (FR fn tmps' (.inRegion all (i :: rest') :: k) ds dfr rd) fs w') ∧
        HRel E ρ' h nx w' ∧ DrawI E P ρ' lo all (.an i :: l) done' (i :: rest') V K S m tm loc nx tmps' ∧ ρ.le ρ' ∧ (∀ a, a < lo → ρ a = none → ρ' a = none) := by
  have hok := D.okp
  simp only [okP, Bool.and_eq_true, Bool.not_eq_true', Nat.blt_eq, fN_eq'] at hok
  obtain ⟨⟨⟨⟨h1, h2⟩, h3⟩, h4⟩, h5⟩ := hok
  have h1 : i < all.size := by simpa using h1
  have hh : ∀ (ρ : Rho) (done : List Nat) (j : Nat) (rest : List Nat) (tmps : Array Value), DrawI E P ρ lo all (.an i :: l) done (j :: rest) V K S m tm loc nx tmps → ¬ (j = i) → tst V j = true ∧ tst K j = true := by
    intro ρ done j rest tmps D hne
    have hj := D.lt (i := j) (by simp)
    rcases okAn_spec _ h4 j (by simpa using hj) with h | ⟨h, hk | hk⟩ | ⟨h, hb⟩
    · exact absurd h hne
    · exact ⟨h, hk⟩
    · exact absurd (D.sd j hj hk) (D.notDone (by simp))
    · have := D.bef hb
      have := D.dv i this
      rw [h3] at this; cases this
  obtain ⟨ρ', w', tmps', done', rest', g1, g2, g3, g4, g5, g6, g7⟩ := draw_run (X := X) (fun j => j = i) (fn := fn) (ds := ds) (dfr := dfr) (rd := rd) (k := k) (fs := fs) hh rest done ρ tmps w D H hc
  have hir := g3.inRest h1 h3
  rcases g7 with rfl | ⟨j, r, rfl, rfl⟩
  · cases hir
  · exact ⟨ρ', w', tmps', done', r, g1, g2, g3, g5, g6⟩

/-- an anchor is done -/
theorem DrawI.anchor {i : Nat} {l : List PS} {o : Oper} {v : AV} {val : Value} (D : DrawI E P ρ lo all (.an i :: l) done (i :: rest) V K S m tm loc nx tmps) (ho : all[i]? = some o) (hv : VRel E.σ ρ v val) :
    ∃ V' S', DrawI E P ρ lo all l (done ++ [i]) rest V' 0 S' m (putA o.dst v m tm loc).1 (putA o.dst v m tm loc).2 nx (putC o.dst val tmps) := by
  have hok := D.okp
  simp only [okP, Bool.and_eq_true, Bool.not_eq_true', Nat.blt_eq, fN_eq'] at hok
  obtain ⟨⟨⟨⟨h1, h2⟩, h3⟩, h4⟩, h5⟩ := hok
  have hol : all.toList[i]? = some o := by rw [Array.getElem?_toList]; exact ho
  have other : ∀ (j : Nat) (q : Oper) (e : Nat), all[j]? = some q → q.dst = some e → j ≠ i → evT e m (putA o.dst v m tm loc).1 (putA o.dst v m tm loc).2 = evT e m tm loc := by
    intro j q e hq he hne
    cases hd : o.dst with
    | none => rfl
    | some d =>
      refine evT_other _ _ _ _ fun h => ?_
      subst h
      exact hne (D.snd.one j i q o e (by rw [Array.getElem?_toList]; exact hq) hol he hd)
  have old : ∀ j, j ∈ rest → tst (Nat.lor V (Nat.shiftLeft 1 i)) j = true → tst V j = true ∧ j ≠ i := by
    intro j hj hv
    have hne : j ≠ i := fun e => by subst e; exact D.head hj
    exact ⟨(bit_V.1 hv).resolve_right (Ne.symm hne), hne⟩
  refine ⟨_, _, by simpa using D.ord, D.snd, h5, fun j hj => ?_, fun j hj hv => D.an j (by simp [hj]) (old j hj hv).1, fun j hj hs => ?_, ?_, fun j q d a g1 g2 g3 g4 g5 g6 => ?_, fun j1 j2 q1 q2 e1 e2 a g1 g2 g3 g4 g5 g6 g7 g8 g9 g10 g11 g12 => ?_⟩
  · rcases List.mem_append.1 hj with hj | hj
    · exact bit_V.2 (.inl (D.dv j hj))
    · simp at hj; exact bit_V.2 (.inr hj.symm)
  · rw [tst_lor, tst_lor, tst_bit] at hs
    simp only [Bool.or_eq_true, decide_eq_true_eq] at hs
    rcases hs with (hs | hs) | hs
    · simp [D.sd j hj hs]
    · simp [hs]
    · simp [D.bef hs]
  · refine D.tms.put hv fun t hx => ?_
    by_cases e : o.dst = some t
    · exact .inl e
    · refine .inr ?_
      rintro ⟨j, hj, g1, g2⟩
      rcases List.mem_cons.1 hj with rfl | hj
      · rw [h3] at g1; cases g1
      · exact hx ⟨j, hj, bit_V.2 (.inl g1), g2⟩
  · obtain ⟨k1, k2⟩ := old j g1 g2
    rw [other j q d g3 g5 k2] at g6
    exact D.pend j q d a (by simp [g1]) k1 g3 g4 g5 g6
  · obtain ⟨k1, k2⟩ := old j1 g1 g3
    obtain ⟨k3, k4⟩ := old j2 g2 g4
    rw [other j1 q1 e1 g5 g9 k2] at g11
    rw [other j2 q2 e2 g6 g10 k4] at g12
    exact D.dist j1 j2 q1 q2 e1 e2 a (by simp [g1]) (by simp [g2]) k1 k3 g5 g6 g7 g8 g9 g10 g11 g12

theorem ckAll_zero : CkAll P X all rest 0 m tm loc h nx := fun i o _ hk => by rw [tst_zero] at hk; cases hk

/-- all is done -/
theorem DrawI.toEnd {fn : FuncId} {ds : List Deferred} {dfr : Bool} {rd : Option Nat} {k : List Item} {fs : List Frame}
    (D : DrawI E P ρ lo all [] done rest V K S m tm loc nx tmps) (H : HRel E ρ h nx w) (hc : CkAll P X all rest K m tm loc h nx) :
    ∃ ρ' w' tmps', Steps P (lone (FR fn tmps (.inRegion all rest :: k) ds dfr rd) fs w) (lone (FR fn tmps' k ds dfr rd) fs w') ∧
        HRel E ρ' h nx w' ∧ TmOk E.σ ρ' noEx m tm loc tmps' ∧ ρ.le ρ' ∧ (∀ a, a < lo → ρ a = none → ρ' a = none) := by
  have hok := D.okp
  simp only [okP] at hok
  have hh : ∀ (ρ : Rho) (done : List Nat) (j : Nat) (rest : List Nat) (tmps : Array Value), DrawI E P ρ lo all [] done (j :: rest) V K S m tm loc nx tmps → ¬ False → tst V j = true ∧ tst K j = true := by
    intro ρ done j rest tmps D _
    have hj := D.lt (i := j) (by simp)
    obtain ⟨g1, g2⟩ := okEnd_spec _ hok j (by simpa using hj)
    exact ⟨g1, g2.resolve_right fun hk => D.notDone (by simp) (D.sd j hj hk)⟩
  obtain ⟨ρ', w', tmps', done', rest', g1, g2, g3, g4, g5, g6, g7⟩ := draw_run (X := X) (fun _ => False) (fn := fn) (ds := ds) (dfr := dfr) (rd := rd) (k := k) (fs := fs) hh rest done ρ tmps w D H hc
  rcases g7 with rfl | ⟨_, _, _, h⟩
  · exact ⟨ρ', w', tmps', g1.trans (.one st_end), g2, g3.tms.weaken (fun t _ => by rintro ⟨j, hj, _⟩; cases hj), g5, g6⟩
  · exact h.elim
end Go.Sx
