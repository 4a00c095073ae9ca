/- What a function leads to, by a table. -/
import Derived.Test.YtkohmamikbdloaaGreatDoorXe
import Derived.Test.YtkohmamikbdloaaGreatDoorXf
import GoSem.ClaimFn
set_option linter.all false
/- What a function's code leads to, in all: by a table of what each leads to. -/
namespace Go.Sx
noncomputable def cloR (T : Tr (List Nat)) (n : Nat) : List Nat → Nat → List Nat → Option (List Nat) :=
  Nat.rec (fun todo _ seen => match todo with | [] => some seen.reverse | _ :: _ => none)
    (fun _ ih todo mask seen => match todo with
      | [] => some seen.reverse
      | f :: todo => match tst mask f with
        | true => ih todo mask seen
        | false => fN (Nat.lor mask (Nat.shiftLeft 1 f)) fun mask => ih (oRec [] (fun x => x) (T.getF f) ++ todo) mask (f :: seen)) n
theorem clo_ok {P : Program} {T : Tr (List Nat)} (hT : ∀ f, (P.funcs[f]?).elim [] P.leadsTo = oRec [] (fun x => x) (T.get f)) : ∀ (k : Nat) (todo : List Nat) (mask : Nat) (seen L : List Nat), (∀ i, tst mask i = seen.contains i) →
    cloR T k todo mask seen = some L → ∀ n, k ≤ n → P.closureVia n todo seen = L
  | 0, todo, mask, seen, L, hm, h, n, hn => by
    cases todo with
    | nil =>
      have h : some seen.reverse = some L := h
      cases h
      cases n <;> rfl
    | cons f todo => cases h
  | k + 1, todo, mask, seen, L, hm, h, n, hn => by
    obtain ⟨n, rfl⟩ : ∃ m, n = m + 1 := ⟨n - 1, by omega⟩
    cases todo with
    | nil =>
      have h : some seen.reverse = some L := h
      cases h
      rfl
    | cons f todo =>
      have h : (match tst mask f with
        | true => cloR T k todo mask seen
        | false => fN (Nat.lor mask (Nat.shiftLeft 1 f)) fun mask => cloR T k (oRec [] (fun x => x) (T.getF f) ++ todo) mask (f :: seen)) = some L := h
      unfold Program.closureVia
      rw [← hm f]
      cases hb : tst mask f with
      | true =>
        rw [hb] at h
        simp only [if_true]
        exact clo_ok hT k todo mask seen L hm h n (by omega)
      | false =>
        rw [hb] at h
        simp only [fN_eq', getF_eq'] at h
        rw [if_neg (by decide), hT f]
        refine clo_ok hT k _ _ _ L (fun i => ?_) h n (by omega)
        rw [tst_lor, tst_bit, hm i]
        simp only [List.contains_cons]
        by_cases e : f = i
        · subst e; simp
        · have e2 : (i == f) = false := by rw [beq_eq_false_iff_ne]; exact fun h => e h.symm
          rw [e2, decide_eq_false e, Bool.or_false, Bool.false_or]
noncomputable def ofLLK {β : Type} (l : List (List Nat)) : Nat → Tr (List Nat) → (Tr (List Nat) → β) → β :=
  lRec (fun _ t k => k t) (fun v _ ih i t k => t.setK (some v) i fun t => ih (Nat.succ i) t k) l
def ofLL : List (List Nat) → Nat → Tr (List Nat) → Tr (List Nat)
  | [], _, t => t
  | v :: l, i, t => ofLL l (i + 1) (t.set (some v) i)
theorem ofLLK_eq {β : Type} (l : List (List Nat)) : ∀ (i : Nat) (t : Tr (List Nat)) (k : Tr (List Nat) → β), ofLLK l i t k = k (ofLL l i t) := by
  induction l with
  | nil => intro i t k; rfl
  | cons x xs ih => intro i t k; simp only [ofLLK, lRec_cons, setK_eq'] at ih ⊢; rw [ih]; rfl
theorem ofLL_get : ∀ (l : List (List Nat)) (i : Nat) (t : Tr (List Nat)) (j : Nat), (ofLL l i t).get j = if i ≤ j ∧ j < i + l.length then l[j - i]? else t.get j
  | [], i, t, j => by simp [ofLL]; omega
  | v :: l, i, t, j => by
    simp only [ofLL]
    rw [ofLL_get l (i + 1) _ j, Tr.get_set]
    by_cases h1 : i + 1 ≤ j ∧ j < i + 1 + l.length
    · rw [if_pos h1, if_pos (by simp; omega)]
      have : j - i = (j - (i + 1)) + 1 := by omega
      rw [this, List.getElem?_cons_succ]
    · rw [if_neg h1]
      by_cases h2 : j = i
      · subst h2; rw [if_pos rfl, if_pos (by simp)]; simp
      · rw [if_neg h2, if_neg (by simp; omega)]
theorem clo_of {P : Program} {TL : List (List Nat)} (hTL : P.funcs.toList.map P.leadsTo = TL) {f k s : Nat} {L : List Nat} (hs : (TL.map fun l => l.length + 1).sum = s) (hk : Nat.ble k (1 + s) = true)
    (h : (ofLLK TL 0 .leaf fun T => cloR T k [f] 0 []) = some L) : P.closure f = L := by
  have hT : ∀ f, (P.funcs[f]?).elim [] P.leadsTo = oRec [] (fun x => x) ((ofLL TL 0 .leaf).get f) := by
    intro f
    rw [ofLL_get]
    subst hTL
    by_cases hf : f < P.funcs.size
    · rw [if_pos ⟨Nat.zero_le _, by simpa using hf⟩]
      simp [hf]
    · rw [if_neg (by simpa using hf)]
      simp [hf, Tr.get]
  rw [ofLLK_eq] at h
  unfold Program.closure
  refine clo_ok hT k _ 0 [] L (fun i => by rw [tst_zero]; rfl) h _ ?_
  have : (P.funcs.toList.map fun g => (P.leadsTo g).length + 1) = TL.map fun l => l.length + 1 := by rw [← hTL, List.map_map]; rfl
  rw [this, hs]
  exact Nat.le_of_ble_eq_true hk
end Go.Sx
