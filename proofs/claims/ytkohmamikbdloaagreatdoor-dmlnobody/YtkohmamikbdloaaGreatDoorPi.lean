/- The example returns true, and so does the law, for every name and every row. -/
import Derived.Test.YtkohmamikbdloaaGreatDoorPa
import Derived.Test.YtkohmamikbdloaaGreatDoorPg
import Derived.Test.YtkohmamikbdloaaGreatDoorPh
set_option linter.all false
namespace Go.Sx
open Go.Proofs
theorem xok1 : ∃ fn, gP.funcs[269]? = some fn ∧ (fn.name == "runtime.NumGoroutine") = false ∧ fn.body.isNone = true ∧ Extern.findNext fn = none ∧ Extern.find fn = some (implX 269 fn .overlaps) :=
  ⟨Tryz.f269, Tryz.func269, by kernel_rfl, by kernel_rfl, by kernel_rfl, by kernel_rfl⟩
theorem xok2 : ∃ fn, gP.funcs[432]? = some fn ∧ (fn.name == "runtime.NumGoroutine") = false ∧ fn.body.isNone = true ∧ Extern.findNext fn = none ∧ Extern.find fn = some (implX 432 fn .cmpStr) :=
  ⟨Tryz.f432, Tryz.func432, by kernel_rfl, by kernel_rfl, by kernel_rfl, by kernel_rfl⟩
theorem xok3 : ∃ fn, gP.funcs[560]? = some fn ∧ (fn.name == "runtime.NumGoroutine") = false ∧ fn.body.isNone = true ∧ Extern.findNext fn = none ∧ Extern.find fn = some (implX 560 fn .makeNoZero) :=
  ⟨Tryz.f560, Tryz.func560, by kernel_rfl, by kernel_rfl, by kernel_rfl, by kernel_rfl⟩
end Go.Sx

namespace Go.Sx
open Go.Proofs
variable {P : Program} {X : Nat → Option EK} {M : Nat → Nat}
theorem ends_fork {l : List Nat} {r : R} (ha : Ends P X M (forkA (runL P X M l r))) (hb : Ends P X M (forkB (runL P X M l r))) : Ends P X M r := by
  rintro C rfl rfl rfl hx Mc hr
  obtain ⟨M1, s1, h1⟩ := runL_ok hx l hr
  rcases fork_ok h1 with h | h
  · obtain ⟨ρ, w, fr, h', nx, s2, g⟩ := ha C rfl rfl rfl hx M1 h
    exact ⟨ρ, w, fr, h', nx, s1.trans s2, g⟩
  · obtain ⟨ρ, w, fr, h', nx, s2, g⟩ := hb C rfl rfl rfl hx M1 h
    exact ⟨ρ, w, fr, h', nx, s1.trans s2, g⟩
theorem gmix : gP.follows .mixedOrders = true := by kernel_rfl
theorem xok4 : ∃ fn, gP.funcs[597]? = some fn ∧ (fn.name == "runtime.NumGoroutine") = false ∧ fn.body.isNone = true ∧ Extern.findNext fn = none ∧ Extern.find fn = some (implX 597 fn .overlaps) :=
  ⟨Tryz.f597, Tryz.func597, by kernel_rfl, by kernel_rfl, by kernel_rfl, by kernel_rfl⟩
theorem xok5 : ∃ fn, gP.funcs[601]? = some fn ∧ (fn.name == "runtime.NumGoroutine") = false ∧ fn.body.isNone = true ∧ Extern.findNext fn = none ∧ Extern.find fn = some (implX 601 fn .overlaps) :=
  ⟨Tryz.f601, Tryz.func601, by kernel_rfl, by kernel_rfl, by kernel_rfl, by kernel_rfl⟩
theorem gX_mem {f : Nat} {e : EK} (h : gX f = some e) : (f, e) ∈ xl := by
  unfold gX at h
  generalize xl = l at h ⊢
  induction l with
  | nil => cases h
  | cons p l ih =>
    obtain ⟨a, b⟩ := p
    simp only [List.lookup] at h
    split at h
    · rename_i hb
      have := eq_of_beq hb
      cases h; subst this; exact List.mem_cons_self
    · exact List.mem_cons_of_mem _ (ih h)
theorem gX_ok {f : Nat} {e : EK} (h : gX f = some e) : ∃ fn, gP.funcs[f]? = some fn ∧ (fn.name == "runtime.NumGoroutine") = false ∧ fn.body.isNone = true ∧ Extern.findNext fn = none ∧ Extern.find fn = some (implX f fn e) := by
  have hm := gX_mem h
  simp only [xl, List.mem_cons, Prod.mk.injEq, List.not_mem_nil, or_false] at hm
  rcases hm with ⟨rfl, rfl⟩ | ⟨rfl, rfl⟩ | ⟨rfl, rfl⟩ | ⟨rfl, rfl⟩ | ⟨rfl, rfl⟩
  · exact xok1
  · exact xok2
  · exact xok3
  · exact xok4
  · exact xok5
theorem gX_told {f : Nat} {tab : List (List AV × AV)} (h : gX f = some (.told tab)) : False := by
  have hm := gX_mem h
  simp [xl] at hm
theorem gX_xok (σ : Nat → Value) : XOk gP gX σ :=
  ⟨fun _ _ h => (gX_told h).elim, fun _ _ h _ => gX_ok h⟩
/-- the example comes out -/
theorem live_calls (w : World) : Calls gP 5 #[] w fun e w' => e = .returned (.bool true) ∧ World.Kept w w' :=
  ends_calls (σ := sigOf (.string ⟨#[]⟩) (.slice none 0 0)) (args := []) (vs := #[]) sigOf_sig gmix (gX_xok _) q_ends (by simp [LRel]) w
end Go.Sx

namespace Go.Sx
open Go.Proofs
noncomputable def gY (f : Nat) : Option EK := match Nat.beq f 5 with
  | true => some (.told [([], .bool true)])
  | false => match Nat.beq f 92 with
    | true => some (.told [([.sym 1], .sym 4)])
    | false => gX f
noncomputable def s1 : R := enterF gP gM 4 [.sym 1, .sym 2] false [] .leaf 64
set_option maxRecDepth 1000000
theorem n_a : finTrue (runL gP gY gM [1, 0] (forkA (runL gP gY gM [0] (forkA (runL gP gY gM [2] s1))))) = true := by kernel_rfl
theorem n_b : finTrue (runL gP gY gM [9, 8, 5, 3, 2, 1] (forkB (runL gP gY gM [0] (forkA (runL gP gY gM [2] s1))))) = true := by kernel_rfl
theorem n_c : finTrue (runL gP gY gM [2] (forkB (runL gP gY gM [2] s1))) = true := by kernel_rfl
theorem n_ends : Ends gP gY gM s1 := ends_fork (l := [2]) (ends_fork (l := [0]) (ends_of n_a) (ends_of n_b)) (ends_of n_c)
def sig4 (s : ByteArray) (sl : Value) (i : Nat) : Value := if i = 4 then .string (Go.Proofs.YtkohmamikbdloaaGreatDoor.lowS s) else sigOf (.string s) sl i
theorem sig4_sig {s : ByteArray} {a : Option Addr} {l c : Nat} : Sig (sig4 s (.slice a l c)) := by
  have h := @sigOf_sig s a l c
  refine ⟨fun i => ?_, fun i hi => ?_, fun i hi => ?_⟩
  · unfold sig4; split
    · exact ⟨rfl, rfl⟩
    · exact h.one i
  · unfold sig4; split
    · exact ⟨_, rfl⟩
    · exact h.str i hi
  · unfold sig4; rw [if_neg (by omega)]; exact h.slc i hi
theorem kept_of_below {w w' : World} (h : Go.RowKit.Below w.heap.size w w') : World.Kept w w' := ⟨h.block, h.size, h.tape, h.os, h.output⟩
theorem gY_xok {s : ByteArray} {sl : Value} (hs : s.size < 9223372036854775808) : XOk gP gY (sig4 s sl) := by
  constructor
  · intro f tab hf
    unfold gY at hf
    split at hf
    · rename_i e
      obtain rfl : f = 5 := Nat.eq_of_beq_eq_true e
      cases hf
      refine ⟨⟨Tryz.f5, Tryz.func5, by kernel_rfl, by kernel_rfl⟩, fun args v hm ρ vs w hl => ?_⟩
      simp only [List.mem_cons, Prod.mk.injEq, List.not_mem_nil, or_false] at hm
      obtain ⟨rfl, rfl⟩ := hm
      simp only [LRel] at hl
      obtain rfl : vs = #[] := by rw [← Array.toList_inj, hl]
      exact ⟨.bool true, by simp only [VRel], live_calls w⟩
    · split at hf
      · rename_i e
        obtain rfl : f = 92 := Nat.eq_of_beq_eq_true e
        cases hf
        refine ⟨⟨Tryz.f92, Tryz.func92, by kernel_rfl, by kernel_rfl⟩, fun args v hm ρ vs w hl => ?_⟩
        simp only [List.mem_cons, Prod.mk.injEq, List.not_mem_nil, or_false] at hm
        obtain ⟨rfl, rfl⟩ := hm
        simp only [LRel, VRel] at hl
        obtain ⟨v1, vs', e1, rfl, rfl⟩ := hl
        obtain rfl : vs = #[.string s] := by rw [← Array.toList_inj, e1]; rfl
        refine ⟨.string (Go.Proofs.YtkohmamikbdloaaGreatDoor.lowS s), by simp only [VRel, sig4, if_pos], ?_⟩
        exact (Go.Proofs.YtkohmamikbdloaaGreatDoor.fold_calls s hs w).mono fun e w' h => ⟨h.1, kept_of_below h.2⟩
      · exact (gX_told hf).elim
  · intro f e hf hne
    unfold gY at hf
    split at hf
    · cases hf; exact (hne _ rfl).elim
    · split at hf
      · cases hf; exact (hne _ rfl).elim
      · exact gX_ok hf
theorem nobody_calls (s : ByteArray) (hs : s.size < 9223372036854775808) (a : Option Addr) (l c : Nat) (w : World) : Calls gP 4 #[.string s, .slice a l c] w fun e w' => e = .returned (.bool true) ∧ World.Kept w w' :=
  ends_calls (σ := sig4 s (.slice a l c)) (args := [.sym 1, .sym 2]) (vs := #[.string s, .slice a l c]) sig4_sig gmix (gY_xok hs) n_ends (by simp only [LRel, VRel]; exact ⟨_, _, rfl, rfl, _, _, rfl, rfl, rfl⟩) w
end Go.Sx
