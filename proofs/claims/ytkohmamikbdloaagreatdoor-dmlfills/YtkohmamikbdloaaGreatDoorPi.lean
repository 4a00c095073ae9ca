/- The example returns true, whatever the world. -/
import Derived.Test.YtkohmamikbdloaaGreatDoorPa
import Derived.Test.YtkohmamikbdloaaGreatDoorPg
import Derived.Test.YtkohmamikbdloaaGreatDoorPh
set_option linter.all false
namespace Go.Sx
open Go.Proofs
theorem xok1 : ∃ fn, gP.funcs[269]? = some fn ∧ (fn.name == "runtime.NumGoroutine") = false ∧ fn.body.isNone = true ∧ Extern.findNext fn = none ∧ Extern.find fn = some (implX 269 fn .overlaps) :=
  ⟨Tryz.f269, Tryz.func269, by kernel_rfl, by kernel_rfl, by kernel_rfl, by kernel_rfl⟩
theorem xok2 : ∃ fn, gP.funcs[432]? = some fn ∧ (fn.name == "runtime.NumGoroutine") = false ∧ fn.body.isNone = true ∧ Extern.findNext fn = none ∧ Extern.find fn = some (implX 432 fn .cmpStr) :=
  ⟨Tryz.f432, Tryz.func432, by kernel_rfl, by kernel_rfl, by kernel_rfl, by kernel_rfl⟩
theorem xok3 : ∃ fn, gP.funcs[560]? = some fn ∧ (fn.name == "runtime.NumGoroutine") = false ∧ fn.body.isNone = true ∧ Extern.findNext fn = none ∧ Extern.find fn = some (implX 560 fn .makeNoZero) :=
  ⟨Tryz.f560, Tryz.func560, by kernel_rfl, by kernel_rfl, by kernel_rfl, by kernel_rfl⟩
end Go.Sx

namespace Go.Sx
open Go.Proofs
variable {P : Program} {X : Nat → Option EK} {M : Nat → Nat}
theorem ends_fork {l : List Nat} {r : R} (ha : Ends P X M (forkA (runL P X M l r))) (hb : Ends P X M (forkB (runL P X M l r))) : Ends P X M r := by
  rintro C rfl rfl rfl hx Mc hr
  obtain ⟨M1, s1, h1⟩ := runL_ok hx l hr
  rcases fork_ok h1 with h | h
  · obtain ⟨ρ, w, fr, h', nx, s2, g⟩ := ha C rfl rfl rfl hx M1 h
    exact ⟨ρ, w, fr, h', nx, s1.trans s2, g⟩
  · obtain ⟨ρ, w, fr, h', nx, s2, g⟩ := hb C rfl rfl rfl hx M1 h
    exact ⟨ρ, w, fr, h', nx, s1.trans s2, g⟩
theorem gmix : gP.follows .mixedOrders = true := by kernel_rfl
theorem xok4 : ∃ fn, gP.funcs[597]? = some fn ∧ (fn.name == "runtime.NumGoroutine") = false ∧ fn.body.isNone = true ∧ Extern.findNext fn = none ∧ Extern.find fn = some (implX 597 fn .overlaps) :=
  ⟨Tryz.f597, Tryz.func597, by kernel_rfl, by kernel_rfl, by kernel_rfl, by kernel_rfl⟩
theorem xok5 : ∃ fn, gP.funcs[601]? = some fn ∧ (fn.name == "runtime.NumGoroutine") = false ∧ fn.body.isNone = true ∧ Extern.findNext fn = none ∧ Extern.find fn = some (implX 601 fn .overlaps) :=
  ⟨Tryz.f601, Tryz.func601, by kernel_rfl, by kernel_rfl, by kernel_rfl, by kernel_rfl⟩
theorem gX_mem {f : Nat} {e : EK} (h : gX f = some e) : (f, e) ∈ xl := by
  unfold gX at h
  generalize xl = l at h ⊢
  induction l with
  | nil => cases h
  | cons p l ih =>
    obtain ⟨a, b⟩ := p
    simp only [List.lookup] at h
    split at h
    · rename_i hb
      have := eq_of_beq hb
      cases h; subst this; exact List.mem_cons_self
    · exact List.mem_cons_of_mem _ (ih h)
theorem gX_ok {f : Nat} {e : EK} (h : gX f = some e) : ∃ fn, gP.funcs[f]? = some fn ∧ (fn.name == "runtime.NumGoroutine") = false ∧ fn.body.isNone = true ∧ Extern.findNext fn = none ∧ Extern.find fn = some (implX f fn e) := by
  have hm := gX_mem h
  simp only [xl, List.mem_cons, Prod.mk.injEq, List.not_mem_nil, or_false] at hm
  rcases hm with ⟨rfl, rfl⟩ | ⟨rfl, rfl⟩ | ⟨rfl, rfl⟩ | ⟨rfl, rfl⟩ | ⟨rfl, rfl⟩
  · exact xok1
  · exact xok2
  · exact xok3
  · exact xok4
  · exact xok5
theorem gX_told {f : Nat} {tab : List (List AV × AV)} (h : gX f = some (.told tab)) : False := by
  have hm := gX_mem h
  simp [xl] at hm
theorem gX_xok (σ : Nat → Value) : XOk gP gX σ :=
  ⟨fun _ _ h => (gX_told h).elim, fun _ _ h _ => gX_ok h⟩
/-- the example comes out -/
theorem live_calls (w : World) : Calls gP 5 #[] w fun e w' => e = .returned (.bool true) ∧ World.Kept w w' :=
  ends_calls (σ := sigOf (.string ⟨#[]⟩) (.slice none 0 0)) (args := []) (vs := #[]) sigOf_sig gmix (gX_xok _) q_ends (by simp [LRel]) w
end Go.Sx
