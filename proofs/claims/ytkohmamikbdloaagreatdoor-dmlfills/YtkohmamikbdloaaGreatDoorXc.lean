/- Each operation does what the executor says: first half. -/
import Derived.Test.YtkohmamikbdloaaGreatDoorXb
import Derived.Laws.Entries
import Derived.Laws.StructEq
import Derived.Laws.Cells
import Derived.MapKept
import Derived.Laws.BytesString
import Derived.Laws.NewFold
import Derived.Laws.CopyRow
/- The operations, part 1: operands, reading, numbers, addresses. -/
namespace Go.Sx
variable {E : Env} {P : Program} {ρ : Rho} {h : Tr AObj} {nx : Nat} {w : World}

/-- an operation that only reads: the same heap, a value -/
def GoodP (E : Env) (P : Program) (ρ : Rho) (h : Tr AObj) (nx : Nat) (w : World) (s : Sem Value) (r : OR) : Prop := match r with
  | .val av h' nx' => h' = h ∧ nx' = nx ∧ ∃ v, s.run P w = .ok v w ∧ VRel E.σ ρ av v
  | .bad _ => True
  | _ => False

theorem goodP_val {s : Sem Value} {av : AV} {v : Value} (hr : s.run P w = .ok v w) (hv : VRel E.σ ρ av v) : GoodP E P ρ h nx w s (.val av h nx) := ⟨rfl, rfl, v, hr, hv⟩
theorem goodP_bad {s : Sem Value} {why : String} : GoodP E P ρ h nx w s (bad why) := trivial

-- types
theorem szO_some {t : TypeId} {n : Nat} (hs : szO P t = some n) : ∃ i, P.info? t = some i ∧ i.size = n := by
  unfold szO at hs
  cases e : P.info? t with
  | none => rw [e] at hs; cases hs
  | some i => rw [e] at hs; exact ⟨i, rfl, by simpa using hs⟩
theorem run_typeInfo' {t : TypeId} {i : TypeInfo} (hi : P.info? t = some i) (w : World) : (typeInfo t).run P w = .ok i w := by
  simp [typeInfo, hi]
theorem run_sizeOf' {t : TypeId} {n : Nat} (hs : szO P t = some n) (w : World) : (sizeOf t).run P w = .ok n w := by
  obtain ⟨i, hi, rfl⟩ := szO_some hs
  simp [sizeOf, run_typeInfo' hi]
theorem run_isAgg_true {t : TypeId} (ha : isAggT P t = true) (w : World) : (isAgg t).run P w = .ok true w := by
  unfold isAggT at ha
  cases e : P.underlying t with
  | none => rw [e] at ha; cases ha
  | some d =>
    rw [e] at ha
    cases d <;> first | (cases ha; done) | simp [isAgg, run_underlying e]
theorem run_isAgg_false {t : TypeId} {d : TypeDesc} (e : P.underlying t = some d) (ha : isAggT P t = false) (w : World) : (isAgg t).run P w = .ok false w := by
  unfold isAggT at ha; rw [e] at ha
  cases d <;> first | (cases ha; done) | simp [isAgg, run_underlying e]

-- operands
def OpRel (E : Env) (ρ : Rho) (m : Nat) (tm : Tr AV) (loc : Loc) (eval : Operand → Value) (x : Operand) : Prop := VRel E.σ ρ (ev x m tm loc) (eval x)

mutual
theorem absV_ok (σ : Nat → Value) (ρ : Rho) : ∀ v : Value, VRel σ ρ (absV v) v
  | .bool b => by simp [absV, VRel]
  | .int k n => by simp [absV, VRel]
  | .float k b => by simp [absV, VRel]
  | .complex k a b => by simp [absV, VRel]
  | .string s => by
    simp only [absV, VRel]
    refine ⟨by rw [mkStr_packL], ?_⟩
    exact packL_lt s.data.toList
  | .pointer none => by simp [absV, VRel]
  | .pointer (some a) => by simp [absV, VRel]
  | .slice none 0 0 => by simp [absV, VRel]
  | .slice none (n + 1) c => by simp [absV, VRel]
  | .slice none 0 (c + 1) => by simp [absV, VRel]
  | .slice (some a) n c => by simp [absV, VRel]
  | .map none => by simp [absV, VRel]
  | .map (some r) => by simp [absV, VRel]
  | .chan r => by simp [absV, VRel]
  | .func (.func f) ⟨a⟩ ⟨b⟩ => by
    simp only [absV, VRel]
    exact ⟨⟨a⟩, ⟨b⟩, rfl, absL_ok σ ρ a, absL_ok σ ρ b⟩
  | .func (.method n) a b => by simp [absV, VRel]
  | .func (.methodOf t n) a b => by simp [absV, VRel]
  | .func (.via t p f q) a b => by simp [absV, VRel]
  | .func (.yield l) a b => by simp [absV, VRel]
  | .nilFunc => by simp [absV, VRel]
  | .iface t v => by
    simp only [absV, VRel]
    exact ⟨v, rfl, absV_ok σ ρ v⟩
  | .nilIface => by simp [absV, VRel]
  | .agg ⟨cs⟩ => by
    simp only [absV, VRel]
    exact ⟨⟨cs⟩, rfl, absL_ok σ ρ cs⟩
  | .tuple ⟨cs⟩ => by
    simp only [absV, VRel]
    exact ⟨⟨cs⟩, rfl, absL_ok σ ρ cs⟩
theorem absL_ok (σ : Nat → Value) (ρ : Rho) : ∀ l : List Value, LRel σ ρ (absL l) l
  | [] => by simp [absL, LRel]
  | v :: l => by
    simp only [absL, LRel]
    exact ⟨v, l, rfl, absV_ok σ ρ v, absL_ok σ ρ l⟩
end

/-- the temporaries that an operand names -/
def tmpOf : Operand → Option Nat
  | .tmp t => some t
  | _ => none
theorem ev_ok {a : Act} {ex : Nat → Prop} {m : Nat} {tm : Tr AV} {loc : Loc} (hg : ∀ g, g < 64 → ∃ N, ρ g = some (g, N)) (ht : TmOk E.σ ρ ex m tm loc a.tmps)
    (x : Operand) (hx : ∀ t, tmpOf x = some t → ¬ ex t) : VRel E.σ ρ (ev x m tm loc) (a.eval x) := by
  cases x with
  | tmp t => exact ht.2 t (hx t rfl)
  | const v => exact absV_ok _ _ v
  | global g =>
    show VRel E.σ ρ (bRec .unk (.ptr g 0) (Nat.blt g 64)) _
    cases e : Nat.blt g 64 with
    | false => simp [VRel]
    | true =>
      obtain ⟨N, hN⟩ := hg g (by simpa using e)
      simp only [bRec_true, VRel]
      exact ⟨g, N, hN, rfl⟩
  | func f =>
    show VRel E.σ ρ (.fn f [] []) _
    simp only [VRel]
    exact ⟨#[], #[], rfl, by simp [LRel], by simp [LRel]⟩
theorem evL_ok {m : Nat} {tm : Tr AV} {loc : Loc} {eval : Operand → Value} : ∀ (xs : List Operand), (∀ x ∈ xs, VRel E.σ ρ (ev x m tm loc) (eval x)) → LRel E.σ ρ (evL xs m tm loc) (xs.map eval)
  | [], _ => by simp [evL, LRel]
  | x :: xs, hx => by
    simp only [evL, List.map_cons, LRel]
    exact ⟨_, _, rfl, hx x (by simp), evL_ok xs fun y hy => hx y (by simp [hy])⟩

-- what a known shape says of the value
section inv
variable {v : Value}
theorem VRel.int_inv {k : IntKind} {n : Int} (hv : VRel E.σ ρ (.int k n) v) : v = .int k n := by simpa [VRel] using hv
theorem VRel.bool_inv {b : Bool} (hv : VRel E.σ ρ (.bool b) v) : v = .bool b := by simpa [VRel] using hv
theorem VRel.str_inv {l n : Nat} (hv : VRel E.σ ρ (.str l n) v) : v = .string (mkStr l n) ∧ n < 2 ^ (8 * l) := by simpa [VRel] using hv
theorem VRel.ptr_inv {a o : Nat} (hv : VRel E.σ ρ (.ptr a o) v) : ∃ b N, ρ a = some (b, N) ∧ v = .pointer (some ⟨b, o, none⟩) := by simpa [VRel] using hv
theorem VRel.sl_inv {a off len sz : Nat} {cap : Option Nat} (hv : VRel E.σ ρ (.sl a off len sz cap) v) :
    ∃ b N o c, ρ a = some (b, N) ∧ v = .slice (some ⟨b, o, none⟩) len c ∧ SlOk off len sz cap N o c := by simpa [VRel] using hv
theorem VRel.agg_inv {cs : List AV} (hv : VRel E.σ ρ (.agg cs) v) : ∃ vs : Array Value, v = .agg vs ∧ LRel E.σ ρ cs vs.toList := by simpa [VRel] using hv
theorem VRel.tup_inv {cs : List AV} (hv : VRel E.σ ρ (.tup cs) v) : ∃ vs : Array Value, v = .tuple vs ∧ LRel E.σ ρ cs vs.toList := by simpa [VRel] using hv
theorem VRel.isOne {a : AV} (ha : a.isOne = true) (hv : VRel E.σ ρ a v) : v.oneCell' = true := by
  cases a <;> simp only [AV.isOne, Bool.false_eq_true] at ha <;> simp only [VRel] at hv
  case one => exact hv
  case sym i => rw [hv]; exact (E.one i).2
  case anyB => obtain ⟨b, rfl⟩ := hv; rfl
  case anyI => obtain ⟨n, rfl⟩ := hv; rfl
  case bool => rw [hv]; rfl
  case int => rw [hv]; rfl
  case intGe => obtain ⟨n, _, rfl⟩ := hv; rfl
  case str => rw [hv.1]; rfl
  case nilPtr => rw [hv]; rfl
  case ptr => obtain ⟨b, N, _, rfl⟩ := hv; rfl
  case nilSl => rw [hv]; rfl
  case sl => obtain ⟨b, N, o, c, _, rfl, _⟩ := hv; rfl
  case nilMap => rw [hv]; rfl
  case map => obtain ⟨b, N, _, rfl⟩ := hv; rfl
  case nilFn => rw [hv]; rfl
  case fn => obtain ⟨xs, ys, rfl, _⟩ := hv; rfl
  case yield => obtain ⟨b, N, _, rfl⟩ := hv; rfl
  case nilIf => rw [hv]; rfl
  case iface => obtain ⟨y, rfl, _⟩ := hv; rfl
theorem cells_one {v : Value} (hv : v.oneCell' = true) : v.cells = #[v] := by cases v <;> first | rfl | (cases hv; done)
theorem VRel.cells_ok {a : AV} {l : List AV} (ha : a.cells = some l) (hv : VRel E.σ ρ a v) : LRel E.σ ρ l v.cells.toList := by
  have key : ∀ b : AV, b.cells = some [b] → VRel E.σ ρ b v → v.cells = #[v] → some [b] = some l → LRel E.σ ρ l v.cells.toList := by
    intro b _ hb hc e; cases e; rw [hc]; simp only [LRel]; exact ⟨v, [], rfl, hb, rfl⟩
  cases a <;> simp only [AV.cells] at ha
  case agg cs => cases ha; obtain ⟨vs, rfl, hl⟩ := hv.agg_inv; exact hl
  case unk => cases ha
  case tup cs =>
    obtain ⟨vs, rfl, _⟩ := hv.tup_inv
    exact key _ rfl hv rfl ha
  all_goals exact key _ rfl hv (cells_one (VRel.isOne rfl hv)) ha
end inv

-- reading
theorem cell?_of {b i : Nat} {cs : Array Value} {e : TypeId} {fr : Nat × Nat} (hO : w.heap[b]? = some (.cells cs e fr)) : w.cell? ⟨b, i, none⟩ = cs[i]? := by
  simp [World.cell?, hO]
theorem obj_cells {o : AObj} {O : Obj} {N i : Nat} {av : AV} (ho : ObjRel E.σ ρ N o O) (hc : CellIs o i av) :
    ∃ (cs : Array Value) (e : TypeId) (fr : Nat × Nat) (v : Value), O = .cells cs e fr ∧ cs[i]? = some v ∧ VRel E.σ ρ av v := by
  cases o with
  | cells x n c =>
    obtain ⟨cs, e, rfl, h2, h3, h4, h5⟩ := ho
    obtain ⟨hi, rfl⟩ := hc
    have hl : i < cs.size := by omega
    exact ⟨cs, e, _, cs[i], rfl, by simp [hl], h5 i _ hi (by simp [hl])⟩
  | bytes x n b =>
    obtain ⟨cs, e, fr, rfl, h1, h2, h3, h4, h5⟩ := ho
    obtain ⟨hi, rfl⟩ := hc
    have hl : i < cs.size := by omega
    refine ⟨cs, e, _, cs[i], rfl, by simp [hl], ?_⟩
    rw [h5 i cs[i] hi (by simp [hl])]; simp [VRel]
  | ro n c =>
    obtain ⟨cs, e, fr, rfl, h2, h5⟩ := ho
    obtain ⟨hi, rfl⟩ := hc
    have hl : i < cs.size := by omega
    exact ⟨cs, e, _, cs[i], rfl, by simp [hl], h5 i _ hi (by simp [hl])⟩
  | map es clock => exact hc.elim
  | strIter l n pos => exact hc.elim
  | mapIter m s se st => exact hc.elim
  | loop a b c d e f g h i j => exact hc.elim
  | defd c => exact hc.elim
theorem cell_ok (H : HRel E ρ h nx w) {a b N i : Nat} {o : AObj} {av : AV} (hg : h.get a = some o) (hp : ρ a = some (b, N)) (hc : CellIs o i av) :
    ∃ v, w.cell? ⟨b, i, none⟩ = some v ∧ VRel E.σ ρ av v := by
  obtain ⟨O, hO, ho⟩ := H.obj a o b N hg hp
  obtain ⟨cs, e, fr, v, rfl, hv, hr⟩ := obj_cells ho hc
  exact ⟨v, by rw [cell?_of hO]; exact hv, hr⟩
theorem addr_add (b i n : Nat) : Addr.add ⟨b, i, none⟩ n = ⟨b, i + n, none⟩ := by
  unfold Addr.add
  split
  · rename_i e; subst e; simp
  · rfl
theorem cells_ok (H : HRel E ρ h nx w) {a b N : Nat} {o : AObj} (hg : h.get a = some o) (hp : ρ a = some (b, N)) : ∀ {l : List AV} {i : Nat}, CellsAre o i l →
    ∃ vs : List Value, LRel E.σ ρ l vs ∧ ∀ (j : Nat) v, vs[j]? = some v → w.cell? ((⟨b, i, none⟩ : Addr).add j) = some v
  | _, i, .nil => ⟨[], by simp [LRel], by simp⟩
  | _, i, .cons (v := av) (l := l) hc hl => by
    obtain ⟨v, hv, hr⟩ := cell_ok H hg hp hc
    obtain ⟨vs, h1, h2⟩ := cells_ok H hg hp hl
    refine ⟨v :: vs, by simp only [LRel]; exact ⟨v, vs, rfl, hr, h1⟩, ?_⟩
    intro j x hx
    cases j with
    | zero => simp at hx; subst hx; rw [addr_add]; exact hv
    | succ j =>
      have := h2 j x (by simpa using hx)
      rw [addr_add] at this ⊢
      rwa [show i + (j + 1) = i + 1 + j from by omega]
theorem run_loadCells_rel (H : HRel E ρ h nx w) {a b N : Nat} {o : AObj} (hg : h.get a = some o) (hp : ρ a = some (b, N)) {l : List AV} {i n : Nat} (hn : l.length = n) (hc : CellsAre o i l) :
    ∃ vs : List Value, (loadCells ⟨b, i, none⟩ n).run P w = .ok vs.toArray w ∧ LRel E.σ ρ l vs := by
  obtain ⟨vs, h1, h2⟩ := cells_ok H hg hp hc
  have hlen : vs.length = n := by rw [← hn]; exact h1.length.symm
  subst hlen
  exact ⟨vs, run_loadCells_list w ⟨b, i, none⟩ vs h2, h1⟩
theorem run_load_rel (H : HRel E ρ h nx w) {a b N i : Nat} {o : AObj} {av : AV} (hg : h.get a = some o) (hp : ρ a = some (b, N)) (hc : CellIs o i av) :
    ∃ v, (load ⟨b, i, none⟩).run P w = .ok v w ∧ VRel E.σ ρ av v := by
  obtain ⟨v, hv, hr⟩ := cell_ok H hg hp hc
  exact ⟨v, by rw [run_load, hv], hr⟩

theorem shapeT_none {t : TypeId} (hs : shapeT P t = some none) : isAggT P t = false ∧ ∃ d, P.underlying t = some d := by
  unfold shapeT at hs
  split at hs
  · cases hs
  · rename_i d hd
    split at hs
    · cases e : szO P t <;> rw [e] at hs <;> cases hs
    · exact ⟨by assumption, d, hd⟩
theorem shapeT_some {t : TypeId} {n : Nat} (hs : shapeT P t = some (some n)) : isAggT P t = true ∧ szO P t = some n := by
  unfold shapeT at hs
  split at hs
  · cases hs
  · split at hs
    · rename_i ha
      cases e : szO P t with
      | none => rw [e] at hs; cases hs
      | some k => rw [e] at hs; simp at hs; subst hs; exact ⟨ha, rfl⟩
    · cases hs

theorem opLoad_ok (H : HRel E ρ h nx w) {t : TypeId} {pa : AV} {pv : Value} (hv : VRel E.σ ρ pa pv) : GoodP E P ρ h nx w (Instr.loadAt t pv) (opLoad P t pa h nx) := by
  unfold opLoad
  refine onPtr_elim goodP_bad fun a off he => ?_
  subst he
  obtain ⟨b, N, hp, rfl⟩ := hv.ptr_inv
  refine onObj_elim goodP_bad fun o hg => ?_
  cases hs : shapeT P t with
  | none => exact goodP_bad
  | some q =>
    cases q with
    | none =>
      refine readCell_elim goodP_bad fun av hc => ?_
      obtain ⟨v, h1, h2⟩ := cell_ok H hg hp hc
      obtain ⟨ha, d, hd⟩ := shapeT_none hs
      refine goodP_val (v := v) ?_ h2
      simp [Instr.loadAt, Instr.sureAddr, loadVar, run_isAgg_false hd ha, h1]
    | some n =>
      refine readCells_elim goodP_bad fun l hl hc => ?_
      obtain ⟨vs, h1, h2⟩ := run_loadCells_rel (P := P) H hg hp hl hc
      have ⟨ha, hz⟩ := shapeT_some hs
      refine goodP_val (v := .agg vs.toArray) ?_ (by simp only [VRel]; exact ⟨_, rfl, by simpa using h2⟩)
      simp [Instr.loadAt, Instr.sureAddr, loadVar, run_isAgg_true ha, run_sizeOf' hz, h1]

-- addresses
theorem arrT_some {t n s e : Nat} (hs : arrT P t = some (n, s, e)) : P.underlying t = some (.array n e) ∧ szO P e = some s := by
  unfold arrT at hs
  split at hs
  · rename_i len el hd
    cases e2 : szO P el with
    | none => rw [e2] at hs; cases hs
    | some k => rw [e2] at hs; simp at hs; obtain ⟨rfl, rfl, rfl⟩ := hs; exact ⟨hd, e2⟩
  · cases hs
theorem elemSl_some {t e : Nat} (hs : elemSl P t = some e) : P.underlying t = some (.slice e) := by
  unfold elemSl at hs
  split at hs
  · cases hs; assumption
  · cases hs
theorem slFits_true {t s : Nat} (hs : slFits P t s = true) : ∃ e, P.underlying t = some (.slice e) ∧ szO P e = some s := by
  unfold slFits at hs
  split at hs
  · rename_i e he
    split at hs
    · rename_i s' hs'
      exact ⟨e, elemSl_some he, by rw [Nat.eq_of_beq_eq_true hs]; exact hs'⟩
    · cases hs
  · cases hs
theorem fieldOff_some {s f o t : Nat} (hf : fieldOff P s f = some (o, t)) : ∃ fs fd, P.underlying s = some (.struct fs) ∧ fs[f]? = some fd ∧ fd.offset = o ∧ fd.type = t := by
  unfold fieldOff at hf
  split at hf
  · rename_i fs hd
    cases e : fs.toList[f]? with
    | none => rw [e] at hf; cases hf
    | some fd => rw [e] at hf; simp at hf; exact ⟨fs, fd, hd, by simpa using e, hf.1, hf.2⟩
  · cases hf

theorem opIndexAddr_ok {t : TypeId} {xa ia : AV} {xv iv : Value} (hx : VRel E.σ ρ xa xv) (hi : VRel E.σ ρ ia iv) : GoodP E P ρ h nx w (Instr.indexAt t xv iv) (opIndexAddr P t xa ia h nx) := by
  unfold opIndexAddr
  refine onSl_elim (onPtr_elim goodP_bad fun a off he => ?_) fun a off len s cap he => ?_
  · subst he
    obtain ⟨b, N, hp, rfl⟩ := hx.ptr_inv
    split
    · rename_i n s e ht
      obtain ⟨hd, hs⟩ := arrT_some ht
      refine idx_elim goodP_bad fun k i hi' hlt => ?_
      subst hi'
      obtain rfl := hi.int_inv
      simp only [fN_eq']
      refine goodP_val (v := .pointer (some ⟨b, off + i * s, none⟩)) ?_ (by simp only [VRel]; exact ⟨b, N, hp, rfl⟩)
      simp [Instr.indexAt, asIntOf, run_underlying hd, Instr.sureAddr, run_sizeOf' hs, hlt, addr_add]
    · exact goodP_bad
  · subst he
    obtain ⟨b, N, o, c, hp, rfl, hok⟩ := hx.sl_inv
    split
    · rename_i hf
      obtain ⟨e, hd, hs⟩ := slFits_true hf
      refine idx_elim goodP_bad fun k i hi' hlt => ?_
      subst hi'
      obtain rfl := hi.int_inv
      simp only [fN_eq']
      obtain ⟨h1, h2, _⟩ := hok
      have ho : o = off := by omega
      subst ho
      refine goodP_val (v := .pointer (some ⟨b, o + i * s, none⟩)) ?_ (by simp only [VRel]; exact ⟨b, N, hp, rfl⟩)
      simp [Instr.indexAt, asIntOf, run_underlying hd, run_sizeOf' hs, hlt, addr_add]
    · exact goodP_bad
theorem fieldOffA_some {s f o : Nat} (hf : fieldOffA P s f = some o) : ∃ fs fd n, P.underlying s = some (.struct fs) ∧ fs[f]? = some fd ∧ fd.offset = o ∧ szO P fd.type = some (n + 1) := by
  unfold fieldOffA at hf
  split at hf
  · rename_i o' t hff
    obtain ⟨fs, fd, h1, h2, h3, h4⟩ := fieldOff_some hff
    split at hf
    · rename_i n hs
      cases hf
      exact ⟨fs, fd, n, h1, h2, h3, by rw [h4]; exact hs⟩
    · cases hf
  · cases hf
theorem opFieldAddr_ok {s f : Nat} {xa : AV} {xv : Value} (hx : VRel E.σ ρ xa xv) : GoodP E P ρ h nx w (Instr.fieldAt s xv f) (opFieldAddr P s xa f h nx) := by
  unfold opFieldAddr
  refine onPtr_elim goodP_bad fun a off he => ?_
  subst he
  obtain ⟨b, N, hp, rfl⟩ := hx.ptr_inv
  split
  · rename_i o hf
    obtain ⟨fs, fd, n, h1, h2, rfl, h4⟩ := fieldOffA_some hf
    simp only [fN_eq']
    refine goodP_val (v := .pointer (some ⟨b, off + fd.offset, none⟩)) ?_ (by simp only [VRel]; exact ⟨b, N, hp, rfl⟩)
    simp [Instr.fieldAt, run_underlying h1, h2, Instr.sureAddr, fieldPlace, run_sizeOf' h4, addr_add]
  · exact goodP_bad

-- parts of a value
theorem partL_ok {t : TypeId} {cs : List AV} {o : Nat} {av : AV} (hp : partL P t cs o = some av) {vs : Array Value} (hl : LRel E.σ ρ cs vs.toList) : ∃ v, (part t vs o).run P w = .ok v w ∧ VRel E.σ ρ av v := by
  unfold partL at hp
  split at hp
  · rename_i hs
    obtain ⟨ha, d, hd⟩ := shapeT_none hs
    obtain ⟨v, h1, h2⟩ := LRel.get o hl hp
    refine ⟨v, ?_, h2⟩
    have h1' : vs[o]? = some v := by simpa using h1
    simp [part, run_isAgg_false hd ha, h1']
  · rename_i n hs
    cases hp
    obtain ⟨ha, hz⟩ := shapeT_some hs
    refine ⟨.agg (vs.extract o (o + n)), by simp [part, run_isAgg_true ha, run_sizeOf' hz], ?_⟩
    simp only [VRel]
    refine ⟨_, rfl, ?_⟩
    have := LRel.take n (LRel.drop o hl)
    rw [Array.toList_extract, List.extract_eq_take_drop]
    rwa [show o + n - o = n from by omega]
  · cases hp
theorem opField_ok {s f : Nat} {xa : AV} {xv : Value} (hx : VRel E.σ ρ xa xv) : GoodP E P ρ h nx w (Instr.field s xv f) (opField P s xa f h nx) := by
  unfold opField
  split
  · rename_i cs o t hf
    obtain ⟨fs, fd, h1, h2, h3, h4⟩ := fieldOff_some hf
    obtain ⟨vs, rfl, hl⟩ := hx.agg_inv
    unfold opOpt
    split
    · rename_i av hp
      obtain ⟨v, hr, hv⟩ := partL_ok (P := P) (w := w) hp hl
      simp only [fV_eq']
      refine goodP_val (v := v) ?_ hv
      simp [Instr.field, run_underlying h1, h2, asAgg, h3, h4, hr]
    · exact goodP_bad
  · exact goodP_bad
theorem opIndex_ok {t : TypeId} {xa ia : AV} {xv iv : Value} (hx : VRel E.σ ρ xa xv) (hi : VRel E.σ ρ ia iv) : GoodP E P ρ h nx w (Instr.index t xv iv) (opIndex P t xa ia h nx) := by
  unfold opIndex
  split
  · rename_i len n
    obtain ⟨rfl, hn⟩ := hx.str_inv
    split
    · rename_i hd
      refine idx_elim goodP_bad fun k i hi' hlt => ?_
      subst hi'
      obtain rfl := hi.int_inv
      simp only [fN_eq']
      refine goodP_val (v := .int .u8 (Int.ofNat (byteAt n i))) ?_ (by simp [VRel])
      have hg : (mkStr len n)[i]? = some (UInt8.ofNat (byteAt n i)) := by
        have h1 : i < (mkStr len n).size := by rw [mkStr_size]; exact hlt
        rw [getElem?_pos (mkStr len n) i h1]
        have h2 := bytesOf_get (n := n) hlt
        rw [← mkStr_toList] at h2
        congr 1
        rw [List.getElem?_eq_some_iff] at h2
        obtain ⟨_, h2⟩ := h2
        rw [← h2]; rfl
      have hb := byteAt_lt n i
      simp [Instr.index, asIntOf, run_underlying hd, hg]
      omega
    · exact goodP_bad
  · rename_i cs
    obtain ⟨vs, rfl, hl⟩ := hx.agg_inv
    split
    · rename_i n s e ht
      obtain ⟨hd, hs⟩ := arrT_some ht
      refine idx_elim goodP_bad fun k i hi' hlt => ?_
      subst hi'
      obtain rfl := hi.int_inv
      unfold opOpt
      split
      · rename_i av hp
        obtain ⟨v, hr, hv⟩ := partL_ok (P := P) (w := w) hp hl
        simp only [fV_eq']
        refine goodP_val (v := v) ?_ hv
        simp [Instr.index, asIntOf, run_underlying hd, run_sizeOf' hs, hlt, hr]
      · exact goodP_bad
    · exact goodP_bad
  · exact goodP_bad
end Go.Sx

/- The operations, part 2: '==', arithmetic, strings. -/
namespace Go.Sx
variable {E : Env} {P : Program} {ρ : Rho} {h : Tr AObj} {nx : Nat} {w : World}

theorem int_max_lt (k : IntKind) : maxN k < 2 ^ k.bits := by cases k <;> decide
theorem wrap_nat {k : IntKind} {n : Nat} (hn : n ≤ maxN k) : k.wrap (n : Int) = n := by
  have h2 := maxN_eq k
  have h3 : k.min ≤ 0 := by cases k <;> decide
  exact wrap_in (by omega) (by omega)

theorem bitOp_ok {op : BinOp} {k : IntKind} {a b n : Int} (hb : bitOp op k a b = some n) : (Op.intBits op k a b).run P w = .ok (.int k n) w := by
  have gen : ∀ {a b n : Int}, bitGen op k a b = some n → (Op.intBits op k a b).run P w = .ok (.int k n) w := by
    intro a b n hg
    cases op <;> simp only [bitGen, Option.some.injEq] at hg <;> first | (cases hg; done) | (subst hg; simp [Op.intBits])
  unfold bitOp at hb
  split at hb
  · rename_i x y
    split at hb
    · rename_i hc
      simp only [Bool.and_eq_true, Nat.ble_eq] at hc
      cases hb
      have hx := Nat.lt_of_le_of_lt hc.1 (int_max_lt k)
      have hy := Nat.lt_of_le_of_lt hc.2 (int_max_lt k)
      have hl : Nat.land x y ≤ maxN k := Nat.le_trans Nat.and_le_left hc.1
      have e1 : BitVec.ofInt k.bits (Int.ofNat x) = BitVec.ofNat k.bits x := BitVec.ofInt_natCast k.bits x
      have e2 : BitVec.ofInt k.bits (Int.ofNat y) = BitVec.ofNat k.bits y := BitVec.ofInt_natCast k.bits y
      simp only [Op.intBits, Sem.run_pure]
      rw [e1, e2]
      simp only [BitVec.toNat_and, BitVec.toNat_ofNat, Nat.mod_eq_of_lt hx, Nat.mod_eq_of_lt hy]
      have e3 : x &&& y = Nat.land x y := rfl
      rw [e3, wrap_nat hl]; rfl
    · exact gen hb
  · exact gen hb

theorem eqGuard_ok {op : BinOp} {t : TypeId} {x y : Operand} {a b : Value} (ha : a.oneCell' = true) (h1 : a = .nilIface → b ≠ .nilIface) : (eqGuard op t x y a b).run P w = .ok () w := by
  unfold eqGuard
  cases a <;> first
    | (cases ha; done)
    | (cases b <;> first
        | exact absurd rfl (h1 rfl)
        | (cases op <;> rfl))

theorem not_lt_dec (a b : Int) : (!decide (b < a)) = decide (a ≤ b) := by rw [← decide_not]; simp only [Int.not_lt]
theorem binInt_ok {op : BinOp} {t : TypeId} {k : IntKind} {a b : Int} (hs : isShift op = none) :
    GoodP E P ρ h nx w (binOp op t (.int k a) (.int k b)) (binInt op k a b fun v => .val v h nx) := by
  have fin : ∀ (s : Sem Value) (n : Int), s.run P w = .ok (.int k n) w → GoodP E P ρ h nx w s (.val (.int k n) h nx) := fun s n hr => goodP_val hr (by simp [VRel])
  have finb : ∀ (s : Sem Value) (n : Bool), s.run P w = .ok (.bool n) w → GoodP E P ρ h nx w s (.val (.bool n) h nx) := fun s n hr => goodP_val hr (by simp [VRel])
  cases op <;> simp only [isShift, reduceCtorEq] at hs <;> simp only [binInt, wrapK_eq, fI_eq', fV_eq', ltI_eq, eqI_eq, not_lt_dec]
  case add => exact fin _ _ (by simp [binOp, Op.intArith])
  case sub => exact fin _ _ (by simp [binOp, Op.intArith])
  case mul => exact fin _ _ (by simp [binOp, Op.intArith])
  case quo =>
    refine bRec_elim (fun hb => ?_) fun _ => goodP_bad
    have : b ≠ 0 := by simpa using hb
    exact fin _ _ (by simp [binOp, Op.intDiv, this])
  case rem =>
    refine bRec_elim (fun hb => ?_) fun _ => goodP_bad
    have : b ≠ 0 := by simpa using hb
    exact fin _ _ (by simp [binOp, Op.intDiv, this])
  case eql => exact finb _ _ (by simp [binOp, Op.intCmp])
  case neq => exact finb _ _ (by simp [binOp, Op.intCmp, bne])
  case lss => exact finb _ _ (by simp [binOp, Op.intCmp])
  case leq => exact finb _ _ (by simp [binOp, Op.intCmp])
  case gtr => exact finb _ _ (by simp [binOp, Op.intCmp])
  case geq => exact finb _ _ (by simp [binOp, Op.intCmp])
  all_goals
    split
    · rename_i n hn
      have := bitOp_ok (P := P) (w := w) hn
      exact fin _ _ (by simpa [binOp] using this)
    · exact goodP_bad

theorem shiftI_ok {op : BinOp} {left : Bool} {t : TypeId} {k j : IntKind} {a b : Int} (hs : isShift op = some left) :
    GoodP E P ρ h nx w (binOp op t (.int k a) (.int j b)) (shiftI left k a b fun v => .val v h nx) := by
  have fin : ∀ (s : Sem Value) (n : Int), s.run P w = .ok (.int k n) w → GoodP E P ρ h nx w s (.val (.int k n) h nx) := fun s n hr => goodP_val hr (by simp [VRel])
  unfold shiftI
  split
  · rename_i s
    split
    · rw [wrapK_eq]
      refine fin _ _ ?_
      cases op <;> simp only [isShift, Option.some.injEq, reduceCtorEq] at hs
      have h0 : ¬ (Int.ofNat s < 0) := by simp only [Int.ofNat_eq_natCast]; omega
      simp only [binOp, Op.shift, if_neg h0, Sem.run_pure]
      congr 3
    · exact goodP_bad
  · rename_i s
    cases op <;> simp only [isShift, Option.some.injEq, reduceCtorEq] at hs
    have h0 : ¬ (Int.ofNat s < 0) := by simp only [Int.ofNat_eq_natCast]; omega
    split
    · rename_i x
      simp only [fN_eq']
      refine fin _ _ ?_
      simp only [binOp, Op.shift, if_neg h0, Sem.run_pure]
      congr 2
      have e1 : Nat.shiftRight x (min s k.bits) = x / 2 ^ (min s k.bits) := Nat.shiftRight_eq_div_pow x _
      rw [e1]
      have e2 : (2 : Int) ^ (min s k.bits) = ((2 ^ (min s k.bits) : Nat) : Int) := by simp
      simp only [Int.ofNat_eq_natCast, Int.toNat_natCast]
      rw [e2, Int.fdiv_eq_ediv_of_nonneg _ (Int.natCast_nonneg _)]
      exact (Int.natCast_ediv _ _).symm
    · simp only [fI_eq']
      refine fin _ _ ?_
      simp only [binOp, Op.shift, if_neg h0, Sem.run_pure]
      rfl
  · exact goodP_bad

theorem mkStr_eq {l a m b : Nat} (ha : a < 2 ^ (8 * l)) (hb : b < 2 ^ (8 * m)) : ((mkStr l a).toList == (mkStr m b).toList) = (Nat.beq l m && Nat.beq a b) := by
  rw [Bool.eq_iff_iff]
  simp only [beq_iff_eq, Bool.and_eq_true, Nat.beq_eq]
  rw [ByteArray.toList_eq, ByteArray.toList_eq]
  constructor
  · intro e
    have : mkStr l a = mkStr m b := by
      have h1 : (mkStr l a).data = (mkStr m b).data := by rw [← Array.toList_inj]; exact e
      cases hh : mkStr l a; cases hh' : mkStr m b; rw [hh, hh'] at h1; simp only at h1; rw [h1]
    exact mkStr_inj ha hb this
  · rintro ⟨rfl, rfl⟩; rfl
theorem binStr_ok {op : BinOp} {t : TypeId} {l a m b : Nat} (ha : a < 2 ^ (8 * l)) (hb : b < 2 ^ (8 * m)) :
    GoodP E P ρ h nx w (binOp op t (.string (mkStr l a)) (.string (mkStr m b))) (binStr op l a m b fun v => .val v h nx) := by
  have finb : ∀ (s : Sem Value) (n : Bool), s.run P w = .ok (.bool n) w → GoodP E P ρ h nx w s (.val (.bool n) h nx) := fun s n hr => goodP_val hr (by simp [VRel])
  have heq := mkStr_eq ha hb
  have hlt : Op.bytesLess (mkStr l a).toList (mkStr m b).toList = bytesLt l a m b := by
    rw [ByteArray.toList_eq, ByteArray.toList_eq, mkStr_toList, mkStr_toList, bytesLt_eq]
  cases op <;> simp only [binStr, fB_eq] <;> try exact goodP_bad
  case add =>
    split
    · rename_i hle
      simp only [fN_eq']
      have hle' : l + m ≤ 9223372036854775807 := by simpa using hle
      have hcat : mkStr l a ++ mkStr m b = mkStr (l + m) (catB l a b) := by
        have : (mkStr l a ++ mkStr m b).data = (mkStr (l + m) (catB l a b)).data := by
          rw [ByteArray.data_append, ← Array.toList_inj, Array.toList_append, mkStr_toList, mkStr_toList, mkStr_toList, bytesOf_cat ha]
        cases hh : mkStr l a ++ mkStr m b; cases hh' : mkStr (l + m) (catB l a b); rw [hh, hh'] at this; simp only at this; rw [this]
      refine goodP_val (v := .string (mkStr l a ++ mkStr m b)) ?_ ?_
      · have hmax : IntKind.i64.max = 9223372036854775807 := by decide
        have : ¬ (((mkStr l a).size + (mkStr m b).size : Nat) : Int) > IntKind.i64.max := by rw [mkStr_size, mkStr_size, hmax]; omega
        simp only [binOp, Op.stringOp, if_neg this, Sem.run_pure]
      · simp only [VRel]; exact ⟨by rw [hcat], catB_lt ha hb⟩
    · exact goodP_bad
  case eql => exact finb _ _ (by simp [binOp, Op.stringOp, heq])
  case neq => exact finb _ _ (by simp [binOp, Op.stringOp, heq])
  case lss => exact finb _ _ (by simp [binOp, Op.stringOp, hlt])
  case leq => exact finb _ _ (by simp [binOp, Op.stringOp, hlt, heq])
  case gtr => exact finb _ _ (by simp [binOp, Op.stringOp, hlt, heq])
  case geq => exact finb _ _ (by simp [binOp, Op.stringOp, hlt])

-- '=='
theorem apart_ok (H : HRel E ρ h nx w) {a b : Nat} (hne : a ≠ b) (ha : apart h a b = true) {b1 N1 b2 N2 : Nat} (h1 : ρ a = some (b1, N1)) (h2 : ρ b = some (b2, N2)) :
    b1 ≠ b2 ∧ (∃ cs e, w.heap[b1]? = some (.cells cs e (0, 0))) ∧ (∃ cs e, w.heap[b2]? = some (.cells cs e (0, 0))) := by
  unfold apart at ha
  rw [getF_eq', getF_eq'] at ha
  cases g1 : h.get a with
  | none => rw [g1] at ha; cases ha
  | some oa =>
    cases g2 : h.get b with
    | none => rw [g1, g2] at ha; cases oa <;> cases ha
    | some ob =>
      rw [g1, g2] at ha
      cases oa <;> first | (cases ha; done) | skip
      cases ob <;> first | (cases ha; done) | skip
      obtain ⟨O1, hO1, r1⟩ := H.obj a _ b1 N1 g1 h1
      obtain ⟨O2, hO2, r2⟩ := H.obj b _ b2 N2 g2 h2
      obtain ⟨cs1, e1, rfl, _⟩ := r1
      obtain ⟨cs2, e2, rfl, _⟩ := r2
      refine ⟨?_, ⟨cs1, e1, hO1⟩, ⟨cs2, e2, hO2⟩⟩
      intro e; subst e
      exact hne (H.inj a b _ _ b1 N1 N2 g1 g2 h1 h2)
theorem run_sameAddr_apart {b1 b2 o p : Nat} (hne : b1 ≠ b2) (h1 : ∃ cs e, w.heap[b1]? = some (.cells cs e (0, 0))) (h2 : ∃ cs e, w.heap[b2]? = some (.cells cs e (0, 0))) :
    (sameAddr ⟨b1, o, none⟩ ⟨b2, p, none⟩).run P w = .ok false w := by
  obtain ⟨cs1, e1, h1⟩ := h1
  obtain ⟨cs2, e2, h2⟩ := h2
  have hb : (b1 == b2) = false := by simp [hne]
  have f1 : ∀ i, w.frozen? ⟨b1, i, none⟩ = false := fun i => by simp [World.frozen?, h1]
  have f2 : ∀ i, w.frozen? ⟨b2, i, none⟩ = false := fun i => by simp [World.frozen?, h2]
  have s1 : w.shape? b1 = some (e1, cs1.size) := by simp [World.shape?, h1]
  have s2 : w.shape? b2 = some (e2, cs2.size) := by simp [World.shape?, h2]
  simp [sameAddr, hb, f1, noView, viewAt, s1, s2, mayBeOne, stringish, f2]
end Go.Sx

/- The operations, part 3: '==' at any type, all binary operations; the small ones. -/
namespace Go.Sx
variable {E : Env} {P : Program} {ρ : Rho} {h : Tr AObj} {nx : Nat} {w : World}

theorem addr_beq (b o p : Nat) : ((⟨b, o, none⟩ : Addr) == ⟨b, p, none⟩) = Nat.beq o p := by
  rw [Bool.eq_iff_iff]; simp
theorem eq1_ok (H : HRel E ρ h nx w) {t : TypeId} {xa ya : AV} {xv yv : Value} {r : Bool} (he : eq1 P t h xa ya = some r) (hx : VRel E.σ ρ xa xv) (hy : VRel E.σ ρ ya yv) (d : Nat) :
    (Op.equalIn (d + 1) t xv yv).run P w = .ok r w := by
  unfold eq1 at he
  split at he
  case h_1 hd => cases he; obtain rfl := hx.bool_inv; obtain rfl := hy.bool_inv; simp [Op.equalIn, run_underlying hd]
  case h_2 hd =>
    obtain rfl := hx.int_inv; obtain rfl := hy.int_inv
    split at he
    · rename_i hk
      cases he
      simp only [beq_iff_eq] at hk
      subst hk
      simp [Op.equalIn, run_underlying hd, eqI_eq]
    · cases he
  case h_3 l a m b hd =>
    cases he
    obtain ⟨rfl, ha⟩ := hx.str_inv; obtain ⟨rfl, hb⟩ := hy.str_inv
    have : (mkStr l a == mkStr m b) = (Nat.beq l m && Nat.beq a b) := by rw [beq_toListBytes, mkStr_eq ha hb]
    simp [Op.equalIn, run_underlying hd, this]
  case h_4 hd => cases he; simp only [VRel] at hx hy; subst hx; subst hy; simp [Op.equalIn, run_underlying hd]
  case h_5 hd => cases he; simp only [VRel] at hx; subst hx; obtain ⟨b, N, _, rfl⟩ := hy.ptr_inv; simp [Op.equalIn, run_underlying hd]
  case h_6 hd => cases he; simp only [VRel] at hy; subst hy; obtain ⟨b, N, _, rfl⟩ := hx.ptr_inv; simp [Op.equalIn, run_underlying hd]
  case h_7 e a o b p hd =>
    obtain ⟨b1, N1, h1, rfl⟩ := hx.ptr_inv; obtain ⟨b2, N2, h2, rfl⟩ := hy.ptr_inv
    split at he
    · rename_i n hs
      split at he
      · rename_i hab
        cases he
        obtain rfl := Nat.eq_of_beq_eq_true hab
        rw [h1] at h2; cases h2
        simp [Op.equalIn, run_underlying hd, run_sizeOf' hs, sameAddr, addr_beq]
      · rename_i hab
        split at he
        · rename_i hap
          cases he
          have hne : a ≠ b := fun e => by subst e; simp at hab
          obtain ⟨q1, q2, q3⟩ := apart_ok H hne hap h1 h2
          have := run_sameAddr_apart (P := P) (o := o) (p := p) q1 q2 q3
          simp [Op.equalIn, run_underlying hd, run_sizeOf' hs, this]
        · cases he
    · cases he
  case h_8 hd => cases he; simp only [VRel] at hx hy; subst hx; subst hy; simp [Op.equalIn, run_underlying hd]
  case h_9 hd => cases he; simp only [VRel] at hx; subst hx; obtain ⟨b, N, o, c, _, rfl, _⟩ := hy.sl_inv; simp [Op.equalIn, run_underlying hd]
  case h_10 hd => cases he; simp only [VRel] at hy; subst hy; obtain ⟨b, N, o, c, _, rfl, _⟩ := hx.sl_inv; simp [Op.equalIn, run_underlying hd]
  case h_11 hd => cases he; simp only [VRel] at hx hy; subst hx; subst hy; simp [Op.equalIn, run_underlying hd]
  case h_12 hd => cases he; simp only [VRel] at hx hy; subst hx; obtain ⟨b, N, _, rfl⟩ := hy; simp [Op.equalIn, run_underlying hd]
  case h_13 hd => cases he; simp only [VRel] at hx hy; subst hy; obtain ⟨b, N, _, rfl⟩ := hx; simp [Op.equalIn, run_underlying hd]
  case h_14 hd => cases he; simp only [VRel] at hx hy; subst hx; subst hy; simp [Op.equalIn, run_underlying hd]
  case h_15 hd => cases he; simp only [VRel] at hx hy; subst hx; obtain ⟨xs, ys, rfl, _⟩ := hy; simp [Op.equalIn, run_underlying hd]
  case h_16 hd => cases he; simp only [VRel] at hx hy; subst hy; obtain ⟨xs, ys, rfl, _⟩ := hx; simp [Op.equalIn, run_underlying hd]
  case h_17 hd => cases he; simp only [VRel] at hx hy; subst hx; obtain ⟨y, rfl, _⟩ := hy; simp [Op.equalIn, run_underlying hd]
  case h_18 hd => cases he; simp only [VRel] at hx hy; subst hy; obtain ⟨y, rfl, _⟩ := hx; simp [Op.equalIn, run_underlying hd]
  case h_19 => cases he

theorem eq1_und {t : TypeId} {xa ya : AV} {r : Bool} (he : eq1 P t h xa ya = some r) : ∃ d, P.underlying t = some d := by
  unfold eq1 at he
  cases hd : P.underlying t with
  | none => rw [hd] at he; simp at he
  | some d => exact ⟨d, rfl⟩

theorem eqFs_ok (H : HRel E ρ h nx w) {xs ys : List AV} {vx vy : Array Value} (hx : LRel E.σ ρ xs vx.toList) (hy : LRel E.σ ρ ys vy.toList) (d : Nat) :
    ∀ (fs : List Field) {r : Bool}, eqFs P h xs ys fs = some r → (Op.eqFields (d + 1) vx vy fs).run P w = .ok r w
  | [], r, he => by simp only [eqFs, Option.some.injEq] at he; subst he; rfl
  | f :: fs, r, he => by
    simp only [eqFs] at he
    split at he
    · rename_i a b hn ha h1 h2
      have hn' : f.name ≠ "_" := by simpa using hn
      obtain ⟨va, g1, r1⟩ := LRel.get _ hx h1
      obtain ⟨vb, g2, r2⟩ := LRel.get _ hy h2
      have g1' : vx[f.offset]? = some va := by simpa using g1
      have g2' : vy[f.offset]? = some vb := by simpa using g2
      cases e : eq1 P f.type h a b with
      | none => rw [e] at he; cases he
      | some q =>
        rw [e] at he
        obtain ⟨dd, hd⟩ := eq1_und e
        have hq := eq1_ok H e r1 r2 d
        have p1 : (part f.type vx f.offset).run P w = .ok va w := by simp [part, run_isAgg_false hd ha, g1']
        have p2 : (part f.type vy f.offset).run P w = .ok vb w := by simp [part, run_isAgg_false hd ha, g2']
        cases q with
        | true =>
          have := eqFs_ok H hx hy d fs he
          simp [Op.eqFields, hn', p1, p2, hq, this]
        | false => cases he; simp [Op.eqFields, hn', p1, p2, hq]
    · cases he

theorem eqT_ok (H : HRel E ρ h nx w) {t : TypeId} {xa ya : AV} {xv yv : Value} {r : Bool} (he : eqT P t h xa ya = some r) (hx : VRel E.σ ρ xa xv) (hy : VRel E.σ ρ ya yv) :
    (Op.equal t xv yv).run P w = .ok r w := by
  unfold eqT at he
  split at he
  · rename_i xs ys
    obtain ⟨vx, rfl, lx⟩ := hx.agg_inv; obtain ⟨vy, rfl, ly⟩ := hy.agg_inv
    split at he
    · rename_i fs hd
      split at he
      · cases he
      · rename_i hg
        simp only [Bool.or_eq_false_iff] at hg
        have hf : P.fieldsOf t = fs := by simp [Program.fieldsOf, hd]
        have := eqFs_ok H lx ly 9998 fs.toList he
        have key := run_equalIn_struct (P := P) w 9999 t vx vy (by rw [hf]; exact hd) hg.1
        rw [hf] at key
        show (Op.equalIn (9999 + 1) t (.agg vx) (.agg vy)).run P w = _
        rw [key]; exact this
    · cases he
  · exact eq1_ok H he hx hy 9999
/-- the guard ahead of '==' lets what 'eqT' decides by -/
theorem eqT_guard {op : BinOp} {t : TypeId} {ox oy : Operand} {xa ya : AV} {xv yv : Value} {r : Bool} (he : eqT P t h xa ya = some r) (hx : VRel E.σ ρ xa xv) (hy : VRel E.σ ρ ya yv) :
    (eqGuard op t ox oy xv yv).run P w = .ok () w := by
  unfold eqT at he
  split at he
  · rename_i xs ys
    obtain ⟨vx, rfl, lx⟩ := hx.agg_inv; obtain ⟨vy, rfl, ly⟩ := hy.agg_inv
    split at he
    · split at he
      · cases he
      · rename_i hg
        simp only [Bool.or_eq_false_iff] at hg
        exact run_eqGuard_agg w op t ox oy vx vy hg.2
    · cases he
  · unfold eq1 at he
    split at he
    all_goals first
      | (cases he; done)
      | (refine eqGuard_ok (VRel.isOne rfl hx) fun e => ?_
         simp only [VRel] at hx hy
         first
          | (subst e; cases hx; done)
          | (subst e; obtain ⟨_, hx⟩ := hx; cases hx; done)
          | (subst e; obtain ⟨_, _, _, hx⟩ := hx; cases hx; done)
          | (subst e; obtain ⟨_, _, _, _, _, hx, _⟩ := hx; cases hx; done)
          | (subst e; obtain ⟨_, _, hx, _⟩ := hx; cases hx; done)
          | (subst e; obtain ⟨_, hx, _⟩ := hx; cases hx; done)
          | (subst e; cases hx.1; done)
          | (obtain ⟨_, rfl, _⟩ := hy; intro c; cases c))

theorem binOp_eq_ok (H : HRel E ρ h nx w) {t : TypeId} {xa ya : AV} {xv yv : Value} {r : Bool} (he : eqT P t h xa ya = some r) (hx : VRel E.σ ρ xa xv) (hy : VRel E.σ ρ ya yv) :
    (binOp .eql t xv yv).run P w = .ok (.bool r) w ∧ (binOp .neq t xv yv).run P w = .ok (.bool (!r)) w := by
  have h1 := eqT_ok H he hx hy
  have gen : binOp .eql t xv yv = (do pure (.bool (← Op.equal t xv yv))) → binOp .neq t xv yv = (do pure (.bool (!(← Op.equal t xv yv)))) →
      (binOp .eql t xv yv).run P w = .ok (.bool r) w ∧ (binOp .neq t xv yv).run P w = .ok (.bool (!r)) w := by
    intro e1 e2; rw [e1, e2]; simp [h1]
  unfold eqT at he
  split at he
  · obtain ⟨vx, rfl, lx⟩ := hx.agg_inv; obtain ⟨vy, rfl, ly⟩ := hy.agg_inv
    exact gen rfl rfl
  · unfold eq1 at he
    split at he
    case h_2 =>
      obtain rfl := hx.int_inv; obtain rfl := hy.int_inv
      split at he
      · rename_i hk
        cases he
        simp only [beq_iff_eq] at hk
        subst hk
        simp [binOp, Op.intCmp, eqI_eq, bne]
      · cases he
    case h_3 =>
      cases he
      obtain ⟨rfl, ha⟩ := hx.str_inv; obtain ⟨rfl, hb⟩ := hy.str_inv
      simp [binOp, Op.stringOp, mkStr_eq ha hb]
    all_goals first
      | (cases he; done)
      | (simp only [VRel] at hx hy
         first
          | (subst hx; subst hy; exact gen rfl rfl)
          | (obtain ⟨_, _, _, rfl⟩ := hx; obtain ⟨_, _, _, rfl⟩ := hy; exact gen rfl rfl)
          | (subst hx; obtain ⟨_, _, _, rfl⟩ := hy; exact gen rfl rfl)
          | (subst hy; obtain ⟨_, _, _, rfl⟩ := hx; exact gen rfl rfl)
          | (subst hx; obtain ⟨_, _, _, _, _, rfl, _⟩ := hy; exact gen rfl rfl)
          | (subst hy; obtain ⟨_, _, _, _, _, rfl, _⟩ := hx; exact gen rfl rfl)
          | (subst hx; obtain ⟨_, _, rfl, _⟩ := hy; exact gen rfl rfl)
          | (subst hy; obtain ⟨_, _, rfl, _⟩ := hx; exact gen rfl rfl)
          | (subst hx; obtain ⟨_, rfl, _⟩ := hy; exact gen rfl rfl)
          | (subst hy; obtain ⟨_, rfl, _⟩ := hx; exact gen rfl rfl))

theorem opBin_ok (H : HRel E ρ h nx w) {op : BinOp} {t : TypeId} {ox oy : Operand} {xa ya : AV} {xv yv : Value} (hx : VRel E.σ ρ xa xv) (hy : VRel E.σ ρ ya yv) :
    GoodP E P ρ h nx w (do eqGuard op t ox oy xv yv; binOp op t xv yv) (opBin P op t xa ya h nx) := by
  have pre : ∀ {r : OR}, (eqGuard op t ox oy xv yv).run P w = .ok () w → GoodP E P ρ h nx w (binOp op t xv yv) r → GoodP E P ρ h nx w (do eqGuard op t ox oy xv yv; binOp op t xv yv) r := by
    intro r hg hr
    cases r <;> first | exact hr | skip
    obtain ⟨e1, e2, v, h1, h2⟩ := hr
    exact ⟨e1, e2, v, by simp [hg, h1], h2⟩
  have other : GoodP E P ρ h nx w (do eqGuard op t ox oy xv yv; binOp op t xv yv) (binOther P op t xa ya h fun v => .val v h nx) := by
    unfold binOther
    split
    · obtain ⟨rfl, ha⟩ := hx.str_inv; obtain ⟨rfl, hb⟩ := hy.str_inv
      exact pre (eqGuard_ok rfl fun e => by cases e) (binStr_ok ha hb)
    · rename_i _ _ _ k j b
      simp only [VRel] at hx; obtain ⟨n, rfl⟩ := hx
      obtain rfl := hy.int_inv
      split
      · rename_i hk
        simp only [beq_iff_eq] at hk; subst hk
        refine pre (eqGuard_ok rfl fun e => by cases e) (goodP_val (v := .bool (decide (n > b))) ?_ (by simp [VRel]))
        simp [binOp, Op.intCmp]
      · exact goodP_bad
    · rename_i _ _ _ a lo
      obtain rfl := hx.int_inv
      simp only [VRel] at hy; obtain ⟨n, hn, rfl⟩ := hy
      split
      · rename_i hle
        refine pre (eqGuard_ok rfl fun e => by cases e) (goodP_val (v := .bool false) ?_ (by simp [VRel]))
        have hle' : a ≤ lo := by simpa using hle
        have : ¬ ((a : Int) > n) := by omega
        simp [binOp, Op.intCmp]
        omega
      · exact goodP_bad
    · split
      · rename_i r he
        refine pre (eqT_guard he hx hy) ?_
        simp only [fB_eq]
        exact goodP_val (v := .bool r) (binOp_eq_ok H he hx hy).1 (by simp [VRel])
      · exact goodP_bad
    · split
      · rename_i r he
        refine pre (eqT_guard he hx hy) ?_
        simp only [fB_eq]
        exact goodP_val (v := .bool (!r)) (binOp_eq_ok H he hx hy).2 (by simp [VRel])
      · exact goodP_bad
    · exact goodP_bad
  unfold opBin
  refine onInt_elim other fun k a he => onInt_elim other fun j b he' => ?_
  subst he; subst he'
  obtain rfl := hx.int_inv; obtain rfl := hy.int_inv
  refine pre (eqGuard_ok rfl fun e => by cases e) ?_
  split
  · exact shiftI_ok (by assumption)
  · split
    · rename_i hk
      simp only [beq_iff_eq] at hk
      subst hk
      exact binInt_ok (by assumption)
    · exact goodP_bad
end Go.Sx

/- The operations, part 4: slicing; the small ones. -/
namespace Go.Sx
variable {E : Env} {P : Program} {ρ : Rho} {h : Tr AObj} {nx : Nat} {w : World}

/-- an operand that may be absent -/
def ORel (E : Env) (ρ : Rho) : Option AV → Option Value → Prop
  | none, none => True
  | some a, some v => VRel E.σ ρ a v
  | _, _ => False

theorem bnd_elim {β : Type} {Q : β → Prop} {v : Option AV} {dflt most : Nat} {d : β} {k : Nat → β} (hd : Q d) (h0 : v = none → Q (k dflt)) (hk : ∀ a i, v = some (.int a (Int.ofNat i)) → i ≤ most → Q (k i)) : Q (bnd v dflt most d k) := by
  unfold bnd
  split
  · exact h0 rfl
  · refine natOf_elim hd fun a i hi => bRec_elim (fun _ => hd) fun hb => ?_
    subst hi
    exact hk a i rfl (by simpa using hb)
theorem run_sliceBound {k : IntKind} {i y : Nat} {code : BoundsCode} (hi : i ≤ y) : (Instr.sliceBound (.int k (Int.ofNat i)) y code).run P w = .ok i w := by
  have : (0 : Int) ≤ (i : Int) ∧ (i : Int) ≤ (y : Int) := by omega
  simp [Instr.sliceBound, asIntOf, hi]

theorem known_le {o : AObj} {O : Obj} {N : Nat} (ho : ObjRel E.σ ρ N o O) : known o ≤ N := by
  cases o <;> simp only [known] <;> try exact Nat.zero_le _
  · obtain ⟨cs, e, _, _, h3, _⟩ := ho; exact h3
  · obtain ⟨cs, e, fr, _, _, _, h3, _⟩ := ho; exact h3
theorem sureCap_elim (H : HRel E ρ h nx w) {β : Type} {Q : β → Prop} {a off len s : Nat} {cap : Option Nat} {k : Nat → β} {b N o c : Nat} (hp : ρ a = some (b, N)) (hok : SlOk off len s cap N o c)
    (hk : ∀ C, C ≤ c → len ≤ C → (∀ x, cap = some x → C = x) → Q (k C)) : Q (sureCap h a off len s cap k) := by
  obtain ⟨h1, h2, h3, h4, h5⟩ := hok
  unfold sureCap
  split
  · rename_i x
    have := h4 x rfl
    exact hk x (by omega) (by omega) (fun y hy => by cases hy; rfl)
  · refine onObj_elim (hk len h1 (Nat.le_refl _) (fun _ hy => by cases hy)) fun obj hg => ?_
    simp only [fN_eq']
    obtain ⟨O, _, hO⟩ := H.obj a obj b N hg hp
    have hkn := known_le hO
    have hN := h5 rfl
    have hcap : capOf obj off s ≤ c := by
      have e1 : capOf obj off s = (known obj - off) / s := rfl
      rw [e1]
      rcases Nat.eq_zero_or_pos s with hs | hs
      · subst hs; simp
      calc (known obj - off) / s ≤ (c * s) / s := Nat.div_le_div_right (by omega)
        _ = c := Nat.mul_div_cancel _ hs
    exact hk _ (by have : Nat.max len (capOf obj off s) = max len (capOf obj off s) := rfl; omega) (by have : Nat.max len (capOf obj off s) = max len (capOf obj off s) := rfl; omega) (fun _ hy => by cases hy)

theorem mkStr_extract {len n l hh : Nat} (h1 : l ≤ hh) (h2 : hh ≤ len) : (mkStr len n).extract l hh = mkStr (hh - l) (subB n l (hh - l)) := by
  have : ((mkStr len n).extract l hh).data = (mkStr (hh - l) (subB n l (hh - l))).data := by
    rw [ByteArray.data_extract, ← Array.toList_inj, Array.toList_extract, mkStr_toList, mkStr_toList, bytesOf_sub (l := len) (by omega), List.extract_eq_take_drop]
  cases e : (mkStr len n).extract l hh; cases e' : mkStr (hh - l) (subB n l (hh - l)); rw [e, e'] at this; simp only at this; rw [this]

theorem ORel.int {v : Option AV} {v' : Option Value} {k : IntKind} {i : Int} (hr : ORel E ρ v v') (hv : v = some (.int k i)) : v' = some (.int k i) := by
  subst hv
  cases v' with
  | none => exact hr.elim
  | some x => simp only [ORel] at hr; rw [hr.int_inv]
theorem ORel.none {v : Option AV} {v' : Option Value} (hr : ORel E ρ v v') (hv : v = none) : v' = none := by
  subst hv
  cases v' with
  | none => rfl
  | some x => exact hr.elim
theorem run_sliceAt_slice {t e s : TypeId} {lo hi mx : Option Value} (hd : P.underlying t = some (.slice e)) (hs : szO P e = some s) {a : Option Addr} {len cap l hh m : Nat}
    (hb : (Instr.sliceBounds true len cap lo hi mx).run P w = .ok (l, hh, m) w) :
    (Instr.sliceAt t (.slice a len cap) lo hi mx).run P w = .ok (.slice (if m = l then a else a.map (·.add (l * s))) (hh - l) (m - l)) w := by
  simp [Instr.sliceAt, Instr.slice, run_underlying hd, hb, run_sizeOf' hs]
/-- the bounds of a slice, where each is there or not -/
theorem run_sliceBounds {isS : Bool} {len cap l hh m : Nat} {lo hi mx : Option Value}
    (hm : (mx = none ∧ m = cap) ∨ ∃ k, mx = some (.int k (Int.ofNat m)) ∧ m ≤ cap)
    (hhi : (hi = none ∧ mx = none ∧ hh = len) ∨ ∃ k, hi = some (.int k (Int.ofNat hh)) ∧ hh ≤ m)
    (hlo : (lo = none ∧ l = 0) ∨ ∃ k, lo = some (.int k (Int.ofNat l)) ∧ l ≤ hh) :
    (Instr.sliceBounds isS len cap lo hi mx).run P w = .ok (l, hh, m) w := by
  rcases hm with ⟨rfl, rfl⟩ | ⟨km, rfl, hm⟩ <;> rcases hhi with ⟨rfl, e, rfl⟩ | ⟨kh, rfl, hhi⟩ <;> rcases hlo with ⟨rfl, rfl⟩ | ⟨kl, rfl, hlo⟩ <;>
    first
      | (cases e; done)
      | simp only [Instr.sliceBounds, Sem.run_bind, Sem.run_pure, Result.andThen_ok, run_sliceBound, *]

theorem slFin {a b N o c off s l hh m : Nat} (hp : ρ a = some (b, N)) (ho : o = off ∨ c = 0) (hN : off + c * s ≤ N) (h1 : l ≤ hh) (h2 : hh ≤ m) (h3 : m ≤ c) {cap : Option Nat} (h4 : ∀ k, cap = some k → m - l = k)
    (h5 : cap = none → off + m * s = N) : VRel E.σ ρ (.sl a (off + l * s) (hh - l) s cap) (.slice (if m = l then some ⟨b, o, none⟩ else (some (⟨b, o, none⟩ : Addr)).map (·.add (l * s))) (hh - l) (m - l)) := by
  simp only [VRel]
  have e1 : l * s + (m - l) * s = m * s := by rw [← Nat.add_mul]; congr 1; omega
  have e2 : m * s ≤ c * s := Nat.mul_le_mul_right _ h3
  by_cases e : m = l
  · rw [if_pos e]
    exact ⟨b, N, o, m - l, hp, rfl, by omega, .inr (by omega), by omega, h4, fun hc => by have := h5 hc; omega⟩
  · rw [if_neg e]
    refine ⟨b, N, o + l * s, m - l, hp, by simp [addr_add], by omega, .inl (by omega), by omega, h4, fun hc => by have := h5 hc; omega⟩

theorem opSlice_ok (H : HRel E ρ h nx w) {t : TypeId} {xa : AV} {xv : Value} {lo hi mx : Option AV} {lo' hi' mx' : Option Value} (hx : VRel E.σ ρ xa xv) (hlo : ORel E ρ lo lo') (hhi : ORel E ρ hi hi') (hmx : ORel E ρ mx mx') :
    GoodP E P ρ h nx w (Instr.sliceAt t xv lo' hi' mx') (opSlice P t xa lo hi mx h nx) := by
  unfold opSlice
  split
  · rename_i len n hd
    obtain ⟨rfl, hn⟩ := hx.str_inv
    split
    · have m0 := hmx.none rfl
      subst m0
      have fin : ∀ (l hh : Nat), l ≤ hh → hh ≤ len → ((hi' = none ∧ hh = len) ∨ ∃ k, hi' = some (.int k (Int.ofNat hh))) → ((lo' = none ∧ l = 0) ∨ ∃ k, lo' = some (.int k (Int.ofNat l))) →
          GoodP E P ρ h nx w (Instr.sliceAt t (.string (mkStr len n)) lo' hi' none) (fN (Nat.sub hh l) fun m => fN (subB n l m) fun b => .val (.str m b) h nx) := by
        intro l hh h1 h2 h3 h4
        simp only [fN_eq']
        refine goodP_val (v := .string ((mkStr len n).extract l hh)) ?_ ?_
        · have hb := run_sliceBounds (P := P) (w := w) (isS := false) (len := len) (cap := len) (l := l) (hh := hh) (m := len) (lo := lo') (hi := hi') (mx := none) (.inl ⟨rfl, rfl⟩)
            (h3.imp (fun x => ⟨x.1, rfl, x.2⟩) fun ⟨k, x⟩ => ⟨k, x, h2⟩) (h4.imp (fun x => x) fun ⟨k, x⟩ => ⟨k, x, h1⟩)
          simp [Instr.sliceAt, Instr.slice, run_underlying hd, mkStr_size, hb]
        · simp only [VRel]
          exact ⟨by rw [mkStr_extract h1 h2]; rfl, subB_lt _ _ _⟩
      refine bnd_elim goodP_bad (fun e => ?_) fun k hh e hle => ?_
      · refine bnd_elim goodP_bad (fun e' => ?_) fun k' l e' hle' => ?_
        · exact fin 0 len (Nat.zero_le _) (Nat.le_refl _) (.inl ⟨hhi.none e, rfl⟩) (.inl ⟨hlo.none e', rfl⟩)
        · exact fin l len hle' (Nat.le_refl _) (.inl ⟨hhi.none e, rfl⟩) (.inr ⟨k', hlo.int e'⟩)
      · refine bnd_elim goodP_bad (fun e' => ?_) fun k' l e' hle' => ?_
        · exact fin 0 hh (Nat.zero_le _) hle (.inr ⟨k, hhi.int e⟩) (.inl ⟨hlo.none e', rfl⟩)
        · exact fin l hh hle' hle (.inr ⟨k, hhi.int e⟩) (.inr ⟨k', hlo.int e'⟩)
    · exact goodP_bad
  · rename_i e hd
    obtain rfl : xv = .slice none 0 0 := by simpa [VRel] using hx
    split
    · rename_i s hs
      have m0 := hmx.none rfl
      subst m0
      have fin : ((hi' = none ∧ 0 = 0) ∨ ∃ k, hi' = some (.int k (Int.ofNat 0))) → ((lo' = none ∧ 0 = 0) ∨ ∃ k, lo' = some (.int k (Int.ofNat 0))) →
          GoodP E P ρ h nx w (Instr.sliceAt t (.slice none 0 0) lo' hi' none) (.val .nilSl h nx) := by
        intro h3 h4
        refine goodP_val (v := .slice none 0 0) ?_ (by simp [VRel])
        have hb := run_sliceBounds (P := P) (w := w) (isS := true) (len := 0) (cap := 0) (l := 0) (hh := 0) (m := 0) (lo := lo') (hi := hi') (mx := none) (.inl ⟨rfl, rfl⟩)
          (h3.imp (fun x => ⟨x.1, rfl, rfl⟩) fun ⟨k, x⟩ => ⟨k, x, Nat.le_refl _⟩) (h4.imp (fun x => ⟨x.1, rfl⟩) fun ⟨k, x⟩ => ⟨k, x, Nat.le_refl _⟩)
        rw [run_sliceAt_slice hd hs hb]; simp
      refine bnd_elim goodP_bad (fun e => ?_) fun k hh e hle => ?_
      · refine bnd_elim goodP_bad (fun e' => ?_) fun k' l e' hle' => ?_
        · exact fin (.inl ⟨hhi.none e, rfl⟩) (.inl ⟨hlo.none e', rfl⟩)
        · obtain rfl : l = 0 := by omega
          exact fin (.inl ⟨hhi.none e, rfl⟩) (.inr ⟨k', hlo.int e'⟩)
      · obtain rfl : hh = 0 := by omega
        refine bnd_elim goodP_bad (fun e' => ?_) fun k' l e' hle' => ?_
        · exact fin (.inr ⟨k, hhi.int e⟩) (.inl ⟨hlo.none e', rfl⟩)
        · obtain rfl : l = 0 := by omega
          exact fin (.inr ⟨k, hhi.int e⟩) (.inr ⟨k', hlo.int e'⟩)
    · exact goodP_bad
  · rename_i e a off len s cap hd
    obtain ⟨b, N, o, c, hp, rfl, hok⟩ := hx.sl_inv
    split
    · exact goodP_bad
    · rename_i s' hs'
      split
      · exact goodP_bad
      · rename_i hss
        have hss : s = s' := Nat.eq_of_beq_eq_true hss
        subst hss
        obtain ⟨k1, k2, k3, k4, k5⟩ := hok
        have hok : SlOk off len s cap N o c := ⟨k1, k2, k3, k4, k5⟩
        have lows : ∀ (hh m : Nat) (cp : Nat → Option Nat) (K : Nat → OR), hh ≤ m → m ≤ c → (∀ l k, cp l = some k → m - l = k) → (∀ l, cp l = none → off + m * s = N) →
            (∀ l, K l = .val (.sl a (off + l * s) (hh - l) s (cp l)) h nx) →
            ((mx' = none ∧ m = c) ∨ ∃ k, mx' = some (.int k (Int.ofNat m)) ∧ m ≤ c) →
            ((hi' = none ∧ mx' = none ∧ hh = len) ∨ ∃ k, hi' = some (.int k (Int.ofNat hh)) ∧ hh ≤ m) →
            GoodP E P ρ h nx w (Instr.sliceAt t (.slice (some ⟨b, o, none⟩) len c) lo' hi' mx') (bnd lo 0 hh (bad "slice: lo") K) := by
          intro hh m cp K h1 h2 h3 h4 h5 h6 h7
          have fin : ∀ l, l ≤ hh → ((lo' = none ∧ l = 0) ∨ ∃ k, lo' = some (.int k (Int.ofNat l)) ∧ l ≤ hh) → GoodP E P ρ h nx w (Instr.sliceAt t (.slice (some ⟨b, o, none⟩) len c) lo' hi' mx') (K l) := by
            intro l hl hlo
            rw [h5]
            exact goodP_val (run_sliceAt_slice hd hs' (run_sliceBounds h6 h7 hlo)) (slFin hp k2 k3 hl h1 h2 (h3 l) (h4 l))
          refine bnd_elim goodP_bad (fun e' => ?_) fun k' l e' hle' => ?_
          · exact fin 0 (Nat.zero_le _) (.inl ⟨hlo.none e', rfl⟩)
          · exact fin l hle' (.inr ⟨k', hlo.int e', hle'⟩)
        split
        · have m0 := hmx.none rfl
          subst m0
          split
          · have h0 := hhi.none rfl
            exact lows len c (fun _ => none) _ k1 (Nat.le_refl _) (fun _ _ e => by cases e) (fun _ _ => k5 rfl) (fun l => by simp only [fN_eq']; rfl) (.inl ⟨rfl, rfl⟩) (.inl ⟨h0, rfl, rfl⟩)
          · rename_i hv
            refine sureCap_elim H hp hok fun C hC1 hC2 _ => natOf_elim goodP_bad fun k hh e => ?_
            split
            · exact goodP_bad
            · rename_i hle
              have hle : hh ≤ C := by simpa using hle
              exact lows hh c (fun _ => none) _ (by omega) (Nat.le_refl _) (fun _ _ e => by cases e) (fun _ _ => k5 rfl) (fun l => by simp only [fN_eq']; rfl) (.inl ⟨rfl, rfl⟩)
                (.inr ⟨k, hhi.int (by rw [e]), by omega⟩)
        · rename_i _ _ hne
          split
          · exact goodP_bad
          · rename_i hmh
            refine sureCap_elim H hp hok fun C hC1 hC2 hC3 => ?_
            have hm' : ∀ m, ((mx = none ∧ m = C) ∨ ∃ k, mx = some (.int k (Int.ofNat m)) ∧ m ≤ C) → GoodP E P ρ h nx w (Instr.sliceAt t (.slice (some ⟨b, o, none⟩) len c) lo' hi' mx')
                (bnd hi len m (bad "slice: hi") fun hh => bnd lo 0 hh (bad "slice: lo") fun l => fN (Nat.add off (Nat.mul l s)) fun o => fN (Nat.sub hh l) fun n => fN (Nat.sub m l) fun c' => .val (.sl a o n s (some c')) h nx) := by
              intro m hm
              have hm2 : (mx' = none ∧ m = c) ∨ ∃ k, mx' = some (.int k (Int.ofNat m)) ∧ m ≤ c := by
                rcases hm with ⟨e, rfl⟩ | ⟨k, e, hle⟩
                · refine .inl ⟨hmx.none e, ?_⟩
                  cases cap with
                  | none => exact (hne e rfl).elim
                  | some x => rw [hC3 x rfl]; exact (k4 x rfl).symm
                · exact .inr ⟨k, hmx.int e, by omega⟩
              have hmc : m ≤ c := by rcases hm with ⟨_, rfl⟩ | ⟨_, _, hle⟩ <;> omega
              refine bnd_elim goodP_bad (fun e => ?_) fun k hh e hle => ?_
              · have hml : mx = none := by
                  cases mx with
                  | none => rfl
                  | some y => rw [e] at hmh; simp at hmh
                have : m = C := by rcases hm with ⟨_, h⟩ | ⟨_, h, _⟩; exact h; rw [hml] at h; cases h
                exact lows len m (fun l => some (m - l)) _ (by omega) hmc (fun _ _ e => by cases e; rfl) (fun _ e => by cases e) (fun l => by simp only [fN_eq']; rfl) hm2 (.inl ⟨hhi.none e, hmx.none hml, rfl⟩)
              · exact lows hh m (fun l => some (m - l)) _ hle hmc (fun _ _ e => by cases e; rfl) (fun _ e => by cases e) (fun l => by simp only [fN_eq']; rfl) hm2 (.inr ⟨k, hhi.int e, hle⟩)
            refine bnd_elim goodP_bad (fun e => ?_) fun k m e hle => ?_
            · exact hm' C (.inl ⟨e, rfl⟩)
            · exact hm' m (.inr ⟨k, e, hle⟩)
  · rename_i n e a off hd
    obtain ⟨b, N, hp, rfl⟩ := hx.ptr_inv
    split
    · rename_i s hs
      have m0 := hmx.none rfl
      subst m0
      refine onObj_elim goodP_bad fun o hg => ?_
      split
      · exact goodP_bad
      · rename_i hk
        have hk : off + n * s ≤ known o := by simpa using hk
        obtain ⟨O, _, hO⟩ := H.obj a o b N hg hp
        have hkN := known_le hO
        have fin : ∀ (l hh : Nat), l ≤ hh → hh ≤ n → ((hi' = none ∧ hh = n) ∨ ∃ k, hi' = some (.int k (Int.ofNat hh))) → ((lo' = none ∧ l = 0) ∨ ∃ k, lo' = some (.int k (Int.ofNat l))) →
            GoodP E P ρ h nx w (Instr.sliceAt t (.pointer (some ⟨b, off, none⟩)) lo' hi' none)
              (fN (Nat.add off (Nat.mul l s)) fun o => fN (Nat.sub hh l) fun m => fN (Nat.sub n l) fun c => .val (.sl a o m s (some c)) h nx) := by
          intro l hh h1 h2 h3 h4
          simp only [fN_eq']
          have hb := run_sliceBounds (P := P) (w := w) (isS := false) (len := n) (cap := n) (l := l) (hh := hh) (m := n) (lo := lo') (hi := hi') (mx := none) (.inl ⟨rfl, rfl⟩)
            (h3.imp (fun x => ⟨x.1, rfl, x.2⟩) fun ⟨k, x⟩ => ⟨k, x, h2⟩) (h4.imp (fun x => x) fun ⟨k, x⟩ => ⟨k, x, h1⟩)
          refine goodP_val ?_ (slFin (o := off) (c := n) (cap := some (n - l)) hp (.inl rfl) (by omega) h1 h2 (Nat.le_refl _) (fun _ e => by cases e; rfl) (fun e => by cases e))
          simp [Instr.sliceAt, run_underlying hd, Instr.sureAddr, hb, run_sizeOf' hs]
          split <;> rfl
        refine bnd_elim goodP_bad (fun e => ?_) fun k hh e hle => ?_
        · refine bnd_elim goodP_bad (fun e' => ?_) fun k' l e' hle' => ?_
          · exact fin 0 n (Nat.zero_le _) (Nat.le_refl _) (.inl ⟨hhi.none e, rfl⟩) (.inl ⟨hlo.none e', rfl⟩)
          · exact fin l n hle' (Nat.le_refl _) (.inl ⟨hhi.none e, rfl⟩) (.inr ⟨k', hlo.int e'⟩)
        · refine bnd_elim goodP_bad (fun e' => ?_) fun k' l e' hle' => ?_
          · exact fin 0 hh (Nat.zero_le _) hle (.inr ⟨k, hhi.int e⟩) (.inl ⟨hlo.none e', rfl⟩)
          · exact fin l hh hle' hle (.inr ⟨k, hhi.int e⟩) (.inr ⟨k', hlo.int e'⟩)
    · exact goodP_bad
  · exact goodP_bad
end Go.Sx

/- The operations, part 5: the small ones that only read. -/
namespace Go.Sx
open Go.MapKept
variable {E : Env} {P : Program} {ρ : Rho} {h : Tr AObj} {nx : Nat} {w : World}

theorem intArith_ok {op : BinOp} {k : IntKind} {a b : Int} {n : Int} (hn : (op = .add ∧ n = a + b) ∨ (op = .sub ∧ n = a - b) ∨ (op = .mul ∧ n = a * b)) :
    (Op.intArith op k a b).run P w = .ok (.int k (k.wrap n)) w := by
  rcases hn with ⟨rfl, rfl⟩ | ⟨rfl, rfl⟩ | ⟨rfl, rfl⟩ <;> rfl
theorem opUn_ok {op : UnOp} {xa : AV} {xv : Value} (hx : VRel E.σ ρ xa xv) : GoodP E P ρ h nx w (Op.unary op xv) (opUn op xa h nx) := by
  unfold opUn
  split
  · rename_i k n
    obtain rfl := hx.int_inv
    rw [wrapK_eq]
    exact goodP_val (v := .int k (k.wrap (0 - n))) (intArith_ok (.inr (.inl ⟨rfl, rfl⟩))) (by simp [VRel])
  · rename_i k n
    obtain rfl := hx.int_inv
    split
    · rename_i m hm
      simp only [fI_eq']
      exact goodP_val (v := .int k m) (bitOp_ok hm) (by simp [VRel])
    · exact goodP_bad
  · rename_i b
    obtain rfl := hx.bool_inv
    simp only [fB_eq]
    exact goodP_val (v := .bool (!b)) rfl (by simp [VRel])
  · exact goodP_bad

theorem opMkIface_ok {t : TypeId} {xa : AV} {xv : Value} (hx : VRel E.σ ρ xa xv) : GoodP E P ρ h nx w (Instr.makeInterface t xv) (bRec (bad "makeInterface") (.val (.iface t xa) h nx) (isConc P t)) := by
  refine bRec_elim (fun _ => goodP_bad) fun hc => ?_
  unfold isConc at hc
  refine goodP_val (v := .iface t xv) ?_ (by simp only [VRel]; exact ⟨xv, rfl, hx⟩)
  cases hu : P.underlying t with
  | none => rw [hu] at hc; cases hc
  | some d =>
    rw [hu] at hc
    cases d <;> first | (cases hc; done) | simp [Instr.makeInterface, run_underlying hu]

theorem opExtract_ok {i : Nat} {xa : AV} {xv : Value} (hx : VRel E.σ ρ xa xv) :
    GoodP E P ρ h nx w (Instr.extract xv i) (match xa with | .tup vs => opOpt vs[i]? "extract" h nx | _ => bad "extract") := by
  cases xa <;> try exact goodP_bad
  · obtain ⟨vs, rfl, hl⟩ := hx.tup_inv
    simp only []
    unfold opOpt
    split
    · rename_i av hp
      obtain ⟨v, h1, h2⟩ := LRel.get i hl hp
      have h1' : vs[i]? = some v := by simpa using h1
      simp only [fV_eq']
      exact goodP_val (v := v) (by simp [Instr.extract, h1']) h2
    · exact goodP_bad

theorem goInt_rel (n : Nat) : VRel E.σ ρ (.int .i64 (Int.ofNat n)) (goInt n) := by simp [VRel, goInt]
theorem MRel.length {l : List AME} {l' : List MapEntry} (hm : MRel E.σ ρ l l') : l.length = l'.length := by
  induction hm with
  | nil => rfl
  | cons _ _ _ ih => simp [ih]
theorem run_getObj_map' {r : Nat} {es : Array MapEntry} {clock : Nat} (hb : w.heap[r]? = some (.map es clock)) : (getObj r).run P w = .ok (.map es clock) w := by
  simp [getObj, Sem.run, hb]
theorem map_obj (H : HRel E ρ h nx w) {a b N clock : Nat} {es : List AME} (hg : h.get a = some (.map es clock)) (hp : ρ a = some (b, N)) :
    ∃ es' : Array MapEntry, w.heap[b]? = some (.map es' clock) ∧ MRel E.σ ρ es es'.toList := by
  obtain ⟨O, hO, ho⟩ := H.obj a _ b N hg hp
  obtain ⟨es', rfl, hm⟩ := ho
  exact ⟨es', hO, hm⟩

theorem opLen_ok (H : HRel E ρ h nx w) {ts : Array TypeId} {args : Array Value} {ty t : TypeId} {xa : AV} {xv : Value} (ht : ts[0]? = some t) (hargs : args[0]? = some xv) (hx : VRel E.σ ρ xa xv) :
    GoodP E P ρ h nx w (Builtin.len_ ts ty args) (opLen P t xa h nx) := by
  unfold opLen
  split
  · rename_i e hd
    split
    · obtain rfl : xv = .slice none 0 0 := by simpa [VRel] using hx
      exact goodP_val (v := goInt 0) (by simp [Builtin.len_, ht, hargs, run_underlying hd]) (goInt_rel 0)
    · rename_i a off n s cap
      obtain ⟨b, N, o, c, hp, rfl, hok⟩ := hx.sl_inv
      exact goodP_val (v := goInt n) (by simp [Builtin.len_, ht, hargs, run_underlying hd]) (goInt_rel n)
    · rename_i i
      split
      · rename_i hi
        obtain ⟨a, l, c, hs⟩ := E.slc i (Nat.eq_of_beq_eq_true hi)
        obtain rfl : xv = .slice a l c := by simpa only [VRel, hs] using hx
        exact goodP_val (v := goInt l) (by simp [Builtin.len_, ht, hargs, run_underlying hd]) (by simp only [VRel, goInt]; exact ⟨_, rfl⟩)
      · exact goodP_bad
    · exact goodP_bad
  · rename_i hd
    split
    · rename_i n b
      obtain ⟨rfl, hn⟩ := hx.str_inv
      exact goodP_val (v := goInt n) (by simp [Builtin.len_, ht, hargs, run_underlying hd, mkStr_size]) (goInt_rel n)
    · rename_i i
      split
      · rename_i hi
        obtain ⟨s, hs⟩ := E.str i (Nat.eq_of_beq_eq_true hi)
        obtain rfl : xv = .string s := by simpa only [VRel, hs] using hx
        exact goodP_val (v := goInt s.size) (by simp [Builtin.len_, ht, hargs, run_underlying hd]) (by simp only [VRel, goInt]; exact ⟨_, rfl⟩)
      · exact goodP_bad
    · exact goodP_bad
  · rename_i k e hd
    split
    · obtain rfl : xv = .map none := by simpa [VRel] using hx
      exact goodP_val (v := goInt 0) (by simp [Builtin.len_, ht, hargs, run_underlying hd]) (goInt_rel 0)
    · rename_i a
      have hx' := hx
      simp only [VRel] at hx'
      obtain ⟨b, N, hp, rfl⟩ := hx'
      refine onObj_elim goodP_bad fun o hg => ?_
      split
      · rename_i es clock
        obtain ⟨es', hO, hm⟩ := map_obj H hg hp
        simp only [fN_eq']
        refine goodP_val (v := goInt es'.size) (by simp [Builtin.len_, ht, hargs, run_underlying hd, run_getObj_map' hO]) ?_
        have := hm.length
        simp [VRel, goInt, this]
      · exact goodP_bad
    · exact goodP_bad
  · rename_i n e hd
    exact goodP_val (v := goInt n) (by simp [Builtin.len_, ht, hargs, run_underlying hd]) (goInt_rel n)
  · rename_i p hd
    split
    · rename_i n e hd2
      exact goodP_val (v := goInt n) (by simp [Builtin.len_, ht, hargs, run_underlying hd, run_underlying hd2]) (goInt_rel n)
    · exact goodP_bad
  · exact goodP_bad

theorem VRel.int_rel (k : IntKind) (n : Int) : VRel E.σ ρ (.int k n) (.int k n) := by simp only [VRel]
theorem foldMM_ok (lt : Bool) : ∀ (l : List AV) (a : AV) (av : AV) (v : Value) (vs : List Value), foldMM lt a l = some av → VRel E.σ ρ a v → LRel E.σ ρ l vs →
    ∃ r, (vs.foldlM (fun x y => if lt then Builtin.min2 x y else Builtin.max2 x y) v).run P w = .ok r w ∧ VRel E.σ ρ av r
  | [], a, av, v, vs, hf, hv, hl => by
    simp only [LRel] at hl; subst hl
    cases a <;> simp only [foldMM, Option.some.injEq, reduceCtorEq] at hf
    subst hf
    exact ⟨v, by simp, hv⟩
  | b :: l, a, av, v, vs, hf, hv, hl => by
    simp only [LRel] at hl
    obtain ⟨y, ys, rfl, hy, hl⟩ := hl
    cases a <;> try (simp [foldMM] at hf; done)
    cases b <;> try (simp [foldMM] at hf; done)
    rename_i k a j b
    simp only [foldMM] at hf
    split at hf
    · rename_i hkj
      have hkj : k = j := by simpa using hkj
      subst hkj
      obtain rfl := hv.int_inv
      obtain rfl := hy.int_inv
      obtain ⟨r, h1, h2⟩ := foldMM_ok lt l _ av _ ys hf (VRel.int_rel _ _) hl
      refine ⟨r, ?_, h2⟩
      rw [← h1, List.foldlM_cons]
      cases lt
      · simp only [Bool.false_eq_true, if_false, Builtin.max2, ltI_eq, Sem.run_bind, Sem.run_pure, Result.andThen_ok]
        by_cases hab : a < b <;> simp [hab]
      · simp only [if_true, Builtin.min2, ltI_eq, Sem.run_bind, Sem.run_pure, Result.andThen_ok]
        by_cases hab : b < a <;> simp [hab]
    · cases hf

-- zero values
theorem zeroA_some {t : TypeId} {z : AV} (hz : zeroA P t = some z) : ∃ i v, P.info? t = some i ∧ i.zero = some v ∧ z = absV v := by
  unfold zeroA at hz
  cases e : P.info? t with
  | none => rw [e] at hz; cases hz
  | some i =>
    rw [e] at hz
    simp only [Option.bind_some] at hz
    cases e2 : i.zero with
    | none => rw [e2] at hz; cases hz
    | some v => rw [e2] at hz; cases hz; exact ⟨i, v, rfl, e2, rfl⟩
theorem run_zero {t : TypeId} {z : AV} (hz : zeroA P t = some z) : ∃ v, (∀ w, (zeroValue t).run P w = .ok v w) ∧ ∀ σ ρ, VRel σ ρ z v := by
  obtain ⟨i, v, h1, h2, rfl⟩ := zeroA_some hz
  exact ⟨v, fun w => by simp [zeroValue, run_typeInfo' h1, h2], fun σ ρ => absV_ok σ ρ v⟩

-- keys
theorem keyFits_some {t : TypeId} {k : AV} (hk : keyFits P t k = true) : ∃ d, P.underlying t = some d ∧ ∀ v, VRel E.σ ρ k v → IsKey d v := by
  unfold keyFits at hk
  split at hk
  · rename_i hd; exact ⟨_, hd, fun v hv => by rw [hv.bool_inv]; trivial⟩
  · rename_i k j n hd
    have hk := eq_of_beq hk
    exact ⟨_, hd, fun v hv => by rw [hv.int_inv]; exact hk⟩
  · rename_i hd; exact ⟨_, hd, fun v hv => by rw [hv.str_inv.1]; trivial⟩
  · rename_i i hd
    obtain ⟨s, hs⟩ := E.str i (Nat.eq_of_beq_eq_true hk)
    exact ⟨_, hd, fun v hv => by simp only [VRel] at hv; rw [hv, hs]; trivial⟩
  · cases hk
theorem keyEq_ok {d : TypeDesc} {x y : AV} {v v' : Value} {r : Bool} (he : keyEq x y = some r) (hx : VRel E.σ ρ x v) (hy : VRel E.σ ρ y v') (hd : IsKey d v) : Instr.sameNow d v v' = some r := by
  unfold keyEq at he
  split at he
  · obtain rfl := hx.bool_inv; obtain rfl := hy.bool_inv
    cases d <;> simp only [IsKey] at hd
    exact he
  · obtain rfl := hx.int_inv; obtain rfl := hy.int_inv
    cases d <;> simp only [IsKey] at hd
    split at he
    · rename_i hjk
      have hjk := eq_of_beq hjk
      subst hjk
      cases he
      simp [Instr.sameNow, eqI_eq]
    · cases he
  · obtain ⟨rfl, h1⟩ := hx.str_inv; obtain ⟨rfl, h2⟩ := hy.str_inv
    cases d <;> simp only [IsKey] at hd
    cases he
    rw [← mkStr_eq h1 h2]
    simp only [Instr.sameNow, Option.some.injEq]
    rw [Bool.eq_iff_iff, bytes_beq, beq_iff_eq]
    exact ⟨fun e => by rw [e], fun e => by rw [ByteArray.toList_eq, ByteArray.toList_eq] at e; exact ByteArray.ext (Array.toList_inj.mp e)⟩
  · cases he
theorem findE_ok {d : TypeDesc} {k : AV} {kv : Value} (hk : VRel E.σ ρ k kv) (hd : IsKey d kv) : ∀ {l : List AME} {l' : List MapEntry} {i : Nat} {r : Option (Nat × AV)}, findE k l i = some r → MRel E.σ ρ l l' →
    (r = none ∧ Instr.findNow d kv l' i = some none) ∨
      ∃ j av v, r = some (i + j, av) ∧ Instr.findNow d kv l' i = some (some (i + j, v)) ∧ VRel E.σ ρ av v ∧ ∃ e e', l[j]? = some e ∧ l'[j]? = some e' ∧ Instr.sameNow d kv e'.key = some true ∧ e.val = av := by
  intro l l' i r hf hm
  induction hm generalizing i r with
  | nil =>
    simp only [findE, Option.some.injEq] at hf
    exact .inl ⟨hf.symm, rfl⟩
  | @cons k2 v2 b l k' v' l' h1 h2 h3 ih =>
    unfold findE at hf
    split at hf
    · rename_i he
      cases hf
      have hs := keyEq_ok he hk h1 hd
      exact .inr ⟨0, v2, v', rfl, by simp [Instr.findNow, hs], h2, _, _, rfl, rfl, hs, rfl⟩
    · rename_i he
      have hs := keyEq_ok he hk h1 hd
      rcases ih hf with ⟨e1, e2⟩ | ⟨j, av, v, e1, e2, e3, e, e', e4, e5, e6, e7⟩
      · exact .inl ⟨e1, by simp [Instr.findNow, hs, e2]⟩
      · exact .inr ⟨j + 1, av, v, by rw [e1]; congr 2; omega, by simp only [Instr.findNow, hs, e2]; congr 3; omega, e3, e, e', by simpa using e4, by simpa using e5, e6, e7⟩
    · cases hf

theorem opLookup_ok (H : HRel E ρ h nx w) {t : TypeId} {xa ka : AV} {xv kv : Value} {ok : Bool} (hx : VRel E.σ ρ xa xv) (hk : VRel E.σ ρ ka kv) :
    GoodP E P ρ h nx w (Instr.lookup t xv kv ok) (opLookup P t xa ka ok h nx) := by
  unfold opLookup
  split
  · rename_i kt e hd
    split
    · rename_i z hz hf
      obtain ⟨d, hd2, hkey⟩ := keyFits_some (E := E) (ρ := ρ) hf
      have hkey := hkey kv hk
      obtain ⟨zv, hz1, hz2⟩ := run_zero hz
      have fin : ∀ (es : List AME) (es' : Array MapEntry), MRel E.σ ρ es es'.toList →
          (∀ r : Option (Nat × Value), Instr.findNow d kv es'.toList 0 = some r →
            (Instr.lookup t xv kv ok).run P w = (match r with
              | some (_, v) => .ok (if ok then .tuple #[v, .bool true] else v) w
              | none => .ok (if ok then .tuple #[zv, .bool false] else zv) w)) →
          GoodP E P ρ h nx w (Instr.lookup t xv kv ok) (match findE ka es 0 with
            | some (some (_, v)) => match ok with | true => .val (.tup [v, .bool true]) h nx | false => fV v fun v => .val v h nx
            | some none => match ok with | true => fV z fun z => .val (.tup [z, .bool false]) h nx | false => fV z fun z => .val z h nx
            | none => bad "lookup: key") := by
        intro es es' hm hes
        split
        · rename_i j v he
          rcases findE_ok hk hkey he hm with ⟨e1, _⟩ | ⟨j', av, v', e1, e2, e3, _⟩
          · cases e1
          · cases e1
            have := hes _ e2
            cases ok
            · simp only [fV_eq']; exact goodP_val this e3
            · exact goodP_val this (by simp only [VRel, LRel]; exact ⟨_, rfl, _, _, rfl, e3, _, _, rfl, rfl, rfl⟩)
        · rename_i he
          rcases findE_ok hk hkey he hm with ⟨_, e2⟩ | ⟨j', av, v', e1, _⟩
          · have := hes _ e2
            cases ok
            · simp only [fV_eq']; exact goodP_val this (hz2 _ _)
            · simp only [fV_eq']; exact goodP_val this (by simp only [VRel, LRel]; exact ⟨_, rfl, _, _, rfl, hz2 _ _, _, _, rfl, rfl, rfl⟩)
          · cases e1
        · exact goodP_bad
      cases xa <;> try exact goodP_bad
      · obtain rfl : xv = .map none := by simpa [VRel] using hx
        refine fin [] #[] .nil fun r hr => ?_
        have h1 := run_checkKey (P := P) (w := w) hd2 hkey (#[] : Array MapEntry).isEmpty 9999
        have h2 := run_findKey (P := P) (w := w) hd2 hr
        simp only [Instr.lookup, Sem.run_bind, run_underlying hd, Result.andThen_ok, Sem.run_pure, h1, h2]
        cases r with
        | none => simp [hz1]
        | some p => simp
      · rename_i a
        have hx' := hx
        simp only [VRel] at hx'
        obtain ⟨b, N, hp, rfl⟩ := hx'
        refine onObj_elim goodP_bad fun o hg => ?_
        split
        · rename_i es clock
          obtain ⟨es', hO, hm⟩ := map_obj H hg hp
          refine fin es es' hm fun r hr => ?_
          have h1 := run_checkKey (P := P) (w := w) hd2 hkey es'.isEmpty 9999
          have h2 := run_findKey (P := P) (w := w) hd2 hr
          simp only [Instr.lookup, Sem.run_bind, run_underlying hd, Result.andThen_ok, Sem.run_pure, run_getObj_map' hO, h1, h2]
          cases r with
          | none => simp [hz1]
          | some p => simp
        · exact goodP_bad
    · exact goodP_bad
  · exact goodP_bad

theorem opTypeAssert_ok {xa : AV} {xv : Value} {xt a : TypeId} {ok : Bool} (hx : VRel E.σ ρ xa xv) : GoodP E P ρ h nx w (Instr.typeAssert xv xt a ok) (opTypeAssert P xa a ok h nx) := by
  have yes : ∀ (v : AV) (y : Value), VRel E.σ ρ v y → (Instr.typeAssert xv xt a ok).run P w = .ok (if ok then .tuple #[y, .bool true] else y) w →
      GoodP E P ρ h nx w (Instr.typeAssert xv xt a ok) (match ok with | true => .val (.tup [v, .bool true]) h nx | false => fV v fun v => .val v h nx) := by
    intro v y hv hr
    cases ok
    · simp only [fV_eq']; exact goodP_val hr hv
    · exact goodP_val hr (by simp only [VRel, LRel]; exact ⟨_, rfl, _, _, rfl, hv, _, _, rfl, rfl, rfl⟩)
  have no : (∀ z, zeroA P a = some z → ok = true → ∃ zv, VRel E.σ ρ z zv ∧ (Instr.typeAssert xv xt a ok).run P w = .ok (.tuple #[zv, .bool false]) w) →
      GoodP E P ρ h nx w (Instr.typeAssert xv xt a ok) (match (generalizing := false) ok, zeroA P a with | true, some z => fV z fun z => .val (.tup [z, .bool false]) h nx | _, _ => bad "typeAssert") := by
    intro hz
    cases ok
    · exact goodP_bad
    · cases e : zeroA P a with
      | none => exact goodP_bad
      | some z =>
        obtain ⟨zv, h1, h2⟩ := hz z e rfl
        simp only [fV_eq']
        exact goodP_val h2 (by simp only [VRel, LRel]; exact ⟨_, rfl, _, _, rfl, h1, _, _, rfl, rfl, rfl⟩)
  unfold opTypeAssert
  dsimp only
  split
  · rename_i want t v hd
    obtain ⟨y, rfl, hy⟩ : ∃ y, xv = .iface t y ∧ VRel E.σ ρ v y := by simpa only [VRel] using hx
    split
    · rename_i i hi
      split
      · rename_i hm
        exact yes _ (.iface t y) hx (by cases ok <;> simp [Instr.typeAssert, run_underlying hd, run_typeInfo' hi, hm])
      · rename_i m hm
        refine no fun z hz ho => ?_
        subst ho
        obtain ⟨zv, h1, h2⟩ := run_zero hz
        exact ⟨zv, h2 _ _, by simp [Instr.typeAssert, run_underlying hd, run_typeInfo' hi, hm, h1]⟩
    · exact goodP_bad
  · rename_i d hd
    obtain rfl : xv = .nilIface := by simpa only [VRel] using hx
    refine no fun z hz ho => ?_
    subst ho
    obtain ⟨zv, h1, h2⟩ := run_zero hz
    refine ⟨zv, h2 _ _, ?_⟩
    cases d <;> simp [Instr.typeAssert, run_underlying hd, h1]
  · rename_i d t v hnd hd
    obtain ⟨y, rfl, hy⟩ : ∃ y, xv = .iface t y ∧ VRel E.σ ρ v y := by simpa only [VRel] using hx
    split
    · rename_i ht
      have ht := Nat.eq_of_beq_eq_true ht
      subst ht
      refine yes v y hy ?_
      cases d <;> first | exact (hnd _ rfl).elim | (cases ok <;> simp [Instr.typeAssert, run_underlying hd])
    · rename_i ht
      have ht : t ≠ a := Nat.ne_of_beq_eq_false ht
      refine no fun z hz ho => ?_
      subst ho
      obtain ⟨zv, h1, h2⟩ := run_zero hz
      refine ⟨zv, h2 _ _, ?_⟩
      cases d <;> first | exact (hnd _ rfl).elim | simp [Instr.typeAssert, run_underlying hd, h1, ht]
  · exact goodP_bad
end Go.Sx

/- The operations, part 6: building values; entries; conversions. -/
namespace Go.Sx
open Go.MapKept
variable {E : Env} {P : Program} {ρ : Rho} {h : Tr AObj} {nx : Nat} {w : World}

theorem setAt_spec : ∀ {l vs r : List AV} {o : Nat}, setAt l o vs = some r → r.length = l.length ∧ o + vs.length ≤ l.length ∧ ∀ i, r[i]? = if o ≤ i ∧ i < o + vs.length then vs[i - o]? else l[i]?
  | l, [], r, 0, h => by
    have : setAt l 0 [] = some l := by cases l <;> simp [setAt]
    rw [this] at h; cases h
    exact ⟨rfl, by simp, fun i => by rw [if_neg (by simp)]⟩
  | [], v :: vs, r, 0, h => by simp [setAt] at h
  | x :: l, v :: vs, r, 0, h => by
    simp only [setAt, Option.map_eq_some_iff] at h
    obtain ⟨r', h1, rfl⟩ := h
    obtain ⟨e1, e2, e3⟩ := setAt_spec h1
    refine ⟨by simp [e1], by simp; omega, fun i => ?_⟩
    cases i with
    | zero => simp
    | succ i =>
      simp only [List.getElem?_cons_succ, e3 i, Nat.zero_add, Nat.sub_zero, List.length_cons, Nat.zero_le, true_and]
      by_cases hi : i < vs.length
      · rw [if_pos hi, if_pos (by omega)]
      · rw [if_neg hi, if_neg (by omega)]
  | [], vs, r, o + 1, h => by simp [setAt] at h
  | x :: l, vs, r, o + 1, h => by
    simp only [setAt, Option.map_eq_some_iff] at h
    obtain ⟨r', h1, rfl⟩ := h
    obtain ⟨e1, e2, e3⟩ := setAt_spec h1
    refine ⟨by simp [e1], by simp; omega, fun i => ?_⟩
    cases i with
    | zero => simp
    | succ i =>
      simp only [List.getElem?_cons_succ, e3 i]
      by_cases hi : o ≤ i ∧ i < o + vs.length
      · rw [if_pos hi, if_pos (by omega)]; congr 1; omega
      · rw [if_neg hi, if_neg (by omega)]

theorem foldSet_spec (off : Nat) : ∀ (l : List Value) (k : Nat) (cs : Array Value), off + k + l.length ≤ cs.size →
    ((l.zipIdx k).foldl (fun cs x => cs.setIfInBounds (off + x.2) x.1) cs).size = cs.size ∧
    ∀ i, ((l.zipIdx k).foldl (fun cs x => cs.setIfInBounds (off + x.2) x.1) cs)[i]? = if off + k ≤ i ∧ i < off + k + l.length then l[i - (off + k)]? else cs[i]?
  | [], k, cs, _ => ⟨rfl, fun i => by rw [if_neg (by simp)]; rfl⟩
  | v :: l, k, cs, h => by
    simp only [List.length_cons] at h
    obtain ⟨h1, h2⟩ := foldSet_spec off l (k + 1) (cs.setIfInBounds (off + k) v) (by simp; omega)
    simp only [List.zipIdx_cons, List.foldl_cons]
    refine ⟨by rw [h1]; simp, fun i => ?_⟩
    rw [h2 i]
    by_cases hi : off + (k + 1) ≤ i ∧ i < off + (k + 1) + l.length
    · rw [if_pos hi, if_pos (by simp; omega)]
      rw [show i - (off + k) = (i - (off + (k + 1))) + 1 from by omega, List.getElem?_cons_succ]
    · rw [if_neg hi, Array.getElem?_setIfInBounds]
      by_cases he : off + k = i
      · rw [if_pos he, if_pos (by omega), if_pos (by simp; omega), ← he]; simp
      · rw [if_neg he, if_neg (by simp; omega)]

/-- parts and their values -/
inductive PRel (E : Env) (ρ : Rho) : List (Nat × AV) → List (Nat × Value) → Prop
  | nil : PRel E ρ [] []
  | cons {i : Nat} {a : AV} {v : Value} {l : List (Nat × AV)} {l' : List (Nat × Value)} : VRel E.σ ρ a v → PRel E ρ l l' → PRel E ρ ((i, a) :: l) ((i, v) :: l')
theorem fillA_ok {place place' : Nat → Option (Nat × Nat)} (hpl : ∀ i p, place i = some p → place' i = some p) {parts : List (Nat × AV)} {parts' : List (Nat × Value)} (hp : PRel E ρ parts parts') :
    ∀ {cells r : List AV} {cv : Array Value}, fillA place cells parts = some r → LRel E.σ ρ cells cv.toList → ∃ rv : Array Value, Instr.fill place' cv parts' = some rv ∧ LRel E.σ ρ r rv.toList := by
  induction hp with
  | nil => intro cells r cv hf hc; simp only [fillA, Option.some.injEq] at hf; subst hf; exact ⟨cv, rfl, hc⟩
  | @cons i a v l l' h1 h2 ih =>
    intro cells r cv hf hc
    unfold fillA at hf
    split at hf
    · cases hf
    · rename_i off size hpi
      split at hf
      · cases hf
      · rename_i la hla
        split at hf
        · cases hf
        · rename_i hsz
          have hsz := Nat.eq_of_beq_eq_true hsz
          split at hf
          · rename_i cells2 hset
            obtain ⟨e1, e2, e3⟩ := setAt_spec hset
            have hl := VRel.cells_ok hla h1
            have n1 := hl.length
            have n2 := hc.length
            simp only [Array.length_toList] at n1 n2
            obtain ⟨f1, f2⟩ := foldSet_spec off v.cells.toList 0 cv (by simp; omega)
            have hz : v.cells.zipIdx.foldl (fun cs x => cs.setIfInBounds (off + x.2) x.1) cv = (v.cells.toList.zipIdx 0).foldl (fun cs x => cs.setIfInBounds (off + x.2) x.1) cv := by
              rw [← Array.foldl_toList, Array.toList_zipIdx]
            have hc2 : LRel E.σ ρ cells2 (v.cells.zipIdx.foldl (fun cs x => cs.setIfInBounds (off + x.2) x.1) cv).toList := by
              rw [hz]
              refine LRel.of_get (by rw [e1, n2, Array.length_toList, f1]) fun j x y hx hy => ?_
              rw [e3 j] at hx
              rw [Array.getElem?_toList, f2 j] at hy
              simp only [Nat.add_zero] at hy
              have n3 : v.cells.toList.length = la.length := by simp [n1]
              rw [n3] at hy
              by_cases hj : off ≤ j ∧ j < off + la.length
              · rw [if_pos hj] at hx hy
                obtain ⟨v2, g1, g2⟩ := LRel.get _ hl hx
                rw [g1] at hy; cases hy; exact g2
              · rw [if_neg hj] at hx hy
                obtain ⟨v2, g1, g2⟩ := LRel.get _ hc hx
                rw [Array.getElem?_toList] at g1
                rw [g1] at hy; cases hy; exact g2
            obtain ⟨rv, g1, g2⟩ := ih hf hc2
            refine ⟨rv, ?_, g2⟩
            simp only [Instr.fill, hpl _ _ hpi]
            rw [if_neg (by simp; omega)]
            exact g1
          · cases hf

theorem zeroC_some {t : TypeId} {z : List AV} (hz : zeroC P t = some z) : ∃ v, (∀ w, (zeroValue t).run P w = .ok v w) ∧ ∀ σ ρ, LRel σ ρ z v.cells.toList := by
  unfold zeroC at hz
  rw [Option.map_eq_some_iff] at hz
  obtain ⟨a, h1, h2⟩ := hz
  obtain ⟨v, h3, h4⟩ := run_zero h1
  refine ⟨v, h3, fun σ ρ => ?_⟩
  have hv := h4 σ ρ
  split at h2
  · subst h2
    simp only [VRel] at hv
    obtain ⟨vs, rfl, hl⟩ := hv
    exact hl
  · rename_i hna
    subst h2
    have : ∀ (x : Value), absV x = a → x.cells = #[x] := by
      intro x hx
      cases x <;> first | rfl | skip
      rename_i cs
      obtain ⟨cs⟩ := cs
      simp only [absV] at hx
      exact (hna _ hx.symm).elim
    obtain ⟨i, v', e1, e2, e3⟩ := zeroA_some h1
    have hv' : v = v' := by
      have := h3 default
      simp [zeroValue, run_typeInfo' e1, e2] at this
      exact this.symm
    subst hv'
    rw [this v e3.symm]
    simp only [LRel]
    exact ⟨v, [], rfl, hv, rfl⟩

theorem run_mapM_places {fs : Array Field} (hs : fs.toList.all (fun f => (szO P f.type).isSome) = true) :
    ∃ ps : Array (Nat × Nat), (fs.mapM fun f => (do pure (f.offset, ← sizeOf f.type) : Sem (Nat × Nat))).run P w = .ok ps w ∧ ∀ i p, placeS P fs.toList i = some p → ps[i]? = some p := by
  have key : ∀ (l : List Field), l.all (fun f => (szO P f.type).isSome) = true →
      ∃ ps : List (Nat × Nat), (l.mapM fun f => (do pure (f.offset, ← sizeOf f.type) : Sem (Nat × Nat))).run P w = .ok ps w ∧ ∀ i p, placeS P l i = some p → ps[i]? = some p := by
    intro l
    induction l with
    | nil => intro _; exact ⟨[], by simp, fun i p hp => by simp [placeS] at hp⟩
    | cons f l ih =>
      intro hs
      simp only [List.all_cons, Bool.and_eq_true] at hs
      obtain ⟨ps, h1, h2⟩ := ih hs.2
      obtain ⟨s, hs1⟩ := Option.isSome_iff_exists.1 hs.1
      refine ⟨(f.offset, s) :: ps, ?_, fun i p hp => ?_⟩
      · rw [List.mapM_cons]
        simp only [Sem.run_bind, Sem.run_pure, run_sizeOf' hs1, Result.andThen_ok, h1]
      · cases i with
        | zero =>
          simp only [placeS, List.getElem?_cons_zero, hs1, Option.map_some, Option.some.injEq] at hp
          simpa using hp
        | succ i =>
          simp only [List.getElem?_cons_succ]
          exact h2 i p (by simpa [placeS] using hp)
  obtain ⟨ps, h1, h2⟩ := key fs.toList hs
  refine ⟨ps.toArray, ?_, fun i p hp => by simpa using h2 i p hp⟩
  rw [Array.mapM_eq_mapM_toList]
  simp at h1 ⊢
  rw [h1]
  rfl

theorem opBuild_ok {t : TypeId} {parts : List (Nat × AV)} {parts' : Array (Nat × Value)} (hp : PRel E ρ parts parts'.toList) :
    GoodP E P ρ h nx w (Instr.build t parts') (opBuild P t parts h nx) := by
  unfold opBuild
  split
  · rename_i z fs hz hd
    obtain ⟨zv, hz1, hz2⟩ := zeroC_some hz
    split
    · rename_i cs hall hf
      obtain ⟨ps, h1, h2⟩ := run_mapM_places (w := w) hall
      obtain ⟨rv, h3, h4⟩ := fillA_ok (place' := fun i => ps[i]?) h2 hp hf (hz2 E.σ ρ)
      simp only [fL_eq]
      refine goodP_val (v := .agg rv) ?_ (by simp only [VRel]; exact ⟨rv, rfl, h4⟩)
      simp only [Instr.build, Sem.run_bind, hz1, Result.andThen_ok, run_underlying hd, h1]
      rw [h3]
      simp
    · exact goodP_bad
  · rename_i z n e hz hd
    obtain ⟨zv, hz1, hz2⟩ := zeroC_some hz
    split
    · rename_i s hs
      split
      · rename_i cs hf
        obtain ⟨rv, h3, h4⟩ := fillA_ok (place' := fun i => some (i * s, s)) (fun i p hp => hp) hp hf (hz2 E.σ ρ)
        simp only [fL_eq]
        refine goodP_val (v := .agg rv) ?_ (by simp only [VRel]; exact ⟨rv, rfl, h4⟩)
        simp only [Instr.build, Sem.run_bind, hz1, Result.andThen_ok, run_underlying hd, run_sizeOf' hs]
        rw [h3]
        simp
      · exact goodP_bad
    · exact goodP_bad
  · exact goodP_bad

theorem MRel.find {es : List AME} {l : List MapEntry} {st : Nat} (hm : MRel E.σ ρ es l) {k v : AV} {b : Nat} (hf : es.find? (fun e => Nat.beq e.born st) = some (.mk k v b)) :
    ∃ e, l.find? (fun e => e.born == st) = some e ∧ VRel E.σ ρ k e.key ∧ VRel E.σ ρ v e.val := by
  induction hm with
  | nil => cases hf
  | @cons k2 v2 b2 l k' v' l' h1 h2 h3 ih =>
    rw [List.find?_cons] at hf ⊢
    dsimp only at ⊢
    have e : Nat.beq (AME.mk k2 v2 b2).born st = (b2 == st) := by
      rw [Bool.eq_iff_iff, Nat.beq_eq, beq_iff_eq]; rfl
    rw [e] at hf
    cases hb : b2 == st with
    | true =>
      rw [hb] at hf
      cases hf
      exact ⟨_, rfl, h1, h2⟩
    | false =>
      rw [hb] at hf
      obtain ⟨e, g1, g2⟩ := ih hf
      exact ⟨e, g1, g2⟩
theorem opEntry_ok (H : HRel E ρ h nx w) {xa : AV} {xv : Value} (hx : VRel E.σ ρ xa xv) : GoodP E P ρ h nx w (Instr.entry xv) (opEntry xa h nx) := by
  unfold opEntry
  split
  · rename_i a
    obtain ⟨b, N, hp, rfl⟩ := hx.ptr_inv
    refine onObj_elim goodP_bad fun o hg => ?_
    split
    · rename_i m since seen stepped
      obtain ⟨O, hO, ho⟩ := H.obj a _ b N hg hp
      obtain ⟨m', rfl, _, h3⟩ := ho
      obtain ⟨bm, Nm, hpm, rfl⟩ := h3 m rfl
      refine onObj_elim goodP_bad fun o2 hg2 => ?_
      split
      · rename_i es clock st hst
        obtain ⟨es', hOm, hm⟩ := map_obj H hg2 hpm
        split
        · rename_i k v b' hc hf
          have hc := Nat.eq_of_beq_eq_true hc
          subst hc
          obtain ⟨e, g1, g2, g3⟩ := hm.find hf
          refine goodP_val (v := .tuple #[e.key, e.val]) ?_ (by simp only [VRel, LRel]; exact ⟨_, rfl, _, _, rfl, g2, _, _, rfl, g3, rfl⟩)
          have hr : (getObj b).run P w = .ok (.mapIter (some bm) since seen.toArray clock) w := by simp [getObj, Sem.run, hO]
          have hst' : seen.toArray.back? = some st := by simpa using hst
          have hf' : es'.find? (fun e => e.born == st) = some e := by simpa using g1
          simp [Instr.entry, hr, hst', run_getObj_map' hOm, hf']
        · exact goodP_bad
      · exact goodP_bad
    · exact goodP_bad
  · exact goodP_bad
end Go.Sx

/- The operations, part 7: chunks, conversions, new objects. -/
namespace Go.Sx
open Go.MapKept
variable {E : Env} {P : Program} {ρ : Rho} {h : Tr AObj} {nx : Nat} {w : World}

theorem cellsOfBytes_length (n b : Nat) : (cellsOfBytes n b).length = n := by simp [cellsOfBytes, unpackB_length]
theorem cellsOfBytes_get {n b i : Nat} (hi : i < n) : (cellsOfBytes n b)[i]? = some (.int .u8 (Int.ofNat (byteAt b i))) := by
  simp [cellsOfBytes, unpackB_get n b i hi]
/-- the values of packed bytes -/
def valsOf (n b : Nat) : List Value := (unpackB n b).map fun x => .int .u8 (Int.ofNat x)
theorem valsOf_length (n b : Nat) : (valsOf n b).length = n := by simp [valsOf, unpackB_length]
theorem valsOf_get {n b i : Nat} (hi : i < n) : (valsOf n b)[i]? = some (.int .u8 (Int.ofNat (byteAt b i))) := by
  simp [valsOf, unpackB_get n b i hi]
theorem bytes_rel (n b : Nat) : LRel E.σ ρ (cellsOfBytes n b) (valsOf n b) := by
  refine LRel.of_get (by rw [cellsOfBytes_length, valsOf_length]) fun i a v ha hv => ?_
  have hi : i < n := by
    have := (List.getElem?_eq_some_iff.1 ha).1
    rwa [cellsOfBytes_length] at this
  rw [cellsOfBytes_get hi] at ha; rw [valsOf_get hi] at hv
  cases ha; cases hv; simp [VRel]
theorem bytes_rel_inv {n b : Nat} {vs : List Value} (hl : LRel E.σ ρ (cellsOfBytes n b) vs) : vs = valsOf n b := by
  have hlen := hl.length
  rw [cellsOfBytes_length] at hlen
  apply List.ext_getElem?
  intro i
  by_cases hi : i < n
  · obtain ⟨v, h1, h2⟩ := LRel.get i hl (cellsOfBytes_get hi)
    rw [h1, valsOf_get hi, h2.int_inv]
  · rw [List.getElem?_eq_none (by omega), List.getElem?_eq_none (by rw [valsOf_length]; omega)]
theorem packV_ok : ∀ {l : List AV} {b : Nat}, packV l = some b → b < 2 ^ (8 * l.length) ∧ cellsOfBytes l.length b = l
  | [], b, h => by simp only [packV, Option.some.injEq] at h; subst h; simp [cellsOfBytes, unpackB]
  | a :: l, b, h => by
    cases a <;> try (simp [packV] at h; done)
    rename_i k z
    cases k <;> try (simp [packV] at h; done)
    cases z with
    | negSucc m => simp [packV] at h
    | ofNat m =>
      simp only [packV] at h
      split at h
      · rename_i hm
        have hm : m < 256 := by simpa using hm
        rw [Option.map_eq_some_iff] at h
        obtain ⟨n, h1, rfl⟩ := h
        obtain ⟨h2, h3⟩ := packV_ok h1
        refine ⟨?_, ?_⟩
        · simp only [List.length_cons]
          have e : 2 ^ (8 * (l.length + 1)) = 256 * 2 ^ (8 * l.length) := by rw [Nat.mul_add, Nat.pow_add, Nat.mul_comm]
          omega
        · simp only [List.length_cons, cellsOfBytes, unpackB, List.map_cons, land255, shr8]
          have e1 : (m + 256 * n) % 256 = m := by omega
          have e2 : (m + 256 * n) / 256 = n := by omega
          rw [e1, e2]
          congr 1
      · cases h

def ChOk : Ch → Prop | .bytes n b => b < 2 ^ (8 * n) | .cells _ => True

theorem CellsAre_bytes {x : Bool} {m b : Nat} : ∀ (n off c : Nat), off + n ≤ m → (∀ j, j < n → byteAt c j = byteAt b (off + j)) → CellsAre (.bytes x m b) off (cellsOfBytes n c)
  | 0, off, c, _, _ => by simpa [cellsOfBytes, unpackB] using CellsAre.nil
  | n + 1, off, c, h, hc => by
    simp only [cellsOfBytes, unpackB, List.map_cons, land255, shr8]
    refine .cons ⟨by omega, ?_⟩ (CellsAre_bytes n (off + 1) (c / 256) (by omega) fun j hj => ?_)
    · have := hc 0 (by omega)
      rw [byteAt_eq] at this
      simp only [Nat.mul_zero, Nat.pow_zero, Nat.div_one, Nat.add_zero] at this
      rw [this]
    · rw [byteAt_div, hc (j + 1) (by omega)]; congr 1; omega

theorem firstC_elim (H : HRel E ρ h nx w) {β : Type} {Q : β → Prop} {s n : Nat} {x : AV} {v : Value} {d : β} {k : Ch → β} (hx : VRel E.σ ρ x v) (hd : Q d)
    (hn : ∀ a off len sz cap, x = .sl a off len sz cap → n ≤ len) (hn0 : x = .nilSl → n = 0)
    (hk : ∀ c (vs : Array Value), (Builtin.firstCells s n v).run P w = .ok vs w → LRel E.σ ρ c.list vs.toList → ChOk c → Q (k c)) : Q (firstC s n x h d k) := by
  unfold firstC
  split
  · obtain rfl : v = .slice none 0 0 := by simpa only [VRel] using hx
    exact hk _ #[] rfl (by simp only [Ch.list, LRel]) trivial
  · rename_i a off len sz cap
    obtain ⟨b, N, o, c, hp, rfl, hok⟩ := hx.sl_inv
    have hnl := hn _ _ _ _ _ rfl
    obtain ⟨k1, k2, _⟩ := hok
    have zero : n = 0 → (Builtin.firstCells s n (.slice (some ⟨b, o, none⟩) len c)).run P w = .ok #[] w := by
      intro e; subst e
      simp [Builtin.firstCells, loadCells, loadCellsFrom]
    have hoff : n ≠ 0 → o = off := fun e => by omega
    refine onObj_elim hd fun obj hg => ?_
    split
    · rename_i y m bb
      split
      · rename_i hc
        simp only [Bool.and_eq_true, Nat.beq_eq, Nat.ble_eq] at hc
        obtain ⟨hs1, hle⟩ := hc
        have hs1 : s = 1 := hs1
        have hle : off + n ≤ m := hle
        subst hs1
        simp only [fN_eq']
        by_cases e : n = 0
        · refine hk _ #[] (zero e) ?_ (by simp only [ChOk]; exact subB_lt _ _ _)
          subst e; simp only [Ch.list, cellsOfBytes, unpackB, List.map_nil, LRel]
        · have ho := hoff e
          subst ho
          obtain ⟨vs, h1, h2⟩ := run_loadCells_rel (P := P) H hg hp (n := n) (cellsOfBytes_length n (subB bb o n)) (CellsAre_bytes n o _ hle fun j hj => byteAt_sub bb o n j hj)
          refine hk _ vs.toArray ?_ (by simpa only [Ch.list] using h2) (by simp only [ChOk]; exact subB_lt _ _ _)
          simp only [Builtin.firstCells, Nat.mul_one]; exact h1
      · exact hd
    · refine readCells_elim hd fun l hl hc => ?_
      by_cases e : n = 0
      · refine hk _ #[] (zero e) ?_ trivial
        subst e
        have : l = [] := by
          have hl : l.length = 0 * s := hl
          rw [Nat.zero_mul] at hl; exact List.length_eq_zero_iff.1 hl
        subst this
        simp only [Ch.list, LRel]
      · have ho := hoff e
        subst ho
        obtain ⟨vs, h1, h2⟩ := run_loadCells_rel (P := P) H hg hp hl hc
        exact hk _ vs.toArray (by simp only [Builtin.firstCells]; exact h1) (by simpa only [Ch.list] using h2) trivial
  · rename_i m b
    obtain ⟨rfl, hb⟩ := hx.str_inv
    split
    · rename_i hle
      have hle : n ≤ m := by simpa using hle
      simp only [fN_eq']
      refine hk _ (valsOf n (subB b 0 n)).toArray ?_ (by simpa only [Ch.list] using bytes_rel _ _) (by simp only [ChOk]; exact subB_lt _ _ _)
      have e1 : (mkStr m b).extract 0 n = mkStr n (subB b 0 n) := mkStr_extract (Nat.zero_le _) hle
      simp only [Builtin.firstCells, e1]
      have e2 : (mkStr n (subB b 0 n)).data.map (fun b => Value.int .u8 b.toNat) = (valsOf n (subB b 0 n)).toArray := by
        rw [← Array.toList_inj]
        simp only [Array.toList_map, mkStr_toList]
        apply List.ext_getElem?
        intro i
        by_cases hi : i < n
        · rw [List.getElem?_map, bytesOf_get hi, valsOf_get hi]
          have := byteAt_lt (subB b 0 n) i
          simp; omega
        · rw [List.getElem?_eq_none (by simp [bytesOf_length]; omega), List.getElem?_eq_none (by rw [valsOf_length]; omega)]
      rw [e2]; rfl
    · exact hd
  · exact hd

-- the other predicates
/-- an operation that lays one new object -/
def GoodA (E : Env) (P : Program) (ρ : Rho) (h : Tr AObj) (nx : Nat) (w : World) (s : Sem Value) (r : OR) : Prop := match r with
  | .val av h' nx' => ∃ (o : AObj) (O : Obj) (N n : Nat) (v : Value), h' = h.set (some o) nx ∧ nx' = nx + 1 ∧ s.run P w = .ok v ({ w with drawn := n }.alloc O) ∧ ObjRel E.σ ρ N o O ∧ reId nx av = av ∧
      ∀ ρ' a, ρ.le ρ' → ρ' a = some (w.heap.size, N) → VRel E.σ ρ' (reId a av) v
  | .bad _ => True
  | _ => False
/-- an operation in general: it goes on, somehow -/
def GoodV (E : Env) (P : Program) (ρ : Rho) (nx : Nat) (w : World) (s : Sem Value) (av : AV) (h' : Tr AObj) (nx' : Nat) : Prop :=
  ∃ v w' ρ', s.run P w = .ok v w' ∧ HRel E ρ' h' nx' w' ∧ Ext ρ nx ρ' nx' ∧ VRel E.σ ρ' av v
def Good (E : Env) (P : Program) (ρ : Rho) (nx : Nat) (w : World) (s : Sem Value) (r : OR) : Prop := match r with
  | .val av h' nx' => GoodV E P ρ nx w s av h' nx'
  | .fork l => ∃ f ∈ l, match f with | .mk av h' nx' => GoodV E P ρ nx w s av h' nx'
  | .bad _ => True
  | _ => False
theorem good_bad {s : Sem Value} {why : String} : Good E P ρ nx w s (bad why) := trivial
theorem goodA_bad {s : Sem Value} {why : String} : GoodA E P ρ h nx w s (bad why) := trivial
theorem GoodP.good (H : HRel E ρ h nx w) {s : Sem Value} {r : OR} (g : GoodP E P ρ h nx w s r) : Good E P ρ nx w s r := by
  cases r <;> first | exact g | exact g.elim | skip
  obtain ⟨rfl, rfl, v, h1, h2⟩ := g
  exact ⟨v, w, ρ, h1, H, Ext.refl _ _, h2⟩
theorem GoodA.good (H : HRel E ρ h nx w) {s : Sem Value} {r : OR} (g : GoodA E P ρ h nx w s r) : Good E P ρ nx w s r := by
  cases r <;> first | exact g | exact g.elim | skip
  obtain ⟨o, O, N, n, v, rfl, rfl, h1, h2, h3, h4⟩ := g
  obtain ⟨g1, g2⟩ := (H.drawn n).alloc h2
  exact ⟨v, _, _, h1, g1, g2, by have := h4 (ρ.set nx (w.heap.size, N)) nx g2.le (Rho.set_same _ _ _); rwa [h3] at this⟩

-- conversions
theorem encode_ascii {n : Nat} (hn : n < 128) : Utf8.encode (n : Int) = mkStr 1 n := by
  have hv : Utf8.valid (n : Int) = true := by simp [Utf8.valid]; omega
  have e1 : (n : Nat) < 0x80 := hn
  simp only [Utf8.encode, hv, if_true, Int.toNat_natCast, e1]
  have : (mkStr 1 n).data = #[UInt8.ofNat n] := by
    rw [← Array.toList_inj, mkStr_toList]
    simp only [bytesOf, unpackB, land255, List.map_cons, List.map_nil]
    rw [Nat.mod_eq_of_lt (by omega)]
  cases e : mkStr 1 n with
  | mk d => rw [e] at this; simp only at this; rw [this]
theorem fold_push (l : List Int) (bs : List UInt8) : ((l.foldl (fun r n => r.push (UInt8.ofNat n.toNat)) (⟨bs.toArray⟩ : ByteArray))).data.toList = bs ++ l.map fun n => UInt8.ofNat n.toNat := by
  induction l generalizing bs with
  | nil => simp
  | cons n l ih =>
    simp only [List.foldl_cons, List.map_cons]
    have : (⟨bs.toArray⟩ : ByteArray).push (UInt8.ofNat n.toNat) = ⟨(bs ++ [UInt8.ofNat n.toNat]).toArray⟩ := by simp [ByteArray.push]
    rw [this, ih]; simp
theorem valsOf_map (n b : Nat) : valsOf n b = ((unpackB n b).map Int.ofNat).map (Value.int .u8) := by simp [valsOf]
theorem run_bytesToString_vals {a : Addr} {n b len cap : Nat} (hl : (loadCells a n).run P w = .ok (valsOf n b).toArray w) (hn : len = n) : (Conv.bytesToString (.slice (some a) len cap)).run P w = .ok (.string (mkStr n b)) w := by
  subst hn
  rw [valsOf_map] at hl
  rw [run_bytesToString w a len cap _ hl]
  congr 2
  have := fold_push ((unpackB len b).map Int.ofNat) []
  have e : (⟨([] : List UInt8).toArray⟩ : ByteArray) = ByteArray.empty := rfl
  rw [e] at this
  have e2 : (List.foldl (fun r n => ByteArray.push r (UInt8.ofNat (Int.toNat n))) ByteArray.empty (List.map Int.ofNat (unpackB len b))).data = (mkStr len b).data := by
    rw [← Array.toList_inj, this, mkStr_toList]
    simp [bytesOf]
  cases h1 : (List.foldl (fun r n => ByteArray.push r (UInt8.ofNat (Int.toNat n))) ByteArray.empty (List.map Int.ofNat (unpackB len b)))
  cases h2 : mkStr len b
  rw [h1, h2] at e2
  simp only at e2
  rw [e2]

theorem run_loadCellsFrom_size {a : Addr} : ∀ (n i : Nat) (acc vs : Array Value) (w w' : World), (loadCellsFrom a i n acc).run P w = .ok vs w' → vs.size = acc.size + n
  | 0, i, acc, vs, w, w', h => by
    simp only [loadCellsFrom, Sem.run_pure, Result.ok.injEq] at h
    rw [h.1]; rfl
  | n + 1, i, acc, vs, w, w', h => by
    simp only [loadCellsFrom, Sem.run_bind] at h
    cases e : (load (a.add i)).run P w with
    | ok v w1 =>
      rw [e] at h
      simp only [Result.andThen_ok] at h
      have := run_loadCellsFrom_size n (i + 1) _ vs w1 w' h
      simp only [Array.size_push] at this
      omega
    | halt => rw [e] at h; cases h
theorem run_loadCells_size {a : Addr} {n : Nat} {vs : Array Value} {w w' : World} (h : (loadCells a n).run P w = .ok vs w') : vs.size = n := by
  have := run_loadCellsFrom_size n 0 #[] vs w w' h
  simpa using this
theorem isByte_true {e : TypeId} (he : isByte P e = true) : P.underlying e = some (.int .u8) := by
  unfold isByte at he
  split at he
  · assumption
  · cases he
theorem VRel.str_rel {l n : Nat} (hn : n < 2 ^ (8 * l)) : VRel E.σ ρ (.str l n) (.string (mkStr l n)) := by simp only [VRel]; exact ⟨trivial, hn⟩
theorem conv_pure (H : HRel E ρ h nx w) {src dst : TypeId} {xa : AV} {xv : Value} (hx : VRel E.σ ρ xa xv) (hns : ∀ e, P.underlying dst ≠ some (.slice e)) :
    GoodP E P ρ h nx w (convert src dst xv) (opConvert P src dst xa h nx) := by
  unfold opConvert
  split
  · rename_i s k j n hs hd
    obtain rfl := hx.int_inv
    rw [wrapK_eq]
    refine goodP_val (v := .int k (k.wrap n)) ?_ (by simp [VRel])
    simp [convert, run_underlying hs, run_underlying hd, Conv.intToInt]
  · rename_i s l n hs hd
    obtain ⟨rfl, hn⟩ := hx.str_inv
    refine goodP_val (v := .string (mkStr l n)) ?_ hx
    cases s <;> simp [convert, run_underlying hs, run_underlying hd]
  · rename_i s k n hs hd
    obtain rfl := hx.int_inv
    split
    · rename_i hlt
      have hlt : n < 128 := by simpa using hlt
      refine goodP_val (v := .string (mkStr 1 n)) ?_ (VRel.str_rel (by omega))
      have := encode_ascii hlt
      cases s <;> simp [convert, run_underlying hs, run_underlying hd, Conv.intToString, this]
    · exact goodP_bad
  · rename_i hd; exact absurd hd (hns _)
  · rename_i hd; exact absurd hd (hns _)
  · rename_i _ e hs hd _ _
    split
    · exact goodP_bad
    · rename_i hb
      have he := isByte_true hb
      split
      · obtain rfl : xv = .slice none 0 0 := by simpa only [VRel] using hx
        refine goodP_val (v := .string .empty) ?_ ?_
        · simp [convert, run_underlying hs, run_underlying hd, run_underlying he, Conv.bytesToString]
        · exact VRel.str_rel (l := 0) (n := 0) (by decide)
      · rename_i a off len sz cap _ _
        obtain ⟨b, N, o, c, hp, rfl, hok⟩ := hx.sl_inv
        have hrun : ∀ n b', (Builtin.firstCells 1 len (.slice (some ⟨b, o, none⟩) len c)).run P w = .ok (valsOf n b').toArray w → n = len →
            (convert src dst (.slice (some ⟨b, o, none⟩) len c)).run P w = .ok (.string (mkStr n b')) w := by
          intro n b' h1 h2
          subst h2
          rw [run_convert_bytes_string w src dst e _ _ _ hs he hd]
          refine run_bytesToString_vals ?_ rfl
          simpa [Builtin.firstCells] using h1
        refine firstC_elim (P := P) H hx goodP_bad (fun _ _ _ _ _ e => by cases e; exact Nat.le_refl _) (fun e => by cases e) fun ch vs h1 h2 h3 => ?_
        have hlen : vs.size = len := by
          simp only [Builtin.firstCells, Nat.mul_one] at h1
          exact run_loadCells_size h1
        split
        · rename_i n b'
          have e1 : vs = (valsOf n b').toArray := by rw [← Array.toList_inj, bytes_rel_inv h2]
          subst e1
          simp only [List.size_toArray, valsOf_length] at hlen
          refine goodP_val (hrun n b' h1 hlen) (VRel.str_rel h3)
        · rename_i l
          split
          · rename_i b' hb'
            obtain ⟨g1, g2⟩ := packV_ok hb'
            simp only [fN_eq']
            have h2' : LRel E.σ ρ (cellsOfBytes l.length b') vs.toList := by rw [g2]; exact h2
            have e1 : vs = (valsOf l.length b').toArray := by rw [← Array.toList_inj, bytes_rel_inv h2']
            subst e1
            simp only [List.size_toArray, valsOf_length] at hlen
            subst hlen
            exact goodP_val (hrun l.length b' h1 rfl) (VRel.str_rel g1)
          · exact goodP_bad
      · exact goodP_bad
  · exact goodP_bad
end Go.Sx

/- The operations, part 8: those that lay a new object. -/
namespace Go.Sx
open Go.MapKept
variable {E : Env} {P : Program} {ρ : Rho} {h : Tr AObj} {nx : Nat} {w : World}

theorem newO_eq (o : AObj) (v : AV) : newO o h nx v = .val v (h.set (some o) nx) (nx + 1) := by simp [newO]

/-- the object made of a chunk, behind it what may -/
theorem mkObj_elim {β : Type} {Q : β → Prop} {byte x : Bool} {c : Ch} {k : AObj → β} (hc : ChOk c)
    (hk : ∀ o, (∀ (ρ : Rho) (vs rest : Array Value) (e : TypeId), LRel E.σ ρ c.list vs.toList → (x = true → rest = #[]) → ObjRel E.σ ρ (vs.size + rest.size) o (.cells (vs ++ rest) e (0, 0))) → Q (k o)) : Q (mkObj byte x c k) := by
  have bytes : ∀ n b, (∀ (ρ : Rho) (vs : Array Value), LRel E.σ ρ c.list vs.toList → vs.toList = valsOf n b) → Q (k (.bytes x n b)) := by
    intro n b hv
    refine hk _ fun ρ vs rest e hl hx => ?_
    have e1 := hv ρ vs hl
    have hsz : vs.size = n := by rw [← Array.length_toList, e1, valsOf_length]
    refine ⟨_, e, (0, 0), rfl, .inl rfl, by simp, by omega, fun hh => by rw [hx hh]; simp; omega, fun i v hi hv => ?_⟩
    rw [Array.getElem?_append_left (by omega), ← Array.getElem?_toList, e1, valsOf_get hi] at hv
    cases hv; rfl
  have cells : ∀ l, c = .cells l → Q (k (.cells x l.length (ofL l 0 .leaf))) := by
    intro l hcl
    subst hcl
    refine hk _ fun ρ vs rest e hl hx => ?_
    have hsz : vs.size = l.length := by rw [← Array.length_toList]; exact hl.length.symm
    refine ⟨_, e, rfl, by simp, by omega, fun hh => by rw [hx hh]; simp; omega, fun i v hi hv => ?_⟩
    rw [Array.getElem?_append_left (by omega), ← Array.getElem?_toList] at hv
    rw [ofL_get, if_pos ⟨Nat.zero_le _, by omega⟩, Nat.sub_zero]
    obtain ⟨a, ha⟩ : ∃ a, l[i]? = some a := by simp [hi]
    obtain ⟨v', h1, h2⟩ := LRel.get i hl ha
    rw [h1] at hv; cases hv
    rw [ha]; exact h2
  cases c with
  | bytes n b => exact bytes n b fun ρ vs hl => bytes_rel_inv hl
  | cells l =>
    unfold mkObj
    simp only []
    split
    · rename_i b hb
      obtain ⟨g1, g2⟩ := packV_ok hb
      simp only [fN_eq']
      refine bytes l.length b fun ρ vs hl => bytes_rel_inv (by rw [g2]; exact hl)
    · simp only [fN_eq', ofListK_eq]
      exact cells l rfl

theorem goodA_val {s : Sem Value} {av : AV} {o : AObj} {O : Obj} {N n : Nat} {v : Value} (hr : s.run P w = .ok v ({ w with drawn := n }.alloc O)) (ho : ObjRel E.σ ρ N o O) (hi : reId nx av = av)
    (hv : ∀ ρ' a, ρ.le ρ' → ρ' a = some (w.heap.size, N) → VRel E.σ ρ' (reId a av) v) : GoodA E P ρ h nx w s (.val av (h.set (some o) nx) (nx + 1)) :=
  ⟨o, O, N, n, v, rfl, rfl, hr, ho, hi, hv⟩
theorem run_newRow (e : TypeId) (c : Array Value) : (newRow e c).run P w = .ok ⟨w.heap.size, 0, none⟩ (w.alloc (.cells c e (0, 0))) := by
  simp [newRow]
theorem run_newVar (e : TypeId) (v : Value) : (newVar e v).run P w = .ok ⟨w.heap.size, 0, none⟩ (w.alloc (.cells v.cells e (0, 0))) := run_newRow e v.cells

theorem oAlloc_ok {e : TypeId} {m : Nat} {tm : Tr AV} {loc : Loc} : GoodA E P ρ h nx w (Instr.alloc e true (.tuple #[])) (oAlloc P e m tm loc h nx) := by
  unfold oAlloc
  split
  · rename_i z hz
    obtain ⟨zv, hz1, hz2⟩ := zeroC_some hz
    refine mkObj_elim (E := E) trivial fun o ho => ?_
    rw [newO_eq]
    refine goodA_val (O := .cells zv.cells e (0, 0)) (N := zv.cells.size) (n := w.drawn) (v := .pointer (some ⟨w.heap.size, 0, none⟩)) ?_ ?_ rfl fun ρ' a _ hp => ?_
    · simp [Instr.alloc, hz1, run_newVar]
    · have := ho ρ zv.cells #[] e (hz2 _ _) (fun _ => rfl)
      simpa using this
    · simp only [reId, VRel]; exact ⟨_, _, hp, rfl⟩
  · exact goodA_bad
theorem box_ok {e : TypeId} {xa : AV} {xv : Value} (hx : VRel E.σ ρ xa xv) : GoodA E P ρ h nx w (Instr.box e xv) (match xa.cells with
    | some l => mkObj (isByte P e) true (.cells l) fun o => newO o h nx (.ptr nx 0)
    | none => bad "box: unknown") := by
  split
  · rename_i l hl
    refine mkObj_elim (E := E) trivial fun o ho => ?_
    rw [newO_eq]
    refine goodA_val (O := .cells xv.cells e (0, 0)) (N := xv.cells.size) (n := w.drawn) (v := .pointer (some ⟨w.heap.size, 0, none⟩)) ?_ ?_ rfl fun ρ' a _ hp => ?_
    · simp [Instr.box, run_newVar]
    · have := ho ρ xv.cells #[] e (VRel.cells_ok hl hx) (fun _ => rfl)
      simpa using this
    · simp only [reId, VRel]; exact ⟨_, _, hp, rfl⟩
  · exact goodA_bad

/-- zeros, repeated -/
theorem repl_length (z : List AV) : ∀ n, (repl z n).length = n * z.length
  | 0 => by simp [repl]
  | n + 1 => by simp [repl, repl_length z n, Nat.succ_mul, Nat.add_comm]
theorem repl_rel {z : List AV} {zv : List Value} (hz : LRel E.σ ρ z zv) : ∀ n, LRel E.σ ρ (repl z n) (List.replicate n zv).flatten
  | 0 => by simp [repl, LRel]
  | n + 1 => by
    simp only [repl, List.replicate_succ, List.flatten_cons]
    exact hz.append (repl_rel hz n)
theorem zeroes_get (zv : List Value) : ∀ (n i : Nat), i < n * zv.length → (List.replicate n zv).flatten[i]? = zv[i % zv.length]?
  | 0, i, h => by simp at h
  | n + 1, i, h => by
    simp only [List.replicate_succ, List.flatten_cons]
    by_cases hi : i < zv.length
    · rw [List.getElem?_append_left hi, Nat.mod_eq_of_lt hi]
    · rw [List.getElem?_append_right (by omega), zeroes_get zv n _ (by rw [Nat.succ_mul] at h; omega)]
      congr 1
      rw [Nat.mod_eq_sub_mod (by omega : zv.length ≤ i)]
theorem zeros_eq (zv : Array Value) (n k : Nat) (hk : k = n * zv.size) : ((Array.range k).map fun i => zv[i % zv.size]!).toList = (List.replicate n zv.toList).flatten := by
  apply List.ext_getElem?
  intro i
  have hl : (List.replicate n zv.toList).flatten.length = n * zv.size := by simp
  by_cases hi : i < k
  · rw [zeroes_get zv.toList n i (by simp; omega)]
    have hz : 0 < zv.size := by
      rcases Nat.eq_zero_or_pos zv.size with h | h
      · rw [h, Nat.mul_zero] at hk; omega
      · exact h
    have hm : i % zv.size < zv.size := Nat.mod_lt _ hz
    simp [hi, hm]
  · rw [List.getElem?_eq_none (by simp; omega), List.getElem?_eq_none (by omega)]

theorem makeMap_ok {t : TypeId} {r : Option AV} {r' : Option Value} (hr : ORel E ρ r r') {k : OR} (hk : k = match r with
    | none => newO (.map [] 0) h nx (.map nx)
    | some r => onInt r (bad "makeMap") fun _ _ => match P.underlying t with
      | some (.map ..) => newO (.map [] 0) h nx (.map nx)
      | _ => bad "makeMap") : GoodA E P ρ h nx w (Instr.makeMap t r') k := by
  subst hk
  have fin : (Instr.makeMap t r').run P w = .ok (.map (some w.heap.size)) (w.alloc (.map #[] 0)) → GoodA E P ρ h nx w (Instr.makeMap t r') (newO (.map [] 0) h nx (.map nx)) := by
    intro hr
    rw [newO_eq]
    refine goodA_val (O := .map #[] 0) (N := 0) (n := w.drawn) hr ⟨#[], rfl, .nil⟩ rfl fun ρ' a _ hp => ?_
    simp only [reId, VRel]; exact ⟨_, _, hp, rfl⟩
  cases r with
  | none =>
    cases r' with
    | some _ => exact hr.elim
    | none => exact fin (by simp [Instr.makeMap])
  | some a =>
    cases r' with
    | none => exact hr.elim
    | some v =>
      refine onInt_elim goodA_bad fun k n he => ?_
      subst he
      obtain rfl := VRel.int_inv (E := E) (ρ := ρ) hr
      split
      · rename_i hd
        exact fin (by simp [Instr.makeMap, run_underlying hd, asInt, asIntOf])
      · exact goodA_bad

theorem fillA_length {place : Nat → Option (Nat × Nat)} : ∀ {parts : List (Nat × AV)} {cells r : List AV}, fillA place cells parts = some r → r.length = cells.length
  | [], cells, r, h => by simp only [fillA, Option.some.injEq] at h; rw [h]
  | (i, v) :: parts, cells, r, h => by
    unfold fillA at h
    split at h
    · cases h
    · split at h
      · cases h
      · split at h
        · cases h
        · split at h
          · rename_i c2 hset
            rw [fillA_length h, (setAt_spec hset).1]
          · cases h
theorem SlOk.new {len sz c : Nat} (hl : len ≤ c) : SlOk 0 len sz none (c * sz) 0 c := ⟨hl, .inl rfl, by omega, by simp, by simp⟩
theorem opBuildSlice_ok {t : TypeId} {len : Nat} {parts : List (Nat × AV)} {parts' : Array (Nat × Value)} (hp : PRel E ρ parts parts'.toList) :
    GoodA E P ρ h nx w (Instr.buildSlice t len parts') (opBuildSlice P t len parts h nx) := by
  unfold opBuildSlice
  split
  · rename_i e he
    have hd := elemSl_some he
    split
    · rename_i s z hs hz
      obtain ⟨zv, hz1, hz2⟩ := zeroC_some hz
      split
      · rename_i cs hc hf
        simp only [Bool.and_eq_true, Nat.ble_eq, Nat.beq_eq] at hc
        obtain ⟨hle, hzs⟩ := hc
        have hzs : z.length = s := hzs
        have hzl := (hz2 E.σ ρ).length
        simp only [Array.length_toList] at hzl
        have hrow : ∃ zero : Array Value, ((len * s = 0 ∧ zero = #[]) ∨ (len * s ≠ 0 ∧ zero = zv.cells)) ∧
            LRel E.σ ρ (repl z len) ((Array.range (len * s)).map fun i => zero[i % zero.size]!).toList := by
          by_cases h0 : len * s = 0
          · refine ⟨#[], .inl ⟨h0, rfl⟩, ?_⟩
            rw [h0]
            have : repl z len = [] := List.length_eq_zero_iff.1 (by rw [repl_length, hzs, h0])
            rw [this]; simp [LRel]
          · refine ⟨zv.cells, .inr ⟨h0, rfl⟩, ?_⟩
            rw [zeros_eq zv.cells len _ (by rw [← hzl, hzs])]
            exact repl_rel (hz2 E.σ ρ) len
        obtain ⟨zero, hr1, hr2⟩ := hrow
        obtain ⟨rv, h3, h4⟩ := fillA_ok (place' := fun i => some (i * s, s)) (fun i p hp => hp) hp hf hr2
        simp only [fL_eq]
        refine mkObj_elim (E := E) trivial fun o ho => ?_
        simp only [fN_eq']
        rw [newO_eq]
        have hN : rv.size = len * s := by
          have e1 := h4.length
          rw [fillA_length hf, repl_length, hzs, Array.length_toList] at e1
          exact e1.symm
        refine goodA_val (O := .cells rv e (0, 0)) (N := len * s) (n := w.drawn) (v := .slice (some ⟨w.heap.size, 0, none⟩) len len) ?_ ?_ rfl fun ρ' a _ hp => ?_
        · simp only [Instr.buildSlice, Sem.run_bind, run_underlying hd, Result.andThen_ok, run_sizeOf' hs]
          rw [if_neg (by omega)]
          rcases hr1 with ⟨h0, rfl⟩ | ⟨h0, rfl⟩
          · rw [if_pos h0]
            simp only [Sem.run_bind, Sem.run_pure, Result.andThen_ok]
            rw [h3]
            simp [run_newRow]
          · rw [if_neg h0]
            simp only [Sem.run_bind, Sem.run_pure, Result.andThen_ok, hz1]
            rw [h3]
            simp [run_newRow]
        · have := ho ρ rv #[] e h4 (fun _ => rfl)
          rw [← hN]; simpa using this
        · simp only [reId, VRel]; exact ⟨_, _, _, _, hp, rfl, SlOk.new (Nat.le_refl _)⟩
      · exact goodA_bad
    · exact goodA_bad
  · exact goodA_bad

theorem i64_wrap_nat {n : Nat} (h : n ≤ 1000000) : IntKind.i64.wrap (n : Int) = n := wrap_nat (k := .i64) (by simp only [maxN]; omega)
theorem zeroByte_true {z : List AV} (hz : zeroByte z = true) : z = [.int .u8 0] := by
  unfold zeroByte at hz
  split at hz
  · have := Nat.eq_of_beq_eq_true hz; subst this; rfl
  · cases hz
theorem opMakeSlice_ok {t : TypeId} {la ca : AV} {lv cv : Value} (hl : VRel E.σ ρ la lv) (hc : VRel E.σ ρ ca cv) : GoodA E P ρ h nx w (Instr.makeSlice t lv cv) (opMakeSlice P t la ca h nx) := by
  unfold opMakeSlice
  split
  · rename_i e he
    have hd := elemSl_some he
    refine natOf_elim goodA_bad fun k1 l e1 => natOf_elim goodA_bad fun k2 c e2 => ?_
    subst e1; subst e2
    obtain rfl := hl.int_inv
    obtain rfl := hc.int_inv
    split
    · rename_i z s bytes hz hs hb
      obtain ⟨zv, hz1, hz2⟩ := zeroC_some hz
      obtain ⟨i, hi, hsz⟩ := szO_some hs
      have hb : i.bytes = bytes := by rw [hi] at hb; simpa using hb
      split
      · rename_i hcnd
        simp only [Bool.and_eq_true, Nat.ble_eq, Nat.beq_eq] at hcnd
        obtain ⟨⟨⟨h1, h2⟩, h3⟩, h4⟩ := hcnd
        have h1 : l ≤ c := h1
        have h2 : c ≤ 1000000 := h2
        have h3 : bytes ≤ 10000 := h3
        have h4 : z.length = s := h4
        have hzl := (hz2 E.σ ρ).length
        simp only [Array.length_toList] at hzl
        have hbc : bytes * c ≤ 10000 * 1000000 := Nat.mul_le_mul h3 h2
        have w1 := i64_wrap_nat (n := l) (by omega)
        have w2 := i64_wrap_nat h2
        have t1 : ¬ ((281474976710656 : Int) < (i.bytes : Int) * (c : Int)) := by
          have : ((i.bytes * c : Nat) : Int) ≤ ((10000 * 1000000 : Nat) : Int) := by rw [hb]; exact Int.ofNat_le.2 hbc
          rw [Int.natCast_mul] at this
          omega
        have t2 : ¬ ((c : Int) < (l : Int)) := by omega
        have t3 : ¬ ((c : Int) < 0) := by omega
        have t4 : ¬ ((l : Int) < 0) := by omega
        have hrow : ∃ row : Array Value, (Instr.makeSlice t (.int k1 (Int.ofNat l)) (.int k2 (Int.ofNat c))).run P w = .ok (.slice (some ⟨w.heap.size, 0, none⟩) l c) (w.alloc (.cells row e (0, 0))) ∧
            row.toList = (List.replicate c zv.cells.toList).flatten := by
          by_cases h0 : c * i.size = 0
          · refine ⟨(Array.range (c * i.size)).map (fun j => (#[] : Array Value)[j % (#[] : Array Value).size]!), ?_, ?_⟩
            · simp [Instr.makeSlice, run_underlying hd, asInt, asIntOf, run_typeInfo' hi, w1, w2, t1, t2, t3, t4, sizeOf, h0, run_newRow]
            · have : (List.replicate c zv.cells.toList).flatten = [] := by
                apply List.length_eq_zero_iff.1
                simp; rw [← hzl, h4, ← hsz]; exact h0
              rw [this, h0]; simp
          · refine ⟨_, ?_, zeros_eq zv.cells c (c * i.size) (by rw [← hzl, h4, hsz])⟩
            simp [Instr.makeSlice, run_underlying hd, asInt, asIntOf, run_typeInfo' hi, w1, w2, t1, t2, t3, t4, sizeOf, h0, hz1, run_newRow]
        obtain ⟨row, hr1, hr2⟩ := hrow
        have hrs : row.size = c * s := by
          rw [← Array.length_toList, hr2]; simp; rw [← hzl, h4]
        split
        · rename_i hzb
          have hz0 := zeroByte_true hzb
          subst hz0
          have h4 : 1 = s := h4
          subst h4
          rw [newO_eq]
          refine goodA_val (O := .cells row e (0, 0)) (N := c * 1) (n := w.drawn) hr1 ?_ rfl fun ρ' a _ hp => ?_
          · refine ⟨row, e, (0, 0), rfl, .inl rfl, hrs, by omega, fun _ => by omega, fun j v hj hv => ?_⟩
            have hzv : zv.cells.toList = [.int .u8 0] := by
              have := hz2 E.σ ρ
              simp only [LRel, VRel] at this
              obtain ⟨v, vs, e1, e2, e3⟩ := this
              rw [e1, e2, e3]
            rw [← Array.getElem?_toList, hr2, zeroes_get _ _ _ (by rw [hzv]; simpa using hj), hzv] at hv
            have : j % [Value.int .u8 0].length = 0 := by simp; omega
            rw [this] at hv
            simp only [List.getElem?_cons_zero, Option.some.injEq] at hv
            rw [← hv, byteAt_eq]; simp
          · simp only [reId, VRel]; exact ⟨_, _, _, _, hp, rfl, SlOk.new h1⟩
        · refine mkObj_elim (E := E) trivial fun o ho => ?_
          simp only [fN_eq']
          rw [newO_eq]
          refine goodA_val (O := .cells row e (0, 0)) (N := c * s) (n := w.drawn) hr1 ?_ rfl fun ρ' a _ hp => ?_
          · have := ho ρ row #[] e (by rw [hr2]; exact repl_rel (hz2 E.σ ρ) c) (fun _ => rfl)
            rw [← hrs]; simpa using this
          · simp only [reId, VRel]; exact ⟨_, _, _, _, hp, rfl, SlOk.new h1⟩
      · exact goodA_bad
    · exact goodA_bad
  · exact goodA_bad
end Go.Sx

/- The operations, part 9: string to bytes; ranges; stores. -/
namespace Go.Sx
open Go.MapKept
variable {E : Env} {P : Program} {ρ : Rho} {h : Tr AObj} {nx : Nat} {w : World}

theorem run_choose_cap (P : Program) (need old : Nat) (e : TypeId) (w : World) : ∃ c, need ≤ c ∧ (choose (.appendCap need old e)).run P w = .ok c w.drew :=
  ⟨_, Nat.le_add_right _ _, by simp [Question.forced, Question.cut]; rfl⟩
theorem getElem?_push_self {α : Type} (a : Array α) (x : α) : (a.push x)[a.size]? = some x := by simp
theorem freeze_alloc {cs : Array Value} {e : TypeId} : (w.alloc (.cells cs e (0, 0))).freeze { block := w.heap.size, off := cs.size } 1 = w.alloc (.cells cs e (cs.size, cs.size + 1)) := by
  simp only [World.freeze, World.alloc]
  rw [if_neg (by decide)]
  congr 1
  apply Array.ext_getElem?
  intro i
  by_cases hi : i = w.heap.size
  · subst hi; rw [Array.getElem?_modify, if_pos rfl, getElem?_push_self, getElem?_push_self]; simp
  · rw [Array.getElem?_modify, if_neg (fun e => hi e.symm), Array.getElem?_push, Array.getElem?_push, if_neg hi, if_neg hi]
theorem strBytes (l n : Nat) : (mkStr l n).data.map (fun b => Value.int .u8 b.toNat) = (valsOf l n).toArray := by
  rw [← Array.toList_inj]
  simp only [Array.toList_map, mkStr_toList]
  apply List.ext_getElem?
  intro i
  by_cases hi : i < l
  · rw [List.getElem?_map, bytesOf_get hi, valsOf_get hi]
    have := byteAt_lt n i
    simp; omega
  · rw [List.getElem?_eq_none (by simp [bytesOf_length]; omega), List.getElem?_eq_none (by rw [valsOf_length]; omega)]

theorem conv_bytes {src dst : TypeId} {xa : AV} {xv : Value} (hx : VRel E.σ ρ xa xv) {e0 : TypeId} (hd0 : P.underlying dst = some (.slice e0)) (hns : (∀ e, P.underlying src ≠ some (.slice e)) ∨ ∃ l n, xa = .str l n) :
    GoodA E P ρ h nx w (convert src dst xv) (opConvert P src dst xa h nx) := by
  unfold opConvert
  split
  · rename_i hd; rw [hd0] at hd; cases hd
  · rename_i hd; rw [hd0] at hd; cases hd
  · rename_i hd; rw [hd0] at hd; cases hd
  · rename_i hs _
    rcases hns with hns | ⟨l, n, e⟩
    · exact absurd hs (hns _)
    · cases e
  · rename_i s e l n hs hd
    obtain ⟨rfl, hn⟩ := hx.str_inv
    split
    · rename_i hb
      have he := isByte_true hb
      rw [newO_eq]
      obtain ⟨c, hc, hrun⟩ := run_choose_cap P l 0 e w
      have hsz : ((valsOf l n).toArray ++ Array.replicate (c - l) (Value.int .u8 0)).size = c := by simp [valsOf_length]; omega
      refine goodA_val (O := .cells ((valsOf l n).toArray ++ Array.replicate (c - l) (.int .u8 0)) e (c, c + 1)) (N := c) (n := w.drawn + 1) (v := .slice (some ⟨w.heap.size, 0, none⟩) l c) ?_ ?_ rfl fun ρ' a _ hp => ?_
      · have hf := freeze_alloc (w := w.drew) (cs := (valsOf l n).toArray ++ Array.replicate (c - l) (Value.int .u8 0)) (e := e)
        rw [hsz] at hf
        have hsh : (shape w.heap.size).run P (w.drew.alloc (.cells ((valsOf l n).toArray ++ Array.replicate (c - l) (Value.int .u8 0)) e (0, 0))) =
            .ok (some (e, c)) (w.drew.alloc (.cells ((valsOf l n).toArray ++ Array.replicate (c - l) (Value.int .u8 0)) e (0, 0))) := by
          rw [run_shape]
          have : (w.drew.alloc (.cells ((valsOf l n).toArray ++ Array.replicate (c - l) (Value.int .u8 0)) e (0, 0))).heap[w.heap.size]? = some (.cells ((valsOf l n).toArray ++ Array.replicate (c - l) (Value.int .u8 0)) e (0, 0)) := getElem?_push_self _ _
          simp only [World.shape?, this, hsz]
        have hconv : (convert src dst (.string (mkStr l n))).run P w = (Conv.stringToBytes e (mkStr l n)).run P w := by
          cases s <;> simp [convert, run_underlying hs, run_underlying hd, run_underlying he]
        rw [hconv]
        simp only [Conv.stringToBytes, Sem.run_bind, mkStr_size, hrun, Result.andThen_ok, strBytes, run_newRow, markStringish, Sem.run_pure]
        have e1 : w.drew.heap.size = w.heap.size := rfl
        rw [e1, hsh]
        simp only [Result.andThen_ok, run_freeze]
        rw [e1] at hf
        rw [hf]
        rfl
      · refine ⟨_, e, (c, c + 1), rfl, .inr rfl, hsz, hc, (fun hh => by cases hh), fun i v hi hv => ?_⟩
        rw [Array.getElem?_append_left (by simp [valsOf_length]; omega)] at hv
        simp only [List.getElem?_toArray, valsOf_get hi, Option.some.injEq] at hv
        exact hv.symm
      · simp only [reId, VRel]
        exact ⟨_, _, _, _, hp, rfl, by have := SlOk.new (sz := 1) hc; rwa [Nat.mul_one] at this⟩
    · exact goodA_bad
  · rename_i hd _ _; rw [hd0] at hd; cases hd
  · exact goodA_bad

theorem opRange_ok (H : HRel E ρ h nx w) {t : TypeId} {xa : AV} {xv : Value} (hx : VRel E.σ ρ xa xv) : GoodA E P ρ h nx w (Instr.range t xv) (opRange P t xa h nx) := by
  have fin : ∀ (o : AObj) (O : Obj) (N : Nat), ObjRel E.σ ρ N o O → (Instr.range t xv).run P w = .ok (.pointer (some ⟨w.heap.size, 0, none⟩)) (w.alloc O) → GoodA E P ρ h nx w (Instr.range t xv) (newO o h nx (.ptr nx 0)) := by
    intro o O N ho hr
    rw [newO_eq]
    refine goodA_val (n := w.drawn) hr ho rfl fun ρ' a _ hp => ?_
    simp only [reId, VRel]; exact ⟨_, _, hp, rfl⟩
  unfold opRange
  split
  · rename_i l n hd
    obtain ⟨rfl, hn⟩ := hx.str_inv
    exact fin _ (.stringIter (mkStr l n) 0) 0 ⟨rfl, hn⟩ (by simp [Instr.range, run_underlying hd])
  · rename_i hd
    obtain rfl : xv = .map none := by simpa only [VRel] using hx
    exact fin _ (.mapIter none 0 #[] 0) 0 ⟨none, rfl, fun _ => rfl, fun _ e => by cases e⟩ (by simp [Instr.range, run_underlying hd])
  · rename_i m hd
    have hx' := hx
    simp only [VRel] at hx'
    obtain ⟨b, N, hp, rfl⟩ := hx'
    refine onObj_elim goodA_bad fun o hg => ?_
    split
    · rename_i es clock
      obtain ⟨es', hO, hm⟩ := map_obj H hg hp
      exact fin _ (.mapIter (some b) clock #[] clock) 0 ⟨some b, rfl, (fun e => by cases e), fun a e => by cases e; exact ⟨b, N, hp, rfl⟩⟩ (by simp [Instr.range, run_underlying hd, run_getObj_map' hO])
    · exact goodA_bad
  · exact goodA_bad
end Go.Sx

/- The operations, part 10: stores, changes of maps. -/
namespace Go.Sx
open Go.MapKept
variable {E : Env} {P : Program} {ρ : Rho} {h : Tr AObj} {nx : Nat} {w : World}

theorem HRel.congr {h' : Tr AObj} (H : HRel E ρ h nx w) (he : ∀ x, h'.get x = h.get x) : HRel E ρ h' nx w :=
  ⟨fun a o b N hg hp => H.obj a o b N (by rw [← he]; exact hg) hp, fun a a' o o' b N N' hg hg' => H.inj a a' o o' b N N' (by rw [← he]; exact hg) (by rw [← he]; exact hg'),
    H.new, H.glob, fun a o b N hg => H.own a o b N (by rw [← he]; exact hg), H.keep, H.size, H.tape, H.os, H.out, H.low⟩
theorem HRel.same (H : HRel E ρ h nx w) {a : Nat} {o : AObj} (hg : h.get a = some o) : HRel E ρ (h.set (some o) a) nx w := H.congr fun x => by
  rw [Tr.get_set]; split
  · rename_i e; rw [e, hg]
  · rfl
theorem HRel.setset {a : Nat} {o1 o2 : AObj} (H : HRel E ρ ((h.set (some o1) a).set (some o2) a) nx w) : HRel E ρ (h.set (some o2) a) nx w := H.congr fun x => by
  rw [Tr.get_set, Tr.get_set, Tr.get_set]; split <;> rfl

theorem setCell_heap {b i : Nat} {cs : Array Value} {e : TypeId} {fr : Nat × Nat} {v : Value} (hO : w.heap[b]? = some (.cells cs e fr)) :
    (w.setCell ⟨b, i, none⟩ v).heap = w.heap.setIfInBounds b (.cells (cs.setIfInBounds i v) e fr) := by
  have hb : b < w.heap.size := (Array.getElem?_eq_some_iff.1 hO).1
  simp only [World.setCell]
  apply Array.ext_getElem?
  intro j
  rw [Array.getElem?_modify, Array.getElem?_setIfInBounds]
  by_cases e : b = j
  · subst e; rw [if_pos rfl, if_pos rfl, if_pos hb, hO]; rfl
  · rw [if_neg e, if_neg e]

theorem store_ok (H : HRel E ρ h nx w) {a b N i : Nat} {o o' : AObj} {av : AV} {v : Value} (hg : h.get a = some o) (hp : ρ a = some (b, N)) (hs : CellSet o i av o') (hv : VRel E.σ ρ av v) :
    ∃ w', (store ⟨b, i, none⟩ v).run P w = .ok () w' ∧ HRel E ρ (h.set (some o') a) nx w' := by
  obtain ⟨O, hO, ho⟩ := H.obj a o b N hg hp
  have fin : ∀ (cs : Array Value) (e : TypeId) (fr : Nat × Nat), O = .cells cs e fr → i < cs.size → ¬ (fr.1 ≤ i ∧ i < fr.2) → v.oneCell' = true → o.isRo = false → ObjRel E.σ ρ N o' (.cells (cs.setIfInBounds i v) e fr) →
      ∃ w', (store ⟨b, i, none⟩ v).run P w = .ok () w' ∧ HRel E ρ (h.set (some o') a) nx w' := by
    intro cs e fr hOe hi hfr h1 hro ho'
    subst hOe
    have hcell : w.cell? ⟨b, i, none⟩ = some cs[i] := by rw [cell?_of hO]; simp [hi]
    have hfro : w.frozen? ⟨b, i, none⟩ = false := by
      obtain ⟨lo, hi'⟩ := fr
      simp only [World.frozen?, hO, Bool.and_eq_false_iff, decide_eq_false_iff_not]
      simp only at hfr
      omega
    refine ⟨w.setCell ⟨b, i, none⟩ v, ?_, H.update hg hro hp ho' (setCell_heap hO) rfl rfl rfl⟩
    rw [run_store P w _ v _ h1, hcell]
    simp [hfro]
  cases o with
  | cells x n c =>
    obtain ⟨hi, h1, rfl⟩ := hs
    obtain ⟨cs, e, rfl, h2, h3, h4, h5⟩ := ho
    refine fin cs e (0, 0) rfl (by omega) (by simp) (VRel.isOne h1 hv) rfl ⟨_, e, rfl, by simp [h2], h3, h4, fun j u hj hu => ?_⟩
    rw [Tr.get_set]
    rw [Array.getElem?_setIfInBounds] at hu
    by_cases e : j = i
    · subst e
      rw [if_pos rfl, if_pos (by omega)] at hu; cases hu
      rw [if_pos rfl]; exact hv
    · rw [if_neg (fun x => e x.symm)] at hu
      rw [if_neg e]; exact h5 j u hj hu
  | bytes x n c =>
    obtain ⟨hi, m, hm, rfl, rfl⟩ := hs
    obtain ⟨cs, e, fr, rfl, hfr, h2, h3, h4, h5⟩ := ho
    obtain rfl := hv.int_inv
    refine fin cs e fr rfl (by omega) (by rcases hfr with rfl | rfl <;> simp; omega) rfl rfl ⟨_, e, fr, rfl, hfr, by simp [h2], h3, h4, fun j u hj hu => ?_⟩
    rw [byteAt_spl (by simpa using hm)]
    rw [Array.getElem?_setIfInBounds] at hu
    by_cases e : j = i
    · subst e
      rw [if_pos rfl, if_pos (by omega)] at hu; cases hu
      rw [if_pos (by omega), Nat.sub_self, byteAt_eq]
      simp only [Nat.mul_zero, Nat.pow_zero, Nat.div_one]
      rw [Nat.mod_eq_of_lt hm]
    · rw [if_neg (fun x => e x.symm)] at hu
      rw [if_neg (by omega)]; exact h5 j u hj hu
  | ro n c => exact hs.elim
  | map es clock => exact hs.elim
  | strIter l n pos => exact hs.elim
  | mapIter m s se st => exact hs.elim
  | loop a b c d e f g h i j => exact hs.elim
  | defd c => exact hs.elim

theorem storeCells_ok (a b N o : Nat) (hp : ρ a = some (b, N)) : ∀ (l : List AV) (vs : List Value) (k : Nat) (h : Tr AObj) (w : World) (obj obj' : AObj), HRel E ρ h nx w → h.get a = some obj → CellsSet obj (o + k) l obj' → LRel E.σ ρ l vs →
    ∃ w', (storeCells ⟨b, o, none⟩ vs k).run P w = .ok () w' ∧ HRel E ρ (h.set (some obj') a) nx w'
  | _, vs, k, h, w, obj, _, H, hg, .nil, hl => by
    simp only [LRel] at hl; subst hl
    exact ⟨w, rfl, H.same hg⟩
  | _, vs, k, h, w, obj, _, H, hg, .cons (v := av) (l := l) hc hcs, hl => by
    simp only [LRel] at hl
    obtain ⟨v, vs', rfl, hv, hl⟩ := hl
    obtain ⟨w1, h1, H1⟩ := store_ok (P := P) H hg hp hc hv
    obtain ⟨w2, h2, H2⟩ := storeCells_ok a b N o hp l vs' (k + 1) _ w1 _ _ H1 (by rw [Tr.get_set, if_pos rfl]) hcs hl
    refine ⟨w2, ?_, H2.setset⟩
    simp only [storeCells, Sem.run_bind, addr_add, h1, Result.andThen_ok, h2]

theorem opStore_ok (H : HRel E ρ h nx w) {t : TypeId} {pa va : AV} {pv vv : Value} (hp : VRel E.σ ρ pa pv) (hv : VRel E.σ ρ va vv) :
    Good E P ρ nx w (do Instr.storeAt t pv vv; pure (.tuple #[])) (opStore P t pa va h nx) := by
  unfold opStore
  refine onPtr_elim good_bad fun a off he => ?_
  subst he
  obtain ⟨b, N, hpa, rfl⟩ := hp.ptr_inv
  refine onObj_elim good_bad fun o hg => ?_
  split
  · rename_i n hn
    split
    · rename_i l hl
      split
      · rename_i hnl
        have hnl : n = l.length := Nat.eq_of_beq_eq_true hnl
        refine writeCells_elim good_bad fun o' hcs => ?_
        simp only [setK_eq']
        have hlr := VRel.cells_ok hl hv
        obtain ⟨w', h1, H1⟩ := storeCells_ok (P := P) a b N off hpa l vv.cells.toList 0 h w o o' H hg hcs hlr
        refine ⟨.tuple #[], w', ρ, ?_, H1, Ext.refl _ _, by simp only [VRel, LRel]; exact ⟨_, rfl, rfl⟩⟩
        have hs : vv.cells.size = n := by rw [hnl, ← Array.length_toList]; exact hlr.length.symm
        simp [Instr.storeAt, Instr.sureAddr, storeVar, run_sizeOf' hn, hs, h1]
      · exact good_bad
    · exact good_bad
  · exact good_bad
end Go.Sx
