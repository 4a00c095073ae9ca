/- Snapshots are sound; runs in segments. -/
import Derived.Test.YtkohmamikbdloaaGreatDoorXe
import Derived.Test.YtkohmamikbdloaaGreatDoorXf
set_option linter.all false
/- Snapshots: a state that bears what is written may be put down for it. -/
namespace Go.Sx

theorem trOf_eq {α β : Type} (l : List (Nat × α)) : ∀ (t : Tr α) (k : Tr α → β), trOf l t k = k (l.foldl (fun t x => t.set (some x.2) x.1) t) := by
  induction l with
  | nil => intro t k; rfl
  | cons x l ih => intro t k; simp only [trOf, lRec_cons, setK_eq'] at ih ⊢; rw [ih]; rfl
def trL {α : Type} (l : List (Nat × α)) : Tr α := l.foldl (fun t x => t.set (some x.2) x.1) .leaf
theorem foldSet_get {α : Type} : ∀ (l : List (Nat × α)) (t : Tr α) (i : Nat) (v : α), (l.foldl (fun t x => t.set (some x.2) x.1) t).get i = some v → (i, v) ∈ l ∨ t.get i = some v
  | [], t, i, v, h => .inr h
  | (j, u) :: l, t, i, v, h => by
    rcases foldSet_get l _ i v h with h | h
    · exact .inl (List.mem_cons_of_mem _ h)
    · rw [Tr.get_set] at h
      split at h
      · rename_i e; cases h; subst e; exact .inl List.mem_cons_self
      · exact .inr h
theorem leaf_get {α : Type} (i : Nat) : (Tr.leaf : Tr α).get i = none := by cases i <;> rfl
theorem trOf_leaf {α β : Type} (l : List (Nat × α)) (k : Tr α → β) : trOf l .leaf k = k (trL l) := trOf_eq l _ k
theorem tfOf_eq {β : Type} (M : Nat → Nat) (fn : Nat) (td : List SI) (tm loc : List (Nat × AV)) (defers : List AD) (dfr : Bool) (round : Option Nat) (todo : List It) (k : TF → β) :
    tfOf M (.mk fn td tm loc defers dfr round) todo k = k (.mk fn (M fn) (trL tm) (locOf loc) todo defers dfr round) := by
  simp only [tfOf, trOf_leaf, fN_eq']
def tfS (M : Nat → Nat) (s : SF) (todo : List It) : TF := match s with
  | .mk fn _ tm loc defers dfr round => .mk fn (M fn) (trL tm) (locOf loc) todo defers dfr round
theorem tfOf_eq' {β : Type} (M : Nat → Nat) (s : SF) (todo : List It) (k : TF → β) : tfOf M s todo k = k (tfS M s todo) := by cases s; exact tfOf_eq ..
def tfsS (M : Nat → Nat) : List SF → List (List It) → List TF
  | f :: fs, t :: ts => tfS M f t :: tfsS M fs ts
  | _, _ => []
theorem tfsOf_eq {β : Type} (M : Nat → Nat) : ∀ (fs : List SF) (ts : List (List It)) (k : List TF → β), tfsOf M fs ts k = k (tfsS M fs ts)
  | [], ts, k => by cases ts <;> rfl
  | f :: fs, [], k => rfl
  | f :: fs, t :: ts, k => by simp only [tfsOf, tfOf_eq', tfsOf_eq M fs ts]; rfl

section
variable {E : Env} {ρ : Rho}
theorem leTm_spec {m : Nat} {tm : Tr AV} {loc : Loc} {one : Bool} : ∀ (l : List (Nat × AV)), leTm l m tm loc one = true → ∀ t v, (t, v) ∈ l → (if one then place m t = 1 else 1 < place m t) ∧ leV v (evT t m tm loc) = true
  | [], _, t, v, h => by cases h
  | (t', v') :: l, hk, t, v, h => by
    simp only [leTm, Bool.and_eq_true] at hk
    obtain ⟨⟨h1, h2⟩, h3⟩ := hk
    rcases List.mem_cons.1 h with e | h
    · cases e
      refine ⟨?_, h2⟩
      cases one
      · simpa using h1
      · exact Nat.eq_of_beq_eq_true h1
    · exact leTm_spec l h3 t v h
theorem lookF_mem : ∀ (l : List (Nat × AV)) (t : Nat), lookF (locOf l) t = .unk ∨ (t, lookF (locOf l) t) ∈ l
  | [], t => .inl rfl
  | (t', v) :: l, t => by
    simp only [locOf, lookF_cons]
    by_cases e : t' = t
    · subst e; rw [if_pos rfl]; exact .inr List.mem_cons_self
    · rw [if_neg e]
      rcases lookF_mem l t with h | h
      · exact .inl h
      · exact .inr (List.mem_cons_of_mem _ h)
/-- the temporaries that are written are weaker -/
theorem leTm_ev {m : Nat} {tm : Tr AV} {loc : Loc} {l l2 : List (Nat × AV)} (h1 : leTm l m tm loc false = true) (h2 : leTm l2 m tm loc true = true) (t : Nat) :
    leV (evT t m (trL l) (locOf l2)) (evT t m tm loc) = true := by
  have hp := place_lt m t
  have hcase : place m t = 0 ∨ place m t = 1 ∨ ∃ k, place m t = k + 2 := by
    rcases Nat.lt_or_ge (place m t) 2 with h | h
    · omega
    · exact .inr (.inr ⟨place m t - 2, by omega⟩)
  rcases hcase with h | h | ⟨k, h⟩
  · simp only [evT, h, place3_zero, leV]
  · rcases lookF_mem l2 t with hl | hl
    · have e : evT t m (trL l) (locOf l2) = .unk := by simp only [evT, h, place3_one, hl]
      rw [e]; simp only [leV]
    · have e : evT t m (trL l) (locOf l2) = lookF (locOf l2) t := by simp only [evT, h, place3_one]
      rw [e]; exact (leTm_spec l2 h2 t _ hl).2
  · have e : evT t m (trL l) (locOf l2) = orUnk ((trL l).get t) := by simp only [evT, h, place3_two, getF_eq']
    rw [e]
    cases hg : (trL l).get t with
    | none => simp only [orUnk, oRec_none, leV]
    | some v =>
      rcases foldSet_get l .leaf t v hg with hm | hm
      · exact (leTm_spec l h1 t v hm).2
      · rw [leaf_get] at hm; cases hm
theorem TmOk.le {σ : Nat → Value} {ex : Nat → Prop} {m : Nat} {tm tm' : Tr AV} {loc loc' : Loc} {tmps : Array Value} (ht : TmOk E.σ ρ ex m tm loc tmps) (h : ∀ t, leV (evT t m tm' loc') (evT t m tm loc) = true) : TmOk E.σ ρ ex m tm' loc' tmps :=
  ⟨ht.1, fun t hx => leV_ok _ _ _ (h t) (ht.2 t hx)⟩
theorem leV_id {u v : AV} {a : Nat} (hl : leV u v = true) (ha : idOf u = some a) : idOf v = some a := by
  cases u <;> simp only [idOf, reduceCtorEq, Option.some.injEq] at ha <;> cases v <;> simp only [leV, Bool.false_eq_true, Bool.and_eq_true] at hl <;> simp only [idOf, Option.some.injEq]
  · rw [← Nat.eq_of_beq_eq_true hl.1]; exact ha
  · rw [← Nat.eq_of_beq_eq_true hl.1.1.1.1]; exact ha
  · rw [← Nat.eq_of_beq_eq_true hl]; exact ha
theorem DrawI.le {P : Program} {lo : Nat} {all : Array Oper} {pl : List PS} {done rest : List Nat} {V K S m : Nat} {tm tm' : Tr AV} {loc loc' : Loc} {nx : Nat} {tmps : Array Value} (D : DrawI E P ρ lo all pl done rest V K S m tm loc nx tmps)
    (h : ∀ t, leV (evT t m tm' loc') (evT t m tm loc) = true) : DrawI E P ρ lo all pl done rest V K S m tm' loc' nx tmps :=
  ⟨D.ord, D.snd, D.okp, D.dv, D.an, D.sd, D.tms.le (σ := E.σ) h, fun i o d a h1 h2 h3 h4 h5 h6 => D.pend i o d a h1 h2 h3 h4 h5 (leV_id (h d) h6),
    fun i j o q d e a h1 h2 h3 h4 h5 h6 h7 h8 h9 h10 h11 h12 => D.dist i j o q d e a h1 h2 h3 h4 h5 h6 h7 h8 h9 h10 (leV_id (h d) h11) (leV_id (h e) h12)⟩
theorem leD_ok {a b : AD} {d : Deferred} (hl : leD a b = true) (hb : DRel E.σ ρ b d) : DRel E.σ ρ a d := by
  cases a <;> cases b <;> simp only [leD, Bool.false_eq_true, Bool.and_eq_true] at hl
  · cases hb with
    | call h => rw [Nat.eq_of_beq_eq_true hl.1]; exact .call (leL_ok _ _ _ hl.2 h)
  · rw [Nat.eq_of_beq_eq_true hl]; exact hb
theorem leDs_ok : ∀ {l m : List AD} {ds : List Deferred}, leDs l m = true → DsRel E.σ ρ m ds → DsRel E.σ ρ l ds
  | [], [], ds, _, h => h
  | [], _ :: _, ds, hl, h => by simp [leDs] at hl
  | _ :: _, [], ds, hl, h => by simp [leDs] at hl
  | a :: l, b :: m, ds, hl, h => by
    simp only [leDs, Bool.and_eq_true] at hl
    cases h with
    | cons h1 h2 => exact .cons (leD_ok hl.1 h1) (leDs_ok hl.2 h2)
theorem leEs_ok : ∀ {l m : List AME} {es : List MapEntry}, leEs l m = true → MRel E.σ ρ m es → MRel E.σ ρ l es
  | [], [], es, _, h => h
  | [], _ :: _, es, hl, h => by simp [leEs] at hl
  | .mk .. :: _, [], es, hl, h => by simp [leEs] at hl
  | .mk k v b :: l, .mk k' v' b' :: m, es, hl, h => by
    simp only [leEs, Bool.and_eq_true] at hl
    obtain ⟨⟨⟨h1, h2⟩, h3⟩, h4⟩ := hl
    have h3 := Nat.eq_of_beq_eq_true h3
    subst h3
    cases h with
    | cons g1 g2 g3 => exact .cons (leV_ok _ _ _ h1 g1) (leV_ok _ _ _ h2 g2) (leEs_ok h4 g3)
theorem leN_eq : ∀ {l m : List Nat}, leN l m = true → l = m
  | [], [], _ => rfl
  | [], _ :: _, hl => by simp [leN] at hl
  | _ :: _, [], hl => by simp [leN] at hl
  | a :: l, b :: m, hl => by
    simp only [leN, Bool.and_eq_true] at hl
    rw [Nat.eq_of_beq_eq_true hl.1, leN_eq hl.2]
theorem leO2_ok {o p : AObj} {N : Nat} {O : Obj} (hl : leO2 o p = true) (hp : ObjRel E.σ ρ N p O) : ObjRel E.σ ρ N o O := by
  unfold leO2 at hl
  split at hl
  · exact leO_ok (by simpa only [leO] using hl) hp
  · exact leO_ok (by simpa only [leO] using hl) hp
  · rename_i n c m d
    simp only [Bool.and_eq_true] at hl
    have h2 := Nat.eq_of_beq_eq_true hl.1
    subst h2
    obtain ⟨cs, e, fr, q1, q2, q3⟩ := hp
    exact ⟨cs, e, fr, q1, q2, fun i v hi hv => leV_ok _ _ _ (leCells_spec n hl.2 i hi) (q3 i v hi hv)⟩
  · rename_i l k m j
    simp only [Bool.and_eq_true] at hl
    have h2 := Nat.eq_of_beq_eq_true hl.1
    subst h2
    obtain ⟨es, q1, q2⟩ := hp
    exact ⟨es, q1, leEs_ok hl.2 q2⟩
  · rename_i l n p l' n' p'
    simp only [Bool.and_eq_true] at hl
    have h1 := Nat.eq_of_beq_eq_true hl.1.1; have h2 := Nat.eq_of_beq_eq_true hl.1.2; have h3 := Nat.eq_of_beq_eq_true hl.2
    subst h1; subst h2; subst h3; exact hp
  · rename_i m a s b m' a' s' b'
    simp only [Bool.and_eq_true] at hl
    obtain ⟨⟨⟨h1, h2⟩, h3⟩, h4⟩ := hl
    have h1 := leOpt_eq h1; have h2 := Nat.eq_of_beq_eq_true h2; have h3 := leN_eq h3; have h4 := Nat.eq_of_beq_eq_true h4
    subst h1; subst h2; subst h3; subst h4; exact hp
  · exact hp
  · obtain ⟨l', q1, q2⟩ := hp
    exact ⟨l', q1, leDs_ok hl q2⟩
  · cases hl
theorem leO2_ro {o p : AObj} (hl : leO2 o p = true) : o.isRo = p.isRo := by
  unfold leO2 at hl
  split at hl <;> first | rfl | cases hl
theorem leH_spec {h : Tr AObj} : ∀ (l : List (Nat × AObj)), leH h l = true → ∀ a o, (a, o) ∈ l → ∃ p, h.get a = some p ∧ leO2 o p = true
  | [], _, a, o, hm => by cases hm
  | (a', o') :: l, hk, a, o, hm => by
    simp only [leH, Bool.and_eq_true, getF_eq'] at hk
    obtain ⟨h1, h2⟩ := hk
    rcases List.mem_cons.1 hm with e | hm
    · cases e
      split at h1
      · rename_i p hp; exact ⟨p, hp, h1⟩
      · cases h1
    · exact leH_spec l h2 a o hm
theorem HRel.le {h : Tr AObj} {nx nx' : Nat} {w : World} (H : HRel E ρ h nx w) {l : List (Nat × AObj)} (hl : leH h l = true) (hn : nx ≤ nx') : HRel E ρ (trL l) nx' w := by
  have sub : ∀ a o, (trL l).get a = some o → ∃ p, h.get a = some p ∧ leO2 o p = true := by
    intro a o hg
    rcases foldSet_get l .leaf a o hg with hm | hm
    · exact leH_spec l hl a o hm
    · rw [leaf_get] at hm; cases hm
  refine ⟨fun a o b N hg hp => ?_, fun a a' o o' b N N' hg hg' hp hp' => ?_, fun a ha => H.new a (by omega), H.glob, fun a o b N hg hr hp => ?_, H.keep, H.size, H.tape, H.os, H.out, Nat.le_trans H.low hn⟩
  · obtain ⟨p, h1, h2⟩ := sub a o hg
    obtain ⟨O, h3, h4⟩ := H.obj a p b N h1 hp
    exact ⟨O, h3, leO2_ok h2 h4⟩
  · obtain ⟨p, h1, _⟩ := sub a o hg
    obtain ⟨p', h1', _⟩ := sub a' o' hg'
    exact H.inj a a' p p' b N N' h1 h1' hp hp'
  · obtain ⟨p, h1, h2⟩ := sub a o hg
    exact H.own a p b N h1 (by rw [← leO2_ro h2]; exact hr) hp
end

theorem leF_spec {M : Nat → Nat} {s : SF} {fn m : Nat} {tm : Tr AV} {loc : Loc} {todo : List It} {defers : List AD} {dfr : Bool} {round : Option Nat} (hl : leF M s (.mk fn m tm loc todo defers dfr round) = true) :
    ∃ tm' loc' defers', (∀ td, tfS M s td = .mk fn m tm' loc' td defers' dfr round) ∧ (∀ t, leV (evT t m tm' loc') (evT t m tm loc) = true) ∧ leDs defers' defers = true := by
  obtain ⟨fn', td', tml, locl, defers', dfr', round'⟩ := s
  simp only [leF, Bool.and_eq_true, beq_iff_eq] at hl
  obtain ⟨⟨⟨⟨⟨⟨h1, h2⟩, h3⟩, h4⟩, h5⟩, h6⟩, h7⟩ := hl
  have h1 := Nat.eq_of_beq_eq_true h1
  have h2 := Nat.eq_of_beq_eq_true h2
  have h7 := leOpt_eq h7
  subst h1; subst h2; subst h6; subst h7
  exact ⟨_, _, defers', fun td => rfl, leTm_ev h3 h4, h5⟩
theorem todosOf_cons {P : Program} {f : SF} {l : List SF} {ts : List (List It)} (h : todosOf P (f :: l) = some ts) : ∃ t ts', ts = t :: ts' ∧ todosOf P l = some ts' := by
  simp only [todosOf] at h
  split at h
  · rename_i t ts' h1 h2
    cases h
    exact ⟨t, ts', rfl, h2⟩
  · cases h
theorem stack_le {C : Cx} {ρ : Rho} : ∀ {fs : List SF} {cs : List TF} {lim : Nat} {d : Bool} {up : FuncId} {frs : List Frame}, leFs C.M fs cs = true → StackOk C ρ lim d up cs frs → StackOk C ρ lim d up (tfsS C.M fs (cs.map todoTF)) frs
  | [], [], lim, d, up, frs, _, hs => hs
  | [], _ :: _, lim, d, up, frs, hl, hs => by simp [leFs] at hl
  | _ :: _, [], lim, d, up, frs, hl, hs => by simp [leFs] at hl
  | s :: fs, c :: cs, lim, d, up, frs, hl, hs => by
    simp only [leFs, Bool.and_eq_true] at hl
    obtain ⟨fn, m, tm, loc, todo, defers, dfr, round⟩ := c
    obtain ⟨tm', loc', defers', e, hle, hld⟩ := leF_spec hl.1
    simp only [List.map_cons, tfsS, todoTF]
    rw [e todo]
    obtain ⟨f, fs', tmps, T, ds, rd, lo, h1, h2, h3, h4, h5, h6⟩ := hs
    refine ⟨f, fs', tmps, T, ds, rd, lo, h1, h2, leDs_ok hld h3, h4, ?_, stack_le hl.2 h6⟩
    rcases h5 with ⟨a, b, c, g⟩ | ⟨a, b, c⟩
    · exact .inl ⟨a, b, c, g.le (σ := C.E.σ) hle⟩
    · refine .inr ⟨a, b, ?_⟩
      rcases c with ⟨i, l, all, k, done, rest, V, K, S, k', q1, q2, q3, q4⟩ | ⟨q1, q2⟩
      · exact .inl ⟨i, l, all, k, done, rest, V, K, S, k', q1, q2, q3, q4.le hle⟩
      · exact .inr ⟨q1, q2.le (σ := C.E.σ) hle⟩

/-- what is written may be put down for the state -/
theorem chk_ok {C : Cx} {s : SS} {r : R} {Mc : Machine} (hc : chk C.M s r = todosS C.P s) (hr : ROk C r Mc) : ROk C (toR C.P C.M s) Mc := by
  obtain ⟨top, fs, hs, nx'⟩ := s
  simp only [todosS] at hc
  unfold toR
  simp only []
  cases ht : todosOf C.P (top :: fs) with
  | none => trivial
  | some ts =>
    cases ts with
    | nil => trivial
    | cons t ts =>
      simp only []
      rw [ht] at hc
      cases r <;> simp only [chk, reduceCtorEq] at hc
      rename_i todo fn m tm loc defers dfr round cs h nx
      split at hc
      · rename_i hk
        simp only [Option.some.injEq, List.cons.injEq] at hc
        obtain ⟨rfl, rfl⟩ := hc
        simp only [Bool.and_eq_true, Nat.ble_eq] at hk
        obtain ⟨⟨⟨⟨h1, h2⟩, h3⟩, h4⟩, h5⟩ := hk
        obtain ⟨tm', loc', defers', e, hle, hld⟩ := leF_spec h1
        simp only [tfOf_eq', tfsOf_eq, trOf_leaf, e todo]
        obtain ⟨ρ, w, tmps, T, ds, rd, frs, lo, rfl, H, hlo, htodo, hds, hrd, hst⟩ := hr
        refine ⟨ρ, w, tmps, T, ds, rd, frs, lo, rfl, H.le h3 h4, Nat.le_trans hlo h4, ?_, leDs_ok hld hds, hrd, stack_le h2 hst⟩
        rcases htodo with ⟨pl, all, k, done, rest, V, K, S, k', rfl, _⟩ | ⟨q1, q2⟩
        · simp [noDraw] at h5
        · exact .inr ⟨q1, q2.le (σ := C.E.σ) hle⟩
      · cases hc
end Go.Sx

/- Snapshots: objects under other numbers. -/
namespace Go.Sx
noncomputable section
def rn (l : List (Nat × Nat)) (a : Nat) : Nat := match l with
  | [] => a
  | (x, y) :: l => match Nat.beq x a with | true => y | false => rn l a
mutual
def mapV (f : Nat → Nat) : AV → AV
  | .ptr a o => .ptr (f a) o
  | .sl a o n s c => .sl (f a) o n s c
  | .map a => .map (f a)
  | .fn g x y => .fn g (mapL f x) (mapL f y)
  | .yield l => .yield (f l)
  | .iface t v => .iface t (mapV f v)
  | .agg l => .agg (mapL f l)
  | .tup l => .tup (mapL f l)
  | v => v
def mapL (f : Nat → Nat) : List AV → List AV
  | [] => []
  | v :: l => mapV f v :: mapL f l
end
def mapTr (f : Nat → Nat) : Tr AV → Tr AV
  | .leaf => .leaf
  | .node l x r => .node (mapTr f l) (x.map (mapV f)) (mapTr f r)
def mapD (f : Nat → Nat) : AD → AD
  | .call g l => .call g (mapL f l)
  | .coll r => .coll (f r)
def mapE (f : Nat → Nat) : AME → AME
  | .mk k v b => .mk (mapV f k) (mapV f v) b
def mapO (f : Nat → Nat) : AObj → Option AObj
  | .cells x n c => some (.cells x n (mapTr f c))
  | .bytes x n b => some (.bytes x n b)
  | .ro n c => some (.ro n (mapTr f c))
  | .map es k => some (.map (es.map (mapE f)) k)
  | .strIter l n p => some (.strIter l n p)
  | .mapIter m s l b => some (.mapIter (m.map f) s l b)
  | .defd none => some (.defd none)
  | .defd (some l) => some (.defd (some (l.map (mapD f))))
  | .loop .. => none
def plainSI : SI → Bool
  | .draw .. => false
  | .inRange .. => false
  | .endRange .. => false
  | _ => true
def mapF (f : Nat → Nat) : SF → Option SF
  | .mk fn todo tm loc ds dfr round => match todo.all plainSI, round with
    | true, none => some (.mk fn todo (tm.map fun x => (x.1, mapV f x.2)) (loc.map fun x => (x.1, mapV f x.2)) (ds.map (mapD f)) dfr none)
    | _, _ => none
def mapFs (f : Nat → Nat) : List SF → Option (List SF)
  | [] => some []
  | s :: l => match mapF f s, mapFs f l with
    | some s, some l => some (s :: l)
    | _, _ => none
def mapH (f : Nat → Nat) : List (Nat × AObj) → Option (List (Nat × AObj))
  | [] => some []
  | (a, o) :: l => match mapO f o, mapH f l with
    | some o, some l => some ((f a, o) :: l)
    | _, _ => none
/-- no two of these go to one place -/
def inj1 (f : Nat → Nat) (a : Nat) (o : Nat) : List (Nat × AObj) → Bool
  | [] => true
  | (b, _) :: l => (match Nat.beq o (f b) with | true => Nat.beq a b | false => true) && inj1 f a o l
def injH (f : Nat → Nat) (all : List (Nat × AObj)) : List (Nat × AObj) → Bool
  | [] => true
  | (a, _) :: l => fN (f a) (fun o => inj1 f a o all) && injH f all l
def lowR (nx : Nat) : List (Nat × Nat) → Bool
  | [] => true
  | (x, _) :: l => Nat.ble 64 x && Nat.blt x nx && lowR nx l
/-- the snapshot, with its objects' numbers as the state has them -/
def mapS (l : List (Nat × Nat)) (s : SS) : Option SS := match s with
  | .mk top fs h nx => match lowR nx l && injH (rn l) h h, mapF (rn l) top, mapFs (rn l) fs, mapH (rn l) h with
    | true, some top, some fs, some h => some (.mk top fs h nx)
    | _, _, _, _ => none
/-- as chk, with other numbers -/
def chkR (M : Nat → Nat) (l : List (Nat × Nat)) (s : SS) (r : R) : Option (List (List It)) := match mapS l s with
  | some s => chk M s r
  | none => none
end
end Go.Sx

/- Snapshots under other numbers: soundness. -/
namespace Go.Sx
variable {E : Env} {ρ : Rho} {f : Nat → Nat}

def Rho.via (ρ : Rho) (f : Nat → Nat) : Rho := fun a => ρ (f a)
mutual
theorem mapV_rel {σ : Nat → Value} : ∀ (v : AV) (x : Value), VRel σ ρ (mapV f v) x → VRel σ (ρ.via f) v x
  | .unk, _, _ => by simp [VRel]
  | .one, v, hv => by simpa [mapV, VRel] using hv
  | .sym i, v, hv => by simpa [mapV, VRel] using hv
  | .anyB, v, hv => by simpa [mapV, VRel] using hv
  | .anyI k, v, hv => by simpa [mapV, VRel] using hv
  | .bool b, v, hv => by simpa [mapV, VRel] using hv
  | .int k n, v, hv => by simpa [mapV, VRel] using hv
  | .intGe lo, v, hv => by simpa [mapV, VRel] using hv
  | .str l n, v, hv => by simpa [mapV, VRel] using hv
  | .nilPtr, v, hv => by simpa [mapV, VRel] using hv
  | .ptr a off, v, hv => by simpa only [mapV, VRel, Rho.via] using hv
  | .nilSl, v, hv => by simpa [mapV, VRel] using hv
  | .sl a off len sz cap, v, hv => by simpa only [mapV, VRel, Rho.via] using hv
  | .nilMap, v, hv => by simpa [mapV, VRel] using hv
  | .map a, v, hv => by simpa only [mapV, VRel, Rho.via] using hv
  | .nilFn, v, hv => by simpa [mapV, VRel] using hv
  | .fn g a b, v, hv => by
    simp only [mapV, VRel] at hv ⊢
    obtain ⟨xs, ys, h1, h2, h3⟩ := hv
    exact ⟨xs, ys, h1, mapL_rel a _ h2, mapL_rel b _ h3⟩
  | .yield l, v, hv => by simpa only [mapV, VRel, Rho.via] using hv
  | .nilIf, v, hv => by simpa [mapV, VRel] using hv
  | .iface t x, v, hv => by
    simp only [mapV, VRel] at hv ⊢
    obtain ⟨y, h1, h2⟩ := hv
    exact ⟨y, h1, mapV_rel x y h2⟩
  | .agg cs, v, hv => by
    simp only [mapV, VRel] at hv ⊢
    obtain ⟨vs, h1, h2⟩ := hv
    exact ⟨vs, h1, mapL_rel cs _ h2⟩
  | .tup cs, v, hv => by
    simp only [mapV, VRel] at hv ⊢
    obtain ⟨vs, h1, h2⟩ := hv
    exact ⟨vs, h1, mapL_rel cs _ h2⟩
theorem mapL_rel {σ : Nat → Value} : ∀ (l : List AV) (xs : List Value), LRel σ ρ (mapL f l) xs → LRel σ (ρ.via f) l xs
  | [], xs, h => by simpa [mapL, LRel] using h
  | v :: l, xs, h => by
    simp only [mapL, LRel] at h ⊢
    obtain ⟨y, ys, h1, h2, h3⟩ := h
    exact ⟨y, ys, h1, mapV_rel v y h2, mapL_rel l ys h3⟩
end
theorem mapTr_get : ∀ (t : Tr AV) (i : Nat), (mapTr f t).get i = (t.get i).map (mapV f)
  | .leaf, i => by rw [mapTr, leaf_get]; rfl
  | .node l x r, 0 => rfl
  | .node l x r, j + 1 => by
    simp only [mapTr, Tr.get]
    cases Nat.beq (Nat.land j 1) 0
    · exact mapTr_get r _
    · exact mapTr_get l _
theorem orOne_map (o : Option AV) : orOne (o.map (mapV f)) = mapV f (orOne o) := by cases o <;> rfl
theorem mapD_rel {σ : Nat → Value} {d : AD} {d' : Deferred} (h : DRel σ ρ (mapD f d) d') : DRel σ (ρ.via f) d d' := by
  cases d with
  | call g l => simp only [mapD] at h; cases h with | call a => exact .call (mapL_rel _ _ a)
  | coll r => simp only [mapD] at h; cases h with | coll a => exact .coll a
theorem mapDs_rel {σ : Nat → Value} : ∀ {l : List AD} {ds : List Deferred}, DsRel σ ρ (l.map (mapD f)) ds → DsRel σ (ρ.via f) l ds
  | [], ds, h => by cases h; exact .nil
  | d :: l, ds, h => by
    simp only [List.map_cons] at h
    cases h with | cons a b => exact .cons (mapD_rel a) (mapDs_rel b)
theorem mapEs_rel {σ : Nat → Value} : ∀ {l : List AME} {es : List MapEntry}, MRel σ ρ (l.map (mapE f)) es → MRel σ (ρ.via f) l es
  | [], es, h => by cases h; exact .nil
  | .mk k v b :: l, es, h => by
    simp only [List.map_cons, mapE] at h
    cases h with | cons a b c => exact .cons (mapV_rel _ _ a) (mapV_rel _ _ b) (mapEs_rel c)
theorem mapO_rel {σ : Nat → Value} {o o' : AObj} {N : Nat} {O : Obj} (hm : mapO f o = some o') (h : ObjRel σ ρ N o' O) : ObjRel σ (ρ.via f) N o O := by
  cases o with
  | cells x n c =>
    simp only [mapO, Option.some.injEq] at hm; subst hm
    obtain ⟨cs, e, h1, h2, h3, h4, h5⟩ := h
    refine ⟨cs, e, h1, h2, h3, h4, fun i v hi hv => ?_⟩
    have := h5 i v hi hv
    rw [mapTr_get, orOne_map] at this
    exact mapV_rel _ _ this
  | bytes x n b => simp only [mapO, Option.some.injEq] at hm; subst hm; exact h
  | ro n c =>
    simp only [mapO, Option.some.injEq] at hm; subst hm
    obtain ⟨cs, e, fr, h1, h2, h5⟩ := h
    refine ⟨cs, e, fr, h1, h2, fun i v hi hv => ?_⟩
    have := h5 i v hi hv
    rw [mapTr_get, orOne_map] at this
    exact mapV_rel _ _ this
  | map es k =>
    simp only [mapO, Option.some.injEq] at hm; subst hm
    obtain ⟨es', h1, h2⟩ := h
    exact ⟨es', h1, mapEs_rel h2⟩
  | strIter l n p => simp only [mapO, Option.some.injEq] at hm; subst hm; exact h
  | mapIter m s l b =>
    simp only [mapO, Option.some.injEq] at hm; subst hm
    obtain ⟨m', h1, h2, h3⟩ := h
    refine ⟨m', h1, fun e => h2 (by rw [e]; rfl), fun a e => ?_⟩
    obtain ⟨b, N, g1, g2⟩ := h3 (f a) (by rw [e]; rfl)
    exact ⟨b, N, g1, g2⟩
  | loop => cases hm
  | defd c =>
    cases c with
    | none => simp only [mapO, Option.some.injEq] at hm; subst hm; exact h
    | some l =>
      simp only [mapO, Option.some.injEq] at hm; subst hm
      obtain ⟨l', h1, h2⟩ := h
      exact ⟨l', h1, mapDs_rel h2⟩
theorem mapO_ro {o o' : AObj} (hm : mapO f o = some o') : o'.isRo = o.isRo := by
  cases o <;> try (simp only [mapO, Option.some.injEq] at hm; subst hm; rfl)
  · cases hm
  · rename_i c; cases c <;> (simp only [mapO, Option.some.injEq] at hm; subst hm; rfl)

-- temporaries
theorem foldTm_get : ∀ (l : List (Nat × AV)) (t t' : Tr AV) (i : Nat), t'.get i = (t.get i).map (mapV f) →
    ((l.map fun x => (x.1, mapV f x.2)).foldl (fun t x => t.set (some x.2) x.1) t').get i = ((l.foldl (fun t x => t.set (some x.2) x.1) t).get i).map (mapV f)
  | [], t, t', i, h => h
  | (j, v) :: l, t, t', i, h => by
    simp only [List.map_cons, List.foldl_cons]
    refine foldTm_get l _ _ i ?_
    rw [Tr.get_set, Tr.get_set]
    split
    · rfl
    · exact h
theorem trL_map (l : List (Nat × AV)) (i : Nat) : (trL (l.map fun x => (x.1, mapV f x.2))).get i = ((trL l).get i).map (mapV f) := foldTm_get l _ _ i (by rw [leaf_get]; rfl)
theorem lookF_map : ∀ (l : List (Nat × AV)) (t : Nat), lookF (locOf (l.map fun x => (x.1, mapV f x.2))) t = mapV f (lookF (locOf l) t)
  | [], t => rfl
  | (j, v) :: l, t => by
    simp only [List.map_cons, locOf, lookF_cons]
    split
    · rfl
    · exact lookF_map l t
theorem evT_map (l l2 : List (Nat × AV)) (m t : Nat) : evT t m (trL (l.map fun x => (x.1, mapV f x.2))) (locOf (l2.map fun x => (x.1, mapV f x.2))) = mapV f (evT t m (trL l) (locOf l2)) := by
  have hp := place_lt m t
  have hcase : place m t = 0 ∨ place m t = 1 ∨ ∃ k, place m t = k + 2 := by
    rcases Nat.lt_or_ge (place m t) 2 with h | h
    · omega
    · exact .inr (.inr ⟨place m t - 2, by omega⟩)
  rcases hcase with h | h | ⟨k, h⟩
  · simp only [evT, h, place3_zero, mapV]
  · simp only [evT, h, place3_one, lookF_map]
  · simp only [evT, h, place3_two, getF_eq', trL_map]
    cases (trL l).get t <;> rfl
theorem TmOk.via {ex : Nat → Prop} {m : Nat} {l l2 : List (Nat × AV)} {tmps : Array Value} (ht : TmOk E.σ ρ ex m (trL (l.map fun x => (x.1, mapV f x.2))) (locOf (l2.map fun x => (x.1, mapV f x.2))) tmps) :
    TmOk E.σ (ρ.via f) ex m (trL l) (locOf l2) tmps :=
  ⟨ht.1, fun t hx => mapV_rel _ _ (by rw [← evT_map]; exact ht.2 t hx)⟩

-- the heap
theorem inj1_spec {f : Nat → Nat} {a : Nat} : ∀ (l : List (Nat × AObj)), inj1 f a (f a) l = true → ∀ b o, (b, o) ∈ l → f a = f b → a = b
  | [], _, b, o, hm, _ => by cases hm
  | (c, q) :: l, hk, b, o, hm, he => by
    simp only [inj1, Bool.and_eq_true] at hk
    rcases List.mem_cons.1 hm with e | hm
    · cases e
      have h1 := hk.1
      rw [he, Nat.beq_refl] at h1
      exact Nat.eq_of_beq_eq_true h1
    · exact inj1_spec l hk.2 b o hm he
theorem injH_spec {f : Nat → Nat} {all : List (Nat × AObj)} : ∀ (l : List (Nat × AObj)), injH f all l = true → ∀ a o b q, (a, o) ∈ l → (b, q) ∈ all → f a = f b → a = b
  | [], _, a, o, b, q, hm, _, _ => by cases hm
  | (c, r) :: l, hk, a, o, b, q, hm, hb, he => by
    simp only [injH, Bool.and_eq_true, fN_eq'] at hk
    rcases List.mem_cons.1 hm with e | hm
    · cases e; exact inj1_spec all hk.1 _ q hb he
    · exact injH_spec l hk.2 a o b q hm hb he
theorem mapH_cons {a : Nat} {o : AObj} {l l' : List (Nat × AObj)} (hm : mapH f ((a, o) :: l) = some l') : ∃ o' l'', l' = (f a, o') :: l'' ∧ mapO f o = some o' ∧ mapH f l = some l'' := by
  simp only [mapH] at hm
  split at hm
  · rename_i o' l'' h1 h2
    cases hm
    exact ⟨o', l'', rfl, h1, h2⟩
  · cases hm
theorem foldH_get {a : Nat} : ∀ (l l' : List (Nat × AObj)) (t t' : Tr AObj), mapH f l = some l' → (∀ b o, (b, o) ∈ l → f a = f b → a = b) → (∀ o, t.get a = some o → ∃ o', t'.get (f a) = some o' ∧ mapO f o = some o') →
    ∀ o, (l.foldl (fun t x => t.set (some x.2) x.1) t).get a = some o → ∃ o', (l'.foldl (fun t x => t.set (some x.2) x.1) t').get (f a) = some o' ∧ mapO f o = some o'
  | [], l', t, t', hm, _, ht, o, ho => by simp only [mapH, Option.some.injEq] at hm; subst hm; exact ht o ho
  | (b, q) :: l, l', t, t', hm, hi, ht, o, ho => by
    obtain ⟨q', l'', rfl, h1, h2⟩ := mapH_cons hm
    simp only [List.foldl_cons] at ho ⊢
    refine foldH_get l l'' _ _ h2 (fun b o hb => hi b o (List.mem_cons_of_mem _ hb)) (fun o ho => ?_) o ho
    rw [Tr.get_set] at ho
    rw [Tr.get_set]
    by_cases e : a = b
    · subst e
      rw [if_pos rfl] at ho; cases ho
      exact ⟨q', by rw [if_pos rfl], h1⟩
    · rw [if_neg e] at ho
      rw [if_neg (fun e2 => e (hi b q List.mem_cons_self e2))]
      exact ht o ho
theorem rn_lt {l : List (Nat × Nat)} {nx a : Nat} (hl : lowR nx l = true) (ha : a < 64 ∨ nx ≤ a) : rn l a = a := by
  induction l with
  | nil => rfl
  | cons x l ih =>
    obtain ⟨x, y⟩ := x
    simp only [lowR, Bool.and_eq_true, Nat.ble_eq, Nat.blt_eq] at hl
    obtain ⟨⟨h1, h2⟩, h3⟩ := hl
    simp only [rn]
    have : Nat.beq x a = false := by
      cases h : Nat.beq x a with
      | false => rfl
      | true =>
        have := Nat.eq_of_beq_eq_true h
        have h1 : 64 ≤ x := h1
        have h2 : x < nx := h2
        omega
    rw [this]
    exact ih h3
theorem HRel.via {nx : Nat} {w : World} {h h' : List (Nat × AObj)} {l : List (Nat × Nat)} (H : HRel E ρ (trL h') nx w) (hm : mapH (rn l) h = some h') (hl : lowR nx l = true) (hi : injH (rn l) h h = true) : HRel E (ρ.via (rn l)) (trL h) nx w := by
  have get : ∀ a o, (trL h).get a = some o → ∃ o', (trL h').get (rn l a) = some o' ∧ mapO (rn l) o = some o' := by
    intro a o hg
    have hmem : (a, o) ∈ h := by
      rcases foldSet_get h .leaf a o hg with h1 | h1
      · exact h1
      · rw [leaf_get] at h1; cases h1
    exact foldH_get h h' _ _ hm (fun b q hb he => injH_spec h hi a o b q hmem hb he) (fun o ho => by rw [leaf_get] at ho; cases ho) o hg
  have mem : ∀ a o, (trL h).get a = some o → (a, o) ∈ h := by
    intro a o hg
    rcases foldSet_get h .leaf a o hg with h1 | h1
    · exact h1
    · rw [leaf_get] at h1; cases h1
  refine ⟨fun a o b N hg hp => ?_, fun a a' o o' b N N' hg hg' hp hp' => ?_, fun a ha => ?_, fun g hg => ?_, fun a o b N hg hr hp => ?_, H.keep, H.size, H.tape, H.os, H.out, H.low⟩
  · obtain ⟨o', h1, h2⟩ := get a o hg
    obtain ⟨O, h3, h4⟩ := H.obj _ o' b N h1 hp
    exact ⟨O, h3, mapO_rel h2 h4⟩
  · obtain ⟨o1, h1, _⟩ := get a o hg
    obtain ⟨o2, h2, _⟩ := get a' o' hg'
    have := H.inj _ _ o1 o2 b N N' h1 h2 hp hp'
    exact injH_spec h hi a o a' o' (mem a o hg) (mem a' o' hg') this
  · show ρ (rn l a) = none
    rw [rn_lt hl (.inr ha)]; exact H.new a ha
  · show ∃ N, ρ (rn l g) = some (g, N)
    rw [rn_lt hl (.inl hg)]; exact H.glob g hg
  · obtain ⟨o', h1, h2⟩ := get a o hg
    exact H.own _ o' b N h1 (by rw [mapO_ro h2]; exact hr) hp

-- the frames
def plainIt : It → Bool
  | .draw .. => false
  | .inRange .. => false
  | .endRange .. => false
  | _ => true
theorem plain_itAt {P : Program} {c : Code} {i : SI} {it : It} (hp : plainSI i = true) (h : itAt P c i = some it) : plainIt it = true := by
  cases i <;> simp only [plainSI, Bool.false_eq_true] at hp <;> simp only [itAt] at h <;> (try split at h) <;> (try split at h) <;> first | (cases h; done) | (cases h; rfl)
theorem plain_itsAt {P : Program} {c : Code} : ∀ {l : List SI} {its : List It}, l.all plainSI = true → itsAt P c l = some its → ∀ i ∈ its, plainIt i = true
  | [], its, _, h, i, hi => by simp only [itsAt, Option.some.injEq] at h; subst h; cases hi
  | s :: l, its, hp, h, i, hi => by
    simp only [List.all_cons, Bool.and_eq_true] at hp
    simp only [itsAt] at h
    split at h
    · rename_i a b h1 h2
      cases h
      rcases List.mem_cons.1 hi with e | hi
      · subst e; exact plain_itAt hp.1 h1
      · exact plain_itsAt hp.2 h2 i hi
    · cases h
theorem plain_rel {ρ ρ' : Rho} {k : List It} {T : List Item} (h : ItsRel ρ k T) : (∀ i ∈ k, plainIt i = true) → ItsRel ρ' k T := by
  induction h with
  | nil => intro _; exact .nil
  | cons a b ih =>
    intro hp
    refine .cons ?_ (ih fun i hi => hp i (List.mem_cons_of_mem _ hi))
    have := hp _ List.mem_cons_self
    cases a with
    | code => exact .code
    | inBlock => exact .inBlock
    | inLoop => exact .inLoop
    | inScope => exact .inScope
    | ops x => exact .ops x
    | inRange x => cases this
    | endRange x => cases this
    | beginRound => exact .beginRound
theorem mapF_some {s s' : SF} (h : mapF f s = some s') : ∃ fn todo tm loc ds dfr, s = .mk fn todo tm loc ds dfr none ∧ s' = .mk fn todo (tm.map fun x => (x.1, mapV f x.2)) (loc.map fun x => (x.1, mapV f x.2)) (ds.map (mapD f)) dfr none ∧ todo.all plainSI = true := by
  obtain ⟨fn, todo, tm, loc, ds, dfr, round⟩ := s
  simp only [mapF] at h
  split at h
  · rename_i h1
    cases h
    exact ⟨fn, todo, tm, loc, ds, dfr, rfl, rfl, h1⟩
  · cases h
theorem plain_todo {P : Program} {fn : Nat} {todo : List SI} {tm loc : List (Nat × AV)} {ds : List AD} {dfr : Bool} {t : List It} (hp : todo.all plainSI = true) (h : todoOf P (.mk fn todo tm loc ds dfr none) = some t) : ∀ i ∈ t, plainIt i = true := by
  simp only [todoOf] at h
  split at h
  · split at h
    · exact plain_itsAt hp h
    · cases h
  · cases h
theorem noDrawHead {k : List It} (hp : ∀ i ∈ k, plainIt i = true) (pl : List PS) (all : Array Oper) (k' : List It) : k ≠ .draw pl all :: k' := by
  intro e; subst e
  have := hp _ List.mem_cons_self
  cases this
theorem todosOf_cons' {P : Program} {s : SF} {l : List SF} {ts : List (List It)} (h : todosOf P (s :: l) = some ts) : ∃ t ts', ts = t :: ts' ∧ todoOf P s = some t ∧ todosOf P l = some ts' := by
  simp only [todosOf] at h
  split at h
  · rename_i t ts' h1 h2
    cases h
    exact ⟨t, ts', rfl, h1, h2⟩
  · cases h
theorem mapFs_todos {P : Program} : ∀ {fs fs' : List SF}, mapFs f fs = some fs' → todosOf P fs' = todosOf P fs
  | [], fs', h => by simp only [mapFs, Option.some.injEq] at h; subst h; rfl
  | s :: l, fs', h => by
    simp only [mapFs] at h
    split at h
    · rename_i s' l' h1 h2
      cases h
      obtain ⟨fn, todo, tm, loc, ds, dfr, rfl, rfl, _⟩ := mapF_some h1
      simp only [todosOf, mapFs_todos h2]; rfl
    · cases h
theorem stack_via {C : Cx} {ρ : Rho} {f : Nat → Nat} : ∀ {fs fs' : List SF} {ts : List (List It)} {lim : Nat} {d : Bool} {up : FuncId} {frs : List Frame}, mapFs f fs = some fs' → todosOf C.P fs = some ts →
    StackOk C ρ lim d up (tfsS C.M fs' ts) frs → StackOk C (ρ.via f) lim d up (tfsS C.M fs ts) frs
  | [], fs', ts, lim, d, up, frs, h, ht, hs => by
    simp only [mapFs, Option.some.injEq] at h; subst h
    cases ts <;> exact hs
  | s :: l, fs', ts, lim, d, up, frs, h, ht, hs => by
    simp only [mapFs] at h
    split at h
    · rename_i s' l' h1 h2
      cases h
      obtain ⟨t, ts', rfl, ht1, ht2⟩ := todosOf_cons' ht
      obtain ⟨fn, todo, tm, loc, ds, dfr, rfl, rfl, hp⟩ := mapF_some h1
      have hpl := plain_todo hp ht1
      obtain ⟨fr, frs', tmps, T, ds', rd, lo, rfl, g2, g3, g4, g5, g6⟩ := hs
      refine ⟨fr, frs', tmps, T, ds', rd, lo, rfl, g2, mapDs_rel g3, g4, ?_, stack_via h2 ht2 g6⟩
      rcases g5 with ⟨a, b, c, e⟩ | ⟨a, b, c⟩
      · exact .inl ⟨a, b, c, TmOk.via e⟩
      · refine .inr ⟨a, b, ?_⟩
        rcases c with ⟨i, l2, all, k, done, rest, V, K, S, k', q1, _⟩ | ⟨q1, q2⟩
        · exact absurd q1 (noDrawHead hpl _ _ _)
        · exact .inr ⟨plain_rel q1 hpl, TmOk.via q2⟩
    · cases h

theorem chkR_ok {C : Cx} {l : List (Nat × Nat)} {s : SS} {r : R} {Mc : Machine} (hc : chkR C.M l s r = todosS C.P s) (hr : ROk C r Mc) : ROk C (toR C.P C.M s) Mc := by
  unfold chkR at hc
  obtain ⟨top, fs, h, nx⟩ := s
  cases hm : mapS l (.mk top fs h nx) with
  | none =>
    rw [hm] at hc
    simp only [todosS] at hc
    unfold toR
    simp only [← hc]
    trivial
  | some s' =>
    rw [hm] at hc
    simp only [] at hc
    simp only [mapS] at hm
    split at hm
    · rename_i top' fs' h' hcond ht hfs hh
      cases hm
      simp only [Bool.and_eq_true] at hcond
      obtain ⟨fn, todo, tm, loc, ds, dfr, rfl, rfl, hp⟩ := mapF_some ht
      have htd : todosOf C.P (.mk fn todo (tm.map fun x => (x.1, mapV (rn l) x.2)) (loc.map fun x => (x.1, mapV (rn l) x.2)) (ds.map (mapD (rn l))) dfr none :: fs') = todosOf C.P (.mk fn todo tm loc ds dfr none :: fs) := by
        simp only [todosOf, mapFs_todos hfs]; rfl
      have hk := chk_ok (C := C) (s := .mk (.mk fn todo (tm.map fun x => (x.1, mapV (rn l) x.2)) (loc.map fun x => (x.1, mapV (rn l) x.2)) (ds.map (mapD (rn l))) dfr none) fs' h' nx) (by simp only [todosS, htd]; simp only [todosS] at hc; exact hc) hr
      unfold toR at hk ⊢
      simp only [htd] at hk
      simp only []
      cases hts : todosOf C.P (.mk fn todo tm loc ds dfr none :: fs) with
      | none => trivial
      | some ts =>
        cases ts with
        | nil => trivial
        | cons t ts =>
          rw [hts] at hk
          simp only [tfOf_eq', tfsOf_eq, trOf_leaf, tfS] at hk ⊢
          obtain ⟨t', ts', e, ht1, ht2⟩ := todosOf_cons' hts
          cases e
          have hpl := plain_todo hp ht1
          obtain ⟨ρ, w, tmps, T, ds', rd, frs, lo, rfl, H, hlo, htodo, hds, hrd, hst⟩ := hk
          refine ⟨ρ.via (rn l), w, tmps, T, ds', rd, frs, lo, rfl, H.via hh hcond.1 hcond.2, hlo, ?_, mapDs_rel hds, hrd, stack_via hfs ht2 hst⟩
          rcases htodo with ⟨pl, all, k, done, rest, V, K, S, k', q1, _⟩ | ⟨q1, q2⟩
          · exact absurd q1 (noDrawHead hpl _ _ _)
          · exact .inr ⟨plain_rel q1 hpl, TmOk.via q2⟩
    · cases hm
end Go.Sx

/- Runs, in segments. -/
namespace Go.Sx
variable {P : Program} {X : Nat → Option EK} {M : Nat → Nat}

/-- whatever machine the one state describes comes to one that the other describes -/
def Lead (P : Program) (X : Nat → Option EK) (M : Nat → Nat) (r r' : R) : Prop :=
  ∀ C : Cx, C.P = P → C.X = X → C.M = M → XOk P X C.E.σ → ∀ Mc, ROk C r Mc → Sim C r' Mc
theorem Lead.trans {a b c : R} (h : Lead P X M a b) (g : Lead P X M b c) : Lead P X M a c := by
  intro C hP hX hM hx Mc hr
  obtain ⟨M1, s1, h1⟩ := h C hP hX hM hx Mc hr
  exact (g C hP hX hM hx M1 h1).of_steps s1
theorem lead_chk {l : List Nat} {r : R} {s : SS} (h : chk M s (runL P X M l r) = todosS P s) : Lead P X M r (toR P M s) := by
  rintro C rfl rfl rfl hx Mc hr
  obtain ⟨M1, s1, h1⟩ := runL_ok hx l hr
  exact ⟨M1, s1, chk_ok h h1⟩
theorem lead_chkR {l : List Nat} {r : R} {n : List (Nat × Nat)} {s : SS} (h : chkR M n s (runL P X M l r) = todosS P s) : Lead P X M r (toR P M s) := by
  rintro C rfl rfl rfl hx Mc hr
  obtain ⟨M1, s1, h1⟩ := runL_ok hx l hr
  exact ⟨M1, s1, chkR_ok h h1⟩
theorem lead_fork {l : List Nat} {r t : R} (ha : Lead P X M (forkA (runL P X M l r)) t) (hb : Lead P X M (forkB (runL P X M l r)) t) : Lead P X M r t := by
  rintro C rfl rfl rfl hx Mc hr
  obtain ⟨M1, s1, h1⟩ := runL_ok hx l hr
  rcases fork_ok h1 with h | h
  · exact (ha C rfl rfl rfl hx M1 h).of_steps s1
  · exact (hb C rfl rfl rfl hx M1 h).of_steps s1

def finTrue (r : R) : Bool := match r with | .fin (.bool true) _ _ => true | _ => false
/-- whatever machine the state describes returns true -/
def Ends (P : Program) (X : Nat → Option EK) (M : Nat → Nat) (r : R) : Prop :=
  ∀ C : Cx, C.P = P → C.X = X → C.M = M → XOk P X C.E.σ → ∀ Mc, ROk C r Mc → ∃ ρ w fr h nx, Steps P Mc (lone fr C.base w) ∧ fr.leaving P w (.returned (.bool true)) ∧ fr.fn = C.root ∧ HRel C.E ρ h nx w
theorem ends_of {l : List Nat} {r : R} (h : finTrue (runL P X M l r) = true) : Ends P X M r := by
  rintro C rfl rfl rfl hx Mc hr
  obtain ⟨M1, s1, h1⟩ := runL_ok hx l hr
  generalize runL C.P C.X C.M l r = r1 at h h1
  unfold finTrue at h
  split at h
  · obtain ⟨ρ, w, fr, val, rfl, g1, g2, g3, g4⟩ := h1
    have : val = .bool true := by simpa [VRel] using g4
    subst this
    exact ⟨ρ, w, fr, _, _, s1, g1, g2, g3⟩
  · cases h
theorem Lead.ends {a b : R} (h : Lead P X M a b) (g : Ends P X M b) : Ends P X M a := by
  intro C hP hX hM hx Mc hr
  obtain ⟨M1, s1, h1⟩ := h C hP hX hM hx Mc hr
  obtain ⟨ρ, w, fr, h1_, nx, s2, g1, g2, g3⟩ := g C hP hX hM hx M1 h1
  subst hP
  exact ⟨ρ, w, fr, h1_, nx, s1.trans s2, g1, g2, g3⟩

/-- what opaque values are like -/
structure Sig (σ : Nat → Value) : Prop where
  one : ∀ i, (σ i).cells = #[σ i] ∧ (σ i).oneCell' = true
  str : ∀ i, i % 3 = 1 → ∃ s, σ i = .string s
  slc : ∀ i, i % 3 = 2 → ∃ a l c, σ i = .slice a l c
def env0 {σ : Nat → Value} (S : Sig σ) (w : World) : Env where
  σ := σ
  one := S.one
  str := S.str
  slc := S.slc
  B := w.heap.size
  w0 := w
def rho0 : Rho := fun g => if g < 64 then some (g, 0) else none
theorem hrel0 {σ : Nat → Value} (S : Sig σ) (w : World) : HRel (env0 S w) rho0 .leaf 64 w :=
  ⟨(fun a o b N hg => by rw [leaf_get] at hg; cases hg), (fun a a' o o' b N N' hg => by rw [leaf_get] at hg; cases hg), fun a ha => if_neg (by omega), fun g hg => ⟨0, if_pos hg⟩,
    (fun a o b N hg => by rw [leaf_get] at hg; cases hg), fun _ _ => rfl, Nat.le_refl _, rfl, rfl, rfl, Nat.le_refl _⟩
/-- a call that was run returns true -/
theorem ends_calls {σ : Nat → Value} (S : Sig σ) {f : FuncId} {args : List AV} {vs : Array Value} (hm : P.follows .mixedOrders = true) (hx : XOk P X σ) (h : Ends P X M (enterF P M f args false [] .leaf 64)) (hl : LRel σ rho0 args vs.toList) (w : World) :
    Calls P f vs w fun e w' => e = .returned (.bool true) ∧ World.Kept w w' := by
  intro cs
  have hr := enterF_ok (C := { E := env0 S w, P, X, M, base := cs, root := f, hm }) (f := f) (args := args) (vs := vs) (dfr := false) (cs := []) (lo := 64) (fs := cs) (hrel0 S w) (Nat.le_refl _) hl ⟨rfl, rfl, rfl⟩
  obtain ⟨ρ, w', fr, h', nx, s, g1, g2, g3⟩ := h { E := env0 S w, P, X, M, base := cs, root := f, hm } rfl rfl rfl hx _ hr
  exact ⟨.returned (.bool true), w', fr, ⟨rfl, g3.keep, g3.size, g3.tape, g3.os, g3.out⟩, s, g2, g1⟩
/-- opaque values: a string and a slice -/
def sigOf (s sl : Value) (i : Nat) : Value := if i % 3 = 1 then s else if i % 3 = 2 then sl else .bool true
theorem sigOf_sig {s : ByteArray} {a : Option Addr} {l c : Nat} : Sig (sigOf (.string s) (.slice a l c)) := by
  refine ⟨fun i => ?_, fun i h => ⟨s, if_pos h⟩, fun i h => ⟨a, l, c, ?_⟩⟩
  · unfold sigOf
    split
    · exact ⟨rfl, rfl⟩
    · split <;> exact ⟨rfl, rfl⟩
  · unfold sigOf; rw [if_neg (by omega), if_pos h]
end Go.Sx
