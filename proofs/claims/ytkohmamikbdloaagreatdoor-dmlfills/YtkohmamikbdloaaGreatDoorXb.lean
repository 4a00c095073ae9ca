/- What an abstract state says of a world, and first lemmas. -/
import Derived.Test.YtkohmamikbdloaaGreatDoorXa
import Derived.Control
import Derived.Calls
import Derived.Laws.Sem
import Derived.Laws.World
import GoSem.Op.String
/- What an abstract state says of a world. -/
namespace Go.Sx

def Rho := Nat → Option (Nat × Nat)

def bytesOf (l n : Nat) : List UInt8 := (unpackB l n).map UInt8.ofNat
def mkStr (l n : Nat) : ByteArray := ⟨(bytesOf l n).toArray⟩

/-- a slice's place, length and capacity `o`, `c`, within a block of N cells -/
def SlOk (off len sz : Nat) (cap : Option Nat) (N o c : Nat) : Prop :=
  len ≤ c ∧ (o = off ∨ c = 0) ∧ off + c * sz ≤ N ∧ (∀ k, cap = some k → c = k) ∧ (cap = none → off + c * sz = N)

mutual
def VRel (σ : Nat → Value) (ρ : Rho) : AV → Value → Prop
  | .unk, _ => True
  | .one, v => v.oneCell' = true
  | .sym i, v => v = σ i
  | .anyB, v => ∃ b, v = .bool b
  | .anyI k, v => ∃ n, v = .int k n
  | .bool b, v => v = .bool b
  | .int k n, v => v = .int k n
  | .intGe lo, v => ∃ n : Int, (lo : Int) ≤ n ∧ v = .int .i64 n
  | .str l n, v => v = .string (mkStr l n) ∧ n < 2 ^ (8 * l)
  | .nilPtr, v => v = .pointer none
  | .ptr a off, v => ∃ b N, ρ a = some (b, N) ∧ v = .pointer (some ⟨b, off, none⟩)
  | .nilSl, v => v = .slice none 0 0
  | .sl a off len sz cap, v => ∃ b N o c, ρ a = some (b, N) ∧ v = .slice (some ⟨b, o, none⟩) len c ∧ SlOk off len sz cap N o c
  | .nilMap, v => v = .map none
  | .map a, v => ∃ b N, ρ a = some (b, N) ∧ v = .map (some b)
  | .nilFn, v => v = .nilFunc
  | .fn f a b, v => ∃ xs ys : Array Value, v = .func (.func f) xs ys ∧ LRel σ ρ a xs.toList ∧ LRel σ ρ b ys.toList
  | .yield l, v => ∃ b N, ρ l = some (b, N) ∧ v = .func (.yield b) #[] #[]
  | .nilIf, v => v = .nilIface
  | .iface t x, v => ∃ y, v = .iface t y ∧ VRel σ ρ x y
  | .agg cs, v => ∃ vs : Array Value, v = .agg vs ∧ LRel σ ρ cs vs.toList
  | .tup cs, v => ∃ vs : Array Value, v = .tuple vs ∧ LRel σ ρ cs vs.toList
def LRel (σ : Nat → Value) (ρ : Rho) : List AV → List Value → Prop
  | [], vs => vs = []
  | a :: l, vs => ∃ v vs', vs = v :: vs' ∧ VRel σ ρ a v ∧ LRel σ ρ l vs'
end

/-- more is known -/
def Rho.le (ρ ρ' : Rho) : Prop := ∀ a p, ρ a = some p → ρ' a = some p
theorem Rho.le_refl (ρ : Rho) : ρ.le ρ := fun _ _ h => h
theorem Rho.le_trans {a b c : Rho} (h : a.le b) (g : b.le c) : a.le c := fun x p hx => g x p (h x p hx)

mutual
theorem VRel.mono {σ : Nat → Value} {ρ ρ' : Rho} (h : ρ.le ρ') : ∀ (a : AV) (v : Value), VRel σ ρ a v → VRel σ ρ' a v
  | .unk, _, _ => by simp [VRel]
  | .one, v, hv => by simpa [VRel] using hv
  | .sym i, v, hv => by simpa [VRel] using hv
  | .anyB, v, hv => by simpa [VRel] using hv
  | .anyI k, v, hv => by simpa [VRel] using hv
  | .bool b, v, hv => by simpa [VRel] using hv
  | .int k n, v, hv => by simpa [VRel] using hv
  | .intGe lo, v, hv => by simpa [VRel] using hv
  | .str l n, v, hv => by simpa [VRel] using hv
  | .nilPtr, v, hv => by simpa [VRel] using hv
  | .ptr a off, v, hv => by
    simp only [VRel] at hv ⊢; obtain ⟨b, N, h1, h2⟩ := hv; exact ⟨b, N, h _ _ h1, h2⟩
  | .nilSl, v, hv => by simpa [VRel] using hv
  | .sl a off len sz cap, v, hv => by
    simp only [VRel] at hv ⊢; obtain ⟨b, N, o, c, h1, h2⟩ := hv; exact ⟨b, N, o, c, h _ _ h1, h2⟩
  | .nilMap, v, hv => by simpa [VRel] using hv
  | .map a, v, hv => by
    simp only [VRel] at hv ⊢; obtain ⟨b, N, h1, h2⟩ := hv; exact ⟨b, N, h _ _ h1, h2⟩
  | .nilFn, v, hv => by simpa [VRel] using hv
  | .fn f a b, v, hv => by
    simp only [VRel] at hv ⊢; obtain ⟨xs, ys, h1, h2, h3⟩ := hv; exact ⟨xs, ys, h1, LRel.mono h a _ h2, LRel.mono h b _ h3⟩
  | .yield l, v, hv => by
    simp only [VRel] at hv ⊢; obtain ⟨b, N, h1, h2⟩ := hv; exact ⟨b, N, h _ _ h1, h2⟩
  | .nilIf, v, hv => by simpa [VRel] using hv
  | .iface t x, v, hv => by
    simp only [VRel] at hv ⊢; obtain ⟨y, h1, h2⟩ := hv; exact ⟨y, h1, VRel.mono h x y h2⟩
  | .agg cs, v, hv => by
    simp only [VRel] at hv ⊢; obtain ⟨vs, h1, h2⟩ := hv; exact ⟨vs, h1, LRel.mono h cs _ h2⟩
  | .tup cs, v, hv => by
    simp only [VRel] at hv ⊢; obtain ⟨vs, h1, h2⟩ := hv; exact ⟨vs, h1, LRel.mono h cs _ h2⟩
theorem LRel.mono {σ : Nat → Value} {ρ ρ' : Rho} (h : ρ.le ρ') : ∀ (l : List AV) (vs : List Value), LRel σ ρ l vs → LRel σ ρ' l vs
  | [], vs, hv => by simpa [LRel] using hv
  | a :: l, vs, hv => by
    simp only [LRel] at hv ⊢; obtain ⟨v, vs', h1, h2, h3⟩ := hv; exact ⟨v, vs', h1, VRel.mono h a v h2, LRel.mono h l vs' h3⟩
end

section lists
variable {σ : Nat → Value} {ρ : Rho}
theorem LRel.length : ∀ {l : List AV} {vs : List Value}, LRel σ ρ l vs → l.length = vs.length
  | [], vs, h => by simp only [LRel] at h; subst h; rfl
  | a :: l, vs, h => by
    simp only [LRel] at h; obtain ⟨v, vs', rfl, _, h3⟩ := h; simp [LRel.length h3]
theorem LRel.append : ∀ {l l' : List AV} {vs vs' : List Value}, LRel σ ρ l vs → LRel σ ρ l' vs' → LRel σ ρ (l ++ l') (vs ++ vs')
  | [], l', vs, vs', h, h' => by simp only [LRel] at h; subst h; simpa using h'
  | a :: l, l', vs, vs', h, h' => by
    simp only [LRel] at h; obtain ⟨v, ws, rfl, h2, h3⟩ := h
    simp only [List.cons_append, LRel]; exact ⟨v, _, rfl, h2, LRel.append h3 h'⟩
theorem LRel.get : ∀ {l : List AV} {vs : List Value} (i : Nat) {a : AV}, LRel σ ρ l vs → l[i]? = some a → ∃ v, vs[i]? = some v ∧ VRel σ ρ a v
  | [], vs, i, a, h, ha => by simp at ha
  | x :: l, vs, i, a, h, ha => by
    simp only [LRel] at h; obtain ⟨v, ws, rfl, h2, h3⟩ := h
    cases i with
    | zero => simp only [List.getElem?_cons_zero, Option.some.injEq] at ha; subst ha; exact ⟨v, rfl, h2⟩
    | succ i => simp only [List.getElem?_cons_succ] at ha ⊢; exact LRel.get i h3 ha
theorem LRel.of_get : ∀ {l : List AV} {vs : List Value}, l.length = vs.length → (∀ (i : Nat) (a : AV) (v : Value), l[i]? = some a → vs[i]? = some v → VRel σ ρ a v) → LRel σ ρ l vs
  | [], [], _, _ => by simp [LRel]
  | [], v :: vs, h, _ => by simp at h
  | a :: l, [], h, _ => by simp at h
  | a :: l, v :: vs, h, g => by
    simp only [LRel]
    exact ⟨v, vs, rfl, g 0 a v rfl rfl, LRel.of_get (by simpa using h) fun i a v h1 h2 => g (i + 1) a v (by simpa using h1) (by simpa using h2)⟩
theorem LRel.drop : ∀ {l : List AV} {vs : List Value} (i : Nat), LRel σ ρ l vs → LRel σ ρ (l.drop i) (vs.drop i)
  | [], vs, i, h => by simp only [LRel] at h; subst h; simp [LRel]
  | x :: l, vs, i, h => by
    have h0 := h
    simp only [LRel] at h; obtain ⟨v, ws, rfl, h2, h3⟩ := h
    cases i with
    | zero => simpa using h0
    | succ i => simpa using LRel.drop i h3
theorem LRel.take : ∀ {l : List AV} {vs : List Value} (i : Nat), LRel σ ρ l vs → LRel σ ρ (l.take i) (vs.take i)
  | [], vs, i, h => by simp only [LRel] at h; subst h; simp [LRel]
  | x :: l, vs, i, h => by
    simp only [LRel] at h; obtain ⟨v, ws, rfl, h2, h3⟩ := h
    cases i with
    | zero => simp [LRel]
    | succ i => simp only [List.take_succ_cons, LRel]; exact ⟨v, _, rfl, h2, LRel.take i h3⟩
end lists

-- objects
def NoFr (fr : Nat × Nat) (N : Nat) : Prop := fr = (0, 0) ∨ fr = (N, N + 1)

inductive MRel (σ : Nat → Value) (ρ : Rho) : List AME → List MapEntry → Prop
  | nil : MRel σ ρ [] []
  | cons {k v : AV} {b : Nat} {l : List AME} {k' v' : Value} {l' : List MapEntry} : VRel σ ρ k k' → VRel σ ρ v v' → MRel σ ρ l l' →
      MRel σ ρ (.mk k v b :: l) ({ key := k', val := v', born := b } :: l')

inductive DRel (σ : Nat → Value) (ρ : Rho) : AD → Deferred → Prop
  | call {f : FuncId} {args : List AV} {cap as : Array Value} : LRel σ ρ args (as ++ cap).toList → DRel σ ρ (.call f args) { target := .fn (.func f) cap, args := as }
  | coll {r b N : Nat} {as : Array Value} : ρ r = some (b, N) → DRel σ ρ (.coll r) { target := .collected b, args := as }

inductive DsRel (σ : Nat → Value) (ρ : Rho) : List AD → List Deferred → Prop
  | nil : DsRel σ ρ [] []
  | cons {d : AD} {d' : Deferred} {l : List AD} {l' : List Deferred} : DRel σ ρ d d' → DsRel σ ρ l l' → DsRel σ ρ (d :: l) (d' :: l')

/-- the temporaries, but for those in `ex` -/
def TmOk (σ : Nat → Value) (ρ : Rho) (ex : Nat → Prop) (m : Nat) (tm : Tr AV) (loc : Loc) (tmps : Array Value) : Prop :=
  m < 2 ^ (2 * tmps.size) ∧ ∀ t, ¬ ex t → VRel σ ρ (evT t m tm loc) (tmps.getD t undef)

def noEx : Nat → Prop := fun _ => False

def ObjRel (σ : Nat → Value) (ρ : Rho) (N : Nat) : AObj → Obj → Prop
  | .cells x n c, O => ∃ (cs : Array Value) (e : TypeId), O = .cells cs e (0, 0) ∧ cs.size = N ∧ n ≤ N ∧ (x = true → n = N) ∧ ∀ i v, i < n → cs[i]? = some v → VRel σ ρ (orOne (c.get i)) v
  | .bytes x n b, O => ∃ (cs : Array Value) (e : TypeId) (fr : Nat × Nat), O = .cells cs e fr ∧ NoFr fr N ∧ cs.size = N ∧ n ≤ N ∧ (x = true → n = N) ∧ ∀ i v, i < n → cs[i]? = some v → v = .int .u8 (Int.ofNat (byteAt b i))
  | .ro n c, O => ∃ (cs : Array Value) (e : TypeId) (fr : Nat × Nat), O = .cells cs e fr ∧ n ≤ cs.size ∧ ∀ i v, i < n → cs[i]? = some v → VRel σ ρ (orOne (c.get i)) v
  | .map es clock, O => ∃ es' : Array MapEntry, O = .map es' clock ∧ MRel σ ρ es es'.toList
  | .strIter l n pos, O => O = .stringIter (mkStr l n) pos ∧ n < 2 ^ (8 * l)
  | .mapIter m since seen stepped, O => ∃ m', O = .mapIter m' since seen.toArray stepped ∧ (m = none → m' = none) ∧ (∀ a, m = some a → ∃ b N, ρ a = some (b, N) ∧ m' = some b)
  | .loop state pending fn m tm loc params assign body d, O => ∃ (tmps : Array Value) (d' Nd : Nat), O = .loop { state, pending, fn, tmps, params, assign, body, defers := d' } ∧ TmOk σ ρ noEx m tm loc tmps ∧ ρ d = some (d', Nd)
  | .defd none, O => O = .deferred none
  | .defd (some l), O => ∃ l', O = .deferred (some l') ∧ DsRel σ ρ l l'

def AObj.isRo : AObj → Bool | .ro .. => true | _ => false

/-- what stays: the opaque values; the base world, of which the blocks below `B` stay as they were -/
structure Env where
  σ : Nat → Value
  one : ∀ i, (σ i).cells = #[σ i] ∧ (σ i).oneCell' = true
  str : ∀ i, i % 3 = 1 → ∃ s, σ i = .string s
  slc : ∀ i, i % 3 = 2 → ∃ a l c, σ i = .slice a l c
  B : Nat
  w0 : World

structure HRel (E : Env) (ρ : Rho) (h : Tr AObj) (nx : Nat) (w : World) : Prop where
  obj : ∀ a o b N, h.get a = some o → ρ a = some (b, N) → ∃ O, w.heap[b]? = some O ∧ ObjRel E.σ ρ N o O
  inj : ∀ a a' o o' b N N', h.get a = some o → h.get a' = some o' → ρ a = some (b, N) → ρ a' = some (b, N') → a = a'
  new : ∀ a, nx ≤ a → ρ a = none
  glob : ∀ g, g < 64 → ∃ N, ρ g = some (g, N)
  own : ∀ a o b N, h.get a = some o → o.isRo = false → ρ a = some (b, N) → E.B ≤ b
  keep : ∀ b, b < E.B → w.heap[b]? = E.w0.heap[b]?
  size : E.B ≤ w.heap.size
  tape : w.tape = E.w0.tape
  os : w.os = E.w0.os
  out : w.output = E.w0.output
  low : 64 ≤ nx

/-- how an operation goes on -/
structure Ext (ρ : Rho) (nx : Nat) (ρ' : Rho) (nx' : Nat) : Prop where
  le : ρ.le ρ'
  up : nx ≤ nx'
  gap : ∀ a, a < nx → ρ a = none → ρ' a = none

theorem Ext.refl (ρ : Rho) (nx : Nat) : Ext ρ nx ρ nx := ⟨Rho.le_refl ρ, Nat.le_refl nx, fun _ _ h => h⟩
theorem Ext.trans {ρ ρ' ρ'' : Rho} {nx nx' nx'' : Nat} (h : Ext ρ nx ρ' nx') (g : Ext ρ' nx' ρ'' nx'') : Ext ρ nx ρ'' nx'' :=
  ⟨Rho.le_trans h.le g.le, Nat.le_trans h.up g.up, fun a ha hn => g.gap a (Nat.lt_of_lt_of_le ha h.up) (h.gap a ha hn)⟩

section mono
variable {σ : Nat → Value} {ρ ρ' : Rho} (h : ρ.le ρ')
include h
theorem MRel.mono {l : List AME} {l' : List MapEntry} (hm : MRel σ ρ l l') : MRel σ ρ' l l' := by
  induction hm with
  | nil => exact .nil
  | cons a b _ ih => exact .cons (VRel.mono h _ _ a) (VRel.mono h _ _ b) ih
theorem DRel.mono {d : AD} {d' : Deferred} (hd : DRel σ ρ d d') : DRel σ ρ' d d' := by
  cases hd with
  | call a => exact .call (LRel.mono h _ _ a)
  | coll a => exact .coll (h _ _ a)
theorem DsRel.mono {l : List AD} {l' : List Deferred} (hd : DsRel σ ρ l l') : DsRel σ ρ' l l' := by
  induction hd with
  | nil => exact .nil
  | cons a _ ih => exact .cons (DRel.mono h a) ih
theorem TmOk.mono {ex : Nat → Prop} {m : Nat} {tm : Tr AV} {loc : Loc} {tmps : Array Value} (ht : TmOk σ ρ ex m tm loc tmps) : TmOk σ ρ' ex m tm loc tmps :=
  ⟨ht.1, fun t hx => VRel.mono h _ _ (ht.2 t hx)⟩
theorem ObjRel.mono {N : Nat} {o : AObj} {O : Obj} (ho : ObjRel σ ρ N o O) : ObjRel σ ρ' N o O := by
  cases o with
  | cells x n c =>
    obtain ⟨cs, e, h1, h2, h3, h4, h5⟩ := ho
    exact ⟨cs, e, h1, h2, h3, h4, fun i v hi hv => VRel.mono h _ _ (h5 i v hi hv)⟩
  | bytes x n b => exact ho
  | ro n c =>
    obtain ⟨cs, e, fr, h1, h2, h3⟩ := ho
    exact ⟨cs, e, fr, h1, h2, fun i v hi hv => VRel.mono h _ _ (h3 i v hi hv)⟩
  | map es clock => obtain ⟨es', h1, h2⟩ := ho; exact ⟨es', h1, MRel.mono h h2⟩
  | strIter l n pos => exact ho
  | mapIter m since seen stepped =>
    obtain ⟨m', h1, h2, h3⟩ := ho
    exact ⟨m', h1, h2, fun a ha => let ⟨b, N, x, y⟩ := h3 a ha; ⟨b, N, h _ _ x, y⟩⟩
  | loop state pending fn m tm loc params assign body d =>
    obtain ⟨tmps, d', Nd, h1, h2, h3⟩ := ho; exact ⟨tmps, d', Nd, h1, TmOk.mono h h2, h _ _ h3⟩
  | defd c =>
    cases c with
    | none => exact ho
    | some l => obtain ⟨l', h1, h2⟩ := ho; exact ⟨l', h1, DsRel.mono h h2⟩
end mono

-- the three ways in which a heap changes
section heap
variable {E : Env} {ρ : Rho} {h : Tr AObj} {nx : Nat} {w : World}

/-- a draw, and nothing else -/
theorem HRel.drawn (H : HRel E ρ h nx w) (n : Nat) : HRel E ρ h nx { w with drawn := n } :=
  ⟨H.obj, H.inj, H.new, H.glob, H.own, H.keep, H.size, H.tape, H.os, H.out, H.low⟩

def Rho.set (ρ : Rho) (a : Nat) (p : Nat × Nat) : Rho := fun x => if x = a then some p else ρ x
theorem Rho.set_same (ρ : Rho) (a : Nat) (p : Nat × Nat) : ρ.set a p a = some p := by simp [Rho.set]
theorem Rho.set_other (ρ : Rho) {a x : Nat} (p : Nat × Nat) (hx : x ≠ a) : ρ.set a p x = ρ x := by simp [Rho.set, hx]
theorem Rho.le_set {ρ : Rho} {a : Nat} {p : Nat × Nat} (hn : ρ a = none) : ρ.le (ρ.set a p) := fun x q hx => by
  by_cases e : x = a
  · subst e; rw [hn] at hx; cases hx
  · rw [Rho.set_other _ _ e]; exact hx

/-- a new block, under the next number -/
theorem HRel.alloc (H : HRel E ρ h nx w) {o : AObj} {O : Obj} {N : Nat} (ho : ObjRel E.σ ρ N o O) :
    HRel E (ρ.set nx (w.heap.size, N)) (h.set (some o) nx) (nx + 1) (w.alloc O) ∧ Ext ρ nx (ρ.set nx (w.heap.size, N)) (nx + 1) := by
  have hn := H.new nx (Nat.le_refl _)
  have hle : ρ.le (ρ.set nx (w.heap.size, N)) := Rho.le_set hn
  refine ⟨⟨?_, ?_, ?_, ?_, ?_, ?_, ?_, H.tape, H.os, H.out, Nat.le_succ_of_le H.low⟩, hle, Nat.le_succ _, ?_⟩
  · intro a o' b M hg hp
    rw [Tr.get_set] at hg
    by_cases e : a = nx
    · subst e
      rw [if_pos rfl] at hg; rw [Rho.set_same] at hp
      cases hg; cases hp
      exact ⟨O, by simp only [World.alloc, Array.getElem?_push, if_pos], ObjRel.mono hle ho⟩
    · rw [if_neg e] at hg; rw [Rho.set_other _ _ e] at hp
      obtain ⟨O', h1, h2⟩ := H.obj a o' b M hg hp
      refine ⟨O', ?_, ObjRel.mono hle h2⟩
      have hb : b < w.heap.size := by
        rcases Nat.lt_or_ge b w.heap.size with h | h
        · exact h
        · rw [Array.getElem?_eq_none h] at h1; cases h1
      simp only [World.alloc, Array.getElem?_push]; rw [if_neg (by omega)]; exact h1
  · intro a a' o1 o2 b M M' hg hg' hp hp'
    rw [Tr.get_set] at hg hg'
    by_cases e : a = nx <;> by_cases e' : a' = nx
    · omega
    · subst e
      rw [if_neg e'] at hg'; rw [Rho.set_same] at hp; rw [Rho.set_other _ _ e'] at hp'
      cases hp
      obtain ⟨O', h1, _⟩ := H.obj a' o2 _ _ hg' hp'
      simp at h1
    · subst e'
      rw [if_neg e] at hg; rw [Rho.set_same] at hp'; rw [Rho.set_other _ _ e] at hp
      cases hp'
      obtain ⟨O', h1, _⟩ := H.obj a o1 _ _ hg hp
      simp at h1
    · rw [if_neg e] at hg; rw [if_neg e'] at hg'; rw [Rho.set_other _ _ e] at hp; rw [Rho.set_other _ _ e'] at hp'
      exact H.inj a a' o1 o2 b M M' hg hg' hp hp'
  · intro a ha; rw [Rho.set_other _ _ (by omega)]; exact H.new a (by omega)
  · intro g hg; obtain ⟨M, hM⟩ := H.glob g hg; exact ⟨M, hle _ _ hM⟩
  · intro a o' b M hg hro hp
    rw [Tr.get_set] at hg
    by_cases e : a = nx
    · subst e; rw [Rho.set_same] at hp; cases hp; exact H.size
    · rw [if_neg e] at hg; rw [Rho.set_other _ _ e] at hp; exact H.own a o' b M hg hro hp
  · intro b hb
    have := H.size
    simp only [World.alloc, Array.getElem?_push]; rw [if_neg (by omega)]; exact H.keep b hb
  · simp only [World.size_alloc]; have := H.size; omega
  · intro a ha hna; rw [Rho.set_other _ _ (by omega)]; exact hna

/-- an object is changed in its place -/
theorem HRel.update (H : HRel E ρ h nx w) {a b N : Nat} {o o' : AObj} {O' : Obj} (hg : h.get a = some o) (hr : o.isRo = false) (hp : ρ a = some (b, N))
    (ho : ObjRel E.σ ρ N o' O') {w' : World} (hw : w'.heap = w.heap.setIfInBounds b O') (ht : w'.tape = w.tape) (hos : w'.os = w.os) (hout : w'.output = w.output) :
    HRel E ρ (h.set (some o') a) nx w' := by
  obtain ⟨O, hO, _⟩ := H.obj a o b N hg hp
  have hb : b < w.heap.size := by
    rcases Nat.lt_or_ge b w.heap.size with h | h
    · exact h
    · rw [Array.getElem?_eq_none h] at hO; cases hO
  have hB := H.own a o b N hg hr hp
  refine ⟨?_, ?_, H.new, H.glob, ?_, ?_, ?_, ht.trans H.tape, hos.trans H.os, hout.trans H.out, H.low⟩
  · intro x ox bx M hgx hpx
    rw [Tr.get_set] at hgx
    by_cases e : x = a
    · subst e
      rw [if_pos rfl] at hgx; cases hgx
      rw [hp] at hpx; cases hpx
      exact ⟨O', by rw [hw]; simp [hb], ho⟩
    · rw [if_neg e] at hgx
      obtain ⟨Ox, h1, h2⟩ := H.obj x ox bx M hgx hpx
      refine ⟨Ox, ?_, h2⟩
      have hne : b ≠ bx := fun hbb => e (H.inj x a ox o bx M N hgx hg hpx (hbb ▸ hp))
      rw [hw, Array.getElem?_setIfInBounds, if_neg hne]; exact h1
  · intro x x' o1 o2 bx M M' hgx hgx' hpx hpx'
    rw [Tr.get_set] at hgx hgx'
    by_cases e : x = a <;> by_cases e' : x' = a
    · omega
    · subst e; rw [if_neg e'] at hgx'; exact H.inj x x' o o2 bx M M' hg hgx' hpx hpx'
    · subst e'; rw [if_neg e] at hgx; exact H.inj x x' o1 o bx M M' hgx hg hpx hpx'
    · rw [if_neg e] at hgx; rw [if_neg e'] at hgx'; exact H.inj x x' o1 o2 bx M M' hgx hgx' hpx hpx'
  · intro x ox bx M hgx hro hpx
    rw [Tr.get_set] at hgx
    by_cases e : x = a
    · subst e; rw [hp] at hpx; cases hpx; exact hB
    · rw [if_neg e] at hgx; exact H.own x ox bx M hgx hro hpx
  · intro c hc; rw [hw, Array.getElem?_setIfInBounds, if_neg (by omega)]; exact H.keep c hc
  · rw [hw]; simpa using H.size

/-- an object is given up -/
theorem HRel.drop (H : HRel E ρ h nx w) (a : Nat) : HRel E ρ (h.set none a) nx w := by
  have sub : ∀ x o, (h.set none a).get x = some o → h.get x = some o := by
    intro x o hx; rw [Tr.get_set] at hx; split at hx
    · cases hx
    · exact hx
  exact ⟨fun x o b N hx => H.obj x o b N (sub x o hx), fun x x' o o' b N N' hx hx' => H.inj x x' o o' b N N' (sub x o hx) (sub x' o' hx'), H.new, H.glob,
    fun x o b N hx => H.own x o b N (sub x o hx), H.keep, H.size, H.tape, H.os, H.out, H.low⟩
end heap


/-- all that was stays -/
structure World.Kept (w w' : World) : Prop where
  keep : ∀ b, b < w.heap.size → w'.heap[b]? = w.heap[b]?
  size : w.heap.size ≤ w'.heap.size
  tape : w'.tape = w.tape
  os : w'.os = w.os
  out : w'.output = w.output
theorem HRel.kept {E : Env} {ρ : Rho} {h : Tr AObj} {nx : Nat} {w w' : World} (H : HRel E ρ h nx w) (K : World.Kept w w') : HRel E ρ h nx w' := by
  have lt : ∀ {b : Nat} {O : Obj}, w.heap[b]? = some O → b < w.heap.size := fun h => (Array.getElem?_eq_some_iff.1 h).1
  refine ⟨fun a o b N hg hp => ?_, H.inj, H.new, H.glob, H.own, fun b hb => ?_, Nat.le_trans H.size K.size, K.tape.trans H.tape, K.os.trans H.os, K.out.trans H.out, H.low⟩
  · obtain ⟨O, h1, h2⟩ := H.obj a o b N hg hp
    exact ⟨O, by rw [K.keep b (lt h1)]; exact h1, h2⟩
  · rw [K.keep b (Nat.lt_of_lt_of_le hb H.size)]; exact H.keep b hb
end Go.Sx

/- Bytes, packed into numbers. -/
namespace Go.Sx

theorem byteAt_eq (n i : Nat) : byteAt n i = n / 2 ^ (8 * i) % 256 := by
  have h1 : Nat.shiftRight n (Nat.mul 8 i) = n / 2 ^ (8 * i) := Nat.shiftRight_eq_div_pow n (8 * i)
  have h2 : ∀ x : Nat, Nat.land x 255 = x % 256 := fun x => Nat.and_two_pow_sub_one_eq_mod x 8
  unfold byteAt
  rw [h1, h2]
theorem byteAt_lt (n i : Nat) : byteAt n i < 256 := by rw [byteAt_eq]; exact Nat.mod_lt _ (by decide)
theorem byteAt_div (n i : Nat) : byteAt (n / 256) i = byteAt n (i + 1) := by
  rw [byteAt_eq, byteAt_eq, Nat.div_div_eq_div_mul]
  have : 256 * 2 ^ (8 * i) = 2 ^ (8 * (i + 1)) := by rw [Nat.mul_add, Nat.pow_add, Nat.mul_comm]
  rw [this]
theorem land255 (n : Nat) : Nat.land n 255 = n % 256 := Nat.and_two_pow_sub_one_eq_mod n 8
theorem shr8 (n : Nat) : Nat.shiftRight n 8 = n / 256 := Nat.shiftRight_eq_div_pow n 8

theorem unpackB_length : ∀ l n, (unpackB l n).length = l
  | 0, _ => rfl
  | l + 1, n => by simp [unpackB, unpackB_length l]
theorem unpackB_get : ∀ (l n i : Nat), i < l → (unpackB l n)[i]? = some (byteAt n i)
  | 0, _, _, h => by omega
  | l + 1, n, 0, _ => by simp only [unpackB, List.getElem?_cons_zero, land255, byteAt_eq, Nat.mul_zero, Nat.pow_zero, Nat.div_one]
  | l + 1, n, i + 1, h => by
    simp only [unpackB, List.getElem?_cons_succ, shr8]
    rw [unpackB_get l (n / 256) i (by omega), byteAt_div]
theorem unpackB_ext {l : Nat} {a b : Nat} (h : ∀ i, i < l → byteAt a i = byteAt b i) : unpackB l a = unpackB l b := by
  apply List.ext_getElem?
  intro i
  by_cases hi : i < l
  · rw [unpackB_get _ _ _ hi, unpackB_get _ _ _ hi, h i hi]
  · rw [List.getElem?_eq_none (by rw [unpackB_length]; omega), List.getElem?_eq_none (by rw [unpackB_length]; omega)]
/-- numbers of l bytes are told apart by them -/
theorem bytes_inj : ∀ {l a b : Nat}, a < 2 ^ (8 * l) → b < 2 ^ (8 * l) → (∀ i, i < l → byteAt a i = byteAt b i) → a = b
  | 0, a, b, ha, hb, _ => by simp at ha hb; omega
  | l + 1, a, b, ha, hb, h => by
    have h0 := h 0 (by omega)
    rw [byteAt_eq, byteAt_eq] at h0
    simp only [Nat.mul_zero, Nat.pow_zero, Nat.div_one] at h0
    have e : 2 ^ (8 * (l + 1)) = 256 * 2 ^ (8 * l) := by rw [Nat.mul_add, Nat.pow_add, Nat.mul_comm]
    rw [e] at ha hb
    have := bytes_inj (l := l) (a := a / 256) (b := b / 256) (by omega) (by omega) fun i hi => by
      rw [byteAt_div, byteAt_div]; exact h (i + 1) (by omega)
    omega

theorem bytesOf_length (l n : Nat) : (bytesOf l n).length = l := by simp [bytesOf, unpackB_length]
theorem mkStr_size (l n : Nat) : (mkStr l n).size = l := by
  show (bytesOf l n).toArray.size = l
  simp [bytesOf_length]
theorem mkStr_toList (l n : Nat) : (mkStr l n).data.toList = bytesOf l n := by simp [mkStr]
theorem bytesOf_get {l n i : Nat} (h : i < l) : (bytesOf l n)[i]? = some (UInt8.ofNat (byteAt n i)) := by
  simp [bytesOf, unpackB_get l n i h]
theorem u8_inj {a b : Nat} (ha : a < 256) (hb : b < 256) (h : UInt8.ofNat a = UInt8.ofNat b) : a = b := by
  have := congrArg UInt8.toNat h
  simp only [UInt8.toNat_ofNat', Nat.reducePow] at this
  omega
theorem bytesOf_inj {l a b : Nat} (ha : a < 2 ^ (8 * l)) (hb : b < 2 ^ (8 * l)) (h : bytesOf l a = bytesOf l b) : a = b :=
  bytes_inj ha hb fun i hi => by
    have := bytesOf_get (n := a) hi
    rw [h, bytesOf_get (n := b) hi] at this
    exact (u8_inj (byteAt_lt _ _) (byteAt_lt _ _) (Option.some.inj this)).symm
theorem mkStr_inj {l a m b : Nat} (ha : a < 2 ^ (8 * l)) (hb : b < 2 ^ (8 * m)) (h : mkStr l a = mkStr m b) : l = m ∧ a = b := by
  have hs := congrArg ByteArray.size h
  rw [mkStr_size, mkStr_size] at hs
  subst hs
  have hl := congrArg (fun s : ByteArray => s.data.toList) h
  simp only [mkStr_toList] at hl
  exact ⟨rfl, bytesOf_inj ha hb hl⟩

theorem packL_lt : ∀ l : List UInt8, packL l < 2 ^ (8 * l.length)
  | [] => by simp [packL]
  | b :: l => by
    have h1 := packL_lt l
    have h2 : b.toNat < 256 := b.toNat_lt
    have e : 2 ^ (8 * (l.length + 1)) = 256 * 2 ^ (8 * l.length) := by rw [Nat.mul_add, Nat.pow_add, Nat.mul_comm]
    simp only [packL, List.length_cons]
    rw [e]
    omega
theorem bytesOf_packL : ∀ l : List UInt8, bytesOf l.length (packL l) = l
  | [] => rfl
  | b :: l => by
    have h2 : b.toNat < 256 := b.toNat_lt
    have e1 : (b.toNat + 256 * packL l) % 256 = b.toNat := by omega
    have e2 : (b.toNat + 256 * packL l) / 256 = packL l := by omega
    simp only [bytesOf, packL, List.length_cons, unpackB, land255, shr8, List.map_cons, e1, e2]
    have := bytesOf_packL l
    simp only [bytesOf] at this
    rw [this]
    simp
theorem mkStr_packL (s : ByteArray) : mkStr s.size (packL s.data.toList) = s := by
  have h : s.size = s.data.toList.length := rfl
  unfold mkStr
  rw [h, bytesOf_packL]

-- a part
theorem subB_eq (n lo len : Nat) : subB n lo len = n / 2 ^ (8 * lo) % 2 ^ (8 * len) := by
  have h1 : Nat.shiftRight n (Nat.mul 8 lo) = n / 2 ^ (8 * lo) := Nat.shiftRight_eq_div_pow n (8 * lo)
  have h2 : Nat.shiftLeft 1 (Nat.mul 8 len) = 2 ^ (8 * len) := Nat.one_shiftLeft (8 * len)
  unfold subB
  rw [h1, h2]
  rfl
theorem subB_lt (n lo len : Nat) : subB n lo len < 2 ^ (8 * len) := by
  rw [subB_eq]; exact Nat.mod_lt _ (Nat.pow_pos (by decide))
theorem byteAt_mod (n len i : Nat) (h : i < len) : byteAt (n % 2 ^ (8 * len)) i = byteAt n i := by
  rw [byteAt_eq, byteAt_eq]
  have e : 2 ^ (8 * len) = 2 ^ (8 * i) * (256 * 2 ^ (8 * (len - i - 1))) := by
    have : 8 * len = 8 * i + (8 + 8 * (len - i - 1)) := by omega
    rw [this, Nat.pow_add, Nat.pow_add]
  rw [e, Nat.mod_mul_right_div_self, Nat.mod_mul_right_mod]
theorem byteAt_shr (n lo i : Nat) : byteAt (n / 2 ^ (8 * lo)) i = byteAt n (lo + i) := by
  rw [byteAt_eq, byteAt_eq, Nat.div_div_eq_div_mul, ← Nat.pow_add, ← Nat.mul_add]
theorem byteAt_sub (n lo len i : Nat) (h : i < len) : byteAt (subB n lo len) i = byteAt n (lo + i) := by
  rw [subB_eq, byteAt_mod _ _ _ h, byteAt_shr]
theorem byteAt_big {n i : Nat} (h : n < 2 ^ (8 * i)) : byteAt n i = 0 := by
  rw [byteAt_eq, Nat.div_eq_of_lt h]
theorem bytesOf_sub {l n lo len : Nat} (h : lo + len ≤ l) : bytesOf len (subB n lo len) = ((bytesOf l n).drop lo).take len := by
  apply List.ext_getElem?
  intro i
  by_cases hi : i < len
  · rw [bytesOf_get hi, List.getElem?_take_of_lt hi, List.getElem?_drop, bytesOf_get (by omega), byteAt_sub _ _ _ _ hi]
  · rw [List.getElem?_eq_none (by rw [bytesOf_length]; omega), List.getElem?_eq_none (by simp [bytesOf_length]; omega)]

-- two, one behind the other
theorem catB_eq (l a b : Nat) : catB l a b = a + b * 2 ^ (8 * l) := by
  have h : Nat.shiftLeft b (Nat.mul 8 l) = b * 2 ^ (8 * l) := Nat.shiftLeft_eq b (8 * l)
  unfold catB
  rw [h]; rfl
theorem catB_lt {l m a b : Nat} (ha : a < 2 ^ (8 * l)) (hb : b < 2 ^ (8 * m)) : catB l a b < 2 ^ (8 * (l + m)) := by
  rw [catB_eq]
  have e : 2 ^ (8 * (l + m)) = 2 ^ (8 * m) * 2 ^ (8 * l) := by rw [Nat.mul_add, Nat.pow_add, Nat.mul_comm]
  rw [e]
  calc a + b * 2 ^ (8 * l) < 2 ^ (8 * l) + b * 2 ^ (8 * l) := by omega
    _ = (b + 1) * 2 ^ (8 * l) := by rw [Nat.add_mul, Nat.one_mul, Nat.add_comm]
    _ ≤ 2 ^ (8 * m) * 2 ^ (8 * l) := Nat.mul_le_mul_right _ hb
theorem byteAt_cat {l a b : Nat} (ha : a < 2 ^ (8 * l)) (i : Nat) : byteAt (catB l a b) i = if i < l then byteAt a i else byteAt b (i - l) := by
  rw [catB_eq]
  have hp : 0 < 2 ^ (8 * l) := Nat.pow_pos (by decide)
  by_cases h : i < l
  · rw [if_pos h, ← byteAt_mod _ _ _ h, Nat.add_mul_mod_self_right, Nat.mod_eq_of_lt ha]
  · rw [if_neg h]
    have := byteAt_shr (a + b * 2 ^ (8 * l)) l (i - l)
    rw [show l + (i - l) = i from by omega] at this
    rw [← this, Nat.add_mul_div_right _ _ hp, Nat.div_eq_of_lt ha, Nat.zero_add]
theorem bytesOf_cat {l m a b : Nat} (ha : a < 2 ^ (8 * l)) : bytesOf (l + m) (catB l a b) = bytesOf l a ++ bytesOf m b := by
  apply List.ext_getElem?
  intro i
  by_cases hi : i < l + m
  · rw [bytesOf_get hi, byteAt_cat ha]
    by_cases h : i < l
    · rw [if_pos h, List.getElem?_append_left (by rw [bytesOf_length]; exact h), bytesOf_get h]
    · rw [if_neg h, List.getElem?_append_right (by rw [bytesOf_length]; omega), bytesOf_length, bytesOf_get (by omega)]
  · rw [List.getElem?_eq_none (by rw [bytesOf_length]; omega), List.getElem?_eq_none (by simp [bytesOf_length]; omega)]

-- a part put in
theorem splB_eq (n lo len m : Nat) : splB n lo len m = catB lo (n % 2 ^ (8 * lo)) (catB len m (n / 2 ^ (8 * (lo + len)))) := by
  have h1 : ∀ x k : Nat, Nat.shiftRight x (Nat.mul 8 k) = x / 2 ^ (8 * k) := fun x k => Nat.shiftRight_eq_div_pow x (8 * k)
  have h2 : ∀ k : Nat, Nat.shiftLeft 1 (Nat.mul 8 k) = 2 ^ (8 * k) := fun k => Nat.one_shiftLeft (8 * k)
  have h3 : ∀ x k : Nat, Nat.shiftLeft x (Nat.mul 8 k) = x * 2 ^ (8 * k) := fun x k => Nat.shiftLeft_eq x (8 * k)
  rw [catB_eq, catB_eq]
  unfold splB
  rw [h2, h3, h3, h1]
  rfl
theorem byteAt_spl {n lo len m : Nat} (hm : m < 2 ^ (8 * len)) (i : Nat) :
    byteAt (splB n lo len m) i = if lo ≤ i ∧ i < lo + len then byteAt m (i - lo) else byteAt n i := by
  have hp : 0 < 2 ^ (8 * lo) := Nat.pow_pos (by decide)
  rw [splB_eq, byteAt_cat (Nat.mod_lt _ hp)]
  by_cases h : i < lo
  · rw [if_pos h, if_neg (by omega), byteAt_mod _ _ _ h]
  · rw [if_neg h, byteAt_cat hm]
    by_cases h' : i - lo < len
    · rw [if_pos h', if_pos (by omega)]
    · rw [if_neg h', if_neg (by omega), byteAt_shr]
      congr 1; omega

-- the order of strings
theorem bytesLt_eq : ∀ (l a m b : Nat), bytesLt l a m b = Op.bytesLess (bytesOf l a) (bytesOf m b)
  | 0, a, 0, b => by simp [bytesLt, bytesOf, unpackB, Op.bytesLess]
  | 0, a, m + 1, b => by
    have : Nat.beq (m + 1) 0 = false := rfl
    simp [bytesLt, bytesOf, unpackB, Op.bytesLess, this]
  | l + 1, a, 0, b => by simp [bytesLt, bytesOf, unpackB, Op.bytesLess]
  | l + 1, a, m + 1, b => by
    have ih := bytesLt_eq l (a / 256) m (b / 256)
    have ha : a % 256 < 256 := Nat.mod_lt _ (by decide)
    have hb : b % 256 < 256 := Nat.mod_lt _ (by decide)
    simp only [bytesLt, land255, shr8, ih]
    simp only [bytesOf, unpackB, land255, shr8, List.map_cons, Op.bytesLess]
    by_cases h : a % 256 = b % 256
    · have hb2 : Nat.beq (b % 256) (b % 256) = true := Nat.beq_refl _
      simp only [h, hb2, BEq.rfl, Bool.true_and]
      have : decide (UInt8.ofNat (b % 256) < UInt8.ofNat (b % 256)) = false := by simp
      rw [this, Bool.false_or]
    · have hb' : Nat.beq (a % 256) (b % 256) = false := by
        cases e : Nat.beq (a % 256) (b % 256) with
        | false => rfl
        | true => exact absurd (Nat.eq_of_beq_eq_true e) h
      have hne : (UInt8.ofNat (a % 256) == UInt8.ofNat (b % 256)) = false := by
        rw [beq_eq_false_iff_ne]; exact fun e => h (u8_inj ha hb e)
      simp only [hb', hne, Bool.false_and, Bool.or_false]
      rw [Bool.eq_iff_iff]
      simp only [Nat.blt_eq, decide_eq_true_eq, UInt8.lt_iff_toNat_lt, UInt8.toNat_ofNat', Nat.reducePow]
      omega
end Go.Sx

/- The executor's combinators: what each comes to. -/
namespace Go.Sx

@[simp] theorem fN_eq' {β : Type} (n : Nat) (k : Nat → β) : fN n k = k n := fN_eq n k
@[simp] theorem fI_eq' {β : Type} (n : Int) (k : Int → β) : fI n k = k n := fI_eq n k
@[simp] theorem fV_eq' {β : Type} (v : AV) (k : AV → β) : fV v k = k v := fV_eq v k
@[simp] theorem fB_eq {β : Type} (b : Bool) (k : Bool → β) : fB b k = k b := by cases b <;> rfl
@[simp] theorem setK_eq' {α β : Type} (v : Option α) (t : Tr α) (i : Nat) (k : Tr α → β) : t.setK v i k = k (t.set v i) := Tr.setK_eq v t i k
@[simp] theorem getF_eq' {α : Type} (t : Tr α) (i : Nat) : t.getF i = t.get i := Tr.getF_eq t i
@[simp] theorem evK_eq {β : Type} (x : Operand) (m : Nat) (tm : Tr AV) (loc : Loc) (k : AV → β) : evK x m tm loc k = k (ev x m tm loc) := fV_eq _ _
@[simp] theorem evLK_eq {β : Type} (xs : List Operand) (m : Nat) (tm : Tr AV) (loc : Loc) : ∀ (k : List AV → β), evLK xs m tm loc k = k (evL xs m tm loc) := by
  induction xs with
  | nil => intro k; rfl
  | cons x xs ih =>
    intro k
    have := ih fun l => k (ev x m tm loc :: l)
    simp only [evLK, lRec_cons, evK_eq] at this ⊢
    rw [this]; rfl
@[simp] theorem fL_eq {β : Type} (l : List AV) : ∀ (k : List AV → β), fL l k = k l := by
  induction l with
  | nil => intro k; rfl
  | cons x xs ih => intro k; simp only [fL, lRec_cons, fV_eq'] at ih ⊢; rw [ih]
def ofL : List AV → Nat → Tr AV → Tr AV
  | [], _, t => t
  | v :: l, i, t => ofL l (i + 1) (t.set (some v) i)
@[simp] theorem ofListK_eq {β : Type} (l : List AV) : ∀ (i : Nat) (t : Tr AV) (k : Tr AV → β), ofListK l i t k = k (ofL l i t) := by
  induction l with
  | nil => intro i t k; rfl
  | cons x xs ih => intro i t k; simp only [ofListK, lRec_cons, setK_eq'] at ih ⊢; rw [ih]; rfl
theorem ofL_get : ∀ (l : List AV) (i : Nat) (t : Tr AV) (j : Nat), (ofL l i t).get j = if i ≤ j ∧ j < i + l.length then l[j - i]? else t.get j
  | [], i, t, j => by simp [ofL]; omega
  | v :: l, i, t, j => by
    simp only [ofL]
    rw [ofL_get l (i + 1) _ j, Tr.get_set]
    by_cases h : j = i
    · subst h
      rw [if_neg (by omega), if_pos rfl, if_pos (by simp)]; simp
    · by_cases h' : i ≤ j ∧ j < i + (v :: l).length
      · rw [if_pos h', if_pos (by simp at h'; omega)]
        have : j - i = (j - (i + 1)) + 1 := by omega
        rw [this, List.getElem?_cons_succ]
      · rw [if_neg h', if_neg (by simp at h'; omega), if_neg h]
@[simp] theorem evP_eq {β : Type} (ps : List (Nat × Operand)) (m : Nat) (tm : Tr AV) (loc : Loc) : ∀ (k : List (Nat × AV) → β), evP ps m tm loc k = k (ps.map fun p => (p.1, ev p.2 m tm loc)) := by
  induction ps with
  | nil => intro k; rfl
  | cons x xs ih => intro k; simp only [evP, lRec_cons, evK_eq] at ih ⊢; rw [ih]; rfl

theorem onBool_elim {β : Type} {Q : β → Prop} {v : AV} {d : β} {k : Bool → β} (hd : Q d) (hk : ∀ b, v = .bool b → Q (k b)) : Q (onBool v d k) := by
  cases v <;> first | exact hk _ rfl | exact hd
theorem onInt_elim {β : Type} {Q : β → Prop} {v : AV} {d : β} {k : IntKind → Int → β} (hd : Q d) (hk : ∀ a n, v = .int a n → Q (k a n)) : Q (onInt v d k) := by
  cases v <;> first | exact hk _ _ rfl | exact hd
theorem onPtr_elim {β : Type} {Q : β → Prop} {v : AV} {d : β} {k : Nat → Nat → β} (hd : Q d) (hk : ∀ a o, v = .ptr a o → Q (k a o)) : Q (onPtr v d k) := by
  cases v <;> first | exact hk _ _ rfl | exact hd
theorem onSl_elim {β : Type} {Q : β → Prop} {v : AV} {d : β} {k : Nat → Nat → Nat → Nat → Option Nat → β} (hd : Q d) (hk : ∀ a o l s c, v = .sl a o l s c → Q (k a o l s c)) : Q (onSl v d k) := by
  cases v <;> first | exact hk _ _ _ _ _ rfl | exact hd
theorem onObj_elim {β : Type} {Q : β → Prop} {h : Tr AObj} {a : Nat} {d : β} {k : AObj → β} (hd : Q d) (hk : ∀ o, h.get a = some o → Q (k o)) : Q (onObj h a d k) := by
  unfold onObj
  rw [getF_eq']
  cases e : h.get a with
  | none => exact hd
  | some o => exact hk o e

theorem bRec_elim {β : Type} {Q : β → Prop} {b : Bool} {f t : β} (hf : b = false → Q f) (ht : b = true → Q t) : Q (bRec f t b) := by
  cases b
  · exact hf rfl
  · exact ht rfl

/-- the cell i of an object is v -/
def CellIs (o : AObj) (i : Nat) (v : AV) : Prop := match o with
  | .cells _ n c => i < n ∧ v = orOne (c.get i)
  | .bytes _ n b => i < n ∧ v = .int .u8 (Int.ofNat (byteAt b i))
  | .ro n c => i < n ∧ v = orOne (c.get i)
  | _ => False
theorem readCell_elim {β : Type} {Q : β → Prop} {o : AObj} {i : Nat} {d : β} {k : AV → β} (hd : Q d) (hk : ∀ v, CellIs o i v → Q (k v)) : Q (readCell o i d k) := by
  cases o with
  | cells x n c =>
    refine bRec_elim (fun _ => hd) fun h => ?_
    simp only [fV_eq', getF_eq']
    exact hk _ ⟨by simpa using h, rfl⟩
  | bytes x n b =>
    refine bRec_elim (fun _ => hd) fun h => ?_
    simp only [fN_eq']
    exact hk _ ⟨by simpa using h, rfl⟩
  | ro n c =>
    refine bRec_elim (fun _ => hd) fun h => ?_
    simp only [fV_eq', getF_eq']
    exact hk _ ⟨by simpa using h, rfl⟩
  | map es clock => exact hd
  | strIter l n pos => exact hd
  | mapIter m s se st => exact hd
  | loop a b c d e f g h i j => exact hd
  | defd c => exact hd

inductive CellsAre (o : AObj) : Nat → List AV → Prop
  | nil {i : Nat} : CellsAre o i []
  | cons {i : Nat} {v : AV} {l : List AV} : CellIs o i v → CellsAre o (i + 1) l → CellsAre o i (v :: l)
theorem readCells_elim {β : Type} {Q : β → Prop} {o : AObj} : ∀ {n i : Nat} {d : β} {k : List AV → β}, Q d → (∀ l, l.length = n → CellsAre o i l → Q (k l)) → Q (readCells o n i d k)
  | 0, i, d, k, hd, hk => hk [] rfl .nil
  | n + 1, i, d, k, hd, hk => by
    show Q (readCell o i d fun v => readCells o n (Nat.succ i) d fun l => k (v :: l))
    refine readCell_elim hd fun v hv => ?_
    refine readCells_elim hd fun l hl hc => ?_
    exact hk _ (by simp [hl]) (.cons hv hc)
theorem CellsAre.get {o : AObj} : ∀ {i : Nat} {l : List AV} (j : Nat) {v : AV}, CellsAre o i l → l[j]? = some v → CellIs o (i + j) v
  | i, _, j, v, .nil, h => by simp at h
  | i, _, 0, v, .cons hv _, h => by simp at h; subst h; exact hv
  | i, _, j + 1, v, .cons _ hc, h => by
    simp only [List.getElem?_cons_succ] at h
    have := CellsAre.get j hc h
    rwa [show i + 1 + j = i + (j + 1) from by omega] at this

/-- what a cell's store does to an object -/
def CellSet (o : AObj) (i : Nat) (v : AV) (o' : AObj) : Prop := match o with
  | .cells x n c => i < n ∧ v.isOne = true ∧ o' = .cells x n (c.set (some v) i)
  | .bytes x n b => i < n ∧ ∃ m, m < 256 ∧ v = .int .u8 (Int.ofNat m) ∧ o' = .bytes x n (splB b i 1 m)
  | _ => False
theorem writeCell_elim {β : Type} {Q : β → Prop} {o : AObj} {i : Nat} {v : AV} {d : β} {k : AObj → β} (hd : Q d) (hk : ∀ o', CellSet o i v o' → Q (k o')) : Q (writeCell o i v d k) := by
  cases o with
  | cells x n c =>
    refine bRec_elim (fun _ => hd) fun h => ?_
    refine bRec_elim (fun _ => hd) fun h' => ?_
    simp only [setK_eq']
    exact hk _ ⟨by simpa using h, h', rfl⟩
  | bytes x n b =>
    refine onInt_elim hd fun kd z hv => ?_
    subst hv
    cases kd <;> first | exact hd | skip
    cases z with
    | negSucc m => exact hd
    | ofNat m =>
      refine bRec_elim (fun _ => hd) fun h => ?_
      refine bRec_elim (fun _ => hd) fun h' => ?_
      simp only [fN_eq']
      exact hk _ ⟨by simpa using h, m, by simpa using h', rfl, rfl⟩
  | ro n c => exact hd
  | map es clock => exact hd
  | strIter l n pos => exact hd
  | mapIter m s se st => exact hd
  | loop a b c d e f g h i j => exact hd
  | defd c => exact hd
inductive CellsSet : AObj → Nat → List AV → AObj → Prop
  | nil {o : AObj} {i : Nat} : CellsSet o i [] o
  | cons {o o' o'' : AObj} {i : Nat} {v : AV} {l : List AV} : CellSet o i v o' → CellsSet o' (i + 1) l o'' → CellsSet o i (v :: l) o''
theorem writeCells_elim {β : Type} {Q : β → Prop} : ∀ {l : List AV} {o : AObj} {i : Nat} {d : β} {k : AObj → β}, Q d → (∀ o', CellsSet o i l o' → Q (k o')) → Q (writeCells l o i d k)
  | [], o, i, d, k, _, hk => hk o .nil
  | v :: l, o, i, d, k, hd, hk => by
    show Q (writeCell o i v d fun o => writeCells l o (Nat.succ i) d k)
    refine writeCell_elim hd fun o' ho => ?_
    exact writeCells_elim hd fun o'' h => hk _ (.cons ho h)

theorem maxN_eq (k : IntKind) : (maxN k : Int) = k.max := by cases k <;> decide
theorem negN_eq (k : IntKind) : -(negN k : Int) = k.min := by cases k <;> decide
theorem wrap_in {k : IntKind} {n : Int} (h1 : k.min ≤ n) (h2 : n ≤ k.max) : k.wrap n = n := by
  cases k <;> simp only [IntKind.min, IntKind.max, IntKind.signed, IntKind.bits, IntKind.wrap] at * <;> simp at * <;> (try split) <;> omega
theorem wrapK_eq {β : Type} (k : IntKind) (n : Int) (f : Int → β) : wrapK k n f = f (k.wrap n) := by
  cases n with
  | ofNat m =>
    simp only [wrapK, fN_eq', fI_eq']
    cases h : Nat.ble m (maxN k) with
    | false => rfl
    | true =>
      have h1 : m ≤ maxN k := by simpa using h
      have h2 := maxN_eq k
      have h3 : k.min ≤ 0 := by cases k <;> decide
      simp only [bRec_true]
      rw [wrap_in (by simp only [Int.ofNat_eq_natCast]; omega) (by simp only [Int.ofNat_eq_natCast]; omega)]
  | negSucc m =>
    simp only [wrapK, fN_eq', fI_eq']
    cases h : Nat.blt m (negN k) with
    | false => rfl
    | true =>
      have h1 : m < negN k := by simpa using h
      have h2 := negN_eq k
      have h3 : 0 ≤ k.max := by cases k <;> decide
      simp only [bRec_true]
      rw [wrap_in (by simp only [Int.negSucc_eq]; omega) (by simp only [Int.negSucc_eq]; omega)]

theorem idx_elim {β : Type} {Q : β → Prop} {v : AV} {n : Nat} {d : β} {k : Nat → β} (hd : Q d) (hk : ∀ a i, v = .int a (Int.ofNat i) → i < n → Q (k i)) : Q (idx v n d k) := by
  unfold idx
  refine onInt_elim hd fun a z hv => ?_
  cases z with
  | negSucc m => exact hd
  | ofNat i =>
    simp only [fN_eq']
    exact bRec_elim (fun _ => hd) fun h => hk a i hv (by simpa using h)
theorem natOf_elim {β : Type} {Q : β → Prop} {v : AV} {d : β} {k : Nat → β} (hd : Q d) (hk : ∀ a i, v = .int a (Int.ofNat i) → Q (k i)) : Q (natOf v d k) := by
  unfold natOf
  refine onInt_elim hd fun a z hv => ?_
  cases z with
  | negSucc m => exact hd
  | ofNat i => simp only [fN_eq']; exact hk a i hv

theorem ltI_eq (a b : Int) : ltI a b = decide (a < b) := by
  cases a <;> cases b <;> simp only [ltI] <;> rw [Bool.eq_iff_iff] <;> simp only [Nat.blt_eq, decide_eq_true_eq, Bool.false_eq_true, false_iff, true_iff, Int.ofNat_eq_natCast, Int.negSucc_eq] <;> omega
theorem eqI_eq (a b : Int) : eqI a b = (a == b) := by
  cases a <;> cases b <;> simp only [eqI] <;> rw [Bool.eq_iff_iff] <;> simp only [Nat.beq_eq, beq_iff_eq, Bool.false_eq_true, false_iff, Int.ofNat_eq_natCast, Int.negSucc_eq] <;> omega
end Go.Sx
