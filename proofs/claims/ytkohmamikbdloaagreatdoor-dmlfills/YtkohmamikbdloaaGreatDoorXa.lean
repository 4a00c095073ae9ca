/- The executor of the cut program over abstract states: definitions. -/
import GoSem.Step
/- The executor's primitives: forcing, tries, folds. Each fast form (by a recursor, for the kernel) has an equation to its plain form. -/
namespace Go.Sx
noncomputable def bRec {β : Type} (f t : β) (b : Bool) : β := Bool.rec (motive := fun _ => β) f t b
@[simp] theorem bRec_true {β : Type} (f t : β) : bRec f t true = t := rfl
@[simp] theorem bRec_false {β : Type} (f t : β) : bRec f t false = f := rfl
noncomputable def oRec {α β : Type} (d : β) (k : α → β) (o : Option α) : β := Option.rec (motive := fun _ => β) d k o
@[simp] theorem oRec_none {α β : Type} (d : β) (k : α → β) : oRec d k none = d := rfl
@[simp] theorem oRec_some {α β : Type} (d : β) (k : α → β) (a : α) : oRec d k (some a) = k a := rfl
noncomputable def fN {β : Type} (n : Nat) (k : Nat → β) : β := Nat.rec (motive := fun _ => β) (k Nat.zero) (fun m _ => k (Nat.succ m)) n
theorem fN_eq {β : Type} (n : Nat) (k : Nat → β) : fN n k = k n := by cases n <;> rfl
noncomputable def fI {β : Type} (i : Int) (k : Int → β) : β :=
  Int.rec (motive := fun _ => β) (fun n => fN n fun n => k (Int.ofNat n)) (fun n => fN n fun n => k (Int.negSucc n)) i
theorem fI_eq {β : Type} (i : Int) (k : Int → β) : fI i k = k i := by cases i <;> simp [fI, fN_eq]
noncomputable def lRec {α β : Type} (z : β) (s : α → List α → β → β) (l : List α) : β := List.rec (motive := fun _ => β) z s l
@[simp] theorem lRec_nil {α β : Type} (z : β) (s : α → List α → β → β) : lRec z s [] = z := rfl
@[simp] theorem lRec_cons {α β : Type} (z : β) (s : α → List α → β → β) (a : α) (l : List α) : lRec z s (a :: l) = s a l (lRec z s l) := rfl
noncomputable def nRec {β : Type} (z : β) (s : Nat → β → β) (n : Nat) : β := Nat.rec (motive := fun _ => β) z s n
@[simp] theorem nRec_zero {β : Type} (z : β) (s : Nat → β → β) : nRec z s 0 = z := rfl
@[simp] theorem nRec_succ {β : Type} (z : β) (s : Nat → β → β) (n : Nat) : nRec z s (n + 1) = s n (nRec z s n) := rfl
noncomputable def place3 {β : Type} (n : Nat) (a b c : β) : β := Nat.rec (motive := fun _ => β) a (fun k _ => Nat.rec (motive := fun _ => β) b (fun _ _ => c) k) n
@[simp] theorem place3_zero {β : Type} (a b c : β) : place3 0 a b c = a := rfl
@[simp] theorem place3_one {β : Type} (a b c : β) : place3 1 a b c = b := rfl
@[simp] theorem place3_two {β : Type} (n : Nat) (a b c : β) : place3 (n + 2) a b c = c := rfl
noncomputable def cRec {β : Type} (skip : β) (region : Nat → Array Oper → Bool → β) (seq : Code → Code → β → β → β) (cond : Operand → Code → Code → β → β → β)
    (block : Nat → Code → β → β) (loop : Code → β → β) (rf : Operand → Array Tmp → Code → Code → β) (exit : Nat → β) (scope : Code → β → β) (label : Nat → β) (goto : Nat → β) (ret : β) (refuse : String → β) (c : Code) : β :=
  Code.rec (motive := fun _ => β) skip region seq cond block loop (fun f p a b _ _ => rf f p a b) exit scope label goto ret refuse c

inductive Tr (α : Type) where
  | leaf
  | node (l : Tr α) (x : Option α) (r : Tr α)

namespace Tr
variable {α : Type}
def get : Tr α → Nat → Option α
  | .leaf, _ => none
  | .node _ x _, 0 => x
  | .node l _ r, j + 1 => match Nat.beq (Nat.land j 1) 0 with
    | true => l.get (Nat.div j 2)
    | false => r.get (Nat.div j 2)
def single (v : Option α) : Nat → Nat → Tr α
  | 0, _ => .leaf
  | _ + 1, 0 => .node .leaf v .leaf
  | f + 1, j + 1 => match Nat.beq (Nat.land j 1) 0 with
      | true => .node (single v f (Nat.div j 2)) none .leaf
      | false => .node .leaf none (single v f (Nat.div j 2))
def set (v : Option α) : Tr α → Nat → Tr α
  | .leaf, i => single v (i + 1) i
  | .node l _ r, 0 => .node l v r
  | .node l x r, j + 1 => match Nat.beq (Nat.land j 1) 0 with
      | true => .node (l.set v (Nat.div j 2)) x r
      | false => .node l x (r.set v (Nat.div j 2))
noncomputable def getF (t : Tr α) : Nat → Option α :=
  Tr.rec (motive := fun _ => Nat → Option α) (fun _ => none)
    (fun _ x _ gl gr i => Nat.rec (motive := fun _ => Option α) x (fun j _ => Bool.rec (motive := fun _ => Option α) (gr (Nat.div j 2)) (gl (Nat.div j 2)) (Nat.beq (Nat.land j 1) 0)) i) t
theorem getF_eq (t : Tr α) : ∀ i, t.getF i = t.get i := by
  induction t with
  | leaf => intro i; rfl
  | node l x r ihl ihr =>
    intro i
    cases i with
    | zero => rfl
    | succ j =>
      simp only [get]
      cases h : Nat.beq (Nat.land j 1) 0 with
      | true => rw [← ihl]; simp only [getF, h]
      | false => rw [← ihr]; simp only [getF, h]
noncomputable def singleK {β : Type} (v : Option α) (f : Nat) : Nat → (Tr α → β) → β :=
  Nat.rec (motive := fun _ => Nat → (Tr α → β) → β) (fun _ k => k .leaf)
    (fun _ ih i => Nat.rec (motive := fun _ => (Tr α → β) → β) (fun k => k (.node .leaf v .leaf))
      (fun j _ => Bool.rec (motive := fun _ => (Tr α → β) → β) (fun k => ih (Nat.div j 2) fun t => k (.node .leaf none t)) (fun k => ih (Nat.div j 2) fun t => k (.node t none .leaf)) (Nat.beq (Nat.land j 1) 0)) i) f
theorem singleK_eq {β : Type} (v : Option α) (f : Nat) : ∀ (i : Nat) (k : Tr α → β), singleK v f i k = k (single v f i) := by
  induction f with
  | zero => intro i k; rfl
  | succ f ih =>
    intro i k
    cases i with
    | zero => rfl
    | succ j =>
      simp only [single]
      cases h : Nat.beq (Nat.land j 1) 0 with
      | true =>
        have := ih (Nat.div j 2) (fun t => k (.node t none .leaf))
        simp only [singleK, h] at this ⊢; exact this
      | false =>
        have := ih (Nat.div j 2) (fun t => k (.node .leaf none t))
        simp only [singleK, h] at this ⊢; exact this
noncomputable def setK {β : Type} (v : Option α) (t : Tr α) : Nat → (Tr α → β) → β :=
  Tr.rec (motive := fun _ => Nat → (Tr α → β) → β) (fun i k => singleK v (i + 1) i k)
    (fun l x r sl sr i => Nat.rec (motive := fun _ => (Tr α → β) → β) (fun k => k (.node l v r))
      (fun j _ => Bool.rec (motive := fun _ => (Tr α → β) → β) (fun k => sr (Nat.div j 2) fun t => k (.node l x t)) (fun k => sl (Nat.div j 2) fun t => k (.node t x r)) (Nat.beq (Nat.land j 1) 0)) i) t
theorem setK_eq {β : Type} (v : Option α) (t : Tr α) : ∀ (i : Nat) (k : Tr α → β), setK v t i k = k (t.set v i) := by
  induction t with
  | leaf => intro i k; exact singleK_eq v (i + 1) i k
  | node l x r ihl ihr =>
    intro i k
    cases i with
    | zero => rfl
    | succ j =>
      simp only [set]
      cases h : Nat.beq (Nat.land j 1) 0 with
      | true =>
        have := ihl (Nat.div j 2) (fun t => k (.node t x r))
        simp only [setK, h] at this ⊢; exact this
      | false =>
        have := ihr (Nat.div j 2) (fun t => k (.node l x t))
        simp only [setK, h] at this ⊢; exact this
theorem land_one (j : Nat) : Nat.land j 1 = j % 2 := Nat.and_one_is_mod j
theorem even_of {j : Nat} (h : Nat.beq (Nat.land j 1) 0 = true) : j = 2 * Nat.div j 2 := by
  have h1 := Nat.eq_of_beq_eq_true h
  rw [land_one] at h1
  have h2 : Nat.div j 2 = j / 2 := rfl
  omega
theorem odd_of {j : Nat} (h : Nat.beq (Nat.land j 1) 0 = false) : j = 2 * Nat.div j 2 + 1 := by
  have h1 := Nat.ne_of_beq_eq_false h
  rw [land_one] at h1
  have h2 : Nat.div j 2 = j / 2 := rfl
  omega
theorem get_single (v : Option α) (f : Nat) : ∀ i j, i < f → (single v f i).get j = if j = i then v else none := by
  induction f with
  | zero => intro i j h; omega
  | succ f ih =>
    intro i j hf
    cases i with
    | zero =>
      cases j with
      | zero => rfl
      | succ j => simp only [single, get]; split <;> simp
    | succ i =>
      have hd : Nat.div i 2 = i / 2 := rfl
      simp only [single]
      cases h : Nat.beq (Nat.land i 1) 0 with
      | true =>
        simp only []
        cases j with
        | zero => simp [get]
        | succ j =>
          simp only [get]
          cases h' : Nat.beq (Nat.land j 1) 0 with
          | true =>
            simp only []
            rw [ih _ _ (by omega)]
            have e1 := even_of h; have e2 := even_of h'
            by_cases e : Nat.div j 2 = Nat.div i 2
            · rw [if_pos e, if_pos (by omega)]
            · rw [if_neg e, if_neg (by omega)]
          | false =>
            have e1 := even_of h; have e2 := odd_of h'
            simp only []; rw [if_neg (by omega)]
      | false =>
        simp only []
        cases j with
        | zero => simp [get]
        | succ j =>
          simp only [get]
          cases h' : Nat.beq (Nat.land j 1) 0 with
          | true =>
            have e1 := odd_of h; have e2 := even_of h'
            simp only []; rw [if_neg (by omega)]
          | false =>
            simp only []
            rw [ih _ _ (by omega)]
            have e1 := odd_of h; have e2 := odd_of h'
            by_cases e : Nat.div j 2 = Nat.div i 2
            · rw [if_pos e, if_pos (by omega)]
            · rw [if_neg e, if_neg (by omega)]
theorem get_set (v : Option α) (t : Tr α) : ∀ i j, (t.set v i).get j = if j = i then v else t.get j := by
  induction t with
  | leaf => intro i j; simp only [set]; rw [get_single v _ _ _ (by omega)]; simp [get]
  | node l x r ihl ihr =>
    intro i j
    cases i with
    | zero =>
      cases j with
      | zero => rfl
      | succ j => simp [set, get]
    | succ i =>
      simp only [set]
      cases h : Nat.beq (Nat.land i 1) 0 with
      | true =>
        simp only []
        cases j with
        | zero => simp [get]
        | succ j =>
          simp only [get]
          cases h' : Nat.beq (Nat.land j 1) 0 with
          | true =>
            simp only []
            rw [ihl]
            have e1 := even_of h; have e2 := even_of h'
            by_cases e : Nat.div j 2 = Nat.div i 2
            · rw [if_pos e, if_pos (by omega)]
            · rw [if_neg e, if_neg (by omega)]
          | false =>
            have e1 := even_of h; have e2 := odd_of h'
            simp only []; rw [if_neg (by omega)]
      | false =>
        simp only []
        cases j with
        | zero => simp [get]
        | succ j =>
          simp only [get]
          cases h' : Nat.beq (Nat.land j 1) 0 with
          | true =>
            have e1 := odd_of h; have e2 := even_of h'
            simp only []; rw [if_neg (by omega)]
          | false =>
            simp only []
            rw [ihr]
            have e1 := odd_of h; have e2 := odd_of h'
            by_cases e : Nat.div j 2 = Nat.div i 2
            · rw [if_pos e, if_pos (by omega)]
            · rw [if_neg e, if_neg (by omega)]
end Tr
end Go.Sx

/- The executor: abstract values, objects, operations. -/
namespace Go.Sx
noncomputable section

inductive AV where
  | unk
  | one
  | sym (i : Nat)
  | anyB
  | anyI (k : IntKind)
  | bool (b : Bool)
  | int (k : IntKind) (n : Int)
  | intGe (lo : Nat)
  | str (len n : Nat)
  | nilPtr
  | ptr (a off : Nat)
  | nilSl
  | sl (a off len sz : Nat) (cap : Option Nat)
  | nilMap
  | map (a : Nat)
  | nilFn
  | fn (f : FuncId) (first captured : List AV)
  | yield (l : Nat)
  | nilIf
  | iface (t : TypeId) (v : AV)
  | agg (cs : List AV)
  | tup (vs : List AV)
  deriving Inhabited

/-- force a value to its constructor -/
def fV {β : Type} (v : AV) (k : AV → β) : β :=
  AV.casesOn (motive_1 := fun _ => (AV → β) → β) v (fun k => k .unk) (fun k => k .one) (fun i k => k (.sym i)) (fun k => k .anyB) (fun a k => k (.anyI a)) (fun b k => k (.bool b)) (fun a n k => k (.int a n)) (fun n k => k (.intGe n))
    (fun l n k => k (.str l n)) (fun k => k .nilPtr) (fun a o k => k (.ptr a o)) (fun k => k .nilSl) (fun a o l s c k => k (.sl a o l s c)) (fun k => k .nilMap) (fun a k => k (.map a))
    (fun k => k .nilFn) (fun f a b k => k (.fn f a b)) (fun l k => k (.yield l)) (fun k => k .nilIf) (fun t v k => k (.iface t v)) (fun l k => k (.agg l)) (fun l k => k (.tup l)) k
theorem fV_eq {β : Type} (v : AV) (k : AV → β) : fV v k = k v := by cases v <;> rfl

/-- the eliminators: a handler for one kind, and one for all others; the branches closed -/
def onBool {β : Type} (v : AV) (d : β) (k : Bool → β) : β := (match v with | .bool b => fun _ k => k b | _ => fun d _ => d : β → (Bool → β) → β) d k
def onInt {β : Type} (v : AV) (d : β) (k : IntKind → Int → β) : β := (match v with | .int a n => fun _ k => k a n | _ => fun d _ => d : β → (IntKind → Int → β) → β) d k
def onPtr {β : Type} (v : AV) (d : β) (k : Nat → Nat → β) : β := (match v with | .ptr a o => fun _ k => k a o | _ => fun d _ => d : β → (Nat → Nat → β) → β) d k
def onSl {β : Type} (v : AV) (d : β) (k : Nat → Nat → Nat → Nat → Option Nat → β) : β :=
  (match v with | .sl a o l s c => fun _ k => k a o l s c | _ => fun d _ => d : β → (Nat → Nat → Nat → Nat → Option Nat → β) → β) d k

inductive Loc where
  | nil
  | cons (t : Nat) (v : AV) (l : Loc)
  deriving Inhabited
def lookF (l : Loc) (t : Nat) : AV := Loc.rec (motive := fun _ => AV) .unk (fun i v _ ih => Bool.rec (motive := fun _ => AV) ih v (Nat.beq i t)) l

inductive AD where
  | call (f : FuncId) (args : List AV)
  | coll (r : Nat)

inductive AME where
  | mk (key val : AV) (born : Nat)
def AME.key : AME → AV | .mk k _ _ => k
def AME.val : AME → AV | .mk _ v _ => v
def AME.born : AME → Nat | .mk _ _ b => b

inductive AObj where
  | cells (exact : Bool) (n : Nat) (c : Tr AV)
  | bytes (exact : Bool) (n : Nat) (b : Nat)
  | ro (n : Nat) (c : Tr AV)
  | map (es : List AME) (clock : Nat)
  | strIter (len n pos : Nat)
  | mapIter (m : Option Nat) (since : Nat) (seen : List Nat) (stepped : Nat)
  | loop (state : LoopState) (pending : Option Code) (fn m : Nat) (tm : Tr AV) (loc : Loc) (params : Array Tmp) (assign body : Code) (defers : Nat)
  | defd (calls : Option (List AD))

/-- one element of a plan for a region that draws its order -/
inductive PS where
  | ev (i : Nat)
  | ck (i : Nat)
  | an (i : Nat)
  | an2 (i j : Nat)

inductive It where
  | code (c : Code)
  | inBlock (id : Nat)
  | inLoop (body : Code)
  | inScope (body : Code)
  | ops (l : List Oper) (all : Array Oper)
  | draw (l : List PS) (all : Array Oper)
  | inRange (l : Nat)
  | endRange (l : Nat)
  | beginRound

inductive TF where
  | mk (fn m : Nat) (tm : Tr AV) (loc : Loc) (todo : List It) (defers : List AD) (dfr : Bool) (round : Option Nat)

inductive R where
  | go (todo : List It) (fn m : Nat) (tm : Tr AV) (loc : Loc) (defers : List AD) (dfr : Bool) (round : Option Nat) (cs : List TF) (h : Tr AObj) (nx : Nat)
  | ret (fn m : Nat) (tm : Tr AV) (loc : Loc) (defers : List AD) (dfr : Bool) (round : Option Nat) (cs : List TF) (h : Tr AObj) (nx : Nat)
  | fin (v : AV) (h : Tr AObj) (nx : Nat)
  | fork (a b : R)
  | fail (why : String)
  deriving Inhabited

-- bytes, packed: the byte i of n
def byteAt (n i : Nat) : Nat := Nat.land (Nat.shiftRight n (Nat.mul 8 i)) 255
def subB (n lo len : Nat) : Nat := Nat.mod (Nat.shiftRight n (Nat.mul 8 lo)) (Nat.shiftLeft 1 (Nat.mul 8 len))
def catB (len1 n1 n2 : Nat) : Nat := Nat.add n1 (Nat.shiftLeft n2 (Nat.mul 8 len1))
/-- `m` (of `len` bytes) at place `lo` of `n` -/
def splB (n lo len m : Nat) : Nat :=
  Nat.add (Nat.mod n (Nat.shiftLeft 1 (Nat.mul 8 lo))) (Nat.shiftLeft (Nat.add m (Nat.shiftLeft (Nat.shiftRight n (Nat.mul 8 (Nat.add lo len))) (Nat.mul 8 len))) (Nat.mul 8 lo))
def packL : List UInt8 → Nat
  | [] => 0
  | b :: l => b.toNat + 256 * packL l
def unpackB : Nat → Nat → List Nat
  | 0, _ => []
  | k + 1, n => Nat.land n 255 :: unpackB k (Nat.shiftRight n 8)

mutual
def absV : Value → AV
  | .bool b => .bool b
  | .int k n => .int k n
  | .string s => .str s.size (packL s.data.toList)
  | .pointer none => .nilPtr
  | .slice none 0 0 => .nilSl
  | .map none => .nilMap
  | .nilFunc => .nilFn
  | .nilIface => .nilIf
  | .iface t v => .iface t (absV v)
  | .agg ⟨cs⟩ => .agg (absL cs)
  | .tuple ⟨cs⟩ => .tup (absL cs)
  | .func (.func f) ⟨a⟩ ⟨b⟩ => .fn f (absL a) (absL b)
  | _ => .unk
def absL : List Value → List AV
  | [] => []
  | v :: l => absV v :: absL l
end

/-- where a temporary is kept: 0: nowhere, 1: with the region's own, 2 (3): with those that cross regions -/
def place (m t : Nat) : Nat := Nat.land (Nat.shiftRight m (Nat.mul 2 t)) 3
def orUnk (o : Option AV) : AV := oRec .unk (fun v => v) o
def orOne (o : Option AV) : AV := oRec .one (fun v => v) o
def evT (t m : Nat) (tm : Tr AV) (loc : Loc) : AV := place3 (place m t) .unk (lookF loc t) (orUnk (tm.getF t))
def ev (x : Operand) (m : Nat) (tm : Tr AV) (loc : Loc) : AV :=
  (match x with
  | .tmp t => fun m tm loc => evT t m tm loc
  | .const v => fun _ _ _ => absV v
  | .global g => fun _ _ _ => bRec .unk (.ptr g 0) (Nat.blt g 64)
  | .func f => fun _ _ _ => .fn f [] [] : Nat → Tr AV → Loc → AV) m tm loc

def evK {β : Type} (x : Operand) (m : Nat) (tm : Tr AV) (loc : Loc) (k : AV → β) : β := fV (ev x m tm loc) k
/-- a list of operands, all forced -/
def evLK {β : Type} (xs : List Operand) (m : Nat) (tm : Tr AV) (loc : Loc) : (List AV → β) → β :=
  lRec (fun k => k []) (fun x _ ih k => evK x m tm loc fun v => ih fun l => k (v :: l)) xs
def evL (xs : List Operand) (m : Nat) (tm : Tr AV) (loc : Loc) : List AV := xs.map fun x => ev x m tm loc

-- what an operation comes to
inductive FkI where
  | mk (v : AV) (h : Tr AObj) (nx : Nat)
inductive OR where
  | val (v : AV) (h : Tr AObj) (nx : Nat)
  | enter (f : FuncId) (args : List AV)
  | round (l : Nat) (args : List AV)
  | defer (d : AD)
  | recov
  | fork (l : List FkI)
  | bad (why : String)
  deriving Inhabited

-- the tables
inductive EK where
  | mapsClone | overlaps | makeNoZero | cmpStr
  /-- what a function answers, at arguments that are known -/
  | told (tab : List (List AV × AV))
def szO (P : Program) (t : TypeId) : Option Nat := (P.info? t).map (·.size)
def isAggT (P : Program) (t : TypeId) : Bool := match P.underlying t with | some (.struct _) | some (.array ..) => true | _ => false
/-- none: no such type; some none: one cell; some (some n): an aggregate of n cells -/
def shapeT (P : Program) (t : TypeId) : Option (Option Nat) := match P.underlying t with
  | none => none
  | some _ => match isAggT P t with
    | true => (szO P t).map some
    | false => some none
def zeroA (P : Program) (t : TypeId) : Option AV := (P.info? t).bind fun i => i.zero.map absV
def zeroC (P : Program) (t : TypeId) : Option (List AV) := (zeroA P t).map fun v => match v with | .agg l => l | v => [v]
def isByte (P : Program) (t : TypeId) : Bool := match P.underlying t with | some (.int .u8) => true | _ => false
def elemSl (P : Program) (t : TypeId) : Option TypeId := match P.underlying t with | some (.slice e) => some e | _ => none
def fieldOff (P : Program) (s : TypeId) (f : Nat) : Option (Nat × TypeId) := match P.underlying s with
  | some (.struct fs) => (fs.toList[f]?).map fun x => (x.offset, x.type)
  | _ => none
/-- the place of a field that takes room -/
def fieldOffA (P : Program) (s : TypeId) (f : Nat) : Option Nat := match fieldOff P s f with
  | some (o, t) => match szO P t with
    | some (_ + 1) => some o
    | _ => none
  | none => none
def enterOk (P : Program) (f : FuncId) : Option Code := match P.funcs[f]? with
  | some fn => match fn.name == "runtime.NumGoroutine" with
    | true => none
    | false => fn.body
  | none => none

/-- the cells of a value; none: not known how many -/
def AV.cells (v : AV) : Option (List AV) := match v with
  | .agg cs => some cs
  | .unk => none
  | v => some [v]
/-- surely a value of one cell? -/
def AV.isOne (v : AV) : Bool := match v with
  | .agg _ => false
  | .unk => false
  | .tup _ => false
  | _ => true

-- cells of objects
def bad (s : String) : OR := .bad s

/-- chunks: bytes, packed, or cells -/
inductive Ch where
  | bytes (n b : Nat)
  | cells (l : List AV)
def Ch.len : Ch → Nat | .bytes n _ => n | .cells l => l.length

def readCell {β : Type} (o : AObj) (i : Nat) (d : β) (k : AV → β) : β :=
  (match o with
  | .cells _ n c => fun i d k => bRec d (fV (orOne (c.getF i)) k) (Nat.blt i n)
  | .bytes _ n b => fun i d k => bRec d (fN (byteAt b i) fun x => k (.int .u8 (Int.ofNat x))) (Nat.blt i n)
  | .ro n c => fun i d k => bRec d (fV (orOne (c.getF i)) k) (Nat.blt i n)
  | _ => fun _ d _ => d : Nat → β → (AV → β) → β) i d k

/-- n cells from i on -/
def readCells {β : Type} (o : AObj) (n : Nat) : Nat → β → (List AV → β) → β :=
  nRec (fun _ _ k => k []) (fun _ ih i d k => readCell o i d fun v => ih (Nat.succ i) d fun l => k (v :: l)) n

def writeCell {β : Type} (o : AObj) (i : Nat) (v : AV) (d : β) (k : AObj → β) : β :=
  (match o with
  | .cells x n c => fun i v d k => bRec d (bRec d (c.setK (some v) i fun c => k (.cells x n c)) (AV.isOne v)) (Nat.blt i n)
  | .bytes x n b => fun i v d k => onInt v d fun kd z =>
      (match kd, z with
      | .u8, .ofNat m => bRec d (bRec d (fN (splB b i 1 m) fun b => k (.bytes x n b)) (Nat.blt m 256)) (Nat.blt i n)
      | _, _ => d)
  | _ => fun _ _ d _ => d : Nat → AV → β → (AObj → β) → β) i v d k

def writeCells {β : Type} (l : List AV) : AObj → Nat → β → (AObj → β) → β :=
  lRec (fun o _ _ k => k o) (fun v _ ih o i d k => writeCell o i v d fun o => ih o (Nat.succ i) d k) l

def cellsOfBytes (n b : Nat) : List AV := (unpackB n b).map fun x => .int .u8 (Int.ofNat x)
def Ch.list : Ch → List AV | .bytes n b => cellsOfBytes n b | .cells l => l
def packV : List AV → Option Nat
  | [] => some 0
  | .int .u8 (.ofNat b) :: l => match Nat.blt b 256 with
    | true => (packV l).map fun n => b + 256 * n
    | false => none
  | _ => none

/-- put a chunk into an object -/
def writeCh {β : Type} (c : Ch) (o : AObj) (i : Nat) (d : β) (k : AObj → β) : β :=
  match c, o with
  | .bytes m s, .bytes x n b => bRec d (fN (splB b i m s) fun b => k (.bytes x n b)) (Nat.ble (Nat.add i m) n)
  | .bytes m s, o => writeCells (cellsOfBytes m s) o i d k
  | .cells l, o => writeCells l o i d k

def ofListK {β : Type} (l : List AV) : Nat → Tr AV → (Tr AV → β) → β :=
  lRec (fun _ t k => k t) (fun v _ ih i t k => t.setK (some v) i fun t => ih (Nat.succ i) t k) l

/-- a new object out of a chunk; `byte`: of bytes -/
def mkObj {β : Type} (byte x : Bool) (c : Ch) (k : AObj → β) : β :=
  match c with
  | .bytes n b => k (.bytes x n b)
  | .cells l => match byte, packV l with
    | true, some b => fN b fun b => fN l.length fun n => k (.bytes x n b)
    | _, _ => fN l.length fun n => ofListK l 0 .leaf fun t => k (.cells x n t)

def newO (o : AObj) (h : Tr AObj) (nx : Nat) (v : AV) : OR := h.setK (some o) nx fun h => fN (Nat.succ nx) fun nx' => .val v h nx'

def onObj {β : Type} (h : Tr AObj) (a : Nat) (d : β) (k : AObj → β) : β := oRec d k (h.getF a)

def opLoad (P : Program) (t : TypeId) (p : AV) (h : Tr AObj) (nx : Nat) : OR :=
  onPtr p (bad "load: pointer") fun a off => onObj h a (bad "load: dead") fun o =>
    match shapeT P t with
    | some none => readCell o off (bad "load: cell") fun v => .val v h nx
    | some (some n) => readCells o n off (bad "load: cells") fun l => .val (.agg l) h nx
    | none => bad "load: type"

def opStore (P : Program) (t : TypeId) (p v : AV) (h : Tr AObj) (nx : Nat) : OR :=
  onPtr p (bad "store: pointer") fun a off => onObj h a (bad "store: dead") fun o =>
    match szO P t with
    | some n => match v.cells with
      | some l => match Nat.beq n l.length with
        | true => writeCells l o off (bad "store: cells") fun o => h.setK (some o) a fun h => .val (.tup []) h nx
        | false => bad "store: size"
      | none => bad "store: unknown"
    | none => bad "store: type"

def repl (zs : List AV) : Nat → List AV
  | 0 => []
  | n + 1 => zs ++ repl zs n

-- integers
def maxN : IntKind → Nat
  | .i8 => 127 | .i16 => 32767 | .i32 => 2147483647 | .i64 => 9223372036854775807
  | .u8 => 255 | .u16 => 65535 | .u32 => 4294967295 | .u64 => 18446744073709551615
/-- how many numbers are below zero -/
def negN : IntKind → Nat
  | .i8 => 128 | .i16 => 32768 | .i32 => 2147483648 | .i64 => 9223372036854775808
  | _ => 0
def wrapK {β : Type} (k : IntKind) (n : Int) (f : Int → β) : β :=
  match n with
  | .ofNat m => fN m fun m => bRec (fI (k.wrap (.ofNat m)) f) (f (.ofNat m)) (Nat.ble m (maxN k))
  | .negSucc m => fN m fun m => bRec (fI (k.wrap (.negSucc m)) f) (f (.negSucc m)) (Nat.blt m (negN k))

def bytesLt : Nat → Nat → Nat → Nat → Bool
  | 0, _, l2, _ => !Nat.beq l2 0
  | _ + 1, _, 0, _ => false
  | l1 + 1, a, l2 + 1, b => match Nat.beq (Nat.land a 255) (Nat.land b 255) with
    | true => bytesLt l1 (Nat.shiftRight a 8) l2 (Nat.shiftRight b 8)
    | false => Nat.blt (Nat.land a 255) (Nat.land b 255)

/-- may two blocks be told apart by their addresses? (cells that no string shares) -/
def apart (h : Tr AObj) (a b : Nat) : Bool := match h.getF a, h.getF b with
  | some (.cells ..), some (.cells ..) => true
  | _, _ => false

def ltI (a b : Int) : Bool :=
  match a, b with
  | .ofNat x, .ofNat y => Nat.blt x y
  | .ofNat _, .negSucc _ => false
  | .negSucc _, .ofNat _ => true
  | .negSucc x, .negSucc y => Nat.blt y x
def eqI (a b : Int) : Bool :=
  match a, b with
  | .ofNat x, .ofNat y => Nat.beq x y
  | .negSucc x, .negSucc y => Nat.beq x y
  | _, _ => false

/-- keys of maps -/
def keyEq (x y : AV) : Option Bool := match x, y with
  | .bool a, .bool b => some (a == b)
  | .int j a, .int k b => match j == k with | true => some (eqI a b) | false => none
  | .str l a, .str m b => some (Nat.beq l m && Nat.beq a b)
  | _, _ => none

/-- '==' at a type that is no struct and no array -/
def eq1 (P : Program) (t : TypeId) (h : Tr AObj) (x y : AV) : Option Bool := match P.underlying t, x, y with
  | some .bool, .bool a, .bool b => some (a == b)
  | some (.int _), .int j a, .int k b => match j == k with | true => some (eqI a b) | false => none
  | some .string, .str l a, .str m b => some (Nat.beq l m && Nat.beq a b)
  | some (.pointer _), .nilPtr, .nilPtr => some true
  | some (.pointer _), .nilPtr, .ptr _ _ => some false
  | some (.pointer _), .ptr _ _, .nilPtr => some false
  | some (.pointer e), .ptr a o, .ptr b p => match szO P e with
    | some (_ + 1) => match Nat.beq a b with
      | true => some (Nat.beq o p)
      | false => match apart h a b with | true => some false | false => none
    | _ => none
  | some (.slice _), .nilSl, .nilSl => some true
  | some (.slice _), .nilSl, .sl _ _ _ _ _ => some false
  | some (.slice _), .sl _ _ _ _ _, .nilSl => some false
  | some (.map _ _), .nilMap, .nilMap => some true
  | some (.map _ _), .nilMap, .map _ => some false
  | some (.map _ _), .map _, .nilMap => some false
  | some (.func _ _ _), .nilFn, .nilFn => some true
  | some (.func _ _ _), .nilFn, .fn _ _ _ => some false
  | some (.func _ _ _), .fn _ _ _, .nilFn => some false
  | some (.interface _), .nilIf, .iface _ _ => some false
  | some (.interface _), .iface _ _, .nilIf => some false
  | _, _, _ => none
def eqFs (P : Program) (h : Tr AObj) (xs ys : List AV) : List Field → Option Bool
  | [] => some true
  | f :: fs => match f.name == "_", isAggT P f.type, xs[f.offset]?, ys[f.offset]? with
    | false, false, some a, some b => match eq1 P f.type h a b with
      | some true => eqFs P h xs ys fs
      | some false => some false
      | none => none
    | _, _, _, _ => none
/-- '==' -/
def eqT (P : Program) (t : TypeId) (h : Tr AObj) (x y : AV) : Option Bool := match x, y with
  | .agg xs, .agg ys => match P.underlying t with
    | some (.struct fs) => match P.stoodInHeld t || P.eqGuardType P.depth t with
      | true => none
      | false => eqFs P h xs ys fs.toList
    | _ => none
  | x, y => eq1 P t h x y

def bitGen (op : BinOp) (k : IntKind) (a b : Int) : Option Int :=
  match op with
  | .and => some (k.wrap (BitVec.ofInt k.bits a &&& BitVec.ofInt k.bits b).toNat)
  | .or => some (k.wrap (BitVec.ofInt k.bits a ||| BitVec.ofInt k.bits b).toNat)
  | .xor => some (k.wrap (BitVec.ofInt k.bits a ^^^ BitVec.ofInt k.bits b).toNat)
  | .andNot => some (k.wrap (BitVec.ofInt k.bits a &&& ~~~(BitVec.ofInt k.bits b)).toNat)
  | _ => none
def bitOp (op : BinOp) (k : IntKind) (a b : Int) : Option Int :=
  match op, a, b with
  | .and, .ofNat x, .ofNat y => match Nat.ble x (maxN k) && Nat.ble y (maxN k) with
    | true => some (.ofNat (Nat.land x y))
    | false => bitGen .and k a b
  | op, a, b => bitGen op k a b

def binInt (op : BinOp) (k : IntKind) (a b : Int) (d : AV → OR) : OR :=
  (match op with
  | .add => fun k a b d => wrapK k (a + b) fun n => d (.int k n)
  | .sub => fun k a b d => wrapK k (a - b) fun n => d (.int k n)
  | .mul => fun k a b d => wrapK k (a * b) fun n => d (.int k n)
  | .quo => fun k a b d => bRec (wrapK k (a.tdiv b) fun n => d (.int k n)) (bad "division by zero") (eqI b 0)
  | .rem => fun k a b d => bRec (fI (a.tmod b) fun n => d (.int k n)) (bad "division by zero") (eqI b 0)
  | .eql => fun _ a b d => fV (.bool (eqI a b)) d
  | .neq => fun _ a b d => fV (.bool (!(eqI a b))) d
  | .lss => fun _ a b d => fV (.bool (ltI a b)) d
  | .leq => fun _ a b d => fV (.bool (!(ltI b a))) d
  | .gtr => fun _ a b d => fV (.bool (ltI b a)) d
  | .geq => fun _ a b d => fV (.bool (!(ltI a b))) d
  | op => fun k a b d => match bitOp op k a b with
    | some n => fI n fun n => d (.int k n)
    | none => bad "binOp" : IntKind → Int → Int → (AV → OR) → OR) k a b d

def fB {β : Type} (b : Bool) (k : Bool → β) : β := bRec (k false) (k true) b

def binStr (op : BinOp) (l a m b : Nat) (d : AV → OR) : OR :=
  match op with
  | .add => match Nat.ble (l + m) 9223372036854775807 with
    | true => fN (l + m) fun l' => fN (catB l a b) fun n => d (.str l' n)
    | false => bad "string too long"
  | .eql => fB (Nat.beq l m && Nat.beq a b) fun x => d (.bool x)
  | .neq => fB (!(Nat.beq l m && Nat.beq a b)) fun x => d (.bool x)
  | .lss => fB (bytesLt l a m b) fun x => d (.bool x)
  | .leq => fB (bytesLt l a m b || (Nat.beq l m && Nat.beq a b)) fun x => d (.bool x)
  | .gtr => fB (!(bytesLt l a m b || (Nat.beq l m && Nat.beq a b))) fun x => d (.bool x)
  | .geq => fB (!(bytesLt l a m b)) fun x => d (.bool x)
  | _ => bad "binOp"

def shiftI (left : Bool) (k : IntKind) (a b : Int) (d : AV → OR) : OR :=
  match b, left with
  | .ofNat s, true => match Nat.ble s 64 with
    | true => wrapK k (a * (2 ^ (min s k.bits) : Nat)) fun n => d (.int k n)
    | false => bad "shift"
  | .ofNat s, false => match a with
    | .ofNat x => fN (Nat.shiftRight x (min s k.bits)) fun n => d (.int k (.ofNat n))
    | a => fI (a.fdiv (2 ^ (min s k.bits))) fun n => d (.int k n)
  | _, _ => bad "shift"

def binOther (P : Program) (op : BinOp) (t : TypeId) (x y : AV) (h : Tr AObj) (d : AV → OR) : OR :=
  match op, x, y with
  | op, .str l a, .str m b => binStr op l a m b d
  | .gtr, .anyI k, .int j _ => match k == j with | true => d .anyB | false => bad "binOp: kinds"
  | .gtr, .int .i64 (.ofNat a), .intGe lo => match Nat.ble a lo with | true => d (.bool false) | false => bad "binOp: a capacity"
  | .eql, x, y => match eqT P t h x y with | some b => fB b fun b => d (.bool b) | none => bad "eql"
  | .neq, x, y => match eqT P t h x y with | some b => fB (!b) fun b => d (.bool b) | none => bad "neq"
  | _, _, _ => bad "binOp"

def isShift (op : BinOp) : Option Bool := match op with | .shl => some true | .shr => some false | _ => none

def opBin (P : Program) (op : BinOp) (t : TypeId) (x y : AV) (h : Tr AObj) (nx : Nat) : OR :=
  onInt x (binOther P op t x y h fun v => .val v h nx) fun k a => onInt y (binOther P op t x y h fun v => .val v h nx) fun j b =>
    match isShift op with
    | some l => shiftI l k a b fun v => .val v h nx
    | none => match k == j with
      | true => binInt op k a b fun v => .val v h nx
      | false => bad "binOp: kinds"

def opUn (op : UnOp) (x : AV) (h : Tr AObj) (nx : Nat) : OR :=
  match op, x with
  | .neg, .int k n => wrapK k (0 - n) fun n => .val (.int k n) h nx
  | .xor, .int k n => match bitOp .xor k (if k.signed then -1 else k.max) n with
    | some n => fI n fun n => .val (.int k n) h nx
    | none => bad "unOp"
  | .not, .bool b => fB (!b) fun b => .val (.bool b) h nx
  | _, _ => bad "unOp"

/-- an index below n -/
def idx {β : Type} (v : AV) (n : Nat) (d : β) (k : Nat → β) : β := onInt v d fun _ z => match z with
  | .ofNat i => fN i fun i => bRec d (k i) (Nat.blt i n)
  | .negSucc _ => d

/-- is this the type of a slice whose elements have s cells? -/
def slFits (P : Program) (t : TypeId) (s : Nat) : Bool := match elemSl P t with
  | some e => match szO P e with
    | some s' => Nat.beq s s'
    | none => false
  | none => false

/-- the element's size and the length, of an array -/
def arrT (P : Program) (t : TypeId) : Option (Nat × Nat × TypeId) := match P.underlying t with
  | some (.array len e) => (szO P e).map fun s => (len, s, e)
  | _ => none

def opIndexAddr (P : Program) (t : TypeId) (x i : AV) (h : Tr AObj) (nx : Nat) : OR :=
  onSl x (onPtr x (bad "indexAddr") fun a off => match arrT P t with
      | some (len, s, _) => idx i len (bad "indexAddr: range") fun j => fN (Nat.add off (Nat.mul j s)) fun o => .val (.ptr a o) h nx
      | none => bad "indexAddr: type")
    fun a off len s _ => match slFits P t s with
      | true => idx i len (bad "indexAddr: range") fun j => fN (Nat.add off (Nat.mul j s)) fun o => .val (.ptr a o) h nx
      | false => bad "indexAddr: type"

def partL (P : Program) (t : TypeId) (cs : List AV) (o : Nat) : Option AV := match shapeT P t with
  | some none => cs[o]?
  | some (some n) => some (.agg ((cs.drop o).take n))
  | none => none

def opOpt (o : Option AV) (why : String) (h : Tr AObj) (nx : Nat) : OR := match o with
  | some v => fV v fun v => .val v h nx
  | none => bad why

def opIndex (P : Program) (t : TypeId) (x i : AV) (h : Tr AObj) (nx : Nat) : OR :=
  match x with
  | .str len n => match P.underlying t with
    | some .string => idx i len (bad "index: range") fun j => fN (byteAt n j) fun b => .val (.int .u8 (Int.ofNat b)) h nx
    | _ => bad "index: type"
  | .agg cs => match arrT P t with
    | some (len, s, e) => idx i len (bad "index: range") fun j => opOpt (partL P e cs (j * s)) "index" h nx
    | none => bad "index: type"
  | _ => bad "index"

def opFieldAddr (P : Program) (s : TypeId) (x : AV) (f : Nat) (h : Tr AObj) (nx : Nat) : OR :=
  onPtr x (bad "fieldAddr") fun a off => match fieldOffA P s f with
    | some o => fN (Nat.add off o) fun o => .val (.ptr a o) h nx
    | none => bad "fieldAddr: type"

def opField (P : Program) (s : TypeId) (x : AV) (f : Nat) (h : Tr AObj) (nx : Nat) : OR :=
  match x, fieldOff P s f with
  | .agg cs, some (o, t) => opOpt (partL P t cs o) "field" h nx
  | _, _ => bad "field"

def setAt : List AV → Nat → List AV → Option (List AV)
  | l, 0, [] => some l
  | _ :: l, 0, v :: vs => (setAt l 0 vs).map (v :: ·)
  | x :: l, o + 1, vs => (setAt l o vs).map (x :: ·)
  | [], _, _ => none

def fillA (place : Nat → Option (Nat × Nat)) (cells : List AV) : List (Nat × AV) → Option (List AV)
  | [] => some cells
  | (i, v) :: rest => match place i with
    | none => none
    | some (off, size) => match v.cells with
      | none => none
      | some l => match Nat.beq l.length size with
        | false => none
        | true => match setAt cells off l with
          | some cells => fillA place cells rest
          | none => none

def placeS (P : Program) (fs : List Field) (i : Nat) : Option (Nat × Nat) := match fs[i]? with
  | some f => (szO P f.type).map fun s => (f.offset, s)
  | none => none

/-- force a list of values -/
def fL {β : Type} (l : List AV) : (List AV → β) → β := lRec (fun k => k []) (fun v _ ih k => fV v fun v => ih fun l => k (v :: l)) l

def opBuild (P : Program) (t : TypeId) (parts : List (Nat × AV)) (h : Tr AObj) (nx : Nat) : OR :=
  match zeroC P t, P.underlying t with
  | some z, some (.struct fs) => match fs.toList.all (fun f => (szO P f.type).isSome), fillA (placeS P fs.toList) z parts with
    | true, some cs => fL cs fun cs => .val (.agg cs) h nx
    | _, _ => bad "build"
  | some z, some (.array _ e) => match szO P e with
    | some s => match fillA (fun i => some (i * s, s)) z parts with
      | some cs => fL cs fun cs => .val (.agg cs) h nx
      | none => bad "build"
    | none => bad "build"
  | _, _ => bad "build"

def opBuildSlice (P : Program) (t : TypeId) (len : Nat) (parts : List (Nat × AV)) (h : Tr AObj) (nx : Nat) : OR :=
  match elemSl P t with
  | some e => match szO P e, zeroC P e with
    | some s, some z => match Nat.ble (len * s) 16777216 && Nat.beq z.length s, fillA (fun i => some (i * s, s)) (repl z len) parts with
      | true, some cs => fL cs fun cs => mkObj (isByte P e) true (.cells cs) fun o => fN s fun s => newO o h nx (.sl nx 0 len s none)
      | _, _ => bad "buildSlice"
    | _, _ => bad "buildSlice"
  | none => bad "buildSlice"

def natOf {β : Type} (v : AV) (d : β) (k : Nat → β) : β := onInt v d fun _ z => match z with
  | .ofNat i => fN i k
  | .negSucc _ => d

def zeroByte (z : List AV) : Bool := match z with
  | [.int .u8 (.ofNat n)] => Nat.beq n 0
  | _ => false
def opMakeSlice (P : Program) (t : TypeId) (l c : AV) (h : Tr AObj) (nx : Nat) : OR :=
  match elemSl P t with
  | some e => natOf l (bad "makeSlice") fun l => natOf c (bad "makeSlice") fun c => match zeroC P e, szO P e, (P.info? e).map (·.bytes) with
    | some z, some s, some bytes => match Nat.ble l c && Nat.ble c 1000000 && Nat.ble bytes 10000 && Nat.beq z.length s with
      | true => match zeroByte z with
        | true => newO (.bytes true c 0) h nx (.sl nx 0 l 1 none)
        | false => mkObj false true (.cells (repl z c)) fun o => fN s fun s => newO o h nx (.sl nx 0 l s none)
      | false => bad "makeSlice: bounds"
    | _, _, _ => bad "makeSlice"
  | none => bad "makeSlice"

/-- a bound, at most `most` -/
def bnd {β : Type} (v : Option AV) (dflt most : Nat) (d : β) (k : Nat → β) : β := match v with
  | none => k dflt
  | some v => natOf v d fun n => bRec d (k n) (Nat.ble n most)

def known : AObj → Nat
  | .cells _ n _ => n
  | .bytes _ n _ => n
  | _ => 0
def isExact : AObj → Bool
  | .cells x _ _ => x
  | .bytes x _ _ => x
  | _ => false
def capOf (o : AObj) (off s : Nat) : Nat := Nat.div (Nat.sub (known o) off) s

/-- the greatest capacity that is sure -/
def sureCap {β : Type} (h : Tr AObj) (a off len s : Nat) (cap : Option Nat) (k : Nat → β) : β := match cap with
  | some c => k c
  | none => onObj h a (k len) fun o => fN (Nat.max len (capOf o off s)) k

def opSlice (P : Program) (t : TypeId) (x : AV) (lo hi mx : Option AV) (h : Tr AObj) (nx : Nat) : OR :=
  match P.underlying t, x with
  | some .string, .str len n => match mx with
    | none => bnd hi len len (bad "slice: hi") fun hh => bnd lo 0 hh (bad "slice: lo") fun l =>
        fN (Nat.sub hh l) fun m => fN (subB n l m) fun b => .val (.str m b) h nx
    | some _ => bad "slice: string"
  | some (.slice e), .nilSl => match szO P e, mx with
    | some _, none => bnd hi 0 0 (bad "slice: nil") fun _ => bnd lo 0 0 (bad "slice: nil") fun _ => .val .nilSl h nx
    | _, _ => bad "slice: nil"
  | some (.slice e), .sl a off len s cap => match szO P e with
    | none => bad "slice"
    | some s' => match Nat.beq s s' with
      | false => bad "slice: size"
      | true => match mx, cap with
        | none, none => match hi with
          | none => bnd lo 0 len (bad "slice: lo") fun l => fN (Nat.add off (Nat.mul l s)) fun o => fN (Nat.sub len l) fun n => .val (.sl a o n s none) h nx
          | some hv => sureCap h a off len s none fun c => natOf hv (bad "slice: hi") fun hh => match Nat.ble hh c with
            | false => bad "slice: hi"
            | true => bnd lo 0 hh (bad "slice: lo") fun l => fN (Nat.add off (Nat.mul l s)) fun o => fN (Nat.sub hh l) fun n => .val (.sl a o n s none) h nx
        | mx, cap => match mx.isSome && hi.isNone with
          | true => bad "slice: max"
          | false => sureCap h a off len s cap fun c => bnd mx c c (bad "slice: max") fun m => bnd hi len m (bad "slice: hi") fun hh => bnd lo 0 hh (bad "slice: lo") fun l =>
            fN (Nat.add off (Nat.mul l s)) fun o => fN (Nat.sub hh l) fun n => fN (Nat.sub m l) fun c' => .val (.sl a o n s (some c')) h nx
  | some (.array n e), .ptr a off => match szO P e, mx with
    | some s, none => onObj h a (bad "slice: dead") fun o => match Nat.ble (off + n * s) (known o) with
      | false => bad "slice: array"
      | true => bnd hi n n (bad "slice: hi") fun hh => bnd lo 0 hh (bad "slice: lo") fun l =>
        fN (Nat.add off (Nat.mul l s)) fun o => fN (Nat.sub hh l) fun m => fN (Nat.sub n l) fun c => .val (.sl a o m s (some c)) h nx
    | _, _ => bad "slice: array"
  | _, _ => bad "slice"

/-- the first n elements (of s cells) of a slice or a string -/
def firstC {β : Type} (s n : Nat) (v : AV) (h : Tr AObj) (d : β) (k : Ch → β) : β := match v with
  | .nilSl => k (.cells [])
  | .sl a off _ _ _ => onObj h a d fun o => match o with
    | .bytes _ m b => match Nat.beq s 1 && Nat.ble (Nat.add off n) m with
      | true => fN (subB b off n) fun b => k (.bytes n b)
      | false => d
    | o => readCells o (Nat.mul n s) off d fun l => k (.cells l)
  | .str m b => match Nat.ble n m with
    | true => fN (subB b 0 n) fun b => k (.bytes n b)
    | false => d
  | _ => d

def lenV {β : Type} (v : AV) (d : β) (k : Nat → β) : β := match v with
  | .nilSl => k 0
  | .sl _ _ n _ _ => k n
  | .str n _ => k n
  | _ => d

def catCh : Ch → Ch → Ch
  | .bytes n a, .bytes m b => .bytes (n + m) (catB n a b)
  | a, b => .cells (a.list ++ b.list)

/-- what is appended: how many elements, and their cells -/
def appWhat {β : Type} (sz : Nat) (z : List AV) (x : AV) (h : Tr AObj) (d : β) (k : Nat → Ch → β) : β := match x with
  | .int _ (.ofNat n) => match Nat.ble n 1000000 with
    | true => fN n fun n => k n (.cells (repl z n))
    | false => d
  | .int _ (.negSucc _) => d
  | .str m b => match Nat.beq sz 1 with
    | true => k m (.bytes m b)
    | false => d
  | x => lenV x d fun n => firstC sz n x h d fun c => k n c

def isIntT (P : Program) (t : TypeId) : Bool := match P.underlying t with | some (.int _) => true | _ => false
def intLike (P : Program) (t : TypeId) (b : Bool) : Bool := match P.underlying t with | some (.int _) => b | some _ => !b | none => false
def isIntV (x : AV) : Bool := match x with | .int .. => true | _ => false

/-- how many elements are sure to fit -/
def fitCap (cap : Option Nat) (o : AObj) (off s : Nat) : Nat := match cap with | some c => c | none => capOf o off s
/-- may the new chunk lie in the old block as well? -/
def appBoth (o : AObj) (byte : Bool) (c : Ch) : Bool := match o, c with
  | .cells .., .bytes .. => true
  | .cells .., .cells l => l.all AV.isOne
  | .bytes .., .bytes .. => true
  | .bytes .., .cells l => byte && (packV l).isSome
  | _, _ => false

def appNew (byte : Bool) (sz need : Nat) (c : Ch) (h : Tr AObj) (nx : Nat) : OR :=
  fN need fun need => mkObj byte false c fun o => fN sz fun sz => newO o h nx (.sl nx 0 need sz none)

def opAppend (P : Program) (t t2 : TypeId) (s x : AV) (h : Tr AObj) (nx : Nat) : OR :=
  match elemSl P t with
  | some e => match szO P e, zeroC P e, (P.info? e).map (·.bytes) with
    | some sz, some z, some bytes =>
      match intLike P t2 (isIntV x) && Nat.ble 1 bytes && Nat.ble bytes 10000 && Nat.ble 1 sz && Nat.beq z.length sz with
      | false => bad "append: kinds"
      | true => appWhat sz z x h (bad "append: what") fun n l =>
        match s with
        | .nilSl => match Nat.ble n 1000000 with
          | false => bad "append: size"
          | true => match n with
            | 0 => .val .nilSl h nx
            | n => appNew (isByte P e) sz n l h nx
        | .sl a off len s' cap => match Nat.beq s' sz && Nat.ble (len + n) 1000000 with
          | false => bad "append: size"
          | true => onObj h a (bad "append: dead") fun o =>
            match Nat.ble (len + n) (fitCap cap o off sz) with
            | true => writeCh l o (Nat.add off (Nat.mul len sz)) (bad "append: in place") fun o => h.setK (some o) a fun h => fN (len + n) fun m => .val (.sl a off m sz cap) h nx
            | false => firstC sz len s h (bad "append: old") fun old => match cap.isSome || isExact o with
              | true => appNew (isByte P e) sz (len + n) (catCh old l) h nx
              | false => match off, appBoth o (isByte P e) (catCh old l) with
                | 0, true => h.setK none a fun h => appNew (isByte P e) sz (len + n) (catCh old l) h nx
                | _, _ => bad "append: off"
        | _ => bad "append: slice"
    | _, _, _ => bad "append: type"
  | none => bad "append: type"

def opCopy (P : Program) (t : TypeId) (d x : AV) (h : Tr AObj) (nx : Nat) : OR :=
  match elemSl P t with
  | some e => match szO P e with
    | some sz => lenV x (bad "copy") fun xl => match d with
      | .nilSl => .val (.int .i64 (Int.ofNat 0)) h nx
      | .sl a off dl s' _ => fN (Nat.min xl dl) fun n => match Nat.beq n 0 with
        | true => .val (.int .i64 (Int.ofNat 0)) h nx
        | false => match Nat.beq s' sz with
          | true => firstC sz n x h (bad "copy: source") fun l => onObj h a (bad "copy: dead") fun o => writeCh l o off (bad "copy: write") fun o =>
            h.setK (some o) a fun h => .val (.int .i64 (Int.ofNat n)) h nx
          | false => bad "copy: size"
      | _ => bad "copy"
    | none => bad "copy"
  | none => bad "copy"

def findE (k : AV) : List AME → Nat → Option (Option (Nat × AV))
  | [], _ => some none
  | .mk k' v _ :: es, i => match keyEq k k' with
    | some true => some (some (i, v))
    | some false => findE k es (i + 1)
    | none => none

/-- is this a key of such a kind? -/
def keyFits (P : Program) (t : TypeId) (k : AV) : Bool := match P.underlying t, k with
  | some .bool, .bool _ => true
  | some (.int k), .int j _ => j == k
  | some .string, .str .. => true
  | some .string, .sym i => Nat.beq (Nat.mod i 3) 1
  | _, _ => false

def opLookup (P : Program) (t : TypeId) (x k : AV) (ok : Bool) (h : Tr AObj) (nx : Nat) : OR :=
  match P.underlying t with
  | some (.map kt e) => match zeroA P e, keyFits P kt k with
    | some z, true =>
      let fin (es : List AME) : OR := match findE k es 0 with
        | some (some (_, v)) => match ok with | true => .val (.tup [v, .bool true]) h nx | false => fV v fun v => .val v h nx
        | some none => match ok with | true => fV z fun z => .val (.tup [z, .bool false]) h nx | false => fV z fun z => .val z h nx
        | none => bad "lookup: key"
      match x with
      | .nilMap => fin []
      | .map a => onObj h a (bad "lookup: dead") fun o => match o with | .map es _ => fin es | _ => bad "lookup: map"
      | _ => bad "lookup: map"
    | _, _ => bad "lookup"
  | _ => bad "lookup"

def modE (v : AV) : List AME → Nat → List AME
  | [], _ => []
  | .mk k _ b :: l, 0 => .mk k v b :: l
  | x :: l, i + 1 => x :: modE v l i

def opMapUpdate (P : Program) (t : TypeId) (m k v : AV) (h : Tr AObj) (nx : Nat) : OR :=
  match P.underlying t, m with
  | some (.map kt _), .map a => onObj h a (bad "mapUpdate: dead") fun o => match o, keyFits P kt k with
    | .map es clock, true => match findE k es 0 with
      | some (some (i, _)) => h.setK (some (.map (modE v es i) clock)) a fun h => .val (.tup []) h nx
      | some none => h.setK (some (.map (es ++ [.mk k v clock]) (clock + 1))) a fun h => .val (.tup []) h nx
      | none => bad "mapUpdate: key"
    | _, _ => bad "mapUpdate"
  | _, _ => bad "mapUpdate"

def opDelete (P : Program) (t : TypeId) (m k : AV) (h : Tr AObj) (nx : Nat) : OR :=
  match P.underlying t, m with
  | some (.map kt _), .map a => onObj h a (bad "delete: dead") fun o => match o, keyFits P kt k with
    | .map es clock, true => match findE k es 0 with
      | some (some (i, _)) => h.setK (some (.map (es.eraseIdx i) clock)) a fun h => .val (.tup []) h nx
      | some none => .val (.tup []) h nx
      | none => bad "delete: key"
    | _, _ => bad "delete"
  | _, _ => bad "delete"

def opRange (P : Program) (t : TypeId) (x : AV) (h : Tr AObj) (nx : Nat) : OR :=
  match P.underlying t, x with
  | some .string, .str l n => newO (.strIter l n 0) h nx (.ptr nx 0)
  | some (.map ..), .nilMap => newO (.mapIter none 0 [] 0) h nx (.ptr nx 0)
  | some (.map ..), .map m => onObj h m (bad "range: dead") fun o => match o with
    | .map _ clock => newO (.mapIter (some m) clock [] clock) h nx (.ptr nx 0)
    | _ => bad "range"
  | _, _ => bad "range"

def stepIter (a m since : Nat) (seen : List Nat) (clock : Nat) (h : Tr AObj) (e : AME) (k : AV → Tr AObj → OR) : OR :=
  match e with
  | .mk key val born => h.setK (some (.mapIter (some m) since (seen ++ [born]) clock)) a fun h => k (.tup [.bool true, key, val]) h

def iterAll (a m since : Nat) (seen : List Nat) (clock : Nat) (h : Tr AObj) (nx : Nat) : List AME → (List FkI → OR) → OR
  | [], k => k []
  | e :: l, k => stepIter a m since seen clock h e fun v h' => iterAll a m since seen clock h nx l fun l => k (.mk v h' nx :: l)

def opNext (it : AV) (isStr : Bool) (h : Tr AObj) (nx : Nat) : OR :=
  match it with
  | .ptr a 0 => onObj h a (bad "next: dead") fun o => match o, isStr with
    | .strIter l n pos, true => match Nat.blt pos l with
      | true => fN (byteAt n pos) fun c => match Nat.blt c 128 with
        | true => fN (pos + 1) fun pos' => h.setK (some (.strIter l n pos')) a fun h => .val (.tup [.bool true, .int .i64 (Int.ofNat pos), .int .i32 (Int.ofNat c)]) h nx
        | false => bad "next: rune"
      | false => .val (.tup [.bool false]) h nx
    | .mapIter none _ _ _, false => .val (.tup [.bool false]) h nx
    | .mapIter (some m) since seen last, false => onObj h m (bad "next: dead map") fun o => match o with
      | .map es clock =>
        match !seen.isEmpty && !es.isEmpty && es.all (fun e => Nat.ble last e.born) with
        | true => bad "next: gone"
        | false =>
          match es.filter fun e => !seen.contains e.born with
          | [] => .val (.tup [.bool false]) h nx
          | left => match left.all fun e => Nat.blt e.born since with
            | false => bad "next: new ones"
            | true => match left with
              | [e] => stepIter a m since seen clock h e fun v h => .val v h nx
              | left => iterAll a m since seen clock h nx left fun l => .fork l
      | _ => bad "next"
    | _, _ => bad "next"
  | _ => bad "next"

def opEntry (it : AV) (h : Tr AObj) (nx : Nat) : OR :=
  match it with
  | .ptr a 0 => onObj h a (bad "entry") fun o => match o with
    | .mapIter (some m) _ seen stepped => onObj h m (bad "entry") fun o => match o, seen.getLast? with
      | .map es clock, some st => match Nat.beq clock stepped, es.find? (fun e => Nat.beq e.born st) with
        | true, some (.mk k v _) => .val (.tup [k, v]) h nx
        | _, _ => bad "entry"
      | _, _ => bad "entry"
    | _ => bad "entry"
  | _ => bad "entry"

def opConvert (P : Program) (src dst : TypeId) (x : AV) (h : Tr AObj) (nx : Nat) : OR :=
  match P.underlying src, P.underlying dst, x with
  | some _, some (.int k), .int _ n => wrapK k n fun n => .val (.int k n) h nx
  | some _, some .string, .str l n => .val (.str l n) h nx
  | some _, some .string, .int _ (.ofNat n) => match Nat.blt n 128 with | true => .val (.str 1 n) h nx | false => bad "convert: rune"
  | some (.slice _), some (.slice e), .sl a off len sz cap => match src == dst && isByte P e with | true => onObj h a (bad "convert: dead") fun o => (match o with | .bytes .. => .val (.sl a off len sz cap) h nx | _ => bad "convert") | false => bad "convert"
  | some _, some (.slice e), .str l n => match isByte P e with | true => newO (.bytes false l n) h nx (.sl nx 0 l 1 none) | false => bad "convert: runes"
  | some (.slice e), some .string, x => match isByte P e with
    | false => bad "convert: runes"
    | true => match x with
      | .nilSl => .val (.str 0 0) h nx
      | .sl _ _ len _ _ => firstC 1 len x h (bad "convert") fun c => match c with
        | .bytes n b => .val (.str n b) h nx
        | .cells l => match packV l with
          | some b => fN b fun b => .val (.str len b) h nx
          | none => bad "convert"
      | _ => bad "convert"
  | _, _, _ => bad "convert"

def opTypeAssert (P : Program) (x : AV) (a : TypeId) (ok : Bool) (h : Tr AObj) (nx : Nat) : OR :=
  let yes (v : AV) : OR := match ok with | true => .val (.tup [v, .bool true]) h nx | false => fV v fun v => .val v h nx
  let no : OR := match ok, zeroA P a with
    | true, some z => fV z fun z => .val (.tup [z, .bool false]) h nx
    | _, _ => bad "typeAssert"
  match P.underlying a, x with
  | some (.interface want), .iface t v => match P.info? t with
    | some i => match Instr.missingMethod want i.methods with
      | none => yes (.iface t v)
      | some _ => no
    | none => bad "typeAssert"
  | some _, .nilIf => no
  | some _, .iface t v => match Nat.beq t a with
    | true => yes v
    | false => no
  | _, _ => bad "typeAssert"

def foldMM (lt : Bool) : AV → List AV → Option AV
  | .int k a, [] => some (.int k a)
  | .int k a, .int j b :: l => match k == j with
    | true => foldMM lt (.int k (match (match lt with | true => ltI b a | false => ltI a b) with | true => b | false => a)) l
    | false => none
  | _, _ => none

def opLen (P : Program) (t : TypeId) (x : AV) (h : Tr AObj) (nx : Nat) : OR :=
  match P.underlying t with
  | some (.slice _) => match x with
    | .nilSl => .val (.int .i64 (Int.ofNat 0)) h nx
    | .sl _ _ n _ _ => .val (.int .i64 (Int.ofNat n)) h nx
    | .sym i => match Nat.beq (Nat.mod i 3) 2 with | true => .val (.anyI .i64) h nx | false => bad "len"
    | _ => bad "len"
  | some .string => match x with
    | .str n _ => .val (.int .i64 (Int.ofNat n)) h nx
    | .sym i => match Nat.beq (Nat.mod i 3) 1 with | true => .val (.anyI .i64) h nx | false => bad "len"
    | _ => bad "len"
  | some (.map ..) => match x with
    | .nilMap => .val (.int .i64 (Int.ofNat 0)) h nx
    | .map a => onObj h a (bad "len") fun o => match o with
      | .map es _ => fN es.length fun n => .val (.int .i64 (Int.ofNat n)) h nx
      | _ => bad "len"
    | _ => bad "len"
  | some (.array n _) => .val (.int .i64 (Int.ofNat n)) h nx
  | some (.pointer p) => match P.underlying p with
    | some (.array n _) => .val (.int .i64 (Int.ofNat n)) h nx
    | _ => bad "len"
  | _ => bad "len"

def opCap (P : Program) (t : TypeId) (x : AV) (h : Tr AObj) (nx : Nat) : OR :=
  match P.underlying t, x with
  | some (.slice _), .nilSl => .val (.int .i64 (Int.ofNat 0)) h nx
  | some (.slice _), .sl _ _ _ _ (some c) => .val (.int .i64 (Int.ofNat c)) h nx
  | some (.slice e), .sl a off len sz none => onObj h a (bad "cap") fun o => match szO P e, isExact o with
    | some s, x => match Nat.beq s sz && Nat.ble 1 sz && Nat.beq (Nat.mod (Nat.sub (known o) off) sz) 0 && Nat.ble (off + len * sz) (known o) with
      | false => bad "cap: size"
      | true => fN (capOf o off sz) fun c => match x, o with
        | true, _ => .val (.int .i64 (Int.ofNat c)) h nx
        | false, .cells _ n t => h.setK (some (.cells true n t)) a fun h1 => h.setK (some (.cells false (n + sz) (repUnk t n sz))) a fun h2 => .fork [.mk (.int .i64 (Int.ofNat c)) h1 nx, .mk (.intGe (c + 1)) h2 nx]
        | false, _ => bad "cap: bytes"
    | none, _ => bad "cap"
  | _, _ => bad "cap"
where
  repUnk (t : Tr AV) (n : Nat) : Nat → Tr AV
    | 0 => t
    | k + 1 => (repUnk t n k).set (some .unk) (n + k)

def opClear (P : Program) (t : TypeId) (x : AV) (h : Tr AObj) (nx : Nat) : OR :=
  match P.underlying t, x with
  | some _, .nilMap => .val (.tup []) h nx
  | some _, .nilSl => .val (.tup []) h nx
  | some _, .map a => onObj h a (bad "clear") fun o => match o with
    | .map _ clock => h.setK (some (.map [] clock)) a fun h => .val (.tup []) h nx
    | _ => bad "clear"
  | some (.slice e), .sl a off n sz _ => match n, zeroC P e, szO P e with
    | 0, _, _ => .val (.tup []) h nx
    | n, some z, some s => match Nat.beq s sz with
      | true => onObj h a (bad "clear") fun o => writeCells (repl z n) o off (bad "clear") fun o => h.setK (some o) a fun h => .val (.tup []) h nx
      | false => bad "clear"
    | _, _, _ => bad "clear"
  | _, _ => bad "clear"

def opBuiltin (P : Program) (b : Builtin) (ts : List TypeId) (args : List AV) (h : Tr AObj) (nx : Nat) : OR :=
  match b, ts, args with
  | .len, t :: _, x :: _ => opLen P t x h nx
  | .cap, t :: _, x :: _ => opCap P t x h nx
  | .append, t :: t2 :: _, s :: x :: _ => opAppend P t t2 s x h nx
  | .copy, t :: _, d :: x :: _ => opCopy P t d x h nx
  | .min, _, x :: l => match foldMM true x l with | some v => fV v fun v => .val v h nx | none => bad "min"
  | .max, _, x :: l => match foldMM false x l with | some v => fV v fun v => .val v h nx | none => bad "max"
  | .delete, t :: _, m :: k :: _ => opDelete P t m k h nx
  | .clear, t :: _, x :: _ => opClear P t x h nx
  | .recover, _, _ => .recov
  | _, _, _ => bad "builtin"

/-- the size of the elements of what slices.overlaps is asked of -/
def ovSz (P : Program) (f : FuncId) : Option Nat := match P.funcs[f]? with
  | some fn => match fn.params[0]? with
    | some t => match elemSl P t with
      | some e => szO P e
      | none => none
    | none => none
  | none => none
/-- is the first result a slice? -/
def resSl (P : Program) (f : FuncId) : Bool := match P.funcs[f]? with
  | some fn => match fn.resultTypes[0]? with
    | some t => (elemSl P t).isSome
    | none => false
  | none => false
def opOverlaps (P : Program) (f : FuncId) (x y : AV) (h : Tr AObj) (nx : Nat) : OR := match ovSz P f with
  | none => bad "overlaps"
  | some s => match x, y with
    | .sl a o l s1 _, .sl b p m s2 _ => match Nat.beq s s1 && Nat.beq s s2 with
      | false => bad "overlaps"
      | true => match Nat.beq l 0 || Nat.beq m 0 || Nat.beq s 0 with
        | true => .val (.bool false) h nx
        | false => match Nat.beq a b with
          | true => fB (Nat.blt o (p + m * s) && Nat.blt p (o + l * s)) fun b => .val (.bool b) h nx
          | false => match apart h a b with
            | true => .val (.bool false) h nx
            | false => bad "overlaps: bytes"
    | .nilSl, .nilSl => .val (.bool false) h nx
    | .nilSl, .sl .. => .val (.bool false) h nx
    | .sl .., .nilSl => .val (.bool false) h nx
    | _, _ => bad "overlaps"
def opMapsClone (x : AV) (h : Tr AObj) (nx : Nat) : OR := match x with
  | .iface t (.map a) => onObj h a (bad "maps.clone") fun o => match o with
    | .map es clock => newO (.map es clock) h nx (.iface t (.map nx))
    | _ => bad "maps.clone"
  | _ => bad "maps.clone"
def opMakeNoZero (P : Program) (f : FuncId) (x : AV) (h : Tr AObj) (nx : Nat) : OR := match x with
  | .int .i64 (.ofNat n) => match Nat.ble n 1000000 && resSl P f with
    | true => newO (.cells false n .leaf) h nx (.sl nx 0 n 1 none)
    | false => bad "MakeNoZero"
  | _ => bad "MakeNoZero"
def opCmpStr (x y : AV) (h : Tr AObj) (nx : Nat) : OR := match x, y with
  | .str l a, .str m b => match bytesLt l a m b with
    | true => .val (.int .i64 (Int.negSucc 0)) h nx
    | false => match Nat.beq l m && Nat.beq a b with
      | true => .val (.int .i64 (Int.ofNat 0)) h nx
      | false => .val (.int .i64 (Int.ofNat 1)) h nx
  | _, _ => bad "cmpstring"
def opExtern (P : Program) (f : FuncId) (e : EK) (args : List AV) (h : Tr AObj) (nx : Nat) : OR :=
  match e, args with
  | .mapsClone, [x] => opMapsClone x h nx
  | .overlaps, [x, y] => opOverlaps P f x y h nx
  | .makeNoZero, [x] => opMakeNoZero P f x h nx
  | .cmpStr, [x, y] => opCmpStr x y h nx
  | _, _ => bad "extern"

-- the same, to the sign?
mutual
def sameV : AV → AV → Bool
  | .unk, .unk => false
  | .sym i, .sym j => Nat.beq i j
  | .bool a, .bool b => a == b
  | .int j a, .int k b => j == k && eqI a b
  | .str l a, .str m b => Nat.beq l m && Nat.beq a b
  | .nilPtr, .nilPtr => true
  | .nilSl, .nilSl => true
  | .nilMap, .nilMap => true
  | .nilFn, .nilFn => true
  | .nilIf, .nilIf => true
  | .agg a, .agg b => sameL a b
  | _, _ => false
def sameL : List AV → List AV → Bool
  | [], [] => true
  | a :: l, b :: m => sameV a b && sameL l m
  | _, _ => false
end
def toldAt (args : List AV) : List (List AV × AV) → Option AV
  | [] => none
  | (x, v) :: l => match sameL x args with | true => some v | false => toldAt args l
def callFn (P : Program) (X : Nat → Option EK) (f : FuncId) (args : List AV) (h : Tr AObj) (nx : Nat) : OR :=
  match X f with
  | none => .enter f args
  | some (.told tab) => match toldAt args tab with
    | some v => .val v h nx
    | none => .enter f args
  | some e => opExtern P f e args h nx

def methodOf (P : Program) (t : TypeId) (name : String) : Option (FuncId × Bool × Bool) := match P.info? t with
  | some i => match i.methods.find? (·.name == name) with
    | some m => match m.path.isEmpty, m.func with
      | true, some (f, p) => match P.underlying t with
        | some (.pointer _) => some (f, p, true)
        | some _ => some (f, p, false)
        | none => none
      | _, _ => none
    | none => none
  | none => none

def opInvoke (P : Program) (X : Nat → Option EK) (recv : AV) (name : String) (args : List AV) (h : Tr AObj) (nx : Nat) : OR :=
  match recv with
  | .iface t v => match methodOf P t name with
    | some (f, true, true) => callFn P X f (v :: args) h nx
    | some (f, false, false) => callFn P X f (v :: args) h nx
    | _ => bad "invoke"
  | _ => bad "invoke"

def opCall (P : Program) (X : Nat → Option EK) (c : Call) (m : Nat) (tm : Tr AV) (loc : Loc) (h : Tr AObj) (nx : Nat) : OR :=
  evLK c.args.toList m tm loc fun args =>
    match c.callee with
    | .builtin b => opBuiltin P b c.argTypes.toList args h nx
    | .value f => match ev f m tm loc with
      | .fn f [] [] => callFn P X f args h nx
      | .fn f first cap => callFn P X f (first ++ (args ++ cap)) h nx
      | .yield l => .round l args
      | _ => bad "call: function value"
    | .invoke r name => evK r m tm loc fun r => opInvoke P X r name args h nx

def opDefer (c : Call) (m : Nat) (tm : Tr AV) (loc : Loc) : OR :=
  evLK c.args.toList m tm loc fun args => match c.callee with
    | .value f => match ev f m tm loc with
      | .fn f first cap => .defer (.call f (first ++ (args ++ cap)))
      | _ => bad "defer"
    | _ => bad "defer"

def opNilCheck (v : AV) (h : Tr AObj) (nx : Nat) : OR := match v with
  | .ptr a off => .val (.ptr a off) h nx
  | .iface t v => .val (.iface t v) h nx
  | .fn f a b => .val (.fn f a b) h nx
  | .yield l => .val (.yield l) h nx
  | _ => bad "nilCheck"

def evO (x : Option Operand) (m : Nat) (tm : Tr AV) (loc : Loc) : Option AV := match x with
  | none => none
  | some x => some (ev x m tm loc)
def evP {β : Type} (ps : List (Nat × Operand)) (m : Nat) (tm : Tr AV) (loc : Loc) : (List (Nat × AV) → β) → β :=
  lRec (fun k => k []) (fun p _ ih k => evK p.2 m tm loc fun v => ih fun l => k ((p.1, v) :: l)) ps

abbrev OpF := Nat → Tr AV → Loc → Tr AObj → Nat → OR

def oMove (x : Operand) : OpF := fun m tm loc h nx => evK x m tm loc fun v => .val v h nx
/-- surely a bool? -/
def boolish (v : AV) : Bool := match v with | .bool _ => true | .anyB => true | _ => false
def onAnyB {β : Type} (v : AV) (d k : β) : β := (match v with | .anyB => fun _ k => k | _ => fun d _ => d : β → β → β) d k
def oPick (c a b : Operand) : OpF := fun m tm loc h nx => onBool (ev c m tm loc) (onAnyB (ev c m tm loc) (bad "pick") (bRec (bad "pick") (.val .anyB h nx) (boolish (ev a m tm loc) && boolish (ev b m tm loc)))) fun t =>
  bRec (evK b m tm loc fun v => .val v h nx) (evK a m tm loc fun v => .val v h nx) t
def oAlloc (P : Program) (e : TypeId) : OpF := fun _ _ _ h nx => match zeroC P e with
  | some z => mkObj (isByte P e) true (.cells z) fun o => newO o h nx (.ptr nx 0)
  | none => bad "alloc"
def oBox (P : Program) (e : TypeId) (x : Operand) : OpF := fun m tm loc h nx => evK x m tm loc fun v => match v.cells with
  | some l => mkObj (isByte P e) true (.cells l) fun o => newO o h nx (.ptr nx 0)
  | none => bad "box: unknown"
def oBuild (P : Program) (t : TypeId) (ps : Array (Nat × Operand)) : OpF := fun m tm loc h nx => evP ps.toList m tm loc fun l => opBuild P t l h nx
def oBuildSlice (P : Program) (t : TypeId) (len : Nat) (ps : Array (Nat × Operand)) : OpF := fun m tm loc h nx => evP ps.toList m tm loc fun l => opBuildSlice P t len l h nx
def oLoad (P : Program) (t : TypeId) (a : Operand) : OpF := fun m tm loc h nx => opLoad P t (ev a m tm loc) h nx
def oStore (P : Program) (t : TypeId) (a v : Operand) : OpF := fun m tm loc h nx => evK v m tm loc fun v => opStore P t (ev a m tm loc) v h nx
def oNilCheck (x : Operand) : OpF := fun m tm loc h nx => opNilCheck (ev x m tm loc) h nx
def oBin (P : Program) (op : BinOp) (t : TypeId) (x y : Operand) : OpF := fun m tm loc h nx => opBin P op t (ev x m tm loc) (ev y m tm loc) h nx
def oUn (op : UnOp) (x : Operand) : OpF := fun m tm loc h nx => opUn op (ev x m tm loc) h nx
def oConvert (P : Program) (s d : TypeId) (x : Operand) : OpF := fun m tm loc h nx => opConvert P s d (ev x m tm loc) h nx
def isConc (P : Program) (t : TypeId) : Bool := match P.underlying t with | some (.interface _) | none => false | _ => true
def oMkIface (P : Program) (t : TypeId) (x : Operand) : OpF := fun m tm loc h nx => bRec (bad "makeInterface") (evK x m tm loc fun v => .val (.iface t v) h nx) (isConc P t)
def oMakeFunc (f : Fn) (a b : Array Operand) : OpF := fun m tm loc h nx => match f with
  | .func f => evLK a.toList m tm loc fun a => evLK b.toList m tm loc fun b => .val (.fn f a b) h nx
  | _ => bad "makeFunc"
def oMakeMap (P : Program) (t : TypeId) (r : Option Operand) : OpF := fun m tm loc h nx => match r with
  | none => newO (.map [] 0) h nx (.map nx)
  | some r => onInt (ev r m tm loc) (bad "makeMap") fun _ _ => match P.underlying t with
    | some (.map ..) => newO (.map [] 0) h nx (.map nx)
    | _ => bad "makeMap"
def oMakeSlice (P : Program) (t : TypeId) (l c : Operand) : OpF := fun m tm loc h nx => opMakeSlice P t (ev l m tm loc) (ev c m tm loc) h nx
def oSlice (P : Program) (t : TypeId) (x : Operand) (lo hi mx : Option Operand) : OpF := fun m tm loc h nx => opSlice P t (ev x m tm loc) (evO lo m tm loc) (evO hi m tm loc) (evO mx m tm loc) h nx
def oFieldAddr (P : Program) (s : TypeId) (x : Operand) (f : Nat) : OpF := fun m tm loc h nx => opFieldAddr P s (ev x m tm loc) f h nx
def oField (P : Program) (s : TypeId) (x : Operand) (f : Nat) : OpF := fun m tm loc h nx => opField P s (ev x m tm loc) f h nx
def oIndexAddr (P : Program) (t : TypeId) (x i : Operand) : OpF := fun m tm loc h nx => opIndexAddr P t (ev x m tm loc) (ev i m tm loc) h nx
def oIndex (P : Program) (t : TypeId) (x i : Operand) : OpF := fun m tm loc h nx => opIndex P t (ev x m tm loc) (ev i m tm loc) h nx
def oLookup (P : Program) (t : TypeId) (x k : Operand) (ok : Bool) : OpF := fun m tm loc h nx => evK k m tm loc fun k => opLookup P t (ev x m tm loc) k ok h nx
def oMapUpdate (P : Program) (t : TypeId) (mm k v : Operand) : OpF := fun m tm loc h nx => evK k m tm loc fun k => evK v m tm loc fun v => opMapUpdate P t (ev mm m tm loc) k v h nx
def oRange (P : Program) (t : TypeId) (x : Operand) : OpF := fun m tm loc h nx => opRange P t (ev x m tm loc) h nx
def oNext (it : Operand) (s : Bool) : OpF := fun m tm loc h nx => opNext (ev it m tm loc) s h nx
def oEntry (it : Operand) : OpF := fun m tm loc h nx => opEntry (ev it m tm loc) h nx
def oTypeAssert (P : Program) (x : Operand) (a : TypeId) (ok : Bool) : OpF := fun m tm loc h nx => opTypeAssert P (ev x m tm loc) a ok h nx
def oExtract (t : Operand) (i : Nat) : OpF := fun m tm loc h nx => match ev t m tm loc with
  | .tup vs => opOpt vs[i]? "extract" h nx
  | _ => bad "extract"
def oCall (P : Program) (X : Nat → Option EK) (c : Call) : OpF := opCall P X c
def oDefer (c : Call) : OpF := fun m tm loc _ _ => opDefer c m tm loc
def oBad : OpF := fun _ _ _ _ _ => bad "op"

def doOp (P : Program) (X : Nat → Option EK) (op : Op) : OpF := match op with
  | .move x => oMove x
  | .assign x => oMove x
  | .pick c a b => oPick c a b
  | .alloc e => oAlloc P e
  | .box e x => oBox P e x
  | .build t ps => oBuild P t ps
  | .buildSlice t len ps => oBuildSlice P t len ps
  | .load t a => oLoad P t a
  | .store t a v => oStore P t a v
  | .nilCheck x => oNilCheck x
  | .binOp op t x y _ => oBin P op t x y
  | .unOp op _ x => oUn op x
  | .convert s d x => oConvert P s d x
  | .makeInterface t x => oMkIface P t x
  | .makeFunc f a b => oMakeFunc f a b
  | .makeMap t r => oMakeMap P t r
  | .makeSlice t l c => oMakeSlice P t l c
  | .slice t x lo hi mx => oSlice P t x lo hi mx
  | .fieldAddr s x f => oFieldAddr P s x f
  | .field s x f => oField P s x f
  | .indexAddr t x i => oIndexAddr P t x i
  | .index t x i => oIndex P t x i
  | .lookup t x k ok => oLookup P t x k ok
  | .mapUpdate t mm k v => oMapUpdate P t mm k v
  | .insert t mm k v => oMapUpdate P t mm k v
  | .range t x => oRange P t x
  | .next it s => oNext it s
  | .entry it => oEntry it
  | .typeAssert x _ a ok => oTypeAssert P x a ok
  | .extract t i => oExtract t i
  | .call c => oCall P X c
  | .defer c => oDefer c
  | _ => oBad

end
end Go.Sx

/- The executor: the machine. -/
namespace Go.Sx
noncomputable section

-- the plan of a region that draws
inductive FK where | pure | load | alloc | anchor
def FK.isAnchor : FK → Bool | .anchor => true | _ => false
def kindOf (P : Program) (o : Oper) : FK := match o.op with
  | .move _ | .pick .. | .build .. | .fieldAddr .. | .field .. | .unOp .. | .binOp .. | .makeInterface .. | .makeFunc .. | .extract .. | .nilCheck _ | .slice .. | .indexAddr .. | .index .. | .typeAssert .. => .pure
  | .load .. | .lookup .. => .load
  | .convert s d _ => match P.underlying s, P.underlying d with
    | some (.slice _), some (.slice _) => .anchor
    | some (.slice _), _ => .load
    | _, some (.slice _) => .alloc
    | _, _ => .pure
  | .call c => match c.callee with
    | .builtin .len => .load
    | .builtin .min | .builtin .max => .pure
    | _ => .anchor
  | .alloc _ | .box .. | .buildSlice .. | .makeSlice .. | .makeMap .. => .alloc
  | _ => .anchor

def nthN : List Nat → Nat → Nat
  | [], _ => 0
  | x :: _, 0 => x
  | _ :: l, n + 1 => nthN l n
/-- what must stand before: a mask of places, for each place; the binding edges, and what stands before those -/
def befOne (acc : List Nat) (es : List Edge) : Nat :=
  es.foldl (fun s e => match Region.binds .any e with
    | true => Nat.lor (Nat.lor s (Nat.shiftLeft 1 e.on)) (nthN acc e.on)
    | false => s) 0
def befs : List Oper → List Nat → List Nat
  | [], acc => acc
  | o :: l, acc => befs l (acc ++ [befOne acc o.after.toList])
def tst (m i : Nat) : Bool := Nat.beq (Nat.land (Nat.shiftRight m i) 1) 1
def zipI {α : Type} : List α → Nat → List (Nat × α)
  | [], _ => []
  | x :: l, i => (i, x) :: zipI l (i + 1)

def isStore (o : Oper) : Bool := match o.op with | .store .. => true | _ => false
/-- the anchors, in groups: each stands before the next; the last two may be two stores that are free of each other -/
def groups (b : List Nat) : List (Nat × Oper) → Option (List (List (Nat × Oper)))
  | [] => some []
  | [x] => some [[x]]
  | [x, y] => match tst (nthN b y.1) x.1 with
    | true => some [[x], [y]]
    | false => match isStore x.2 && isStore y.2 with
      | true => some [[x, y]]
      | false => none
  | x :: y :: l => match tst (nthN b y.1) x.1 with
    | true => (groups b (y :: l)).map ([x] :: ·)
    | false => none
/-- how many groups have a member before place i -/
def loG (m : Nat) : List (List (Nat × Oper)) → Nat → Nat → Nat
  | [], _, r => r
  | g :: gs, k, r => loG m gs (k + 1) (match g.any fun x => tst m x.1 with | true => k + 1 | false => r)
/-- the first group that has place i before all of its members -/
def hiG (b : List Nat) (i : Nat) : List (List (Nat × Oper)) → Nat → Nat
  | [], k => k
  | g :: gs, k => match g.all fun x => tst (nthN b x.1) i with | true => k | false => hiG b i gs (k + 1)
def gapOf (fl : List (Nat × Oper × Nat × Nat)) (g : Nat) : List PS :=
  ((fl.filter fun x => Nat.beq x.2.2.1 g).map fun x => PS.ev x.1) ++
  ((fl.filter fun x => Nat.ble x.2.2.1 g && Nat.ble g x.2.2.2).map fun x => PS.ck x.1)
def lay (fl : List (Nat × Oper × Nat × Nat)) : List (List (Nat × Oper)) → Nat → List PS
  | [], g => gapOf fl g
  | [(i, _)] :: gs, g => gapOf fl g ++ PS.an i :: lay fl gs (g + 1)
  | [(i, _), (j, _)] :: gs, g => gapOf fl g ++ PS.an2 i j :: lay fl gs (g + 1)
  | _ :: gs, g => lay fl gs (g + 1)
def mkPlan (P : Program) (ops : List Oper) : Option (List PS) :=
  let l := zipI ops 0
  let b := befs ops []
  match groups b (l.filter fun x => (kindOf P x.2).isAnchor) with
  | none => none
  | some gs =>
    let fl := (l.filter fun x => !(kindOf P x.2).isAnchor).map fun x => (x.1, x.2, loG (nthN b x.1) gs 0 0, hiG b x.1 gs 0)
    some (lay fl gs 0)

-- is a plan sound?
def tmpsOf : List Operand → List Nat
  | [] => []
  | .tmp t :: l => t :: tmpsOf l
  | _ :: l => tmpsOf l
/-- the temporaries that an operation looks at -/
def readsOf (ops : List Oper) (o : Oper) : List Nat := match o.guard with
  | none => tmpsOf o.op.operands.toList
  | some g => match ops[g.1]? with
    | some q => match q.dst with
      | some d => d :: tmpsOf o.op.operands.toList
      | none => tmpsOf o.op.operands.toList
    | none => tmpsOf o.op.operands.toList
def anchAt (P : Program) (ops : List Oper) (i : Nat) : Bool := match ops[i]? with
  | some o => (kindOf P o).isAnchor
  | none => false
def dstL (ops : List Oper) (i : Nat) : Option Nat := match ops[i]? with
  | some o => o.dst
  | none => none
/-- operation j looks at temporary d, which i lays: is that sound? -/
def okRead (P : Program) (ops : List Oper) (b : List Nat) (i j : Nat) : Bool := match Nat.beq i j with
  | true => anchAt P ops i
  | false => tst (nthN b j) i || (anchAt P ops i && tst (nthN b i) j)
/-- all is well with what i lays -/
def okDst (P : Program) (ops : List Oper) (b : List Nat) (i d : Nat) : List Oper → Nat → Bool
  | [], _ => true
  | q :: l, j => (match q.dst with
      | some e => match Nat.beq d e with | true => Nat.beq i j | false => true
      | none => true) &&
    (match (readsOf ops q).any (Nat.beq d ·) with | true => okRead P ops b i j | false => true) && okDst P ops b i d l (Nat.succ j)
def okS (P : Program) (ops : List Oper) (b : List Nat) : List Oper → Nat → Bool
  | [], _ => true
  | o :: l, i => o.after.toList.all (fun e => match Region.binds .any e with | true => Nat.blt e.on i | false => true) && (match o.dst with | none => true | some d => okDst P ops b i d ops 0) && okS P ops b l (Nat.succ i)
/-- at an anchor i (or two, i and i2): each of the places below n -/
def okAn (b : List Nat) (i V K S : Nat) : Nat → Bool
  | 0 => true
  | n + 1 => (Nat.beq n i || (match tst V n with | true => tst K n || tst S n | false => tst (nthN b n) i)) && okAn b i V K S n
def okAn2 (b : List Nat) (i i2 V K S : Nat) : Nat → Bool
  | 0 => true
  | n + 1 => (Nat.beq n i || Nat.beq n i2 || (match tst V n with | true => tst S n || (tst K n && tst (nthN b i) n && tst (nthN b i2) n) | false => tst (nthN b n) i && tst (nthN b n) i2)) && okAn2 b i i2 V K S n
def okEnd (V K S : Nat) : Nat → Bool
  | 0 => true
  | n + 1 => (tst V n && (tst K n || tst S n)) && okEnd V K S n
def okP (P : Program) (ops : List Oper) (b : List Nat) (n : Nat) : List PS → Nat → Nat → Nat → Bool
  | [], V, K, S => okEnd V K S n
  | .ev i :: l, V, _, S => Nat.blt i n && !anchAt P ops i && !tst V i && fN (Nat.lor V (Nat.shiftLeft 1 i)) fun V => okP P ops b n l V 0 S
  | .ck i :: l, V, K, S => Nat.blt i n && !anchAt P ops i && tst V i && fN (Nat.lor K (Nat.shiftLeft 1 i)) fun K => okP P ops b n l V K S
  | .an i :: l, V, K, S => Nat.blt i n && anchAt P ops i && !tst V i && okAn b i V K S n && fN (Nat.lor V (Nat.shiftLeft 1 i)) fun V => fN (Nat.lor (Nat.lor S (Nat.shiftLeft 1 i)) (nthN b i)) fun S => okP P ops b n l V 0 S
  | .an2 i j :: l, V, K, S => Nat.blt i n && Nat.blt j n && !Nat.beq i j && anchAt P ops i && anchAt P ops j && !tst V i && !tst V j && okAn2 b i j V K S n &&
      fN (Nat.lor (Nat.lor V (Nat.shiftLeft 1 i)) (Nat.shiftLeft 1 j)) fun V => fN (Nat.lor (Nat.lor (Nat.lor (Nat.lor S (Nat.shiftLeft 1 i)) (Nat.shiftLeft 1 j)) (nthN b i)) (nthN b j)) fun S => okP P ops b n l V 0 S
/-- the plan, where it is sound -/
def planOf (P : Program) (ops : List Oper) : Option (List PS) := match mkPlan P ops with
  | none => none
  | some pl => match okS P ops (befs ops []) ops 0 && okP P ops (befs ops []) ops.length pl 0 0 0 with
    | true => some pl
    | false => none

/-- u is weaker than v, or the same -/
def leOpt (a b : Option Nat) : Bool := match a, b with
  | none, none => true
  | some x, some y => Nat.beq x y
  | _, _ => false
mutual
def leV : AV → AV → Bool
  | .unk, _ => true
  | .one, v => v.isOne
  | .sym i, .sym j => Nat.beq i j
  | .anyB, .anyB => true
  | .anyB, .bool _ => true
  | .anyI j, .anyI k => j == k
  | .anyI j, .int k _ => j == k
  | .bool a, .bool b => a == b
  | .int j a, .int k b => j == k && eqI a b
  | .intGe a, .intGe b => Nat.ble a b
  | .str l a, .str m b => Nat.beq l m && Nat.beq a b
  | .nilPtr, .nilPtr => true
  | .ptr a o, .ptr b p => Nat.beq a b && Nat.beq o p
  | .nilSl, .nilSl => true
  | .sl a o l s c, .sl b p m t d => Nat.beq a b && Nat.beq o p && Nat.beq l m && Nat.beq s t && leOpt c d
  | .nilMap, .nilMap => true
  | .map a, .map b => Nat.beq a b
  | .nilFn, .nilFn => true
  | .fn f a b, .fn g c d => Nat.beq f g && leL a c && leL b d
  | .yield l, .yield m => Nat.beq l m
  | .nilIf, .nilIf => true
  | .iface s v, .iface t w => Nat.beq s t && leV v w
  | .agg a, .agg b => leL a b
  | .tup a, .tup b => leL a b
  | _, _ => false
def leL : List AV → List AV → Bool
  | [], [] => true
  | a :: l, b :: m => leV a b && leL l m
  | _, _ => false
end
def leCells (t u : Tr AV) : Nat → Bool
  | 0 => true
  | n + 1 => leV (orOne (t.getF n)) (orOne (u.getF n)) && leCells t u n
def leO (o p : AObj) : Bool := match o, p with
  | .cells x n c, .cells y m d => (!x || y) && Nat.beq n m && leCells c d n
  | .bytes x n b, .bytes y m c => (!x || y) && Nat.beq n m && Nat.beq b c
  | .map [] k, .map [] l => Nat.beq k l
  | _, _ => false
/-- the block that a value leads to -/
def idOf (v : AV) : Option Nat := match v with
  | .ptr a _ => some a
  | .sl a _ _ _ _ => some a
  | .map a => some a
  | _ => none

variable (P : Program) (X : Nat → Option EK) (M : Nat → Nat)

def setDst {β : Type} (d : Option Tmp) (v : AV) (m : Nat) (tm : Tr AV) (loc : Loc) (k : Tr AV → Loc → β) : β :=
  oRec (k tm loc) (fun d => bRec (k tm (.cons d v loc)) (tm.setK (some v) d fun tm => k tm loc) (Nat.blt 1 (place m d))) d

inductive Wt where | yes | no | both | unkn
def dstAt (all : Array Oper) (j : Nat) : Option Tmp := match all.toList[j]? with | some o => o.dst | none => none
def wantedG (all : Array Oper) (m : Nat) (tm : Tr AV) (loc : Loc) (g : Nat × Bool) : Wt := match dstAt all g.1 with
  | none => .no
  | some d => match evT d m tm loc with
    | .bool b => match b == g.2 with | true => .yes | false => .no
    | .tup _ => .no
    | .anyB => .both
    | _ => .unkn

def wantedO (o : Oper) (all : Array Oper) (m : Nat) (tm : Tr AV) (loc : Loc) : Wt := match o.guard with
  | none => .yes
  | some g => wantedG all m tm loc g

def exitA (id : Nat) : List It → Option (List It)
  | .inBlock i :: k => match i == id with | true => some k | false => exitA id k
  | _ :: k => exitA id k
  | [] => none
def gotoA (l : Nat) : List It → Option (List It)
  | .inScope body :: k => match findLabel body l with
    | some rest => some (.code rest :: .inScope body :: k)
    | none => gotoA l k
  | _ :: k => gotoA l k
  | [] => none

/-- what a callee's result does to its caller -/
def finish (v : AV) (c : TF) (cs : List TF) (h : Tr AObj) (nx : Nat) : R := match c with
  | .mk fn m tm loc todo defers dfr round => match todo with
    | .ops (o :: l) all :: k => setDst o.dst v m tm loc fun tm loc => .go (.ops l all :: k) fn m tm loc defers dfr round cs h nx
    | .draw (.an i :: l) all :: k => setDst (dstAt all i) v m tm loc fun tm loc => .go (.draw l all :: k) fn m tm loc defers dfr round cs h nx
    | .inRange l :: k => .go (.endRange l :: k) fn m tm loc defers dfr round cs h nx
    | _ => .fail "finish"

/-- the code of a function, where its mask fits its temporaries -/
def enterM (P : Program) (M : Nat → Nat) (f : FuncId) : Option Code := match P.funcs[f]? with
  | some fn => match Nat.blt (M f) (Nat.shiftLeft 1 (Nat.mul 2 fn.ntmps)) with
    | true => enterOk P f
    | false => none
  | none => none
def enterF (f : FuncId) (args : List AV) (dfr : Bool) (cs : List TF) (h : Tr AObj) (nx : Nat) : R :=
  oRec (.fail "enter") (fun c => ofListK args 0 .leaf fun tm => fN (M f) fun m => .go [.code c] f m tm .nil [] dfr none cs h nx) (enterM P M f)

def setParams {β : Type} (m : Nat) : List (Tmp × AV) → Tr AV → Loc → (Tr AV → Loc → β) → β
  | [], tm, loc, k => k tm loc
  | (t, v) :: l, tm, loc, k => setDst (some t) v m tm loc fun tm loc => setParams m l tm loc k

def startRound (l : Nat) (args : List AV) (cs : List TF) (h : Tr AObj) (nx : Nat) : R := match h.getF l with
  | some (.loop _ _ fn m tm loc params assign body _) => match Nat.beq args.length params.toList.length with
    | true => setParams m (params.toList.zip args) tm loc fun tm loc => .go [.code assign, .beginRound, .code body] fn m tm loc [] false (some l) cs h nx
    | false => .fail "yield"
  | _ => .fail "yield"

def jumpSt (jump : Option Code) : LoopState := match jump with | none => .ready | some _ => .done
def jumpB (jump : Option Code) : Bool := match jump with | none => true | some _ => false
def leave (jump : Option Code) (fn m : Nat) (tm : Tr AV) (loc : Loc) (defers : List AD) (dfr : Bool) (round : Option Nat) (cs : List TF) (h : Tr AObj) (nx : Nat) : R :=
  match round with
  | none => match jump with
    | none | some .ret => .ret fn m tm loc defers dfr none cs h nx
    | _ => .fail "leave"
  | some l => match dfr, defers, h.getF l, cs with
    | false, [], some (.loop _ _ f2 m2 tm2 loc2 ps asg body d), c :: cs =>
      h.setK (some (.loop (jumpSt jump) jump f2 m2 tm2 loc2 ps asg body d)) l fun h => finish (.bool (jumpB jump)) c cs h nx
    | _, _, _, _ => .fail "round's end"

-- the operations of a region, one behind the other
abbrev OpsF := Array Oper → List It → Nat → Nat → Tr AV → Loc → List AD → Bool → Option Nat → List TF → Tr AObj → Nat → R

def opsNil : OpsF := fun _ k fn m tm loc defers dfr round cs h nx => .go k fn m tm loc defers dfr round cs h nx

def afterVal (dst : Option Tmp) (ih : OpsF) (v : AV) (h : Tr AObj) (nx : Nat) : Array Oper → List It → Nat → Nat → Tr AV → Loc → List AD → Bool → Option Nat → List TF → R :=
  fun all k fn m tm loc defers dfr round cs => setDst dst v m tm loc fun tm loc => ih all k fn m tm loc defers dfr round cs h nx

def forks (dst : Option Tmp) (l : List Oper) (all : Array Oper) (k : List It) (fn m : Nat) (tm : Tr AV) (loc : Loc) (defers : List AD) (dfr : Bool) (round : Option Nat) (cs : List TF) : List FkI → R
  | [] => .fail "no way"
  | [.mk v h nx] => setDst dst v m tm loc fun tm loc => .go (.ops l all :: k) fn m tm loc defers dfr round cs h nx
  | .mk v h nx :: fs => .fork (setDst dst v m tm loc fun tm loc => .go (.ops l all :: k) fn m tm loc defers dfr round cs h nx) (forks dst l all k fn m tm loc defers dfr round cs fs)

def opsRun (o : Oper) (l : List Oper) (ih : OpsF) (dst : Option Tmp) (op : Op) : OpsF := fun all k fn m tm loc defers dfr round cs h nx =>
  match doOp P X op m tm loc h nx with
  | .val v h nx => afterVal dst ih v h nx all k fn m tm loc defers dfr round cs
  | .enter f args => enterF P M f args false (.mk fn m tm loc (.ops (o :: l) all :: k) defers dfr round :: cs) h nx
  | .round r args => startRound r args (.mk fn m tm loc (.ops (o :: l) all :: k) defers dfr round :: cs) h nx
  | .defer d => match round with
    | none => setDst dst (.tup []) m tm loc fun tm loc => ih all k fn m tm loc (d :: defers) dfr round cs h nx
    | some _ => .fail "defer in a round"
  | .recov => match round, dfr, cs with
    | none, true, _ :: _ => setDst dst .nilIf m tm loc fun tm loc => ih all k fn m tm loc defers dfr round cs h nx
    | _, _, _ => .fail "recover"
  | .fork fs => forks dst l all k fn m tm loc defers dfr round cs fs
  | .bad why => .fail why

def opsGuard (o : Oper) (l : List Oper) (ih : OpsF) (dst : Option Tmp) (op : Op) (g : Nat × Bool) : OpsF := fun all k fn m tm loc defers dfr round cs h nx =>
  match wantedG all m tm loc g with
  | .yes => opsRun P X M o l ih dst op all k fn m tm loc defers dfr round cs h nx
  | .no => setDst dst (.tup []) m tm loc fun tm loc => ih all k fn m tm loc defers dfr round cs h nx
  | .both => .fork (setDst (dstAt all g.1) (.bool g.2) m tm loc fun tm loc => opsRun P X M o l ih dst op all k fn m tm loc defers dfr round cs h nx)
      (setDst (dstAt all g.1) (.bool (!g.2)) m tm loc fun tm loc => setDst dst (.tup []) m tm loc fun tm loc => ih all k fn m tm loc defers dfr round cs h nx)
  | .unkn => .fail "guard"

def opsCons (o : Oper) (l : List Oper) (ih : OpsF) : OpsF := match o with
  | .mk dst op _ _ _ g => match g with
    | none => opsRun P X M o l ih dst op
    | some g => opsGuard P X M o l ih dst op g

def runOps (l : List Oper) : OpsF := lRec opsNil (opsCons P X M) l

-- a region that draws
/-- a value's block, under another number -/
def reId (a : Nat) (v : AV) : AV := match v with
  | .ptr _ o => .ptr a o
  | .sl _ o n s c => .sl a o n s c
  | .map _ => .map a
  | v => v
def onOper {β : Type} (all : Array Oper) (i : Nat) (d : β) (k : Oper → β) : β := match all.toList[i]? with
  | some o => k o
  | none => d
def drawEv (o : Oper) (l : List PS) : OpsF := fun all k fn m tm loc defers dfr round cs h nx =>
  match (wantedO o all m tm loc) with
  | .no => setDst o.dst (.tup []) m tm loc fun tm loc => .go (.draw l all :: k) fn m tm loc defers dfr round cs h nx
  | .both => .fail "guard"
  | .unkn => .fail "guard"
  | .yes => match doOp P X o.op m tm loc h nx with
    | .val v h' _ => match kindOf P o with
      | .alloc => match idOf v, h'.getF nx with
        | some a, some ob => match Nat.beq a nx with
          | true => setDst o.dst v m tm loc fun tm loc => h.setK (some ob) nx fun h => fN (Nat.succ nx) fun nx => .go (.draw l all :: k) fn m tm loc defers dfr round cs h nx
          | false => .fail "ev: alloc"
        | _, _ => .fail "ev: alloc"
      | _ => setDst o.dst v m tm loc fun tm loc => .go (.draw l all :: k) fn m tm loc defers dfr round cs h nx
    | .bad why => .fail why
    | _ => .fail "ev"
/-- does what was laid hold as well if the operation is done now? -/
def ckB (o : Oper) (all : Array Oper) (m : Nat) (tm : Tr AV) (loc : Loc) (h : Tr AObj) (nx : Nat) : Bool := match o.dst with
  | none => false
  | some d => match (wantedO o all m tm loc) with
    | .no => leV (evT d m tm loc) (.tup [])
    | .both => false
    | .unkn => false
    | .yes => match doOp P X o.op m tm loc h nx with
      | .val v h' _ => match kindOf P o with
        | .alloc => match idOf (evT d m tm loc), idOf v with
          | some a, some b => match h.getF a, h'.getF b with
            | some oa, some ob => leO oa ob && leV (evT d m tm loc) (reId a v)
            | _, _ => false
          | _, _ => false
        | _ => leV (evT d m tm loc) v
      | _ => false
def drawAn (o : Oper) (pl l : List PS) : OpsF := fun all k fn m tm loc defers dfr round cs h nx =>
  match (wantedO o all m tm loc) with
  | .no => setDst o.dst (.tup []) m tm loc fun tm loc => .go (.draw l all :: k) fn m tm loc defers dfr round cs h nx
  | .both => .fail "guard"
  | .unkn => .fail "guard"
  | .yes => match doOp P X o.op m tm loc h nx with
    | .val v h nx => setDst o.dst v m tm loc fun tm loc => .go (.draw l all :: k) fn m tm loc defers dfr round cs h nx
    | .enter f args => enterF P M f args false (.mk fn m tm loc (.draw pl all :: k) defers dfr round :: cs) h nx
    | .bad why => .fail why
    | _ => .fail "an"
def drawAn2 (o q : Oper) (l : List PS) : OpsF := fun all k fn m tm loc defers dfr round cs h nx =>
  match o.op, q.op, o.guard, q.guard, o.dst, q.dst with
  | .store t a v, .store t' a' v', none, none, none, none =>
    match idOf (ev a m tm loc), idOf (ev a' m tm loc) with
    | some x, some y => match Nat.beq x y with
      | true => .fail "an2: one block"
      | false => match oStore P t a v m tm loc h nx with
        | .val _ h nx => match oStore P t' a' v' m tm loc h nx with
          | .val _ h nx => .go (.draw l all :: k) fn m tm loc defers dfr round cs h nx
          | _ => .fail "an2"
        | _ => .fail "an2"
    | _, _ => .fail "an2"
  | _, _, _, _, _, _ => .fail "an2"
def drawStep (p : PS) (l : List PS) : OpsF := fun all k fn m tm loc defers dfr round cs h nx =>
  match p with
  | .ev i => onOper all i (.fail "ev: place") fun o => drawEv P X o l all k fn m tm loc defers dfr round cs h nx
  | .ck i => onOper all i (.fail "ck: place") fun o => bRec (.fail "ck: differs") (.go (.draw l all :: k) fn m tm loc defers dfr round cs h nx) (ckB P X o all m tm loc h nx)
  | .an i => onOper all i (.fail "an: place") fun o => drawAn P X M o (p :: l) l all k fn m tm loc defers dfr round cs h nx
  | .an2 i j => onOper all i (.fail "an2: place") fun o => onOper all j (.fail "an2: place") fun q => drawAn2 P o q l all k fn m tm loc defers dfr round cs h nx

-- the code: down to the next region, or jump
abbrev CodeF := List It → Nat → Nat → Tr AV → Loc → List AD → Bool → Option Nat → List TF → Tr AObj → Nat → R

def cSkip : CodeF := fun k fn m tm loc defers dfr round cs h nx => .go k fn m tm loc defers dfr round cs h nx
def cRegion (_ : Nat) (ops : Array Oper) (draw : Bool) : CodeF := fun k fn m tm _ defers dfr round cs h nx =>
  bRec (.go (.ops ops.toList ops :: k) fn m tm .nil defers dfr round cs h nx)
    (oRec (.fail "no plan") (fun pl => .go (.draw pl ops :: k) fn m tm .nil defers dfr round cs h nx) (planOf P ops.toList)) draw
def cSeq (_ b : Code) (iha _ : CodeF) : CodeF := fun k fn m tm loc defers dfr round cs h nx => iha (.code b :: k) fn m tm loc defers dfr round cs h nx
def knowC {β : Type} (c : Operand) (b : Bool) (m : Nat) (tm : Tr AV) (loc : Loc) (k : Tr AV → Loc → β) : β := match c with
  | .tmp t => setDst (some t) (.bool b) m tm loc k
  | _ => k tm loc
def cCond (c : Operand) (_ _ : Code) (iha ihb : CodeF) : CodeF := fun k fn m tm loc defers dfr round cs h nx =>
  onBool (ev c m tm loc) (onAnyB (ev c m tm loc) (.fail "cond") (.fork (knowC c true m tm loc fun tm loc => iha k fn m tm loc defers dfr round cs h nx) (knowC c false m tm loc fun tm loc => ihb k fn m tm loc defers dfr round cs h nx))) fun t => bRec ihb iha t k fn m tm loc defers dfr round cs h nx
def cBlock (id : Nat) (_ : Code) (ih : CodeF) : CodeF := fun k fn m tm loc defers dfr round cs h nx => ih (.inBlock id :: k) fn m tm loc defers dfr round cs h nx
def cLoop (body : Code) (ih : CodeF) : CodeF := fun k fn m tm loc defers dfr round cs h nx => ih (.inLoop body :: k) fn m tm loc defers dfr round cs h nx
def cRf (f : Operand) (params : Array Tmp) (assign body : Code) : CodeF := fun k fn m tm loc defers dfr round cs h nx =>
  evK f m tm loc fun fv => match fv with
  | .fn f first cap =>
    let enter (d : Nat) (defers : List AD) (h : Tr AObj) (l : Nat) : R :=
      h.setK (some (.loop .ready none fn m tm loc params assign body d)) l fun h => fN (Nat.succ l) fun nx =>
        match callFn P X f (first ++ (.yield l :: cap)) h nx with
        | .enter f args => enterF P M f args false (.mk fn m tm loc (.inRange l :: k) defers dfr round :: cs) h nx
        | _ => .fail "rangeFunc"
    match round with
    | some r => match h.getF r with
      | some (.loop _ _ _ _ _ _ _ _ _ d) => enter d defers h nx
      | _ => .fail "rangeFunc"
    | none => h.setK (some (.defd (some []))) nx fun h => fN (Nat.succ nx) fun l => enter nx (.coll nx :: defers) h l
  | _ => .fail "rangeFunc: function"
def cExit (id : Nat) : CodeF := fun k fn m tm loc defers dfr round cs h nx => match exitA id k with
  | some k => .go k fn m tm loc defers dfr round cs h nx
  | none => leave (some (.exit id)) fn m tm loc defers dfr round cs h nx
def cScope (body : Code) (ih : CodeF) : CodeF := fun k fn m tm loc defers dfr round cs h nx => ih (.inScope body :: k) fn m tm loc defers dfr round cs h nx
def cLabel (_ : Nat) : CodeF := cSkip
def cGoto (l : Nat) : CodeF := fun k fn m tm loc defers dfr round cs h nx => match gotoA l k with
  | some k => .go k fn m tm loc defers dfr round cs h nx
  | none => leave (some (.goto l)) fn m tm loc defers dfr round cs h nx
def cRet : CodeF := fun _ fn m tm loc defers dfr round cs h nx => leave (some .ret) fn m tm loc defers dfr round cs h nx
def cRefuse (_ : String) : CodeF := fun _ _ _ _ _ _ _ _ _ _ _ => .fail "refuse"
def runCode (c : Code) : CodeF := cRec cSkip (cRegion P) cSeq cCond cBlock cLoop (cRf P X M) cExit cScope cLabel cGoto cRet cRefuse c

def stepItem (it : It) : CodeF := match it with
  | .code c => runCode P X M c
  | .inBlock _ => cSkip
  | .inLoop body => fun k => runCode P X M body (.inLoop body :: k)
  | .inScope _ => cSkip
  | .ops l all => runOps P X M l all
  | .draw [] _ => cSkip
  | .draw (p :: l) all => drawStep P X M p l all
  | .inRange _ => fun _ _ _ _ _ _ _ _ _ _ _ => .fail "inRange"
  | .beginRound => fun k fn m tm loc defers dfr round cs h nx => match round with
    | some l => match h.getF l with
      | some (.loop .ready p f2 m2 tm2 loc2 ps asg body d) => h.setK (some (.loop .busy p f2 m2 tm2 loc2 ps asg body d)) l fun h => .go k fn m tm loc defers dfr round cs h nx
      | _ => .fail "beginRound"
    | none => .fail "beginRound"
  | .endRange l => fun k fn m tm loc defers dfr round cs h nx => match h.getF l with
    | some (.loop .busy ..) => .fail "endRange"
    | some (.loop _ p f2 m2 tm2 loc2 ps asg body d) => h.setK (some (.loop .exhausted p f2 m2 tm2 loc2 ps asg body d)) l fun h =>
        .go (match p with | none => k | some c => .code c :: k) fn m tm loc defers dfr round cs h nx
    | _ => .fail "endRange"

def stepGo (todo : List It) : Nat → Nat → Tr AV → Loc → List AD → Bool → Option Nat → List TF → Tr AObj → Nat → R := match todo with
  | [] => leave none
  | it :: k => stepItem P X M it k

def resOne (m : Nat) (tm : Tr AV) (loc : Loc) (h : Tr AObj) (nx : Nat) (r : ResultVar) : Option AV := match r with
  | .tmp t => some (evT t m tm loc)
  | .cell a t => match opLoad P t (evT a m tm loc) h nx with
    | .val v _ _ => some v
    | _ => none
def resAll {β : Type} (m : Nat) (tm : Tr AV) (loc : Loc) (h : Tr AObj) (nx : Nat) (d : β) : List ResultVar → (List AV → β) → β
  | [], k => k []
  | r :: l, k => match resOne P m tm loc h nx r with
    | some v => fV v fun v => resAll m tm loc h nx d l fun l => k (v :: l)
    | none => d
def resTup (l : List AV) : AV := match l with | [v] => v | l => .tup l

def stepRet (fn m : Nat) (tm : Tr AV) (loc : Loc) (defers : List AD) (dfr : Bool) (round : Option Nat) (cs : List TF) (h : Tr AObj) (nx : Nat) : R :=
  match defers with
  | .coll b :: ds => match h.getF b with
    | some (.defd (some l)) => h.setK (some (.defd none)) b fun h => .ret fn m tm loc (l ++ ds) dfr round cs h nx
    | _ => .fail "collected"
  | .call f args :: ds => match callFn P X f args h nx with
    | .enter f args => enterF P M f args true (.mk fn m tm loc [] ds dfr round :: cs) h nx
    | _ => .fail "deferred"
  | [] => match P.funcs[fn]? with
    | none => .fail "results"
    | some f => resAll P m tm loc h nx (.fail "results") f.results.toList fun l => match cs with
      | [] => .fin (resTup l) h nx
      | c :: cs => match dfr with
        | false => finish (resTup l) c cs h nx
        | true => match c with
          | .mk fn m tm loc _ defers dfr round => .ret fn m tm loc defers dfr round cs h nx

def step (r : R) : R := match r with
  | .go todo fn m tm loc defers dfr round cs h nx => stepGo P X M todo fn m tm loc defers dfr round cs h nx
  | .ret fn m tm loc defers dfr round cs h nx => stepRet P X M fn m tm loc defers dfr round cs h nx
  | r => r
def running (r : R) : Bool := match r with | .go .. => true | .ret .. => true | _ => false

/-- 2 ^ n steps -/
def run : Nat → R → R
  | 0, r => step P X M r
  | n + 1, r => (match run n r with
    | .go todo fn m tm loc defers dfr round cs h nx => run n (.go todo fn m tm loc defers dfr round cs h nx)
    | .ret fn m tm loc defers dfr round cs h nx => run n (.ret fn m tm loc defers dfr round cs h nx)
    | r => r)
end
end Go.Sx
