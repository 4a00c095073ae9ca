/- Calls, rounds, code and steps: the executor is sound. -/
import Derived.Test.YtkohmamikbdloaaGreatDoorXe
import Derived.Test.YtkohmamikbdloaaGreatDoorXd
set_option linter.all false
/- The control, part 6: entering, finishing, leaving. -/
namespace Go.Sx
variable {C : Cx} {ρ : Rho} {h : Tr AObj} {nx : Nat} {w : World}

theorem fin_op' {fn : FuncId} {tmps : Array Value} {ds : List Deferred} {dfr : Bool} {rd : Option Nat} {k : List Item} {ops : Array Oper} {i : Nat} {rest : List Nat} {o : Oper} (ho : ops[i]? = some o) (v : Value) :
    (FR fn tmps (.inRegion ops (i :: rest) :: k) ds dfr rd).finish v = FR fn (putC o.dst v tmps) (.inRegion ops rest :: k) ds dfr rd := by
  rw [fin_op ho]; cases o.dst <;> rfl

theorem finish_ok {v : AV} {val : Value} {c : TF} {cs : List TF} {lim : Nat} {up : FuncId} {fs : List Frame} (H : HRel C.E ρ h nx w) (hlim : lim ≤ nx) (hv : VRel C.E.σ ρ v val) (hs : StackOk C ρ lim false up (c :: cs) fs) :
    ∃ f fs', fs = f :: fs' ∧ ROk C (finish v c cs h nx) (lone (f.finish val) fs' w) := by
  obtain ⟨fn, m, tm, loc, todo, defers, dfr, round⟩ := c
  obtain ⟨f, fs', tmps, T, ds, rd, lo, rfl, hlo, hds, hrd, hf, hst⟩ := hs
  refine ⟨f, fs', rfl, ?_⟩
  rcases hf with ⟨hd, _⟩ | ⟨_, rfl, hsu⟩
  · cases hd
  unfold finish
  simp only []
  split
  · rename_i o l all k
    rcases hsu with ⟨i, l', all', k', done, rest, V, K, S, k'', e, _⟩ | ⟨hits, htm⟩
    · cases e
    · cases hits with
      | cons hi hk =>
        cases hi with
        | ops hix =>
          cases hix with
          | cons ho hl =>
            rw [fin_op' ho, setDst_eq]
            exact ⟨ρ, w, _, _, ds, rd, fs', lo, rfl, H, by omega, .inr ⟨.cons (.ops hl) hk, htm.put hv fun t hx => .inr hx⟩, hds, hrd, hst⟩
  · rename_i i l all k
    rcases hsu with ⟨i', l', all', k', done, rest, V, K, S, k'', e, rfl, hk, D⟩ | ⟨hits, _⟩
    · cases e
      have hi : i < all.size := D.lt (by simp)
      have ho : all[i]? = some all[i] := by simp [hi]
      obtain ⟨V', S', D'⟩ := D.anchor ho hv
      have hd : dstAt all i = (all[i]).dst := by rw [dstAt_eq, ho]; rfl
      rw [fin_op' ho, setDst_eq, hd]
      exact ⟨ρ, w, _, _, ds, rd, fs', lo, rfl, H, by omega, .inl ⟨_, _, _, _, _, _, _, _, _, rfl, rfl, hk, D'.mono (Rho.le_refl _) (fun _ _ h => h) hlim, ckAll_zero⟩, hds, hrd, hst⟩
    · cases hits with
      | cons hi hk => cases hi
  · rename_i l k
    rcases hsu with ⟨i', l', all', k', done, rest, V, K, S, k'', e, _⟩ | ⟨hits, htm⟩
    · cases e
    · cases hits with
      | cons hi hk =>
        cases hi with
        | inRange hp => exact ⟨ρ, w, tmps, _, ds, rd, fs', lo, rfl, H, by omega, .inr ⟨.cons (.endRange hp) hk, htm⟩, hds, hrd, hst⟩
  · trivial

-- entering
theorem enterM_some {P : Program} {M : Nat → Nat} {f : FuncId} {c : Code} (hc : enterM P M f = some c) : ∃ fn, P.funcs[f]? = some fn ∧ fn.body = some c ∧ M f < 2 ^ (2 * fn.ntmps) ∧ enterOk P f = some c := by
  unfold enterM at hc
  split at hc
  · rename_i fn hf
    split at hc
    · rename_i hb
      obtain ⟨fn', h1, h2, _⟩ := enterOk_some hc
      rw [hf] at h1; cases h1
      have e : Nat.shiftLeft 1 (Nat.mul 2 fn.ntmps) = 2 ^ (2 * fn.ntmps) := Nat.one_shiftLeft (2 * fn.ntmps)
      rw [e] at hb
      exact ⟨fn, hf, h2, by simpa using hb, hc⟩
    · cases hc
  · cases hc
theorem enter_tmps {σ : Nat → Value} {args : List AV} {vs : Array Value} {m n : Nat} (hl : LRel σ ρ args vs.toList) (hm : m < 2 ^ (2 * n)) :
    TmOk σ ρ noEx m (ofL args 0 .leaf) .nil (vs ++ Array.replicate (n - vs.size) undef) := by
  have hlen : args.length = vs.size := by rw [← Array.length_toList (xs := vs)]; exact hl.length
  refine ⟨Nat.lt_of_lt_of_le hm (Nat.pow_le_pow_right (by decide) (by simp; omega)), fun t _ => ?_⟩
  have hp := place_lt m t
  have hcase : place m t = 0 ∨ place m t = 1 ∨ ∃ k, place m t = k + 2 := by
    rcases Nat.lt_or_ge (place m t) 2 with h | h
    · omega
    · exact .inr (.inr ⟨place m t - 2, by omega⟩)
  rcases hcase with h | h | ⟨k, h⟩
  · simp only [evT, h, place3_zero, VRel]
  · simp only [evT, h, place3_one]; show VRel σ ρ .unk _; simp [VRel]
  · simp only [evT, h, place3_two, getF_eq']
    rw [ofL_get]
    by_cases ht : t < args.length
    · rw [if_pos ⟨Nat.zero_le _, by omega⟩, Nat.sub_zero]
      obtain ⟨a, ha⟩ : ∃ a, args[t]? = some a := ⟨args[t], by simp [ht]⟩
      obtain ⟨v, h1, h2⟩ := LRel.get t hl ha
      rw [ha]
      have hv : vs[t]? = some v := by simpa using h1
      have : (vs ++ Array.replicate (n - vs.size) undef).getD t undef = v := by
        rw [Array.getD_eq_getD_getElem?, Array.getElem?_append_left (by omega), hv]; rfl
      rw [this]; exact h2
    · rw [if_neg (by omega)]
      simp [Tr.get, orUnk, VRel]
theorem enterF_ok {f : FuncId} {args : List AV} {vs : Array Value} {dfr : Bool} {cs : List TF} {lo : Nat} {fs : List Frame} (H : HRel C.E ρ h nx w) (hlo : lo ≤ nx) (hl : LRel C.E.σ ρ args vs.toList) (hs : StackOk C ρ lo dfr f cs fs) :
    ROk C (enterF C.P C.M f args dfr cs h nx) (lone (Frame.enter C.P f vs (if dfr then .deferred else .normal)) fs w) := by
  unfold enterF
  cases hc : enterM C.P C.M f with
  | none => trivial
  | some c =>
    obtain ⟨fn, hf, hb, hm, _⟩ := enterM_some hc
    simp only [oRec_some, ofListK_eq, fN_eq']
    refine ⟨ρ, w, vs ++ Array.replicate (fn.ntmps - vs.size) undef, [.code c], [], none, fs, lo, ?_, H, hlo, .inr ⟨.cons .code .nil, enter_tmps hl hm⟩, .nil, rfl, hs⟩
    simp [Frame.enter, FR, hf, hb]

-- rounds
theorem loop_obj (H : HRel C.E ρ h nx w) {l b N fn m d : Nat} {st : LoopState} {pend : Option Code} {tm : Tr AV} {loc : Loc} {ps : Array Tmp} {asg body : Code} (hg : h.get l = some (.loop st pend fn m tm loc ps asg body d)) (hp : ρ l = some (b, N)) :
    ∃ tmps d' Nd, w.heap[b]? = some (.loop { state := st, pending := pend, fn, tmps, params := ps, assign := asg, body, defers := d' }) ∧ TmOk C.E.σ ρ noEx m tm loc tmps ∧ ρ d = some (d', Nd) := by
  obtain ⟨O, hO, ho⟩ := H.obj l _ b N hg hp
  obtain ⟨tmps, d', Nd, rfl, h1, h2⟩ := ho
  exact ⟨tmps, d', Nd, hO, h1, h2⟩
theorem run_getLoop {P : Program} {b : Nat} {r : Loop} (hO : w.heap[b]? = some (.loop r)) : (Instr.getLoop b).run P w = .ok r w := by
  simp [Instr.getLoop, getObj, Sem.run, hO]
theorem setParams_eq {m : Nat} {k : Tr AV → Loc → R} : ∀ (l : List (Tmp × AV)) (tm : Tr AV) (loc : Loc), setParams m l tm loc k = k (l.foldl (fun p x => putA (some x.1) x.2 m p.1 p.2) (tm, loc)).1 (l.foldl (fun p x => putA (some x.1) x.2 m p.1 p.2) (tm, loc)).2
  | [], tm, loc => rfl
  | (t, v) :: l, tm, loc => by
    simp only [setParams, setDst_eq, List.foldl_cons]
    exact setParams_eq l _ _
theorem params_ok {σ : Nat → Value} {m : Nat} : ∀ (ps : List Tmp) (args : List AV) (vs : List Value) (tm : Tr AV) (loc : Loc) (tmps : Array Value), TmOk σ ρ noEx m tm loc tmps → LRel σ ρ args vs →
    TmOk σ ρ noEx m ((ps.zip args).foldl (fun p x => putA (some x.1) x.2 m p.1 p.2) (tm, loc)).1 ((ps.zip args).foldl (fun p x => putA (some x.1) x.2 m p.1 p.2) (tm, loc)).2 ((ps.zip vs).foldl (fun tmps x => tmps.setIfInBounds x.1 x.2) tmps)
  | [], args, vs, tm, loc, tmps, ht, _ => by simpa using ht
  | p :: ps, [], vs, tm, loc, tmps, ht, hl => by simp only [LRel] at hl; subst hl; simpa using ht
  | p :: ps, a :: args, vs, tm, loc, tmps, ht, hl => by
    simp only [LRel] at hl
    obtain ⟨v, vs', rfl, hv, hl⟩ := hl
    simp only [List.zip_cons_cons, List.foldl_cons]
    exact params_ok ps args vs' _ _ _ (ht.put (d := some p) hv fun t hx => .inr hx) hl
theorem startRound_ok {l b N : Nat} {args : List AV} {vs : Array Value} {cs : List TF} {lo : Nat} {fs : List Frame} (H : HRel C.E ρ h nx w) (hlo : lo ≤ nx) (hp : ρ l = some (b, N)) (hl : LRel C.E.σ ρ args vs.toList)
    (hs : ∀ fn, StackOk C ρ lo false fn cs fs) :
    (∃ why, startRound l args cs h nx = .fail why) ∨ ∃ f tm2 asg body, (Instr.yield b vs).run C.P w = .ok (.round b f tm2 asg body) w ∧ ROk C (startRound l args cs h nx) (lone (FR f tm2 [.code asg, .beginRound, .code body] [] false (some b)) fs w) := by
  unfold startRound
  split
  · rename_i st pend fn m tm loc ps asg body d hg
    rw [getF_eq'] at hg
    split
    · rename_i hlen
      have hlen : args.length = ps.toList.length := Nat.eq_of_beq_eq_true hlen
      obtain ⟨tmps, d', Nd, hO, htm, hd⟩ := loop_obj H hg hp
      right
      refine ⟨fn, (ps.toList.zip vs.toList).foldl (fun tmps x => tmps.setIfInBounds x.1 x.2) tmps, asg, body, ?_, ?_⟩
      · have hsz : vs.size = ps.size := by
          have h1 : args.length = vs.size := by rw [← Array.length_toList (xs := vs)]; exact hl.length
          rw [← h1, hlen, Array.length_toList]
        have hz : (ps.zip vs).foldl (fun tmps (x : Tmp × Value) => tmps.setIfInBounds x.1 x.2) tmps = (ps.toList.zip vs.toList).foldl (fun tmps x => tmps.setIfInBounds x.1 x.2) tmps := by
          rw [← Array.foldl_toList, Array.toList_zip]
        simp only [Instr.yield, Sem.run_bind, run_getLoop hO, Result.andThen_ok]
        rw [if_neg (by omega)]
        simp only [Sem.run_pure, ← hz]
      · rw [setParams_eq]
        exact ⟨ρ, w, _, _, [], some b, fs, lo, rfl, H, hlo, .inr ⟨.cons .code (.cons .beginRound (.cons .code .nil)), params_ok ps.toList args vs.toList tm loc tmps htm hl⟩, .nil, ⟨b, N, hp, rfl⟩, hs fn⟩
    · exact .inl ⟨_, rfl⟩
  · exact .inl ⟨_, rfl⟩

/-- an object that says how a loop stands is changed -/
theorem loop_set (H : HRel C.E ρ h nx w) {l b N fn m d : Nat} {st st' : LoopState} {pend pend' : Option Code} {tm : Tr AV} {loc : Loc} {ps : Array Tmp} {asg body : Code} (hg : h.get l = some (.loop st pend fn m tm loc ps asg body d)) (hp : ρ l = some (b, N))
    {tmps : Array Value} {d' : Nat} (hO : w.heap[b]? = some (.loop { state := st, pending := pend, fn, tmps, params := ps, assign := asg, body, defers := d' })) :
    ∃ w', (setObj b (.loop { state := st', pending := pend', fn, tmps, params := ps, assign := asg, body, defers := d' })).run C.P w = .ok () w' ∧ HRel C.E ρ (h.set (some (.loop st' pend' fn m tm loc ps asg body d)) l) nx w' := by
  obtain ⟨tmps2, d2, Nd, hO2, htm, hd⟩ := loop_obj H hg hp
  rw [hO] at hO2
  simp only [Option.some.injEq, Obj.loop.injEq, Loop.mk.injEq] at hO2
  obtain ⟨_, _, _, rfl, _, _, _, rfl⟩ := hO2
  refine ⟨{ w with heap := w.heap.setIfInBounds b (.loop { state := st', pending := pend', fn, tmps, params := ps, assign := asg, body, defers := d' }) }, run_setObj_of hO (by intro c e f h; cases h), ?_⟩
  exact H.update hg rfl hp (o' := .loop st' pend' fn m tm loc ps asg body d) ⟨tmps, d', Nd, rfl, htm, hd⟩ rfl rfl rfl rfl

-- leaving
theorem leave_ok {jump : Option Code} {fn m : Nat} {tm : Tr AV} {loc : Loc} {defers : List AD} {dfr : Bool} {round : Option Nat} {cs : List TF} {tmps : Array Value} {ds : List Deferred} {rd : Option Nat} {fs : List Frame} {lo : Nat} {todo : List Item}
    (H : HRel C.E ρ h nx w) (hlo : lo ≤ nx) (ht : TmOk C.E.σ ρ noEx m tm loc tmps) (hds : DsRel C.E.σ ρ defers ds) (hrd : RdRel ρ round rd) (hs : StackOk C ρ lo dfr fn cs fs)
    (hj : (todo = [] ∧ jump = none) ∨ (∃ k, todo = .code .ret :: k ∧ jump = some .ret) ∨ (∃ k id, todo = .code (.exit id) :: k ∧ jump = some (.exit id) ∧ exitTo id k = none) ∨ (∃ k l, todo = .code (.goto l) :: k ∧ jump = some (.goto l) ∧ gotoIn l k = none)) :
    Sim C (leave jump fn m tm loc defers dfr round cs h nx) (lone (FR fn tmps todo ds dfr rd) fs w) := by
  unfold leave
  cases round with
  | none =>
    have hrd : rd = none := hrd
    subst hrd
    simp only []
    split
    · rcases hj with ⟨rfl, _⟩ | ⟨k, _, e⟩ | ⟨k, id, _, e, _⟩ | ⟨k, l, _, e, _⟩ <;> try cases e
      exact .of_step st_fall (.now ⟨rfl, ρ, w, tmps, [], ds, fs, lo, rfl, H, hlo, ht, hds, hs⟩)
    · rcases hj with ⟨_, e⟩ | ⟨k, rfl, e⟩ | ⟨k, id, _, e, _⟩ | ⟨k, l, _, e, _⟩ <;> try cases e
      exact .of_step st_ret (.now ⟨rfl, ρ, w, tmps, _, ds, fs, lo, rfl, H, hlo, ht, hds, hs⟩)
    · exact .fail
  | some l =>
    obtain ⟨b, N, hp, rfl⟩ := hrd
    simp only []
    split
    · rename_i st pend f2 m2 tm2 loc2 ps asg body d c cs' hg
      rw [getF_eq'] at hg
      obtain ⟨tm3, d', Nd, hO, htm, hd⟩ := loop_obj H hg hp
      simp only [setK_eq']
      obtain ⟨w', h1, H1⟩ := loop_set H hg hp hO (st' := jumpSt jump) (pend' := jump)
      have hrun : (Instr.endRound b jump).run C.P w = .ok (.bool jump.isNone) w' := by
        simp only [Instr.endRound, Sem.run_bind, run_getLoop hO, Result.andThen_ok]
        have e1 : (if jump.isNone = true then LoopState.ready else LoopState.done) = jumpSt jump := by cases jump <;> rfl
        rw [e1, h1]; rfl
      have hb : jumpB jump = jump.isNone := by cases jump <;> rfl
      cases hds
      obtain ⟨f, fs', rfl, g⟩ := finish_ok (v := .bool (jumpB jump)) (val := .bool jump.isNone) H1 hlo (by simp only [VRel, hb]) hs
      exact .of_step (st_leave hrun hj) (.now g)
    · exact .fail
end Go.Sx

/- The control, part 7: operations in their row. -/
namespace Go.Sx
variable {C : Cx}

theorem st_nval {P : Program} {fn : FuncId} {tmps : Array Value} {ds : List Deferred} {dfr : Bool} {rd : Option Nat} {k : List Item} {cs : List Frame} {w w' : World} {ops : Array Oper} {i : Nat} {rest : List Nat} {o : Oper} {n : Next} {v : Value}
    (ho : ops[i]? = some o) (h : Region.wanted o (yielded ops tmps) = true) (hd : rd = none ∨ ∀ c, o.op ≠ .defer c)
    (hr : (execOp (Act.eval { tmps, defers := ds }) o).run P w = .ok n w') (hn : n = .value v ∨ (n = .skip ∧ v = undef)) :
    Go.step P (lone (FR fn tmps (.inRegion ops (i :: rest) :: k) ds dfr rd) cs w) = .next (lone (FR fn (putC o.dst v tmps) (.inRegion ops rest :: k) ds dfr rd) cs w') := by
  rw [← fin_op' ho]
  rcases hn with rfl | ⟨rfl, rfl⟩
  · exact st_value ho h hd hr
  · exact st_skipped ho h hd hr
theorem st_noval {P : Program} {fn : FuncId} {tmps : Array Value} {ds : List Deferred} {dfr : Bool} {rd : Option Nat} {k : List Item} {cs : List Frame} {w : World} {ops : Array Oper} {i : Nat} {rest : List Nat} {o : Oper}
    (ho : ops[i]? = some o) (h : Region.wanted o (yielded ops tmps) = false) :
    Go.step P (lone (FR fn tmps (.inRegion ops (i :: rest) :: k) ds dfr rd) cs w) = .next (lone (FR fn (putC o.dst undef tmps) (.inRegion ops rest :: k) ds dfr rd) cs w) := by
  rw [← fin_op' ho]; exact st_opSkip ho h
theorem undef_rel {σ : Nat → Value} {ρ : Rho} : VRel σ ρ (.tup []) undef := by simp only [VRel, LRel]; exact ⟨_, rfl, rfl⟩

theorem nval_steps {E : Env} {ρ : Rho} {h' : Tr AObj} {nx nx' : Nat} {av : AV} {P : Program} {fn : FuncId} {tmps : Array Value} {ds : List Deferred} {dfr : Bool} {rd : Option Nat} {k : List Item} {cs : List Frame} {w : World} {ops : Array Oper} {i : Nat} {rest : List Nat} {o : Oper}
    (ho : ops[i]? = some o) (h : Region.wanted o (yielded ops tmps) = true) (hd : rd = none ∨ ∀ c, o.op ≠ .defer c)
    (hop : NVal E P ρ nx w (execOp (Act.eval { tmps, defers := ds }) o) av h' nx') :
    ∃ val w' ρ', Steps P (lone (FR fn tmps (.inRegion ops (i :: rest) :: k) ds dfr rd) cs w) (lone (FR fn (putC o.dst val tmps) (.inRegion ops rest :: k) ds dfr rd) cs w') ∧ HRel E ρ' h' nx' w' ∧ Ext ρ nx ρ' nx' ∧ VRel E.σ ρ' av val := by
  rcases hop with ⟨n, v, w', ρ', h1, h2, h3, h4, h5⟩ | ⟨f, vs, v, h1, h3, rfl, h5, hc⟩
  · exact ⟨v, w', ρ', .one (st_nval ho h hd h1 h2), h3, h4, h5⟩
  · obtain ⟨e, w', fr, ⟨rfl, hK⟩, hS, -, hL⟩ := hc (FR fn tmps (.inRegion ops (i :: rest) :: k) ds dfr rd :: cs)
    refine ⟨v, w', ρ, ?_, h3.kept hK, Ext.refl _ _, h5⟩
    have hs2 := step_leave_returned (c := FR fn tmps (.inRegion ops (i :: rest) :: k) ds dfr rd) (cs := cs) hL
    rw [fin_op' ho] at hs2
    exact (Steps.one (st_enter ho h hd h1)).trans (Steps.trans hS (.one hs2))
theorem forks_ok {dst : Option Tmp} {l : List Oper} {all : Array Oper} {k : List It} {fn m : Nat} {tm : Tr AV} {loc : Loc} {defers : List AD} {dfr : Bool} {round : Option Nat} {cs : List TF} {Mc : Machine} {v : AV} {h : Tr AObj} {nx : Nat}
    (hg : ROk C (.go (.ops l all :: k) fn m (putA dst v m tm loc).1 (putA dst v m tm loc).2 defers dfr round cs h nx) Mc) : ∀ (fs : List FkI), FkI.mk v h nx ∈ fs → ROk C (forks dst l all k fn m tm loc defers dfr round cs fs) Mc
  | [], hm => by cases hm
  | [.mk v' h' nx'], hm => by
    rw [List.mem_singleton] at hm
    cases hm
    simp only [forks, setDst_eq]; exact hg
  | .mk v' h' nx' :: f2 :: fs, hm => by
    simp only [forks, setDst_eq]
    rcases List.mem_cons.1 hm with e | hm
    · cases e; exact .inl hg
    · exact .inr (forks_ok hg (f2 :: fs) hm)

/-- what a running frame has -/
structure Run (C : Cx) (ρ : Rho) (lo : Nat) (fn m : Nat) (tm : Tr AV) (loc : Loc) (defers : List AD) (dfr : Bool) (round : Option Nat) (cs : List TF) (h : Tr AObj) (nx : Nat) (w : World) (tmps : Array Value) (ds : List Deferred) (rd : Option Nat) (fs : List Frame) : Prop where
  H : HRel C.E ρ h nx w
  hlo : lo ≤ nx
  htm : TmOk C.E.σ ρ noEx m tm loc tmps
  hds : DsRel C.E.σ ρ defers ds
  hrd : RdRel ρ round rd
  hst : StackOk C ρ lo dfr fn cs fs
section
variable {ρ : Rho} {lo : Nat} {fn m : Nat} {tm : Tr AV} {loc : Loc} {defers : List AD} {dfr : Bool} {round : Option Nat} {cs : List TF} {h : Tr AObj} {nx : Nat} {w : World} {tmps : Array Value} {ds : List Deferred} {rd : Option Nat} {fs : List Frame}
theorem Run.put (Rn : Run C ρ lo fn m tm loc defers dfr round cs h nx w tmps ds rd fs) {ρ' : Rho} {h' : Tr AObj} {nx' : Nat} {w' : World} {d : Option Nat} {v : AV} {val : Value} (H : HRel C.E ρ' h' nx' w') (X : Ext ρ nx ρ' nx') (hv : VRel C.E.σ ρ' v val) :
    Run C ρ' lo fn m (putA d v m tm loc).1 (putA d v m tm loc).2 defers dfr round cs h' nx' w' (putC d val tmps) ds rd fs :=
  ⟨H, Nat.le_trans Rn.hlo X.up, (Rn.htm.mono X.le).put hv fun t hx => .inr hx, Rn.hds.mono X.le, Rn.hrd.mono X.le, Rn.hst.mono X.le (fun a ha => X.gap a (Nat.lt_of_lt_of_le ha Rn.hlo)) (Nat.le_refl _)⟩
theorem Run.go (Rn : Run C ρ lo fn m tm loc defers dfr round cs h nx w tmps ds rd fs) {k : List It} {k' : List Item} (hk : ItsRel ρ k k') : ROk C (.go k fn m tm loc defers dfr round cs h nx) (lone (FR fn tmps k' ds dfr rd) fs w) :=
  ⟨ρ, w, tmps, k', ds, rd, fs, lo, rfl, Rn.H, Rn.hlo, .inr ⟨hk, Rn.htm⟩, Rn.hds, Rn.hrd, Rn.hst⟩
/-- the frame waits -/
theorem Run.susp (Rn : Run C ρ lo fn m tm loc defers dfr round cs h nx w tmps ds rd fs) {k : List It} {k' : List Item} (hk : ItsRel ρ k k') (up : FuncId) : StackOk C ρ nx false up (.mk fn m tm loc k defers dfr round :: cs) (FR fn tmps k' ds dfr rd :: fs) :=
  ⟨_, fs, tmps, k', ds, rd, lo, rfl, Rn.hlo, Rn.hds, Rn.hrd, .inr ⟨rfl, rfl, .inr ⟨hk, Rn.htm⟩⟩, Rn.hst⟩
end

theorem both_known {σ : Nat → Value} {ρ : Rho} {ex : Nat → Prop} {m : Nat} {tm : Tr AV} {loc : Loc} {tmps : Array Value} {all : Array Oper} {g : Nat × Bool} (ht : TmOk σ ρ ex m tm loc tmps) (hx : ∀ d, ¬ ex d) (hw : wantedG all m tm loc g = .both) :
    ∃ d b, dstAt all g.1 = some d ∧ tmps[d]? = some (.bool b) ∧ (yielded all tmps g.1 == some g.2) = (b == g.2) := by
  unfold wantedG at hw
  cases hd : dstAt all g.1 with
  | none => rw [hd] at hw; cases hw
  | some d =>
    simp only [hd] at hw
    have hv := ht.2 d (hx d)
    have hv2 : evT d m tm loc = .anyB := by
      cases hq : evT d m tm loc <;> simp only [hq, reduceCtorEq] at hw ⊢
      split at hw <;> cases hw
    rw [hv2] at hv
    simp only [VRel, Array.getD_eq_getD_getElem?] at hv
    obtain ⟨b, hb⟩ := hv
    cases hc : tmps[d]? with
    | none => rw [hc] at hb; simp [undef] at hb
    | some x =>
      rw [hc] at hb; simp at hb; subst hb
      refine ⟨d, b, rfl, hc, ?_⟩
      unfold yielded
      rw [← dstAt_eq, hd]
      simp [hc]
theorem put_known {tmps : Array Value} {d : Nat} {v : Value} (h : tmps[d]? = some v) : putC (some d) v tmps = tmps := by
  obtain ⟨hl, he⟩ := Array.getElem?_eq_some_iff.1 h
  show tmps.setIfInBounds d v = tmps
  subst he
  apply Array.ext_getElem?
  intro i
  rw [Array.getElem?_setIfInBounds]
  split
  · rename_i e; subst e; simp [hl]
  · rfl
theorem Run.know {ρ : Rho} {lo : Nat} {fn m : Nat} {tm : Tr AV} {loc : Loc} {defers : List AD} {dfr : Bool} {round : Option Nat} {cs : List TF} {h : Tr AObj} {nx : Nat} {w : World} {tmps : Array Value} {ds : List Deferred} {rd : Option Nat} {fs : List Frame}
    (Rn : Run C ρ lo fn m tm loc defers dfr round cs h nx w tmps ds rd fs) {d : Nat} {b : Bool} (hb : tmps[d]? = some (.bool b)) :
    Run C ρ lo fn m (putA (some d) (.bool b) m tm loc).1 (putA (some d) (.bool b) m tm loc).2 defers dfr round cs h nx w tmps ds rd fs := by
  have := Rn.put (d := some d) (v := .bool b) (val := .bool b) Rn.H (Ext.refl _ _) (by simp only [VRel])
  rwa [put_known hb] at this

theorem runOps_ok (hX : XOk C.P C.X C.E.σ) (all : Array Oper) : ∀ (l : List Oper) (is : List Nat) {ρ : Rho} {lo : Nat} {fn m : Nat} {tm : Tr AV} {loc : Loc} {defers : List AD} {dfr : Bool} {round : Option Nat} {cs : List TF} {h : Tr AObj} {nx : Nat} {w : World} {tmps : Array Value} {ds : List Deferred} {rd : Option Nat} {fs : List Frame}
    {k : List It} {k' : List Item}, OpsIx all l is → ItsRel ρ k k' → Run C ρ lo fn m tm loc defers dfr round cs h nx w tmps ds rd fs →
    Sim C (runOps C.P C.X C.M l all k fn m tm loc defers dfr round cs h nx) (lone (FR fn tmps (.inRegion all is :: k') ds dfr rd) fs w)
  | [], is, ρ, lo, fn, m, tm, loc, defers, dfr, round, cs, h, nx, w, tmps, ds, rd, fs, k, k', hix, hk, Rn => by
    cases hix
    exact .of_step st_end (.now (Rn.go hk))
  | o :: l, is, ρ, lo, fn, m, tm, loc, defers, dfr, round, cs, h, nx, w, tmps, ds, rd, fs, k, k', hix, hk, Rn => by
    have hix0 := hix
    cases hix with
    | @cons _ _ i is ho hl =>
    show Sim C (opsCons C.P C.X C.M o l (runOps C.P C.X C.M l) all k fn m tm loc defers dfr round cs h nx) _
    have wnt := wantedO_ok (all := all) Rn.htm o fun g d _ _ => id
    have hself : ItsRel ρ (.ops (o :: l) all :: k) (.inRegion all (i :: is) :: k') := .cons (.ops hix0) hk
    have hno' : ∀ (tm : Tr AV) (loc : Loc) (Rn : Run C ρ lo fn m tm loc defers dfr round cs h nx w tmps ds rd fs), Region.wanted o (yielded all tmps) = false → Sim C (setDst o.dst (.tup []) m tm loc fun tm loc => runOps C.P C.X C.M l all k fn m tm loc defers dfr round cs h nx) (lone (FR fn tmps (.inRegion all (i :: is) :: k') ds dfr rd) fs w) := by
      intro tm loc Rn hw
      rw [setDst_eq]
      exact .of_step (st_noval ho hw) (runOps_ok hX all l is hl hk (Rn.put Rn.H (Ext.refl _ _) undef_rel))
    have hyes' : ∀ (tm : Tr AV) (loc : Loc) (Rn : Run C ρ lo fn m tm loc defers dfr round cs h nx w tmps ds rd fs), Region.wanted o (yielded all tmps) = true → Sim C (opsRun C.P C.X C.M o l (runOps C.P C.X C.M l) o.dst o.op all k fn m tm loc defers dfr round cs h nx) (lone (FR fn tmps (.inRegion all (i :: is) :: k') ds dfr rd) fs w) := by
      intro tm loc Rn hwt
      have hev : EvOk C.E ρ m tm loc (Act.eval { tmps, defers := ds }) o.op.operands.toList := fun x _ => ev_ok (a := { tmps, defers := ds }) Rn.H.glob Rn.htm x fun t _ => id
      have hop := doOp_ok Rn.H hX hev
      have hdf := doOp_defer (P := C.P) (X := C.X) (o := o) (m := m) (tm := tm) (loc := loc) (h := h) (nx := nx)
      unfold opsRun
      cases hres : doOp C.P C.X o.op m tm loc h nx with
      | bad why => exact .fail
      | val v h' nx' =>
        rw [hres] at hop
        obtain ⟨val, w', ρ', h1, h3, h4, h5⟩ := nval_steps (fn := fn) (dfr := dfr) (k := k') (cs := fs) (rest := is) ho hwt (rd := rd) (.inr fun c hc => by rcases hdf c hc with ⟨d, e⟩ | ⟨y, e⟩ <;> rw [hres] at e <;> cases e) hop
        simp only [afterVal, setDst_eq]
        exact .of_steps h1 (runOps_ok hX all l is hl (hk.mono h4.le) (Rn.put h3 h4 h5))
      | fork fks =>
        rw [hres] at hop
        obtain ⟨f, hm, hf⟩ := hop
        obtain ⟨v, h', nx'⟩ := f
        obtain ⟨val, w', ρ', h1, h3, h4, h5⟩ := nval_steps (fn := fn) (dfr := dfr) (k := k') (cs := fs) (rest := is) ho hwt (rd := rd) (.inr fun c hc => by rcases hdf c hc with ⟨d, e⟩ | ⟨y, e⟩ <;> rw [hres] at e <;> cases e) hf
        refine .of_steps h1 (.now ?_)
        exact forks_ok ((Rn.put h3 h4 h5).go (.cons (.ops hl) (hk.mono h4.le))) fks hm
      | enter f args =>
        rw [hres] at hop
        simp only []
        cases hc : enterM C.P C.M f with
        | none => simp only [enterF, hc, oRec_none]; exact .fail
        | some c =>
          obtain ⟨fn', _, _, _, hen⟩ := enterM_some hc
          obtain ⟨vs, h1, h2⟩ := hop c hen
          have hnd : rd = none ∨ ∀ c, o.op ≠ .defer c := .inr fun c hc => by rcases hdf c hc with ⟨d, e⟩ | ⟨y, e⟩ <;> rw [hres] at e <;> cases e
          refine .of_step (st_enter ho hwt hnd h1) (.now ?_)
          exact enterF_ok (dfr := false) Rn.H (Nat.le_refl _) h2 (Rn.susp hself f)
      | round r args =>
        rw [hres] at hop
        obtain ⟨b, N, vs, h1, h2, h3⟩ := hop
        simp only []
        have hnd : rd = none ∨ ∀ c, o.op ≠ .defer c := .inr fun c hc => by rcases hdf c hc with ⟨d, e⟩ | ⟨y, e⟩ <;> rw [hres] at e <;> cases e
        rcases startRound_ok Rn.H (Nat.le_refl _) h1 h2 (fun f => Rn.susp hself f) with ⟨why, e⟩ | ⟨f, tm2, asg, body, h4, h5⟩
        · rw [e]; exact .fail
        · exact .of_step (st_round ho hwt hnd (by rw [h3]; exact h4)) (.now h5)
      | defer d =>
        rw [hres] at hop
        obtain ⟨d', h1, h2⟩ := hop
        simp only []
        cases round with
        | some r => exact .fail
        | none =>
          have hrd : rd = none := Rn.hrd
          subst hrd
          simp only [setDst_eq]
          refine .of_step (st_defer ho hwt h1) ?_
          rw [fin_op' ho]
          refine runOps_ok (lo := lo) hX all l is hl hk ?_
          have := Rn.put (d := o.dst) Rn.H (Ext.refl _ _) undef_rel
          exact ⟨this.H, this.hlo, this.htm, .cons h2 this.hds, this.hrd, this.hst⟩
      | recov =>
        rw [hres] at hop
        simp only []
        split
        · rename_i c cs' _
          have hrd : rd = none := Rn.hrd
          subst hrd
          simp only [setDst_eq]
          have hst := Rn.hst
          obtain ⟨f2, m2, tm2, loc2, todo2, defers2, dfr2, round2⟩ := c
          obtain ⟨f, fs', tmps', T, ds', rd', lo', rfl, _, _, _, hf, _⟩ := hst
          rcases hf with ⟨_, rfl, _⟩ | ⟨hd, _⟩
          · refine .of_step (st_recover ho hwt rfl hop) ?_
            rw [fin_op' ho]
            exact runOps_ok hX all l is hl hk (Rn.put Rn.H (Ext.refl _ _) (by simp only [VRel]))
          · cases hd
        · exact .fail
    have hyes : wantedO o all m tm loc = .yes → _ := fun hw => hyes' tm loc Rn (wnt.1 hw)
    have hno : wantedO o all m tm loc = .no → _ := fun hw => hno' tm loc Rn (wnt.2 hw)
    obtain ⟨dst, op, type, pos, after, g⟩ := o
    cases g with
    | none => exact hyes rfl
    | some g =>
      show Sim C (opsGuard C.P C.X C.M _ l (runOps C.P C.X C.M l) dst op g all k fn m tm loc defers dfr round cs h nx) _
      unfold opsGuard
      cases hw : wantedG all m tm loc g with
      | yes => exact hyes hw
      | no => exact hno hw
      | unkn => exact .fail
      | both =>
        obtain ⟨d, b, h1, h2, h3⟩ := both_known Rn.htm (fun _ => id) hw
        have h4 : Region.wanted (Oper.mk dst op type pos after (some g)) (yielded all tmps) = (b == g.2) := h3
        simp only []
        rw [h1, setDst_eq, setDst_eq]
        by_cases e : b = g.2
        · subst e
          exact (hyes' _ _ (Rn.know h2) (by rw [h4]; simp)).fork
        · obtain rfl : b = !g.2 := by cases b <;> cases hg : g.2 <;> simp [hg] at e ⊢
          exact (hno' _ _ (Rn.know h2) (by rw [h4]; cases g.2 <;> rfl)).fork2
end Go.Sx

/- The control, part 8: code. -/
namespace Go.Sx
variable {C : Cx} {ρ : Rho} {lo : Nat} {fn m : Nat} {tm : Tr AV} {loc : Loc} {defers : List AD} {dfr : Bool} {round : Option Nat} {cs : List TF} {h : Tr AObj} {nx : Nat} {w : World} {tmps : Array Value} {ds : List Deferred} {rd : Option Nat} {fs : List Frame}

theorem exitA_ok {k : List It} {k' : List Item} (hk : ItsRel ρ k k') (id : Nat) : (∀ k1, exitA id k = some k1 → ∃ k1', exitTo id k' = some k1' ∧ ItsRel ρ k1 k1') ∧ (exitA id k = none → exitTo id k' = none) := by
  induction hk with
  | nil => exact ⟨fun k1 h => by simp [exitA] at h, fun _ => rfl⟩
  | @cons i j k k' hi hk ih =>
    cases hi with
    | inBlock =>
      rename_i id2
      simp only [exitA, exitTo]
      by_cases e : (id2 == id) = true
      · simp only [e, if_true]
        exact ⟨fun k1 h => by cases h; exact ⟨k', rfl, hk⟩, fun h => by cases h⟩
      · simp only [e]
        exact ih
    | _ => exact ih
theorem gotoA_ok {k : List It} {k' : List Item} (hk : ItsRel ρ k k') (l : Nat) : (∀ k1, gotoA l k = some k1 → ∃ k1', gotoIn l k' = some k1' ∧ ItsRel ρ k1 k1') ∧ (gotoA l k = none → gotoIn l k' = none) := by
  induction hk with
  | nil => exact ⟨fun k1 h => by simp [gotoA] at h, fun _ => rfl⟩
  | @cons i j k k' hi hk ih =>
    cases hi with
    | inScope =>
      rename_i c
      simp only [gotoA, gotoIn]
      cases findLabel c l with
      | some r => exact ⟨fun k1 h => by cases h; exact ⟨_, rfl, .cons .code (.cons .inScope hk)⟩, fun h => by cases h⟩
      | none => exact ih
    | _ => exact ih

theorem lookNil (t : Nat) : lookF .nil t = .unk := rfl
theorem TmOk.clear {σ : Nat → Value} {ex : Nat → Prop} (ht : TmOk σ ρ ex m tm loc tmps) : TmOk σ ρ ex m tm .nil tmps := by
  refine ⟨ht.1, fun t hx => ?_⟩
  have := ht.2 t hx
  have hp := place_lt m t
  have hcase : place m t = 0 ∨ place m t = 1 ∨ ∃ k, place m t = k + 2 := by
    rcases Nat.lt_or_ge (place m t) 2 with h | h
    · omega
    · exact .inr (.inr ⟨place m t - 2, by omega⟩)
  rcases hcase with h | h | ⟨k, h⟩
  · simp only [evT, h, place3_zero, VRel]
  · simp only [evT, h, place3_one, lookNil, VRel]
  · simp only [evT, h, place3_two] at this ⊢; exact this
theorem Run.clear (Rn : Run C ρ lo fn m tm loc defers dfr round cs h nx w tmps ds rd fs) : Run C ρ lo fn m tm .nil defers dfr round cs h nx w tmps ds rd fs := ⟨Rn.H, Rn.hlo, Rn.htm.clear, Rn.hds, Rn.hrd, Rn.hst⟩

theorem draw_begin {P : Program} {E : Env} {ops : Array Oper} {pl : List PS} (hp : planOf P ops.toList = some pl) {L : List Nat} (hL : ∀ hac : Acyc ops, OrdOk ops L) (ht : TmOk E.σ ρ noEx m tm loc tmps) :
    DrawI E P ρ lo ops pl [] L 0 0 0 m tm loc nx tmps := by
  obtain ⟨hs, hok⟩ := planOf_some hp
  have hac : Acyc ops := fun i o ho => hs.acyc i o (by rw [Array.getElem?_toList]; exact ho)
  have z : ∀ i, tst 0 i = true → False := fun i h => by rw [tst_zero] at h; cases h
  exact ⟨hL hac, hs, hok, (fun i hi => by cases hi), fun i _ h => (z i h).elim, fun i _ h => (z i h).elim, ht.weaken fun t _ => id,
    fun i o d a _ h => (z i h).elim, fun i j o q d e a _ _ h => (z i h).elim⟩

theorem rf_ok (hX : XOk C.P C.X C.E.σ) {f : Operand} {ps : Array Tmp} {asg body : Code} {k : List It} {k' : List Item} (hk : ItsRel ρ k k') (Rn : Run C ρ lo fn m tm loc defers dfr round cs h nx w tmps ds rd fs) :
    Sim C (cRf C.P C.X C.M f ps asg body k fn m tm loc defers dfr round cs h nx) (lone (FR fn tmps (.code (.rangeFunc f ps asg body) :: k') ds dfr rd) fs w) := by
  unfold cRf
  simp only [evK_eq]
  have hfv : VRel C.E.σ ρ (ev f m tm loc) (Act.eval { tmps, defers := ds } f) := ev_ok (a := { tmps, defers := ds }) Rn.H.glob Rn.htm f fun t _ => id
  split
  · rename_i fid first cap he
    rw [he] at hfv
    simp only [VRel] at hfv
    obtain ⟨xs, ys, hv, hx1, hx2⟩ := hfv
    -- the loop's object is laid; the call follows
    have enter : ∀ (d l : Nat) (defers' : List AD) (ds' mk : List Deferred) (h1 : Tr AObj) (ρ1 : Rho) (w1 w2 : World) (d' Nd : Nat), ds' = mk ++ ds →
        HRel C.E ρ1 h1 l w1 → Ext ρ nx ρ1 l → ρ1 d = some (d', Nd) → DsRel C.E.σ ρ1 defers' ds' →
        (Instr.enterLoop fn tmps ps asg body rd).run C.P w = .ok (w1.heap.size, mk) w2 → w2 = w1.alloc (.loop { state := .ready, pending := none, fn, tmps, params := ps, assign := asg, body, defers := d' }) →
        Sim C (h1.setK (some (.loop .ready none fn m tm loc ps asg body d)) l fun h => fN (Nat.succ l) fun nx =>
          match callFn C.P C.X fid (first ++ (.yield l :: cap)) h nx with
          | .enter f args => enterF C.P C.M f args false (.mk fn m tm loc (.inRange l :: k) defers' dfr round :: cs) h nx
          | _ => .fail "rangeFunc") (lone (FR fn tmps (.code (.rangeFunc f ps asg body) :: k') ds dfr rd) fs w) := by
      intro d l defers' ds' mk h1 ρ1 w1 w2 d' Nd hds' H1 X1 hd hdr hrun hw2
      subst hds' hw2
      simp only [setK_eq', fN_eq']
      obtain ⟨H2, X2⟩ := H1.alloc (o := .loop .ready none fn m tm loc ps asg body d) (O := .loop { state := .ready, pending := none, fn, tmps, params := ps, assign := asg, body, defers := d' }) (N := 0)
        ⟨tmps, d', Nd, rfl, Rn.htm.mono X1.le, hd⟩
      have X := X1.trans X2
      have hyl : (ρ1.set l (w1.heap.size, 0)) l = some (w1.heap.size, 0) := Rho.set_same _ _ _
      have hlv : LRel C.E.σ (ρ1.set l (w1.heap.size, 0)) (first ++ (.yield l :: cap)) (xs ++ #[Value.func (.yield w1.heap.size) #[] #[]] ++ ys).toList := by
        rw [Array.toList_append, Array.toList_append, List.append_assoc]
        refine (hx1.mono X.le).append ?_
        simp only [List.cons_append, List.nil_append, LRel]
        exact ⟨_, _, rfl, by simp only [VRel]; exact ⟨_, _, hyl, rfl⟩, hx2.mono X.le⟩
      have hop := callFn_ok (X := C.X) H2 hX hlv (f := fid)
      split
      · rename_i g args hres
        have hres' : callFn C.P C.X fid (first ++ (.yield l :: cap)) (h1.set (some (.loop .ready none fn m tm loc ps asg body d)) l) (l + 1) = .enter g args := hres
        rw [hres'] at hop
        cases hc : enterM C.P C.M g with
        | none => simp only [enterF, hc, oRec_none]; exact .fail
        | some c =>
          obtain ⟨fn', _, _, _, hen⟩ := enterM_some hc
          obtain ⟨vs, q1, q2⟩ := hop c hen
          refine .of_step (st_rangeFunc hrun (g := g) (args := vs) (w' := w1.alloc (.loop { state := .ready, pending := none, fn, tmps, params := ps, assign := asg, body, defers := d' })) ?_) (.now ?_)
          · have hv' : Act.eval { tmps, defers := mk ++ ds } f = .func (.func fid) xs ys := by rw [← hv]; cases f <;> rfl
            have hrv := resolve_value (P := C.P) (eval := Act.eval { tmps, defers := mk ++ ds }) (c := { callee := .value f, args := #[.const (.func (.yield w1.heap.size) #[] #[])], argTypes := #[] }) (ty := 0) (f := f) (fid := fid) (xs := xs) (ys := ys) rfl hv'
            have e : xs ++ Array.map (Act.eval { tmps, defers := mk ++ ds }) #[Operand.const (.func (.yield w1.heap.size) #[] #[])] ++ ys = xs ++ #[Value.func (.yield w1.heap.size) #[] #[]] ++ ys := by simp [Act.eval]
            simp only [Sem.run_bind, hrv, Result.andThen_ok, invoke]
            rw [e]; exact q1
          · refine enterF_ok (dfr := false) H2 (Nat.le_refl _) q2 ?_
            refine ⟨_, fs, tmps, _, mk ++ ds, rd, lo, rfl, Nat.le_trans Rn.hlo X.up, hdr.mono X2.le, Rn.hrd.mono X.le, .inr ⟨rfl, rfl, .inr ⟨.cons (.inRange hyl) (hk.mono X.le), Rn.htm.mono X.le⟩⟩, ?_⟩
            exact Rn.hst.mono X.le (fun a ha => X.gap a (Nat.lt_of_lt_of_le ha Rn.hlo)) (Nat.le_refl _)
      · exact .fail
    cases hr : round with
    | some r =>
      subst hr
      simp only []
      have hrd := Rn.hrd
      obtain ⟨b, N, hp, rfl⟩ := hrd
      split
      · rename_i st pend f2 m2 tm2 loc2 ps2 asg2 body2 d hg
        rw [getF_eq'] at hg
        obtain ⟨tm3, d', Nd, hO, _, hd⟩ := loop_obj Rn.H hg hp
        refine enter d nx defers ds [] h ρ w _ d' Nd rfl Rn.H (Ext.refl _ _) hd Rn.hds ?_ rfl
        simp [Instr.enterLoop, run_getLoop hO]
      · exact .fail
    | none =>
      subst hr
      simp only [setK_eq', fN_eq']
      have hrd : rd = none := Rn.hrd
      subst hrd
      obtain ⟨H1, X1⟩ := Rn.H.alloc (o := .defd (some [])) (O := .deferred (some [])) (N := 0) ⟨[], rfl, .nil⟩
      have key := enter nx (nx + 1) (.coll nx :: defers) _ [{ target := .collected w.heap.size, args := #[] }] _ _ (w.alloc (.deferred (some []))) _ w.heap.size 0 rfl H1 X1 (Rho.set_same _ _ _)
        (.cons (.coll (Rho.set_same _ _ _)) (Rn.hds.mono X1.le)) (by simp [Instr.enterLoop]) rfl
      simp only [setK_eq', fN_eq'] at key
      exact key
  · exact .fail

theorem runCode_ok (hX : XOk C.P C.X C.E.σ) (c : Code) : ∀ {ρ : Rho} {lo : Nat} {fn m : Nat} {tm : Tr AV} {loc : Loc} {defers : List AD} {dfr : Bool} {round : Option Nat} {cs : List TF} {h : Tr AObj} {nx : Nat} {w : World} {tmps : Array Value} {ds : List Deferred} {rd : Option Nat} {fs : List Frame}
    {k : List It} {k' : List Item}, ItsRel ρ k k' → Run C ρ lo fn m tm loc defers dfr round cs h nx w tmps ds rd fs →
    Sim C (runCode C.P C.X C.M c k fn m tm loc defers dfr round cs h nx) (lone (FR fn tmps (.code c :: k') ds dfr rd) fs w) := by
  induction c with
  | skip => intro ρ lo fn m tm loc defers dfr round cs h nx w tmps ds rd fs k k' hk Rn; exact .of_step st_skip (.now (Rn.go hk))
  | label l => intro ρ lo fn m tm loc defers dfr round cs h nx w tmps ds rd fs k k' hk Rn; exact .of_step st_label (.now (Rn.go hk))
  | region id ops draw =>
    intro ρ lo fn m tm loc defers dfr round cs h nx w tmps ds rd fs k k' hk Rn
    show Sim C (cRegion C.P id ops draw k fn m tm loc defers dfr round cs h nx) _
    unfold cRegion
    cases draw with
    | false => exact .of_step st_region (.now (Rn.clear.go (.cons (.ops (opsIx_all ops)) hk)))
    | true =>
      simp only [bRec_true]
      cases hp : planOf C.P ops.toList with
      | none => exact .fail
      | some pl =>
        refine .of_step st_draw (.now ?_)
        refine ⟨ρ, _, tmps, _, ds, rd, fs, lo, rfl, Rn.H.drawn _, Rn.hlo, .inl ⟨pl, ops, k, [], _, 0, 0, 0, k', rfl, rfl, hk, draw_begin hp (fun hac => by rw [C.hm]; exact sched_ok hac _) Rn.clear.htm, ckAll_zero⟩, Rn.hds, Rn.hrd, Rn.hst⟩
  | seq a b iha ihb => intro ρ lo fn m tm loc defers dfr round cs h nx w tmps ds rd fs k k' hk Rn; exact .of_step st_seq (iha (.cons .code hk) Rn)
  | cond c a b iha ihb =>
    intro ρ lo fn m tm loc defers dfr round cs h nx w tmps ds rd fs k k' hk Rn
    show Sim C (cCond c a b (runCode C.P C.X C.M a) (runCode C.P C.X C.M b) k fn m tm loc defers dfr round cs h nx) _
    unfold cCond
    have hcv : VRel C.E.σ ρ (ev c m tm loc) (Act.eval { tmps, defers := ds } c) := ev_ok (a := { tmps, defers := ds }) Rn.H.glob Rn.htm c fun t _ => id
    refine onBool_elim (Q := fun r => Sim C r _) ?_ fun t ht => ?_
    · cases he : ev c m tm loc <;> first | exact .fail | skip
      rw [he] at hcv
      simp only [VRel] at hcv
      obtain ⟨t, ht⟩ := hcv
      have hst := st_cond (P := C.P) (fn := fn) (tmps := tmps) (ds := ds) (dfr := dfr) (rd := rd) (k := k') (cs := fs) (w := w) (c := c) (a := a) (b := b) (t := t) (by rw [FR_eval]; exact ht)
      have kn : ∀ (q : Tr AV → Loc → R), (∀ tm loc, Run C ρ lo fn m tm loc defers dfr round cs h nx w tmps ds rd fs → Sim C (q tm loc) (lone (FR fn tmps (.code (if t then a else b) :: k') ds dfr rd) fs w)) → Sim C (knowC c t m tm loc q) (lone (FR fn tmps (.code (if t then a else b) :: k') ds dfr rd) fs w) := by
        intro q hq
        unfold knowC
        split
        · rename_i d
          rw [setDst_eq]
          refine hq _ _ (Rn.know ?_)
          have ht : tmps.getD d undef = .bool t := ht
          rw [Array.getD_eq_getD_getElem?] at ht
          cases hc : tmps[d]? with
          | none => rw [hc] at ht; simp [undef] at ht
          | some x => rw [hc] at ht; simp at ht; rw [ht]
        · exact hq _ _ Rn
      cases t
      · exact .of_step hst (kn _ fun _ _ Rn => ihb hk Rn).fork2
      · exact .of_step hst (kn _ fun _ _ Rn => iha hk Rn).fork
    rw [ht] at hcv
    have hcv := hcv.bool_inv
    have hst := st_cond (P := C.P) (fn := fn) (tmps := tmps) (ds := ds) (dfr := dfr) (rd := rd) (k := k') (cs := fs) (w := w) (c := c) (a := a) (b := b) (t := t) (by rw [FR_eval]; exact hcv)
    cases t
    · exact .of_step hst (ihb hk Rn)
    · exact .of_step hst (iha hk Rn)
  | block id c ih => intro ρ lo fn m tm loc defers dfr round cs h nx w tmps ds rd fs k k' hk Rn; exact .of_step st_block (ih (.cons .inBlock hk) Rn)
  | loop c ih => intro ρ lo fn m tm loc defers dfr round cs h nx w tmps ds rd fs k k' hk Rn; exact .of_step st_loop (ih (.cons .inLoop hk) Rn)
  | rangeFunc f ps asg body _ _ => intro ρ lo fn m tm loc defers dfr round cs h nx w tmps ds rd fs k k' hk Rn; exact rf_ok hX hk Rn
  | exit id =>
    intro ρ lo fn m tm loc defers dfr round cs h nx w tmps ds rd fs k k' hk Rn
    show Sim C (cExit id k fn m tm loc defers dfr round cs h nx) _
    unfold cExit
    obtain ⟨g1, g2⟩ := exitA_ok hk id
    split
    · rename_i k1 he
      obtain ⟨k1', q1, q2⟩ := g1 k1 he
      exact .of_step (st_exit q1) (.now (Rn.go q2))
    · rename_i he
      exact leave_ok Rn.H Rn.hlo Rn.htm Rn.hds Rn.hrd Rn.hst (.inr (.inr (.inl ⟨k', id, rfl, rfl, g2 he⟩)))
  | scope c ih => intro ρ lo fn m tm loc defers dfr round cs h nx w tmps ds rd fs k k' hk Rn; exact .of_step st_scope (ih (.cons .inScope hk) Rn)
  | goto l =>
    intro ρ lo fn m tm loc defers dfr round cs h nx w tmps ds rd fs k k' hk Rn
    show Sim C (cGoto l k fn m tm loc defers dfr round cs h nx) _
    unfold cGoto
    obtain ⟨g1, g2⟩ := gotoA_ok hk l
    split
    · rename_i k1 he
      obtain ⟨k1', q1, q2⟩ := g1 k1 he
      exact .of_step (st_goto q1) (.now (Rn.go q2))
    · rename_i he
      exact leave_ok Rn.H Rn.hlo Rn.htm Rn.hds Rn.hrd Rn.hst (.inr (.inr (.inr ⟨k', l, rfl, rfl, g2 he⟩)))
  | ret => intro ρ lo fn m tm loc defers dfr round cs h nx w tmps ds rd fs k k' hk Rn; exact leave_ok Rn.H Rn.hlo Rn.htm Rn.hds Rn.hrd Rn.hst (.inr (.inl ⟨k', rfl, rfl⟩))
  | refuse why => intro ρ lo fn m tm loc defers dfr round cs h nx w tmps ds rd fs k k' hk Rn; exact .fail
end Go.Sx

/- The control, part 9: steps and runs. -/
namespace Go.Sx

theorem HRel.ghost {E : Env} {ρ : Rho} {h : Tr AObj} {nx : Nat} {w : World} (H : HRel E ρ h nx w) (ob : AObj) : HRel E ρ (h.set (some ob) nx) (nx + 1) w := by
  have hn := H.new nx (Nat.le_refl _)
  have sub : ∀ x o p, (h.set (some ob) nx).get x = some o → ρ x = some p → h.get x = some o := by
    intro x o p hx hp
    rw [Tr.get_set] at hx
    split at hx
    · rename_i e; subst e; rw [hn] at hp; cases hp
    · exact hx
  exact ⟨fun a o b N hg hp => H.obj a o b N (sub a o _ hg hp) hp, fun a a' o o' b N N' hg hg' hp hp' => H.inj a a' o o' b N N' (sub a o _ hg hp) (sub a' o' _ hg' hp') hp hp', fun a ha => H.new a (by omega), H.glob,
    fun a o b N hg hr hp => H.own a o b N (sub a o _ hg hp) hr hp, H.keep, H.size, H.tape, H.os, H.out, Nat.le_succ_of_le H.low⟩

section draw
variable {C : Cx} {ρ : Rho} {lo : Nat} {fn m : Nat} {tm : Tr AV} {loc : Loc} {defers : List AD} {dfr : Bool} {round : Option Nat} {cs : List TF} {h : Tr AObj} {nx : Nat} {w : World} {tmps : Array Value} {ds : List Deferred} {rd : Option Nat} {fs : List Frame}
variable {all : Array Oper} {k : List It} {k' : List Item} {done rest : List Nat} {V K S : Nat} {l : List PS} {i : Nat}

/-- what a frame has that is in a region that draws -/
structure DRun (C : Cx) (ρ : Rho) (lo fn : Nat) (defers : List AD) (dfr : Bool) (round : Option Nat) (cs : List TF) (h : Tr AObj) (nx : Nat) (w : World) (ds : List Deferred) (rd : Option Nat) (fs : List Frame) (k : List It) (k' : List Item) : Prop where
  H : HRel C.E ρ h nx w
  hlo : lo ≤ nx
  hds : DsRel C.E.σ ρ defers ds
  hrd : RdRel ρ round rd
  hst : StackOk C ρ lo dfr fn cs fs
  hk : ItsRel ρ k k'
theorem DRun.ext (Dn : DRun C ρ lo fn defers dfr round cs h nx w ds rd fs k k') {ρ' : Rho} {h' : Tr AObj} {nx' : Nat} {w' : World} (H : HRel C.E ρ' h' nx' w') (hle : ρ.le ρ') (hg : ∀ a, a < lo → ρ a = none → ρ' a = none) (hn : nx ≤ nx') :
    DRun C ρ' lo fn defers dfr round cs h' nx' w' ds rd fs k k' :=
  ⟨H, Nat.le_trans Dn.hlo hn, Dn.hds.mono hle, Dn.hrd.mono hle, Dn.hst.mono hle hg (Nat.le_refl _), Dn.hk.mono hle⟩
theorem DRun.go (Dn : DRun C ρ lo fn defers dfr round cs h nx w ds rd fs k k') (D : DrawI C.E C.P ρ lo all l done rest V K S m tm loc nx tmps) (hc : CkAll C.P C.X all rest K m tm loc h nx) :
    ROk C (.go (.draw l all :: k) fn m tm loc defers dfr round cs h nx) (lone (FR fn tmps (.inRegion all rest :: k') ds dfr rd) fs w) :=
  ⟨ρ, w, tmps, _, ds, rd, fs, lo, rfl, Dn.H, Dn.hlo, .inl ⟨l, all, k, done, rest, V, K, S, k', rfl, rfl, Dn.hk, D, hc⟩, Dn.hds, Dn.hrd, Dn.hst⟩

theorem drawEv_ok (Dn : DRun C ρ lo fn defers dfr round cs h nx w ds rd fs k k') (D : DrawI C.E C.P ρ lo all (.ev i :: l) done rest V K S m tm loc nx tmps) {o : Oper} (ho : all[i]? = some o) :
    Sim C (drawEv C.P C.X o l all k fn m tm loc defers dfr round cs h nx) (lone (FR fn tmps (.inRegion all rest :: k') ds dfr rd) fs w) := by
  have plain : ∀ v, (kindOf C.P o = .alloc → idOf v = none) → Sim C (setDst o.dst v m tm loc fun tm loc => .go (.draw l all :: k) fn m tm loc defers dfr round cs h nx) (lone (FR fn tmps (.inRegion all rest :: k') ds dfr rd) fs w) := by
    intro v hv
    rw [setDst_eq]
    exact .now (Dn.go (D.ev ho (Nat.le_refl _) fun a hk ha => by rw [hv hk] at ha; cases ha) ckAll_zero)
  unfold drawEv
  split
  · exact plain _ fun _ => rfl
  · exact .fail
  · exact .fail
  · split
    · rename_i v h' nx' hop
      split
      · rename_i hk
        split
        · rename_i a ob ha hob
          split
          · rename_i hab
            have hab : a = nx := Nat.eq_of_beq_eq_true hab
            subst hab
            simp only [setDst_eq, setK_eq', fN_eq']
            have hn := Dn.H.new a (Nat.le_refl _)
            refine .now ((Dn.ext (Dn.H.ghost ob) (Rho.le_refl _) (fun _ _ h => h) (Nat.le_succ _)).go (D.ev ho (Nat.le_succ _) fun b _ hb => ?_) ckAll_zero)
            rw [ha] at hb; cases hb
            exact ⟨hn, Dn.hlo, Nat.lt_succ_self _, Nat.le_refl _⟩
          · exact .fail
        · exact .fail
      · rename_i hk
        exact plain _ fun h => absurd h hk
    · exact .fail
    · exact .fail

theorem drawAn_ok (hX : XOk C.P C.X C.E.σ) (Dn : DRun C ρ lo fn defers dfr round cs h nx w ds rd fs k k') (D : DrawI C.E C.P ρ lo all (.an i :: l) done rest V K S m tm loc nx tmps) (hc : CkAll C.P C.X all rest K m tm loc h nx) {o : Oper} (ho : all[i]? = some o) :
    Sim C (drawAn C.P C.X C.M o (.an i :: l) l all k fn m tm loc defers dfr round cs h nx) (lone (FR fn tmps (.inRegion all rest :: k') ds dfr rd) fs w) := by
  obtain ⟨ρ1, w1, tmps1, done1, rest1, g1, H1, D1, hle1, hg1⟩ := D.toAnchor (X := C.X) Dn.H hc (fn := fn) (ds := ds) (dfr := dfr) (rd := rd) (k := k') (fs := fs)
  have Dn1 := Dn.ext H1 hle1 hg1 (Nat.le_refl _)
  refine .of_steps g1 ?_
  clear g1 Dn D hc
  have wnt := D1.want ho
  have hev := D1.evOk H1 ho ds
  have hop := doOp_ok H1 hX hev
  have hdf := doOp_defer (P := C.P) (X := C.X) (o := o) (m := m) (tm := tm) (loc := loc) (h := h) (nx := nx)
  unfold drawAn
  split
  · rename_i hw
    rw [setDst_eq]
    obtain ⟨V', S', D2⟩ := D1.anchor ho (undef_rel (σ := C.E.σ) (ρ := ρ1))
    exact .of_step (st_noval ho (wnt.2 hw)) (.now (Dn1.go D2 ckAll_zero))
  · exact .fail
  · exact .fail
  · rename_i hw
    have hwt := wnt.1 hw
    split
    · rename_i v h' nx' hres
      rw [hres] at hop
      obtain ⟨val, w', ρ', h1, h3, h4, h5⟩ := nval_steps (fn := fn) (dfr := dfr) (k := k') (cs := fs) (rest := rest1) ho hwt (rd := rd) (.inr fun c hc => by rcases hdf c hc with ⟨d, e⟩ | ⟨y, e⟩ <;> rw [hres] at e <;> cases e) hop
      rw [setDst_eq]
      obtain ⟨V', S', D2⟩ := (D1.mono h4.le h4.gap h4.up).anchor ho h5
      exact .of_steps h1
        (.now ((Dn1.ext h3 h4.le (fun a ha => h4.gap a (Nat.lt_of_lt_of_le ha Dn1.hlo)) h4.up).go D2 ckAll_zero))
    · rename_i f args hres
      rw [hres] at hop
      cases hc : enterM C.P C.M f with
      | none => simp only [enterF, hc, oRec_none]; exact .fail
      | some c =>
        obtain ⟨fn', _, _, _, hen⟩ := enterM_some hc
        obtain ⟨vs, h1, h2⟩ := hop c hen
        have hnd : rd = none ∨ ∀ c, o.op ≠ .defer c := .inr fun c hc => by rcases hdf c hc with ⟨d, e⟩ | ⟨y, e⟩ <;> rw [hres] at e <;> cases e
        refine .of_step (st_enter ho hwt hnd h1) (.now ?_)
        refine enterF_ok (dfr := false) H1 (Nat.le_refl _) h2 ?_
        exact ⟨_, fs, tmps1, _, ds, rd, lo, rfl, Dn1.hlo, Dn1.hds, Dn1.hrd, .inr ⟨rfl, rfl, .inl ⟨i, l, all, k, done1, rest1, V, K, S, k', rfl, rfl, Dn1.hk, D1⟩⟩, Dn1.hst⟩
    · exact .fail
    · exact .fail

end draw

-- two stores that are free of each other
theorem writeCell_det {β : Type} (o : AObj) (i : Nat) (v : AV) (d : β) (k : AObj → β) : writeCell o i v d k = oRec d k (writeCell o i v none some) := by
  cases o with
  | cells x n c =>
    simp only [writeCell, setK_eq']
    cases Nat.blt i n <;> cases AV.isOne v <;> rfl
  | bytes x n b =>
    simp only [writeCell, onInt]
    cases v <;> first | rfl | skip
    rename_i kd z
    cases kd <;> first | rfl | skip
    cases z <;> first | rfl | skip
    rename_i m
    simp only [fN_eq']
    cases Nat.blt i n <;> cases Nat.blt m 256 <;> rfl
  | ro n c => rfl
  | map es clock => rfl
  | strIter l n pos => rfl
  | mapIter m s se st => rfl
  | loop a b c d e f g h i j => rfl
  | defd c => rfl
theorem writeCells_det {β : Type} : ∀ (l : List AV) (o : AObj) (i : Nat) (d : β) (k : AObj → β), writeCells l o i d k = oRec d k (writeCells l o i none some)
  | [], o, i, d, k => rfl
  | v :: l, o, i, d, k => by
    show writeCell o i v d (fun o => writeCells l o (Nat.succ i) d k) = oRec d k (writeCell o i v none fun o => writeCells l o (Nat.succ i) none some)
    rw [writeCell_det, writeCell_det (k := fun o => writeCells l o (Nat.succ i) none some)]
    cases writeCell o i v none some with
    | none => rfl
    | some o => simp only [oRec_some]; exact writeCells_det l o _ d k
/-- what a store does to the heap -/
theorem opStore_at {P : Program} {t : TypeId} {p v : AV} {x : Nat} {h h1 : Tr AObj} {nx nx1 : Nat} {r : AV} (hs : opStore P t p v h nx = .val r h1 nx1) (hx : idOf p = some x) :
    ∃ o o1, h.get x = some o ∧ h1 = h.set (some o1) x ∧ nx1 = nx ∧ r = .tup [] ∧ ∀ h' nx', h'.get x = some o → opStore P t p v h' nx' = .val (.tup []) (h'.set (some o1) x) nx' := by
  unfold opStore at hs
  cases p <;> simp only [idOf, reduceCtorEq, Option.some.injEq] at hx <;> first | (simp only [onPtr] at hs; cases hs; done) | skip
  rename_i a off
  subst hx
  simp only [onPtr, onObj, getF_eq'] at hs
  cases hg : h.get a with
  | none => rw [hg] at hs; cases hs
  | some o =>
    rw [hg] at hs
    simp only [oRec_some] at hs
    cases hz : szO P t with
    | none => rw [hz] at hs; cases hs
    | some n =>
      rw [hz] at hs
      simp only [] at hs
      cases hl : v.cells with
      | none => rw [hl] at hs; cases hs
      | some l =>
        rw [hl] at hs
        simp only [] at hs
        cases hn : Nat.beq n l.length with
        | false => rw [hn] at hs; cases hs
        | true =>
          rw [hn] at hs
          simp only [] at hs
          rw [writeCells_det] at hs
          cases hw : writeCells l o off none some with
          | none => rw [hw] at hs; cases hs
          | some o1 =>
            rw [hw] at hs
            simp only [oRec_some, setK_eq', OR.val.injEq] at hs
            obtain ⟨rfl, rfl, rfl⟩ := hs
            refine ⟨o, o1, rfl, rfl, rfl, rfl, fun h' nx' hg' => ?_⟩
            unfold opStore
            simp only [onPtr, onObj, getF_eq', hg', oRec_some, hz, hl, hn]
            rw [writeCells_det, hw]
            simp only [oRec_some, setK_eq']

theorem DrawI.anchor2 {C : Cx} {ρ : Rho} {lo m : Nat} {tm : Tr AV} {loc : Loc} {nx : Nat} {tmps : Array Value} {all : Array Oper} {done r : List Nat} {V K S : Nat} {l : List PS} {i i2 j j2 : Nat} {o q : Oper}
    (D : DrawI C.E C.P ρ lo all (.an2 i i2 :: l) done (j :: j2 :: r) V K S m tm loc nx tmps) (hij : (j = i ∧ j2 = i2) ∨ (j = i2 ∧ j2 = i)) (ho : all[i]? = some o) (hq : all[i2]? = some q) (hod : o.dst = none) (hqd : q.dst = none) :
    ∃ V' S', DrawI C.E C.P ρ lo all l (done ++ [j, j2]) r V' 0 S' m tm loc nx tmps := by
  have hok := D.okp
  simp only [okP, Bool.and_eq_true, Bool.not_eq_true', Nat.blt_eq, fN_eq'] at hok
  obtain ⟨⟨⟨⟨⟨⟨⟨⟨h1, h2⟩, h3⟩, h4⟩, h5⟩, h6⟩, h7⟩, h8⟩, h9⟩ := hok
  have hnd := D.ord.nodup
  have hjr : j ∉ r ∧ j2 ∉ r := by
    rw [List.nodup_append] at hnd
    have := hnd.2.1
    simp only [List.nodup_cons, List.mem_cons, not_or] at this
    exact ⟨this.1.2, this.2.1⟩
  have hbit : ∀ x, tst (Nat.lor (Nat.lor V (Nat.shiftLeft 1 i)) (Nat.shiftLeft 1 i2)) x = true ↔ tst V x = true ∨ i = x ∨ i2 = x := by
    intro x; rw [tst_lor, tst_lor, tst_bit, tst_bit]; simp [or_assoc]
  have hij2 : ∀ x, (x = i ∨ x = i2) ↔ (x = j ∨ x = j2) := by
    intro x; rcases hij with ⟨rfl, rfl⟩ | ⟨rfl, rfl⟩
    · exact Iff.rfl
    · exact Or.comm
  have old : ∀ x, x ∈ r → tst (Nat.lor (Nat.lor V (Nat.shiftLeft 1 i)) (Nat.shiftLeft 1 i2)) x = true → tst V x = true := by
    intro x hx hv
    rcases (hbit x).1 hv with h | h | h
    · exact h
    · rcases (hij2 x).1 (.inl h.symm) with rfl | rfl
      · exact absurd hx hjr.1
      · exact absurd hx hjr.2
    · rcases (hij2 x).1 (.inr h.symm) with rfl | rfl
      · exact absurd hx hjr.1
      · exact absurd hx hjr.2
  have dn : ∀ x, (x = i ∨ x = i2) → dstL all.toList x = none := by
    intro x hx
    rcases hx with rfl | rfl
    · rw [dstL_eq ho, hod]
    · rw [dstL_eq hq, hqd]
  have D2 : ∀ {x y : Nat} {r' : List Nat} {done' : List Nat}, DrawI C.E C.P ρ lo all (.an2 i i2 :: l) done' (x :: y :: r') V K S m tm loc nx tmps → ∀ z, tst (nthN (befs all.toList []) y) z = true → z ∈ done' ++ [x] := by
    intro x y r' done' D z hz
    exact befs_ord D.ord D.acyc y z ((D.ord.mem y).1 (by simp)) hz (done' ++ [x]) r' (by simp)
  refine ⟨Nat.lor (Nat.lor V (Nat.shiftLeft 1 i)) (Nat.shiftLeft 1 i2), Nat.lor (Nat.lor (Nat.lor (Nat.lor S (Nat.shiftLeft 1 i)) (Nat.shiftLeft 1 i2)) (nthN (befs all.toList []) i)) (nthN (befs all.toList []) i2), ?_⟩
  refine ⟨by simpa using D.ord, D.snd, h9, fun x hx => ?_, fun x hx hv => D.an x (by simp [hx]) (old x hx hv), fun x hx hs => ?_, ?_, fun x o' d a g1 g2 => D.pend x o' d a (by simp [g1]) (old x g1 g2), fun x y o' q' d e a g1 g2 g3 g4 => D.dist x y o' q' d e a (by simp [g1]) (by simp [g2]) (old x g1 g3) (old y g2 g4)⟩
  · rcases List.mem_append.1 hx with hx | hx
    · exact (hbit x).2 (.inl (D.dv x hx))
    · simp only [List.mem_cons, List.not_mem_nil, or_false] at hx
      rcases (hij2 x).2 hx with h | h
      · exact (hbit x).2 (.inr (.inl h.symm))
      · exact (hbit x).2 (.inr (.inr h.symm))
  · rw [tst_lor, tst_lor, tst_lor, tst_lor, tst_bit, tst_bit] at hs
    simp only [Bool.or_eq_true, decide_eq_true_eq] at hs
    have bj : ∀ z, tst (nthN (befs all.toList []) j) z = true → z ∈ done ++ [j, j2] := fun z hz => by simp [D.bef hz]
    have bj2 : ∀ z, tst (nthN (befs all.toList []) j2) z = true → z ∈ done ++ [j, j2] := fun z hz => by
      have := D2 D z hz
      simp only [List.mem_append, List.mem_cons, List.not_mem_nil, or_false] at this ⊢
      rcases this with h | h
      · exact .inl h
      · exact .inr (.inl h)
    rcases hs with (((hs | hs) | hs) | hs) | hs
    · simp [D.sd x hx hs]
    · have := (hij2 x).1 (.inl hs.symm); simp [this]
    · have := (hij2 x).1 (.inr hs.symm); simp [this]
    · rcases hij with ⟨rfl, rfl⟩ | ⟨rfl, rfl⟩
      · exact bj x hs
      · exact bj2 x hs
    · rcases hij with ⟨rfl, rfl⟩ | ⟨rfl, rfl⟩
      · exact bj2 x hs
      · exact bj x hs
  · refine D.tms.weaken fun t hx => ?_
    rintro ⟨x, hxr, g1, g2⟩
    simp only [List.mem_cons] at hxr
    rcases hxr with rfl | rfl | hxr
    · rw [dn x ((hij2 x).2 (.inl rfl))] at g2; cases g2
    · rw [dn x ((hij2 x).2 (.inr rfl))] at g2; cases g2
    · exact hx ⟨x, hxr, (hbit x).2 (.inl g1), g2⟩
theorem drawAn2_ok {C : Cx} {ρ : Rho} {lo : Nat} {fn m : Nat} {tm : Tr AV} {loc : Loc} {defers : List AD} {dfr : Bool} {round : Option Nat} {cs : List TF} {h : Tr AObj} {nx : Nat} {w : World} {tmps : Array Value} {ds : List Deferred} {rd : Option Nat} {fs : List Frame}
    {all : Array Oper} {k : List It} {k' : List Item} {done rest : List Nat} {V K S : Nat} {l : List PS} {i i2 : Nat} (hX : XOk C.P C.X C.E.σ)
    (Dn : DRun C ρ lo fn defers dfr round cs h nx w ds rd fs k k') (D : DrawI C.E C.P ρ lo all (.an2 i i2 :: l) done rest V K S m tm loc nx tmps) (hc : CkAll C.P C.X all rest K m tm loc h nx)
    {o q : Oper} (ho : all[i]? = some o) (hq : all[i2]? = some q) : Sim C (drawAn2 C.P o q l all k fn m tm loc defers dfr round cs h nx) (lone (FR fn tmps (.inRegion all rest :: k') ds dfr rd) fs w) := by
  unfold drawAn2
  split
  · rename_i t a v t' a' v' hop1 hop2 hg1 hg2 hd1 hd2
    split
    · rename_i x y hx hy
      split
      · exact .fail
      · rename_i hxy
        have hxy : x ≠ y := Nat.ne_of_beq_eq_false hxy
        split
        · rename_i r1 h1 nx1 hs1
          split
          · rename_i r2 h2 nx2 hs2
            simp only [oStore, evK_eq] at hs1 hs2
            obtain ⟨o1, n1, ga, rfl, rfl, rfl, fa⟩ := opStore_at hs1 hx
            obtain ⟨o2, n2, gb, rfl, rfl, rfl, fb⟩ := opStore_at hs2 hy
            have gb' : h.get y = some o2 := by rw [Tr.get_set, if_neg (Ne.symm hxy)] at gb; exact gb
            have hok := D.okp
            simp only [okP, Bool.and_eq_true, Bool.not_eq_true', Nat.blt_eq, fN_eq'] at hok
            obtain ⟨⟨⟨⟨⟨⟨⟨⟨k1, k2⟩, k3⟩, k4⟩, k5⟩, k6⟩, k7⟩, k8⟩, k9⟩ := hok
            have k1 : i < all.size := by simpa using k1
            have k2 : i2 < all.size := by simpa using k2
            have k3 : i ≠ i2 := Nat.ne_of_beq_eq_false k3
            -- what stands at a place that is left
            have cases3 : ∀ {ρ : Rho} {done rest : List Nat} {tmps : Array Value} {j : Nat}, DrawI C.E C.P ρ lo all (.an2 i i2 :: l) done rest V K S m tm loc nx2 tmps → j ∈ rest → ¬ (j = i ∨ j = i2) →
                (tst V j = true ∧ tst K j = true ∧ tst (nthN (befs all.toList []) i) j = true ∧ tst (nthN (befs all.toList []) i2) j = true) ∨ (tst V j = false ∧ tst (nthN (befs all.toList []) j) i = true ∧ tst (nthN (befs all.toList []) j) i2 = true) := by
              intro ρ done rest tmps j D hj hne
              rcases okAn2_spec _ k8 j (by simpa using D.lt hj) with e | e | ⟨e, hs | hs⟩ | e
              · exact absurd (.inl e) hne
              · exact absurd (.inr e) hne
              · exact absurd (D.sd j (D.lt hj) hs) (D.notDone hj)
              · exact .inl ⟨e, hs⟩
              · exact .inr e
            have hh : ∀ (ρ : Rho) (done : List Nat) (j : Nat) (rest : List Nat) (tmps : Array Value), DrawI C.E C.P ρ lo all (.an2 i i2 :: l) done (j :: rest) V K S m tm loc nx2 tmps → ¬ (j = i ∨ j = i2) → tst V j = true ∧ tst K j = true := by
              intro ρ done j rest tmps D hne
              rcases cases3 D (by simp) hne with e | ⟨_, e, _⟩
              · exact ⟨e.1, e.2.1⟩
              · have := D.dv i (D.bef e)
                rw [k6] at this; cases this
            obtain ⟨ρ1, w1, tmps1, done1, rest1, g1, H1, D1, c1, hle1, hg1', g7⟩ := draw_run (X := C.X) (fun j => j = i ∨ j = i2) (fn := fn) (ds := ds) (dfr := dfr) (rd := rd) (k := k') (fs := fs) hh rest done ρ tmps w D Dn.H hc
            have Dn1 := Dn.ext H1 hle1 hg1' (Nat.le_refl _)
            refine .of_steps g1 ?_
            clear g1 Dn D hc c1
            -- the two, one behind the other
            have two : ∃ j j2 r, rest1 = j :: j2 :: r ∧ ((j = i ∧ j2 = i2) ∨ (j = i2 ∧ j2 = i)) := by
              rcases g7 with rfl | ⟨j, r, rfl, hj⟩
              · cases D1.inRest k1 k6
              · have hi := D1.inRest k1 k6
                have hi2 := D1.inRest k2 k7
                have hjr := D1.head
                obtain ⟨j2, hj2, hj2r⟩ : ∃ j2, ((j = i ∧ j2 = i2) ∨ (j = i2 ∧ j2 = i)) ∧ j2 ∈ r := by
                  rcases hj with rfl | rfl
                  · refine ⟨i2, .inl ⟨rfl, rfl⟩, ?_⟩
                    rcases List.mem_cons.1 hi2 with e | e
                    · exact absurd e.symm k3
                    · exact e
                  · refine ⟨i, .inr ⟨rfl, rfl⟩, ?_⟩
                    rcases List.mem_cons.1 hi with e | e
                    · exact absurd e k3
                    · exact e
                cases r with
                | nil => cases hj2r
                | cons z r' =>
                  refine ⟨j, z, r', rfl, ?_⟩
                  by_cases hz : z = i ∨ z = i2
                  · have hzj : z ≠ j := fun e => hjr (by simp [e])
                    rcases hj2 with ⟨rfl, rfl⟩ | ⟨rfl, rfl⟩
                    · exact .inl ⟨rfl, hz.resolve_left hzj⟩
                    · exact .inr ⟨rfl, hz.resolve_right hzj⟩
                  · exfalso
                    rcases cases3 D1 (j := z) (by simp) hz with e | ⟨_, e1, e2⟩
                    · have hb : tst (nthN (befs all.toList []) j) z = true := by
                        rcases hj with rfl | rfl
                        · exact e.2.2.1
                        · exact e.2.2.2
                      exact D1.notDone (i := z) (by simp) (D1.bef hb)
                    · have hzl := D1.lt (i := z) (by simp)
                      have key : ∀ u, tst (nthN (befs all.toList []) z) u = true → u ∈ done1 ++ [j] := fun u hu => befs_ord D1.ord D1.acyc z u hzl hu (done1 ++ [j]) r' (by simp)
                      have hu : j2 ∈ done1 ++ [j] := by
                        rcases hj2 with ⟨rfl, rfl⟩ | ⟨rfl, rfl⟩
                        · exact key _ e2
                        · exact key _ e1
                      simp only [List.mem_append, List.mem_cons, List.not_mem_nil, or_false] at hu
                      rcases hu with hu | hu
                      · exact D1.notDone (i := j2) (by simp [List.mem_cons] at hj2r ⊢; exact .inr hj2r) hu
                      · subst hu; exact hjr hj2r
            obtain ⟨j, j2, r, rfl, hj⟩ := two
            obtain ⟨V', S', D2⟩ := D1.anchor2 hj ho hq hd1 hd2
            -- the second's operands
            have ev2 : ∀ {o2 : Oper}, all[j2]? = some o2 → ∀ (ρ' : Rho), ρ1.le ρ' → (∀ g, g < 64 → ∃ N, ρ' g = some (g, N)) → EvOk C.E ρ' m tm loc (Act.eval { tmps := tmps1, defers := ds }) o2.op.operands.toList := by
              intro o2' ho2 ρ' hle hgl
              intro z hz
              refine ev_ok (a := { tmps := tmps1, defers := ds }) hgl (D1.tms.mono hle) z fun t ht => ?_
              rintro ⟨u, hu, hv, hd⟩
              have hul := D1.lt hu
              have huo : all[u]? = some all[u] := by simp [hul]
              rw [dstL_eq huo] at hd
              have ha := D1.an u hu hv
              have hVj : tst V j = false ∧ tst V j2 = false := by
                rcases hj with ⟨rfl, rfl⟩ | ⟨rfl, rfl⟩
                · exact ⟨k6, k7⟩
                · exact ⟨k7, k6⟩
              rcases D1.snd.read u j2 all[u] o2' t (by simp [hul]) (by rw [Array.getElem?_toList]; exact ho2) hd (reads_op hz ht) with ⟨_, e⟩ | ⟨hne, e | ⟨e, _⟩⟩
              · rw [ha] at e; cases e
              · have := befs_ord D1.ord D1.acyc j2 u (D1.lt (by simp)) e (done1 ++ [j]) r (by simp)
                simp only [List.mem_append, List.mem_cons, List.not_mem_nil, or_false] at this
                rcases this with e | e
                · exact D1.notDone hu e
                · rw [e, hVj.1] at hv; cases hv
              · rw [ha] at e; cases e
            have run2 : ∀ (oa ob : Oper) (h1 h2 : Tr AObj), all[j]? = some oa → all[j2]? = some ob → oa.guard = none → ob.guard = none → oa.dst = none → ob.dst = none → (∀ c, oa.op ≠ .defer c) → (∀ c, ob.op ≠ .defer c) →
                doOp C.P C.X oa.op m tm loc h nx2 = .val (.tup []) h1 nx2 → doOp C.P C.X ob.op m tm loc h1 nx2 = .val (.tup []) h2 nx2 → (∀ z, h2.get z = ((h.set (some n1) x).set (some n2) y).get z) →
                Sim C (.go (.draw l all :: k) fn m tm loc defers dfr round cs ((h.set (some n1) x).set (some n2) y) nx2) (lone (FR fn tmps1 (.inRegion all (j :: j2 :: r) :: k') ds dfr rd) fs w1) := by
              intro oa ob h1 h2 hoa hob hga hgb hda hdb hna hnb hA hB hext
              have hopA := doOp_ok (o := oa) H1 hX (D1.evOk H1 hoa ds)
              rw [hA] at hopA
              have wa : Region.wanted oa (yielded all tmps1) = true := by simp [Region.wanted, hga]
              have wb : Region.wanted ob (yielded all tmps1) = true := by simp [Region.wanted, hgb]
              obtain ⟨vA, wA, ρA, sA, p3, p4, p5⟩ := nval_steps (fn := fn) (dfr := dfr) (rd := rd) (k := k') (cs := fs) (rest := j2 :: r) hoa wa (.inr hna) hopA
              have hopB := doOp_ok (o := ob) p3 hX (ev2 hob ρA p4.le p3.glob)
              rw [hB] at hopB
              obtain ⟨vB, wB, ρB, sB, q3, q4, q5⟩ := nval_steps (fn := fn) (dfr := dfr) (rd := rd) (k := k') (cs := fs) (rest := r) hob wb (.inr hnb) hopB
              have X := p4.trans q4
              rw [hda] at sA
              rw [hdb] at sB
              refine .of_steps sA (.of_steps sB (.now ?_))
              exact (Dn1.ext (q3.congr fun z => (hext z).symm) X.le (fun a ha => X.gap a (Nat.lt_of_lt_of_le ha Dn1.hlo)) (Nat.le_refl _)).go (D2.mono X.le X.gap X.up) ckAll_zero
            have hA1 : ∀ h', h'.get x = some o1 → doOp C.P C.X o.op m tm loc h' nx2 = .val (.tup []) (h'.set (some n1) x) nx2 := by
              intro h' hg'; rw [hop1]; simp only [doOp, oStore, evK_eq]; exact fa h' nx2 hg'
            have hA2 : ∀ h', h'.get y = some o2 → doOp C.P C.X q.op m tm loc h' nx2 = .val (.tup []) (h'.set (some n2) y) nx2 := by
              intro h' hg'; rw [hop2]; simp only [doOp, oStore, evK_eq]; exact fb h' nx2 hg'
            have n1d : ∀ c, o.op ≠ .defer c := fun c e => by rw [hop1] at e; cases e
            have n2d : ∀ c, q.op ≠ .defer c := fun c e => by rw [hop2] at e; cases e
            rcases hj with ⟨rfl, rfl⟩ | ⟨rfl, rfl⟩
            · exact run2 o q _ _ ho hq hg1 hg2 hd1 hd2 n1d n2d (hA1 h ga) (hA2 _ gb) fun z => rfl
            · refine run2 q o _ _ hq ho hg2 hg1 hd2 hd1 n2d n1d (hA2 h gb') (hA1 _ (by rw [Tr.get_set, if_neg hxy]; exact ga)) fun z => ?_
              rw [Tr.get_set, Tr.get_set, Tr.get_set, Tr.get_set]
              by_cases e1 : z = x
              · have e2 : z ≠ y := fun e => hxy (e1.symm.trans e)
                simp only [if_pos e1, if_neg e2]
              · simp only [if_neg e1]
          · exact .fail
        · exact .fail
    · exact .fail
  · exact .fail

section draw
variable {C : Cx} {ρ : Rho} {lo : Nat} {fn m : Nat} {tm : Tr AV} {loc : Loc} {defers : List AD} {dfr : Bool} {round : Option Nat} {cs : List TF} {h : Tr AObj} {nx : Nat} {w : World} {tmps : Array Value} {ds : List Deferred} {rd : Option Nat} {fs : List Frame}
variable {all : Array Oper} {k : List It} {k' : List Item} {done rest : List Nat} {V K S : Nat} {l : List PS} {i : Nat}
theorem drawStep_ok (hX : XOk C.P C.X C.E.σ) {p : PS} (Dn : DRun C ρ lo fn defers dfr round cs h nx w ds rd fs k k') (D : DrawI C.E C.P ρ lo all (p :: l) done rest V K S m tm loc nx tmps) (hc : CkAll C.P C.X all rest K m tm loc h nx) :
    Sim C (drawStep C.P C.X C.M p l all k fn m tm loc defers dfr round cs h nx) (lone (FR fn tmps (.inRegion all rest :: k') ds dfr rd) fs w) := by
  have on : ∀ (i : Nat) (why : String) (g : Oper → R), (∀ o, all[i]? = some o → Sim C (g o) (lone (FR fn tmps (.inRegion all rest :: k') ds dfr rd) fs w)) → Sim C (onOper all i (.fail why) g) (lone (FR fn tmps (.inRegion all rest :: k') ds dfr rd) fs w) := by
    intro i why g hg
    unfold onOper
    split
    · rename_i o ho; exact hg o (by rw [← Array.getElem?_toList]; exact ho)
    · exact .fail
  unfold drawStep
  cases p with
  | ev i => exact on _ _ _ fun o ho => drawEv_ok Dn D ho
  | ck i =>
    refine on _ _ _ fun o ho => ?_
    refine bRec_elim (Q := fun r => Sim C r _) (fun _ => .fail) fun hb => ?_
    obtain ⟨D', hc'⟩ := D.ck ho hc hb
    exact .now (Dn.go D' hc')
  | an i => exact on _ _ _ fun o ho => drawAn_ok hX Dn D hc ho
  | an2 i j => exact on _ _ _ fun o ho => on _ _ _ fun q hq => drawAn2_ok hX Dn D hc ho hq
end draw

section steps
variable {C : Cx} {fn m : Nat} {tm : Tr AV} {loc : Loc} {defers : List AD} {dfr : Bool} {round : Option Nat} {cs : List TF} {h : Tr AObj} {nx : Nat} {Mc : Machine}

theorem stepGo_ok (hX : XOk C.P C.X C.E.σ) {todo : List It} (hr : ROk C (.go todo fn m tm loc defers dfr round cs h nx) Mc) : Sim C (stepGo C.P C.X C.M todo fn m tm loc defers dfr round cs h nx) Mc := by
  obtain ⟨ρ, w, tmps, T, ds, rd, fs, lo, rfl, H, hlo, htodo, hds, hrd, hst⟩ := hr
  rcases htodo with ⟨pl, all, k, done, rest, V, K, S, k', rfl, rfl, hk, D, hc⟩ | ⟨hits, htm⟩
  · cases pl with
    | nil =>
      show Sim C (.go k fn m tm loc defers dfr round cs h nx) _
      obtain ⟨ρ', w', tmps', g1, H1, htm, hle, hg⟩ := D.toEnd (X := C.X) H hc (fn := fn) (ds := ds) (dfr := dfr) (rd := rd) (k := k') (fs := fs)
      exact .of_steps g1 (.now ⟨ρ', w', tmps', k', ds, rd, fs, lo, rfl, H1, hlo, .inr ⟨hk.mono hle, htm⟩, hds.mono hle, hrd.mono hle, hst.mono hle hg (Nat.le_refl _)⟩)
    | cons p l => exact drawStep_ok hX ⟨H, hlo, hds, hrd, hst, hk⟩ D hc
  · have Rn : Run C ρ lo fn m tm loc defers dfr round cs h nx w tmps ds rd fs := ⟨H, hlo, htm, hds, hrd, hst⟩
    cases hits with
    | nil => exact leave_ok H hlo htm hds hrd hst (.inl ⟨rfl, rfl⟩)
    | @cons i j k k' hi hk =>
      cases hi with
      | code => exact runCode_ok hX _ hk Rn
      | inBlock => exact .of_step st_inBlock (.now (Rn.go hk))
      | inLoop =>
        refine .of_step st_inLoop ?_
        exact runCode_ok hX _ (.cons .inLoop hk) Rn
      | inScope => exact .of_step st_inScope (.now (Rn.go hk))
      | ops hix => exact runOps_ok hX _ _ _ hix hk Rn
      | inRange hp => exact .fail
      | @endRange l b N hp =>
        show Sim C (match h.getF l with
          | some (.loop .busy ..) => .fail "endRange"
          | some (.loop _ p f2 m2 tm2 loc2 ps asg body d) => h.setK (some (.loop .exhausted p f2 m2 tm2 loc2 ps asg body d)) l fun h =>
              .go (match p with | none => k | some c => .code c :: k) fn m tm loc defers dfr round cs h nx
          | _ => .fail "endRange") _
        split
        · exact .fail
        · rename_i st p f2 m2 tm2 loc2 ps asg body d hnb hg
          rw [getF_eq'] at hg
          obtain ⟨tm3, d', Nd, hO, _, _⟩ := loop_obj H hg hp
          obtain ⟨w', h1, H1⟩ := loop_set H hg hp hO (st' := .exhausted) (pend' := p)
          simp only [setK_eq']
          have hrun : (Instr.endLoop b).run C.P w = .ok p w' := by
            have hb : (st == LoopState.busy) = false := by
              cases st <;> first | rfl | exact (hnb _ _ _ _ _ _ _ _ _ rfl).elim | exact (hnb rfl).elim
            simp only [Instr.endLoop, Sem.run_bind, run_getLoop hO, Result.andThen_ok, hb]
            simp [h1]
          refine .of_step (st_endRange hrun) (.now ?_)
          have Rn' : Run C ρ lo fn m tm loc defers dfr round cs (h.set (some (.loop .exhausted p f2 m2 tm2 loc2 ps asg body d)) l) nx w' tmps ds rd fs := ⟨H1, hlo, htm, hds, hrd, hst⟩
          refine Rn'.go ?_
          cases p with
          | none => exact hk
          | some c => exact .cons .code hk
        · exact .fail
      | beginRound =>
        cases round with
        | none => exact .fail
        | some l =>
          obtain ⟨b, N, hp, rfl⟩ := hrd
          show Sim C (match h.getF l with
            | some (.loop .ready p f2 m2 tm2 loc2 ps asg body d) => h.setK (some (.loop .busy p f2 m2 tm2 loc2 ps asg body d)) l fun h => .go k fn m tm loc defers dfr (some l) cs h nx
            | _ => .fail "beginRound") _
          split
          · rename_i p f2 m2 tm2 loc2 ps asg body d hg
            rw [getF_eq'] at hg
            obtain ⟨tm3, d', Nd, hO, _, _⟩ := loop_obj H hg hp
            obtain ⟨w', h1, H1⟩ := loop_set H hg hp hO (st' := .busy) (pend' := p)
            simp only [setK_eq']
            have hrun : (Instr.beginRound b).run C.P w = .ok () w' := by
              simp only [Instr.beginRound, Sem.run_bind, run_getLoop hO, Result.andThen_ok, h1]; rfl
            refine .of_step (st_beginRound hrun) (.now ?_)
            have Rn' : Run C ρ lo fn m tm loc defers dfr (some l) cs (h.set (some (.loop .busy p f2 m2 tm2 loc2 ps asg body d)) l) nx w' tmps ds (some b) fs := ⟨H1, hlo, htm, hds, ⟨b, N, hp, rfl⟩, hst⟩
            exact Rn'.go hk
          · exact .fail

-- results
theorem resOne_ok {E : Env} {P : Program} {ρ : Rho} {w : World} {tmps : Array Value} (H : HRel E ρ h nx w) (ht : TmOk E.σ ρ noEx m tm loc tmps) {r : ResultVar} {v : AV} (hr : resOne P m tm loc h nx r = some v) :
    ∃ val, (match r with
      | .tmp t => pure (tmps.getD t undef)
      | .cell a t => (do loadVar t (← asAddr (tmps.getD a undef)))  : Sem Value).run P w = .ok val w ∧ VRel E.σ ρ v val := by
  cases r with
  | tmp t =>
    simp only [resOne, Option.some.injEq] at hr
    subst hr
    exact ⟨_, rfl, ht.2 t id⟩
  | cell a t =>
    simp only [resOne] at hr
    have hv := ht.2 a id
    have hg := opLoad_ok (P := P) (t := t) H hv
    split at hr
    · rename_i x h' nx' hl
      cases hr
      rw [hl] at hg
      obtain ⟨_, _, val, h1, h2⟩ := hg
      refine ⟨val, ?_, h2⟩
      show (do loadVar t (← asAddr (tmps.getD a undef)) : Sem Value).run P w = .ok val w
      cases hd : tmps.getD a undef <;> rw [hd] at h1 <;> try (simp [Instr.loadAt, Instr.sureAddr] at h1; done)
      rename_i p
      cases p with
      | none => simp [Instr.loadAt, Instr.sureAddr] at h1
      | some p => simpa [Instr.loadAt, Instr.sureAddr, asAddr] using h1
    · cases hr
theorem resAll_ok {E : Env} {P : Program} {ρ : Rho} {w : World} {tmps : Array Value} (H : HRel E ρ h nx w) (ht : TmOk E.σ ρ noEx m tm loc tmps) {Q : R → Prop} {d : R} (hd : Q d) : ∀ (rs : List ResultVar) (k : List AV → R),
    (∀ l vals, (rs.mapM fun (r : ResultVar) => (match r with
      | .tmp t => pure (tmps.getD t undef)
      | .cell a t => (do loadVar t (← asAddr (tmps.getD a undef)) : Sem Value))).run P w = .ok vals w → LRel E.σ ρ l vals → Q (k l)) → Q (resAll P m tm loc h nx d rs k)
  | [], k, hk => hk [] [] rfl rfl
  | r :: rs, k, hk => by
    simp only [resAll]
    cases hr : resOne P m tm loc h nx r with
    | none => exact hd
    | some v =>
      obtain ⟨val, h1, h2⟩ := resOne_ok H ht hr
      simp only [fV_eq']
      refine resAll_ok H ht hd rs _ fun l vals h3 h4 => hk _ (val :: vals) ?_ ?_
      · rw [List.mapM_cons]
        simp only [Sem.run_bind, h1, Result.andThen_ok, h3, Sem.run_pure]
      · simp only [LRel]; exact ⟨val, vals, rfl, h2, h4⟩
end steps
end Go.Sx

/- The control, part 10: returns; runs. -/
namespace Go.Sx

section
variable {C : Cx} {fn m : Nat} {tm : Tr AV} {loc : Loc} {defers : List AD} {dfr : Bool} {round : Option Nat} {cs : List TF} {h : Tr AObj} {nx : Nat} {Mc : Machine}

theorem run_results {P : Program} {f : Func} {tmps : Array Value} {w : World} {vals : List Value} (hr : (f.results.toList.mapM fun (r : ResultVar) => (match r with
      | .tmp t => pure (tmps.getD t undef)
      | .cell a t => (do loadVar t (← asAddr (tmps.getD a undef))) : Sem Value)).run P w = .ok vals w) :
    (results f tmps).run P w = .ok (if h : vals.toArray.size = 1 then vals.toArray[0] else .tuple vals.toArray) w := by
  unfold results
  rw [Array.mapM_eq_mapM_toList]
  simp only [Sem.run_bind]
  have : (List.toArray <$> (f.results.toList.mapM fun (r : ResultVar) => (match r with
      | .tmp t => pure (tmps.getD t undef)
      | .cell a t => (do loadVar t (← asAddr (tmps.getD a undef))) : Sem Value))).run P w = .ok vals.toArray w := by
    simp only [Sem.run_map, hr, Result.andThen_ok]
  exact (congrArg (fun r : Result (Array Value) => r.andThen fun a w' => Sem.run P (pure (if h : a.size = 1 then a[0] else .tuple a)) w') this).trans rfl
theorem resTup_rel {E : Env} {ρ : Rho} {l : List AV} {vals : List Value} (hl : LRel E.σ ρ l vals) : VRel E.σ ρ (resTup l) (if h : vals.toArray.size = 1 then vals.toArray[0] else .tuple vals.toArray) := by
  have hlen := hl.length
  match l, vals, hl with
  | [], vals, hl =>
    simp only [LRel] at hl; subst hl
    simp only [resTup, VRel]; exact ⟨#[], rfl, by simp [LRel]⟩
  | [a], vals, hl =>
    simp only [LRel] at hl
    obtain ⟨v, vs, rfl, hv, rfl⟩ := hl
    simpa [resTup] using hv
  | a :: b :: l, vals, hl =>
    have hl0 := hl
    simp only [List.length_cons] at hlen
    have hne : ¬ vals.toArray.size = 1 := by simp; omega
    rw [dif_neg hne]
    simp only [resTup, VRel]
    exact ⟨vals.toArray, rfl, by simpa using hl0⟩
theorem DsRel.append {σ : Nat → Value} {ρ : Rho} {l m : List AD} {ds es : List Deferred} (h : DsRel σ ρ l ds) (g : DsRel σ ρ m es) : DsRel σ ρ (l ++ m) (ds ++ es) := by
  induction h with
  | nil => exact g
  | cons a _ ih => exact .cons a ih

theorem stepRet_ok (hX : XOk C.P C.X C.E.σ) (hr : ROk C (.ret fn m tm loc defers dfr round cs h nx) Mc) : Sim C (stepRet C.P C.X C.M fn m tm loc defers dfr round cs h nx) Mc := by
  obtain ⟨rfl, ρ, w, tmps, T, ds, fs, lo, rfl, H, hlo, htm, hds, hst⟩ := hr
  unfold stepRet
  cases hds with
  | nil =>
    simp only []
    split
    · exact .fail
    · rename_i f hf
      refine resAll_ok (Q := fun r => Sim C r _) H htm .fail f.results.toList _ fun l vals hrun hl => ?_
      have hres := run_results hrun
      have hrel := resTup_rel hl
      cases cs with
      | nil =>
        obtain ⟨rfl, rfl, rfl⟩ := hst
        exact .now ⟨ρ, w, _, _, rfl, ⟨rfl, rfl, rfl, f, hf, hres⟩, rfl, H, hrel⟩
      | cons c cs =>
        simp only []
        cases dfr with
        | false =>
          obtain ⟨f', fs', rfl, g⟩ := finish_ok H hlo hrel hst
          exact .of_step (st_returned hf hres) (.now g)
        | true =>
          obtain ⟨fn2, m2, tm2, loc2, todo2, defers2, dfr2, round2⟩ := c
          obtain ⟨f', fs', tmps', T', ds', rd', lo', rfl, h2, h3, h4, h5, h6⟩ := hst
          rcases h5 with ⟨_, rfl, rfl, htm'⟩ | ⟨hd, _⟩
          · have h4 : rd' = none := h4
            subst h4
            exact .of_step (st_returnedD hf rfl hres) (.now ⟨rfl, ρ, w, tmps', T', ds', fs', lo', rfl, H, Nat.le_trans h2 hlo, htm', h3, h6⟩)
          · cases hd
  | @cons d d' l l' hd hds =>
    cases hd with
    | @call f args cap as hl =>
      simp only []
      have hop := callFn_ok H hX hl (f := f)
      split
      · rename_i g args' hres
        rw [hres] at hop
        cases hc : enterM C.P C.M g with
        | none => simp only [enterF, hc, oRec_none]; exact .fail
        | some c =>
          obtain ⟨fn', _, _, _, hen⟩ := enterM_some hc
          obtain ⟨vs, h1, h2⟩ := hop c hen
          refine .of_step (st_deferred ⟨_, _, rfl⟩ (by simp only [invoke]; exact h1)) (.now ?_)
          refine enterF_ok (dfr := true) H (Nat.le_refl _) h2 ?_
          exact ⟨_, fs, tmps, T, l', none, lo, rfl, hlo, hds, rfl, .inl ⟨rfl, rfl, rfl, htm⟩, hst⟩
      · exact .fail
    | @coll r b N as hp =>
      simp only []
      split
      · rename_i q hg
        rw [getF_eq'] at hg
        obtain ⟨O, hO, ho⟩ := H.obj r _ b N hg hp
        obtain ⟨q', rfl, hq⟩ := ho
        simp only [setK_eq']
        have hrun : (Instr.takeDeferred b).run C.P w = .ok q' { w with heap := w.heap.setIfInBounds b (.deferred none) } := by
          have h1 : (getObj b).run C.P w = .ok (.deferred (some q')) w := by simp [getObj, Sem.run, hO]
          have h2 : (setObj b (.deferred none)).run C.P w = .ok () { w with heap := w.heap.setIfInBounds b (.deferred none) } := run_setObj_of hO (by intro c e f h; cases h)
          simp only [Instr.takeDeferred, Sem.run_bind, h1, Result.andThen_ok, h2]; rfl
        refine .of_step (st_collected hrun) (.now ?_)
        exact ⟨rfl, ρ, _, tmps, T, _, fs, lo, rfl, H.update hg rfl hp (o' := .defd none) (O' := .deferred none) rfl rfl rfl rfl rfl, hlo, htm, hq.append hds, hst⟩
      · exact .fail

theorem step_ok (hX : XOk C.P C.X C.E.σ) {r : R} (hr : ROk C r Mc) : Sim C (step C.P C.X C.M r) Mc := by
  cases r with
  | go => exact stepGo_ok hX hr
  | ret => exact stepRet_ok hX hr
  | fin => exact .now hr
  | fork => exact .now hr
  | fail => exact .now hr
theorem run_ok (hX : XOk C.P C.X C.E.σ) : ∀ (n : Nat) {r : R} {Mc : Machine}, ROk C r Mc → Sim C (run C.P C.X C.M n r) Mc
  | 0, r, Mc, hr => step_ok hX hr
  | n + 1, r, Mc, hr => by
    obtain ⟨M1, s1, h1⟩ := run_ok hX n hr
    simp only [run]
    generalize run C.P C.X C.M n r = r1 at h1
    cases r1 with
    | go => exact (run_ok hX n h1).of_steps s1
    | ret => exact (run_ok hX n h1).of_steps s1
    | fin => exact ⟨M1, s1, h1⟩
    | fork => exact ⟨M1, s1, h1⟩
    | fail => exact ⟨M1, s1, h1⟩
end

/-- many steps: 2 ^ n for each n -/
noncomputable def runL (P : Program) (X : Nat → Option EK) (M : Nat → Nat) : List Nat → R → R
  | [], r => r
  | n :: l, r => (match run P X M n r with
    | .go todo fn m tm loc defers dfr round cs h nx => runL P X M l (.go todo fn m tm loc defers dfr round cs h nx)
    | .ret fn m tm loc defers dfr round cs h nx => runL P X M l (.ret fn m tm loc defers dfr round cs h nx)
    | r => r)
theorem runL_ok {C : Cx} (hX : XOk C.P C.X C.E.σ) : ∀ (l : List Nat) {r : R} {Mc : Machine}, ROk C r Mc → Sim C (runL C.P C.X C.M l r) Mc
  | [], r, Mc, hr => .now hr
  | n :: l, r, Mc, hr => by
    obtain ⟨M1, s1, h1⟩ := run_ok hX n hr
    simp only [runL]
    generalize run C.P C.X C.M n r = r1 at h1
    cases r1 with
    | go => exact (runL_ok hX l h1).of_steps s1
    | ret => exact (runL_ok hX l h1).of_steps s1
    | fin => exact ⟨M1, s1, h1⟩
    | fork => exact ⟨M1, s1, h1⟩
    | fail => exact ⟨M1, s1, h1⟩
/-- the ways of a fork -/
noncomputable def forkA (r : R) : R := match r with | .fork a _ => a | r => r
noncomputable def forkB (r : R) : R := match r with | .fork _ b => b | r => r
theorem fork_ok {C : Cx} {r : R} {Mc : Machine} (hr : ROk C r Mc) : ROk C (forkA r) Mc ∨ ROk C (forkB r) Mc := by
  cases r <;> first | exact hr | exact .inl hr
end Go.Sx
