/- Each operation does what the executor says: second half. -/
import Derived.Test.YtkohmamikbdloaaGreatDoorXc
import Derived.Lib.Bytealg
set_option linter.all false
/- The operations, part 11: changes of maps. -/
namespace Go.Sx
open Go.MapKept
variable {E : Env} {P : Program} {ρ : Rho} {h : Tr AObj} {nx : Nat} {w : World}

theorem sameNow_eq {d : TypeDesc} {a b : Value} (hs : Instr.sameNow d a b = some true) : a = b := by
  unfold Instr.sameNow at hs
  split at hs
  · split at hs
    · rename_i hk; subst hk; simp only [Option.some.injEq, beq_iff_eq] at hs; rw [hs]
    · cases hs
  · simp only [Option.some.injEq] at hs; rw [(bytes_beq _ _).1 hs]
  · simp only [Option.some.injEq, beq_iff_eq] at hs; rw [hs]
  · cases hs
theorem MRel.mod {v : AV} {vv kv : Value} (hv : VRel E.σ ρ v vv) {l : List AME} {l' : List MapEntry} (hm : MRel E.σ ρ l l') : ∀ {j : Nat} {e : MapEntry}, l'[j]? = some e → kv = e.key →
    MRel E.σ ρ (modE v l j) (l'.modify j fun e => { e with key := kv, val := vv }) := by
  induction hm with
  | nil => intro j e he; simp at he
  | @cons k2 v2 b l k' v' l' h1 h2 h3 ih =>
    intro j e he hk
    cases j with
    | zero =>
      simp only [List.getElem?_cons_zero, Option.some.injEq] at he
      subst he
      simp only at hk
      subst hk
      exact .cons h1 hv h3
    | succ j => exact .cons h1 h2 (ih (by simpa using he) hk)
theorem MRel.push {k v : AV} {kv vv : Value} {c : Nat} (hk : VRel E.σ ρ k kv) (hv : VRel E.σ ρ v vv) {l : List AME} {l' : List MapEntry} (hm : MRel E.σ ρ l l') :
    MRel E.σ ρ (l ++ [.mk k v c]) (l' ++ [{ key := kv, val := vv, born := c }]) := by
  induction hm with
  | nil => exact .cons hk hv .nil
  | cons h1 h2 _ ih => exact .cons h1 h2 ih
theorem MRel.erase {l : List AME} {l' : List MapEntry} (hm : MRel E.σ ρ l l') : ∀ j, MRel E.σ ρ (l.eraseIdx j) (l'.eraseIdx j) := by
  induction hm with
  | nil => intro j; exact .nil
  | cons h1 h2 h3 ih =>
    intro j
    cases j with
    | zero => exact h3
    | succ j => exact .cons h1 h2 (ih j)

theorem map_update (H : HRel E ρ h nx w) {a b N c c' : Nat} {es es2 : List AME} {l l2 : Array MapEntry} (hg : h.get a = some (.map es c)) (hp : ρ a = some (b, N)) (hO : w.heap[b]? = some (.map l c)) (hm : MRel E.σ ρ es2 l2.toList) :
    ∃ w', (setObj b (.map l2 c')).run P w = .ok () w' ∧ HRel E ρ (h.set (some (.map es2 c')) a) nx w' :=
  ⟨_, run_setObj_map (.map l2 c') hO, H.update hg rfl hp (o' := .map es2 c') (O' := .map l2 c') ⟨l2, rfl, hm⟩ rfl rfl rfl rfl⟩

theorem good_unit {s : Sem Unit} {h' : Tr AObj} {w' : World} (hr : s.run P w = .ok () w') (H : HRel E ρ h' nx w') : Good E P ρ nx w (do s; pure (.tuple #[])) (.val (.tup []) h' nx) :=
  ⟨.tuple #[], w', ρ, by simp [hr], H, Ext.refl _ _, by simp only [VRel, LRel]; exact ⟨_, rfl, rfl⟩⟩

theorem opMapUpdate_ok (H : HRel E ρ h nx w) {t : TypeId} {ma ka va : AV} {mv kv vv : Value} (hm : VRel E.σ ρ ma mv) (hk : VRel E.σ ρ ka kv) (hv : VRel E.σ ρ va vv) :
    Good E P ρ nx w (do Instr.mapUpdate t mv kv vv; pure (.tuple #[])) (opMapUpdate P t ma ka va h nx) := by
  unfold opMapUpdate
  split
  · rename_i kt e a hd
    have hm' := hm
    simp only [VRel] at hm'
    obtain ⟨b, N, hp, rfl⟩ := hm'
    refine onObj_elim good_bad fun o hg => ?_
    split
    · rename_i es clock hf
      obtain ⟨d, hd2, hkey⟩ := keyFits_some (E := E) (ρ := ρ) hf
      have hkey := hkey kv hk
      obtain ⟨es', hO, hmr⟩ := map_obj H hg hp
      have h1 := run_checkKey (P := P) (w := w) hd2 hkey false 9999
      split
      · rename_i i v he
        rcases findE_ok hk hkey he hmr with ⟨e1, _⟩ | ⟨j, av, v', e1, e2, e3, e0, e', e4, e5, e6, e7⟩
        · cases e1
        · cases e1
          have h2 := run_findKey (P := P) (w := w) hd2 e2
          have hke := sameNow_eq e6
          have e5' : es'[0 + j]? = some e' := by simpa using e5
          have hst : (Instr.keyThatStays (((es'[0 + j]?).map (·.key)).getD kv) kv).run P w = .ok kv w := by
            rw [e5']; simp only [Option.map_some, Option.getD_some]; rw [← hke]; exact run_keyThatStays hkey
          obtain ⟨w', h3, H3⟩ := map_update (P := P) (c' := clock) H hg hp hO (es2 := modE va es (0 + j)) (l2 := es'.modify (0 + j) fun e => { e with key := kv, val := vv })
            (by rw [Array.toList_modify]; exact hmr.mod hv (by rw [Nat.zero_add]; exact e5) hke)
          simp only [setK_eq']
          refine good_unit ?_ H3
          simp only [Instr.mapUpdate, Sem.run_bind, run_underlying hd, Result.andThen_ok, run_getObj_map' hO, h1, h2, hst, h3]
      · rename_i he
        rcases findE_ok hk hkey he hmr with ⟨_, e2⟩ | ⟨j, av, v', e1, _⟩
        · have h2 := run_findKey (P := P) (w := w) hd2 e2
          obtain ⟨w', h3, H3⟩ := map_update (P := P) (c' := clock + 1) H hg hp hO (es2 := es ++ [.mk ka va clock]) (l2 := es'.push { key := kv, val := vv, born := clock })
            (by rw [Array.toList_push]; exact hmr.push hk hv)
          simp only [setK_eq']
          refine good_unit ?_ H3
          simp only [Instr.mapUpdate, Sem.run_bind, run_underlying hd, Result.andThen_ok, run_getObj_map' hO, h1, h2, h3]
        · cases e1
      · exact good_bad
    · exact good_bad
  · exact good_bad

theorem opDelete_ok (H : HRel E ρ h nx w) {ts : Array TypeId} {args : Array Value} {ty t : TypeId} {ma ka : AV} {mv kv : Value} (ht : ts[0]? = some t) (ha0 : args[0]? = some mv) (ha1 : args[1]? = some kv)
    (hm : VRel E.σ ρ ma mv) (hk : VRel E.σ ρ ka kv) : Good E P ρ nx w (Builtin.delete_ ts ty args) (opDelete P t ma ka h nx) := by
  unfold opDelete
  split
  · rename_i kt e a hd
    have hm' := hm
    simp only [VRel] at hm'
    obtain ⟨b, N, hp, rfl⟩ := hm'
    refine onObj_elim good_bad fun o hg => ?_
    split
    · rename_i es clock hf
      obtain ⟨d, hd2, hkey⟩ := keyFits_some (E := E) (ρ := ρ) hf
      have hkey := hkey kv hk
      obtain ⟨es', hO, hmr⟩ := map_obj H hg hp
      have h1 := run_checkKey (P := P) (w := w) hd2 hkey es'.isEmpty 9999
      have fin : ∀ (h' : Tr AObj) (w' : World), (Builtin.delete_ ts ty args).run P w = .ok (.tuple #[]) w' → HRel E ρ h' nx w' → Good E P ρ nx w (Builtin.delete_ ts ty args) (.val (.tup []) h' nx) :=
        fun h' w' hr H' => ⟨.tuple #[], w', ρ, hr, H', Ext.refl _ _, by simp only [VRel, LRel]; exact ⟨_, rfl, rfl⟩⟩
      split
      · rename_i i v he
        rcases findE_ok hk hkey he hmr with ⟨e1, _⟩ | ⟨j, av, v', e1, e2, e3, e0, e', e4, e5, e6, e7⟩
        · cases e1
        · cases e1
          have h2 := run_findKey (P := P) (w := w) hd2 e2
          obtain ⟨w', h3, H3⟩ := map_update (P := P) (c' := clock) H hg hp hO (es2 := es.eraseIdx (0 + j)) (l2 := es'.eraseIdxIfInBounds (0 + j))
            (by have := hmr.erase (0 + j); simpa [Array.toList_eraseIdxIfInBounds] using this)
          simp only [setK_eq']
          refine fin _ w' ?_ H3
          rw [Nat.zero_add] at h3
          simp [Builtin.delete_, ht, ha0, ha1, run_underlying hd, run_getObj_map' hO, h1, h2, h3]
      · rename_i he
        rcases findE_ok hk hkey he hmr with ⟨_, e2⟩ | ⟨j, av, v', e1, _⟩
        · have h2 := run_findKey (P := P) (w := w) hd2 e2
          obtain ⟨w', h3, H3⟩ := map_update (P := P) (c' := clock) H hg hp hO (es2 := es) (l2 := es') hmr
          refine fin _ w' ?_ (H3.congr fun x => ?_)
          · simp [Builtin.delete_, ht, ha0, ha1, run_underlying hd, run_getObj_map' hO, h1, h2, h3]
          · rw [Tr.get_set]; split
            · rename_i e; rw [e, hg]
            · rfl
        · cases e1
      · exact good_bad
    · exact good_bad
  · exact good_bad
end Go.Sx

/- The operations, part 12: chunks written; copies; clearing. -/
namespace Go.Sx
open Go.MapKept
variable {E : Env} {P : Program} {ρ : Rho} {h : Tr AObj} {nx : Nat} {w : World}

theorem cellsSet_bytes {x : Bool} {n : Nat} : ∀ (m i b s : Nat), i + m ≤ n → ∃ b', CellsSet (.bytes x n b) i (cellsOfBytes m s) (.bytes x n b') ∧ ∀ j, byteAt b' j = if i ≤ j ∧ j < i + m then byteAt s (j - i) else byteAt b j
  | 0, i, b, s, _ => ⟨b, by simpa [cellsOfBytes, unpackB] using CellsSet.nil, fun j => by rw [if_neg (by omega)]⟩
  | m + 1, i, b, s, h => by
    have hs : s % 256 < 256 := Nat.mod_lt _ (by decide)
    obtain ⟨b', h1, h2⟩ := cellsSet_bytes (x := x) (n := n) m (i + 1) (splB b i 1 (s % 256)) (s / 256) (by omega)
    refine ⟨b', ?_, fun j => ?_⟩
    · simp only [cellsOfBytes, unpackB, List.map_cons, land255, shr8]
      have h0 : CellSet (.bytes x n b) i (.int .u8 (Int.ofNat (s % 256))) (.bytes x n (splB b i 1 (s % 256))) := ⟨by omega, s % 256, hs, rfl, rfl⟩
      exact .cons h0 h1
    · rw [h2 j]
      by_cases e : i + 1 ≤ j ∧ j < i + 1 + m
      · rw [if_pos e, if_pos (by omega), byteAt_div]; congr 1; omega
      · rw [if_neg e, byteAt_spl (by simpa using hs)]
        by_cases e' : j = i
        · rw [if_pos (by omega), if_pos (by omega)]
          have : j - i = 0 := by omega
          rw [this, byteAt_eq, byteAt_eq]; simp
        · rw [if_neg (by omega), if_neg (by omega)]
theorem HRel.bytes_ext {a n b1 b2 : Nat} {x : Bool} (H : HRel E ρ (h.set (some (.bytes x n b1)) a) nx w) (hb : ∀ i, i < n → byteAt b1 i = byteAt b2 i) : HRel E ρ (h.set (some (.bytes x n b2)) a) nx w := by
  have sub : ∀ y o, (h.set (some (.bytes x n b2)) a).get y = some o → ∃ o', (h.set (some (.bytes x n b1)) a).get y = some o' ∧ o'.isRo = o.isRo ∧ ∀ N O, ObjRel E.σ ρ N o' O → ObjRel E.σ ρ N o O := by
    intro y o hy
    rw [Tr.get_set] at hy ⊢
    split at hy
    · rename_i e
      cases hy
      refine ⟨.bytes x n b1, by rw [if_pos e], rfl, fun N O ho => ?_⟩
      obtain ⟨cs, e, fr, h1, h2, h3, h4, h5, h6⟩ := ho
      exact ⟨cs, e, fr, h1, h2, h3, h4, h5, fun i v hi hv => by rw [← hb i hi]; exact h6 i v hi hv⟩
    · rename_i e
      exact ⟨o, by rw [if_neg e]; exact hy, rfl, fun _ _ ho => ho⟩
  refine ⟨fun y o b N hy hp => ?_, fun y y' o o' b N N' hy hy' => ?_, H.new, H.glob, fun y o b N hy hro => ?_, H.keep, H.size, H.tape, H.os, H.out, H.low⟩
  · obtain ⟨o', h1, _, h3⟩ := sub y o hy
    obtain ⟨O, h4, h5⟩ := H.obj y o' b N h1 hp
    exact ⟨O, h4, h3 _ _ h5⟩
  · obtain ⟨o1, h1, _⟩ := sub y o hy
    obtain ⟨o2, h2, _⟩ := sub y' o' hy'
    exact H.inj y y' o1 o2 b N N' h1 h2
  · obtain ⟨o1, h1, h2, _⟩ := sub y o hy
    exact H.own y o1 b N h1 (by rw [h2]; exact hro)

/-- a chunk is written -/
theorem writeCh_elim (H : HRel E ρ h nx w) {β : Type} {Q : β → Prop} {c : Ch} {vs : Array Value} {a b N i : Nat} {o : AObj} {d : β} {k : AObj → β} (hg : h.get a = some o) (hp : ρ a = some (b, N)) (hl : LRel E.σ ρ c.list vs.toList) (hco : ChOk c) (hd : Q d)
    (hk : ∀ o', (∃ w', (storeCells ⟨b, i, none⟩ vs.toList).run P w = .ok () w' ∧ HRel E ρ (h.set (some o') a) nx w') → Q (k o')) : Q (writeCh c o i d k) := by
  have gen : ∀ l, c.list = l → Q (writeCells l o i d k) := by
    intro l e
    subst e
    refine writeCells_elim hd fun o' hcs => hk o' ?_
    exact storeCells_ok (P := P) a b N i hp c.list vs.toList 0 h w o o' H hg hcs hl
  unfold writeCh
  split
  · rename_i m s x n bb
    refine bRec_elim (fun _ => hd) fun hle => ?_
    have hle : i + m ≤ n := by simpa using hle
    simp only [fN_eq']
    obtain ⟨b', h1, h2⟩ := cellsSet_bytes (x := x) m i bb s hle
    obtain ⟨w', h3, h4⟩ := storeCells_ok (P := P) a b N i hp (cellsOfBytes m s) vs.toList 0 h w _ _ H hg h1 hl
    refine hk _ ⟨w', h3, h4.bytes_ext fun j hj => ?_⟩
    rw [h2 j, byteAt_spl hco]
  · exact gen _ rfl
  · exact gen _ rfl

theorem lenV_elim {β : Type} {Q : β → Prop} {x : AV} {v : Value} {d : β} {k : Nat → β} (hx : VRel E.σ ρ x v) (hd : Q d)
    (hk : ∀ n, (∀ w : World, (Builtin.lenOf v).run P w = .ok n w) → (∀ a off len sz cap, x = .sl a off len sz cap → n = len) → (x = .nilSl → n = 0) → Q (k n)) : Q (lenV x d k) := by
  unfold lenV
  split
  · obtain rfl : v = .slice none 0 0 := by simpa only [VRel] using hx
    exact hk 0 (fun _ => rfl) (fun _ _ _ _ _ e => by cases e) (fun _ => rfl)
  · obtain ⟨b, N, o, c, hp, rfl, hok⟩ := hx.sl_inv
    exact hk _ (fun _ => rfl) (fun _ _ _ _ _ e => by cases e; rfl) (fun e => by cases e)
  · obtain ⟨rfl, hn⟩ := hx.str_inv
    exact hk _ (fun w => by simp [Builtin.lenOf, mkStr_size]) (fun _ _ _ _ _ e => by cases e) (fun e => by cases e)
  · exact hd
theorem opCopy_ok (H : HRel E ρ h nx w) {ts : Array TypeId} {args : Array Value} {ty t : TypeId} {da xa : AV} {dv xv : Value} (ht : ts[0]? = some t) (h0 : args[0]? = some dv) (h1 : args[1]? = some xv)
    (hd : VRel E.σ ρ da dv) (hx : VRel E.σ ρ xa xv) : Good E P ρ nx w (Builtin.copy_ ts ty args) (opCopy P t da xa h nx) := by
  unfold opCopy
  split
  · rename_i e he
    have hdt := elemSl_some he
    split
    · rename_i sz hsz
      refine lenV_elim (P := P) hx good_bad fun xl hxl hx1 hx2 => ?_
      have zero : ∀ (base : Option Addr) (dl cap : Nat), dv = .slice base dl cap → Nat.min xl dl = 0 → GoodV E P ρ nx w (Builtin.copy_ ts ty args) (.int .i64 (Int.ofNat 0)) h nx := by
        intro base dl cap e hn
        subst e
        have hf : (Builtin.firstCells sz 0 xv).run P w = .ok #[] w := by
          have hl := hxl w
          cases xv <;> try (simp [Builtin.lenOf] at hl; done)
          · simp [Builtin.firstCells]
          · rename_i a l c
            cases a <;> simp [Builtin.firstCells, loadCells, loadCellsFrom]
        refine ⟨goInt 0, w, ρ, ?_, H, Ext.refl _ _, goInt_rel 0⟩
        have hl := hxl w
        cases base <;> simp [Builtin.copy_, ht, h0, h1, run_underlying hdt, hl, run_sizeOf' hsz, hn, hf, storeCells]
      split
      · obtain rfl : dv = .slice none 0 0 := by simpa only [VRel] using hd
        exact zero none 0 0 rfl (Nat.min_zero _)
      · rename_i a off dl s' cap
        obtain ⟨b, N, o, c, hp, rfl, hok⟩ := hd.sl_inv
        simp only [fN_eq']
        split
        · rename_i hn
          exact zero _ _ _ rfl (Nat.eq_of_beq_eq_true hn)
        · rename_i hn
          have hn := Nat.ne_of_beq_eq_false hn
          split
          · rename_i hs
            have hs : s' = sz := Nat.eq_of_beq_eq_true hs
            subst hs
            have hm1 : Nat.min xl dl ≤ xl := Nat.min_le_left _ _
            have hm2 : Nat.min xl dl ≤ dl := Nat.min_le_right _ _
            refine firstC_elim (P := P) H hx good_bad (fun a off len sz cap e => by have := hx1 _ _ _ _ _ e; omega) (fun e => by have := hx2 e; omega) fun ch vs h2 h3 h4 => ?_
            refine onObj_elim good_bad fun obj hg => ?_
            refine writeCh_elim (P := P) H hg hp h3 h4 good_bad fun o' hw => ?_
            obtain ⟨w', h5, H5⟩ := hw
            simp only [setK_eq']
            obtain ⟨k1, k2, _⟩ := hok
            have ho : o = off := by omega
            subst ho
            refine ⟨goInt (Nat.min xl dl), w', ρ, ?_, H5, Ext.refl _ _, goInt_rel _⟩
            have hl := hxl w
            simp [Builtin.copy_, ht, h0, h1, run_underlying hdt, hl, run_sizeOf' hsz, h2, h5]
          · exact good_bad
      · exact good_bad
    · exact good_bad
  · exact good_bad
end Go.Sx

/- The operations, part 13: iteration; clearing. -/
namespace Go.Sx
open Go.MapKept
variable {E : Env} {P : Program} {ρ : Rho} {h : Tr AObj} {nx : Nat} {w : World}

theorem run_setObj_of {b : Nat} {O O' : Obj} (hO : w.heap[b]? = some O) (hn : ∀ c e f, O ≠ .cells c e f) : (setObj b O').run P w = .ok () { w with heap := w.heap.setIfInBounds b O' } := by
  cases O <;> first | exact absurd rfl (hn _ _ _) | simp [setObj, Sem.run, hO]

theorem decode_ascii {l n pos : Nat} (hp : pos < l) (hb : byteAt n pos < 128) : Utf8.decode (mkStr l n) pos = (byteAt n pos, 1) := by
  have h1 : (mkStr l n).get! pos = UInt8.ofNat (byteAt n pos) := by
    have hg : (mkStr l n).data.toList[pos]? = some (UInt8.ofNat (byteAt n pos)) := by rw [mkStr_toList]; exact bytesOf_get hp
    have hsz : pos < (mkStr l n).data.size := by have h := mkStr_size l n; rw [ByteArray.size] at h; omega
    rw [Array.getElem?_toList, Array.getElem?_eq_getElem hsz, Option.some.injEq] at hg
    rw [← hg]
    exact getElem!_pos (mkStr l n).data pos hsz
  have h2 : (UInt8.ofNat (byteAt n pos)).toNat = byteAt n pos := by
    have := byteAt_lt n pos
    simp; omega
  simp only [Utf8.decode, Nat.add_zero, h1, h2]
  rw [if_pos (show byteAt n pos < 0x80 from hb)]

theorem filter_rel {seen : List Nat} {es : List AME} {l : List MapEntry} (hm : MRel E.σ ρ es l) : MRel E.σ ρ (es.filter fun e => !seen.contains e.born) (l.filter fun e => !seen.contains e.born) := by
  induction hm with
  | nil => exact .nil
  | @cons k v b l k' v' l' h1 h2 h3 ih =>
    simp only [List.filter_cons]
    have : (AME.mk k v b).born = b := rfl
    rw [this]
    split
    · exact .cons h1 h2 ih
    · exact ih
theorem all_born {es : List AME} {l : List MapEntry} (hm : MRel E.σ ρ es l) (p : Nat → Bool) : (es.all fun e => p e.born) = (l.all fun e => p e.born) := by
  induction hm with
  | nil => rfl
  | cons _ _ _ ih => simp only [List.all_cons, ih]; rfl

theorem run_choose_map (n : Nat) (hn : 0 < n) (P : Program) (w : World) : ∃ c w', c < n ∧ (choose (.mapNext n)).run P w = .ok c w' ∧ ∃ d, w' = { w with drawn := d } := by
  by_cases h1 : n ≤ 1
  · exact ⟨0, w, hn, by simp [Question.forced, h1], w.drawn, rfl⟩
  · exact ⟨_, _, Nat.mod_lt _ hn, by simp [Question.forced, h1, Question.cut]; rfl, w.drawn + 1, rfl⟩

theorem opNext_str (H : HRel E ρ h nx w) {a : Nat} {xv : Value} {ty : TypeId} (hx : VRel E.σ ρ (.ptr a 0) xv) {l n pos : Nat} (hg : h.get a = some (.strIter l n pos)) :
    Good E P ρ nx w (Instr.next xv true ty) (match Nat.blt pos l with
      | true => fN (byteAt n pos) fun c => match Nat.blt c 128 with
        | true => fN (pos + 1) fun pos' => h.setK (some (.strIter l n pos')) a fun h => .val (.tup [.bool true, .int .i64 (Int.ofNat pos), .int .i32 (Int.ofNat c)]) h nx
        | false => bad "next: rune"
      | false => .val (.tup [.bool false]) h nx) := by
  obtain ⟨b, N, hp, rfl⟩ := hx.ptr_inv
  obtain ⟨O, hO, ho⟩ := H.obj a _ b N hg hp
  obtain ⟨rfl, hn⟩ := ho
  have hr : (getObj b).run P w = .ok (.stringIter (mkStr l n) pos) w := by simp [getObj, Sem.run, hO]
  split
  · rename_i hlt
    have hlt : pos < l := by simpa using hlt
    simp only [fN_eq']
    split
    · rename_i hc
      have hc : byteAt n pos < 128 := by simpa using hc
      simp only [setK_eq']
      have hset : (setObj b (.stringIter (mkStr l n) (pos + 1))).run P w = .ok () { w with heap := w.heap.setIfInBounds b (.stringIter (mkStr l n) (pos + 1)) } :=
        run_setObj_of hO (by intro c e f h; cases h)
      refine ⟨.tuple #[.bool true, goInt pos, .int .i32 (byteAt n pos)], { w with heap := w.heap.setIfInBounds b (.stringIter (mkStr l n) (pos + 1)) }, ρ, ?_, H.update hg rfl hp (o' := .strIter l n (pos + 1)) (O' := .stringIter (mkStr l n) (pos + 1)) ⟨rfl, hn⟩ rfl rfl rfl rfl, Ext.refl _ _, ?_⟩
      · simp [Instr.next, hr, mkStr_size, hlt, decode_ascii hlt hc, hset]
      · simp only [VRel, LRel]
        exact ⟨_, rfl, _, _, rfl, rfl, _, _, rfl, by simp [goInt], _, _, rfl, by simp, rfl⟩
    · exact good_bad
  · rename_i hlt
    have hlt : ¬ pos < l := by
      intro h2
      have h3 : Nat.blt pos l = true := by simpa using h2
      rw [h3] at hlt; cases hlt
    refine ⟨.tuple #[.bool false], w, ρ, ?_, H, Ext.refl _ _, by simp only [VRel, LRel]; exact ⟨_, rfl, _, _, rfl, rfl, rfl⟩⟩
    simp [Instr.next, hr, mkStr_size, hlt]

def iterF (a m since : Nat) (seen : List Nat) (clock : Nat) (h : Tr AObj) (nx : Nat) (e : AME) : FkI :=
  .mk (.tup [.bool true, e.key, e.val]) (h.set (some (.mapIter (some m) since (seen ++ [e.born]) clock)) a) nx
theorem iterAll_eq (a m since : Nat) (seen : List Nat) (clock : Nat) (h : Tr AObj) (nx : Nat) : ∀ (l : List AME) (k : List FkI → OR), iterAll a m since seen clock h nx l k = k (l.map (iterF a m since seen clock h nx))
  | [], k => rfl
  | .mk key val born :: l, k => by
    simp only [iterAll, stepIter, setK_eq', iterAll_eq a m since seen clock h nx l, List.map_cons]; rfl
theorem MRel.get {l : List AME} {l' : List MapEntry} (hm : MRel E.σ ρ l l') : ∀ {j : Nat} {e' : MapEntry}, l'[j]? = some e' → ∃ e, l[j]? = some e ∧ VRel E.σ ρ e.key e'.key ∧ VRel E.σ ρ e.val e'.val ∧ e.born = e'.born := by
  induction hm with
  | nil => intro j e' h; simp at h
  | @cons k v b l k' v' l' h1 h2 h3 ih =>
    intro j e' h
    cases j with
    | zero => simp only [List.getElem?_cons_zero, Option.some.injEq] at h; subst h; exact ⟨_, rfl, h1, h2, rfl⟩
    | succ j => obtain ⟨e, g⟩ := ih (by simpa using h); exact ⟨e, by simpa using g.1, g.2⟩

theorem opNext_map (H : HRel E ρ h nx w) {a m since last : Nat} {seen : List Nat} {xv : Value} {ty : TypeId} (hx : VRel E.σ ρ (.ptr a 0) xv) (hg : h.get a = some (.mapIter (some m) since seen last)) {es : List AME} {clock : Nat}
    (hgm : h.get m = some (.map es clock)) (hc : (!seen.isEmpty && !es.isEmpty && es.all (fun e => Nat.ble last e.born)) = false) :
    Good E P ρ nx w (Instr.next xv false ty) (match es.filter fun e => !seen.contains e.born with
      | [] => .val (.tup [.bool false]) h nx
      | left => match left.all fun e => Nat.blt e.born since with
        | false => bad "next: new ones"
        | true => match left with
          | [e] => stepIter a m since seen clock h e fun v h => .val v h nx
          | left => iterAll a m since seen clock h nx left fun l => .fork l) := by
  obtain ⟨b, N, hp, rfl⟩ := hx.ptr_inv
  obtain ⟨O, hO, ho⟩ := H.obj a _ b N hg hp
  obtain ⟨m', rfl, _, h3⟩ := ho
  obtain ⟨bm, Nm, hpm, rfl⟩ := h3 m rfl
  obtain ⟨es', hOm, hm⟩ := map_obj H hgm hpm
  have hr : (getObj b).run P w = .ok (.mapIter (some bm) since seen.toArray last) w := by simp [getObj, Sem.run, hO]
  have hfl := filter_rel (seen := seen) hm
  have hcheck : (!seen.toArray.isEmpty && !es'.isEmpty && es'.all (fun x => decide (x.born ≥ last))) = false := by
    rw [← hc]
    congr 1
    · congr 1
      · simp
      · congr 1
        rw [Bool.eq_iff_iff, Array.isEmpty_iff_size_eq_zero, List.isEmpty_iff_length_eq_zero, hm.length, Array.length_toList]
    · rw [← Array.all_toList, all_born hm (fun b => Nat.ble last b)]
      congr 1
      funext x
      rw [Bool.eq_iff_iff]; simp
  obtain ⟨left', hl', hlr⟩ : ∃ left' : Array MapEntry, es'.filter (fun e => !seen.toArray.contains e.born) = left' ∧ MRel E.σ ρ (es.filter fun e => !seen.contains e.born) left'.toList :=
    ⟨_, rfl, by simpa using hfl⟩
  have hnext : (Instr.next (.pointer (some ⟨b, 0, none⟩)) false ty).run P w =
      ((choose (.mapNext ((if (left'.filter (fun e : MapEntry => decide (e.born < since))).isEmpty then #[none] else #[]) ++ (left'.filter (fun e : MapEntry => decide (e.born < since)) ++ left'.filter (fun e : MapEntry => decide (e.born ≥ since))).map some).size)).run P w).andThen fun c w1 =>
        (match ((if (left'.filter (fun e : MapEntry => decide (e.born < since))).isEmpty then #[none] else #[]) ++ (left'.filter (fun e : MapEntry => decide (e.born < since)) ++ left'.filter (fun e : MapEntry => decide (e.born ≥ since))).map some)[c]? with
          | some (some e) => (do setObj b (.mapIter (some bm) since (seen.toArray.push e.born) clock); pure (.tuple #[.bool true, e.key, e.val]) : Sem Value)
          | some none => pure (.tuple #[.bool false])
          | none => stuck "Next: no such candidate").run P w1 := by
    simp only [Instr.next, Sem.run_bind, hr, Result.andThen_ok, run_getObj_map' hOm, hl']
    rw [if_neg (by rw [hcheck]; simp)]
    simp only [Sem.run_bind]
    rfl
  cases hlist : es.filter fun e => !seen.contains e.born with
  | nil =>
    rw [hlist] at hlr
    have h0 : left' = #[] := by
      have := hlr.length
      rw [Array.length_toList] at this
      exact Array.eq_empty_of_size_eq_zero this.symm
    subst h0
    refine ⟨.tuple #[.bool false], w, ρ, ?_, H, Ext.refl _ _, by simp only [VRel, LRel]; exact ⟨_, rfl, _, _, rfl, rfl, rfl⟩⟩
    rw [hnext]
    simp [Question.forced]
  | cons e0 rest =>
    rw [hlist] at hlr
    simp only []
    split
    · exact good_bad
    · rename_i hall
      have hall' : ∀ x ∈ left', x.born < since := by
        have h1 := all_born hlr (fun b => Nat.blt b since)
        rw [hall] at h1
        intro x hx
        have h2 := List.all_eq_true.1 h1.symm x (by simpa using hx)
        simpa using h2
      have hold : left'.filter (fun e : MapEntry => decide (e.born < since)) = left' := by
        rw [Array.filter_eq_self]; intro x hx; simpa using hall' x hx
      have hnew : left'.filter (fun e : MapEntry => decide (e.born ≥ since)) = #[] := by
        rw [Array.filter_eq_empty_iff]; intro x hx; have := hall' x hx; simp; omega
      have hsz : 0 < left'.size := by
        have := hlr.length
        rw [Array.length_toList] at this
        simp at this; omega
      have hne : left'.isEmpty = false := by
        rw [Bool.eq_false_iff]; intro h; rw [Array.isEmpty_iff_size_eq_zero] at h; omega
      obtain ⟨c, w1, hcl, hrun, d, rfl⟩ := run_choose_map left'.size hsz P w
      rw [hold, hnew, hne] at hnext
      simp only [Bool.false_eq_true, if_false, Array.append_empty, Array.empty_append, Array.size_map, hrun, Result.andThen_ok, Array.getElem?_map, Array.getElem?_eq_getElem hcl, Option.map_some] at hnext
      obtain ⟨e, he, r1, r2, r3⟩ := hlr.get (j := c) (e' := left'[c]) (by simp [hcl])
      have good : ∀ (av : AV) (h' : Tr AObj) (nx' : Nat), iterF a m since seen clock h nx e = .mk av h' nx' → GoodV E P ρ nx w (Instr.next (.pointer (some ⟨b, 0, none⟩)) false ty) av h' nx' := by
        intro av h' nx' hi
        cases hi
        have hset : (setObj b (.mapIter (some bm) since (seen.toArray.push left'[c].born) clock)).run P { w with drawn := d } =
            .ok () { w with drawn := d, heap := w.heap.setIfInBounds b (.mapIter (some bm) since (seen.toArray.push left'[c].born) clock) } :=
          run_setObj_of (w := { w with drawn := d }) hO (by intro c e f h; cases h)
        refine ⟨.tuple #[.bool true, left'[c].key, left'[c].val], { w with drawn := d, heap := w.heap.setIfInBounds b (.mapIter (some bm) since (seen.toArray.push left'[c].born) clock) }, ρ, ?_,
          (H.drawn d).update hg rfl hp (O' := .mapIter (some bm) since (seen.toArray.push left'[c].born) clock) ?_ rfl rfl rfl rfl, Ext.refl _ _, ?_⟩
        · rw [hnext]
          simp only [Sem.run_bind, hset, Result.andThen_ok, Sem.run_pure]
        · refine ⟨some bm, ?_, by simp, fun a' e => ?_⟩
          rotate_left
          · cases e; exact ⟨bm, Nm, hpm, rfl⟩
          rw [r3]; simp
        · simp only [VRel, LRel]
          exact ⟨_, rfl, _, _, rfl, rfl, _, _, rfl, r1, _, _, rfl, r2, rfl⟩
      split
      · rename_i e1 h1
        cases h1
        have hc0 : c = 0 := by
          have := hlr.length
          rw [Array.length_toList] at this
          simp at this; omega
        subst hc0
        cases he
        obtain ⟨key, val, born⟩ := e0
        simp only [stepIter, setK_eq']
        exact good _ _ _ rfl
      · rw [iterAll_eq]
        exact ⟨iterF a m since seen clock h nx e, List.mem_map.2 ⟨e, List.mem_of_getElem? he, rfl⟩, good _ _ _ rfl⟩

theorem opNext_ok (H : HRel E ρ h nx w) {xa : AV} {xv : Value} {ty : TypeId} {isS : Bool} (hx : VRel E.σ ρ xa xv) : Good E P ρ nx w (Instr.next xv isS ty) (opNext xa isS h nx) := by
  unfold opNext
  split
  · rename_i a
    refine onObj_elim good_bad fun o hg => ?_
    split
    · rename_i l n pos
      exact opNext_str H hx hg
    · rename_i since seen st
      obtain ⟨b, N, hp, rfl⟩ := hx.ptr_inv
      obtain ⟨O, hO, ho⟩ := H.obj a _ b N hg hp
      obtain ⟨m', rfl, h2, _⟩ := ho
      obtain rfl := h2 rfl
      have hr : (getObj b).run P w = .ok (.mapIter none since seen.toArray st) w := by simp [getObj, Sem.run, hO]
      exact ⟨.tuple #[.bool false], w, ρ, by simp [Instr.next, hr], H, Ext.refl _ _, by simp only [VRel, LRel]; exact ⟨_, rfl, _, _, rfl, rfl, rfl⟩⟩
    · rename_i m since seen last
      refine onObj_elim good_bad fun o2 hgm => ?_
      split
      · rename_i es clock
        split
        · exact good_bad
        · rename_i hc
          exact opNext_map H hx hg hgm hc
      · exact good_bad
    · exact good_bad
  · exact good_bad

theorem opClear_map (H : HRel E ρ h nx w) {ts : Array TypeId} {args : Array Value} {ty t : TypeId} {xa : AV} {xv : Value} (ht : ts[0]? = some t) (h0 : args[0]? = some xv) (hx : VRel E.σ ρ xa xv) :
    ∀ a es clock d, xa = .map a → P.underlying t = some d → h.get a = some (.map es clock) → Good E P ρ nx w (Builtin.clear_ ts ty args) (.val (.tup []) (h.set (some (.map [] clock)) a) nx) := by
  intro a es clock d e hd hg
  subst e
  have hx' := hx
  simp only [VRel] at hx'
  obtain ⟨b, N, hp, rfl⟩ := hx'
  obtain ⟨es', hO, hmr⟩ := map_obj H hg hp
  obtain ⟨w', h3, H3⟩ := map_update (P := P) (c' := clock) H hg hp hO (es2 := []) (l2 := #[]) .nil
  refine ⟨.tuple #[], w', ρ, ?_, H3, Ext.refl _ _, by simp only [VRel, LRel]; exact ⟨_, rfl, rfl⟩⟩
  cases d <;> simp [Builtin.clear_, ht, h0, run_underlying hd, run_getObj_map' hO, h3]
end Go.Sx

/- The operations, part 14: append. -/
namespace Go.Sx
open Go.MapKept
variable {E : Env} {P : Program} {ρ : Rho} {h : Tr AObj} {nx : Nat} {w : World}

/-- cells stored into a row that nothing bars -/
theorem run_storeCells_row {b o : Nat} {e : TypeId} {fr : Nat × Nat} : ∀ (vs : List Value) (k : Nat) (cs : Array Value) (w : World), w.heap[b]? = some (.cells cs e fr) → o + k + vs.length ≤ cs.size → (∀ i, i < cs.size → ¬ (fr.1 ≤ i ∧ i < fr.2)) →
    (∀ v ∈ vs, v.oneCell' = true) → ∃ (w' : World) (cs' : Array Value), (storeCells ⟨b, o, none⟩ vs k).run P w = .ok () w' ∧ w'.heap = w.heap.setIfInBounds b (.cells cs' e fr) ∧ w'.tape = w.tape ∧ w'.os = w.os ∧ w'.output = w.output ∧
      cs'.size = cs.size ∧ ∀ i, cs'[i]? = if o + k ≤ i ∧ i < o + k + vs.length then vs[i - (o + k)]? else cs[i]?
  | [], k, cs, w, hO, _, _, _ => ⟨w, cs, rfl, by
      apply Array.ext_getElem?
      intro i
      rw [Array.getElem?_setIfInBounds]
      split
      · rename_i e; subst e; rw [hO, if_pos (Array.getElem?_eq_some_iff.1 hO).1]
      · rfl, rfl, rfl, rfl, rfl, fun i => by rw [if_neg (by simp)]⟩
  | v :: vs, k, cs, w, hO, hl, hfr, h1 => by
    simp only [List.length_cons] at hl
    have hi : o + k < cs.size := by omega
    have hb := (Array.getElem?_eq_some_iff.1 hO).1
    have hcell : w.cell? ⟨b, o + k, none⟩ = some cs[o + k] := by rw [cell?_of hO]; simp [hi]
    have hfro : w.frozen? ⟨b, o + k, none⟩ = false := by
      obtain ⟨lo, hi'⟩ := fr
      simp only [World.frozen?, hO, Bool.and_eq_false_iff, decide_eq_false_iff_not]
      have := hfr _ hi
      simp only at this
      omega
    have hst : (store ⟨b, o + k, none⟩ v).run P w = .ok () (w.setCell ⟨b, o + k, none⟩ v) := by
      rw [run_store P w _ v _ (h1 v (by simp)), hcell]; simp [hfro]
    have hh := setCell_heap (v := v) (i := o + k) hO
    obtain ⟨w', cs', g1, g2, g3, g4, g5, g6, g7⟩ := run_storeCells_row (b := b) (o := o) (e := e) (fr := fr) vs (k + 1) (cs.setIfInBounds (o + k) v) (w.setCell ⟨b, o + k, none⟩ v)
      (by rw [hh]; simp [hb]) (by simp; omega) (by simpa using hfr) (fun x hx => h1 x (by simp [hx]))
    refine ⟨w', cs', by simp only [storeCells, Sem.run_bind, addr_add, hst, Result.andThen_ok, g1], ?_, g3, g4, g5, by simpa using g6, fun i => ?_⟩
    · rw [g2, hh]
      apply Array.ext_getElem?
      intro i
      simp only [Array.getElem?_setIfInBounds, Array.size_setIfInBounds]
      split <;> rfl
    · rw [g7 i]
      simp only [List.length_cons]
      by_cases hx : o + (k + 1) ≤ i ∧ i < o + (k + 1) + vs.length
      · rw [if_pos hx, if_pos (by omega), show i - (o + k) = (i - (o + (k + 1))) + 1 from by omega, List.getElem?_cons_succ]
      · rw [if_neg hx, Array.getElem?_setIfInBounds]
        by_cases he : o + k = i
        · rw [if_pos he, if_pos (by omega), if_pos (by omega), ← he]; simp
        · rw [if_neg he, if_neg (by omega)]

/-- an object goes on under a new number -/
theorem HRel.rename (H : HRel E ρ h nx w) {a b N : Nat} {o : AObj} (hg : h.get a = some o) (hr : o.isRo = false) (hp : ρ a = some (b, N)) :
    HRel E (ρ.set nx (b, N)) ((h.set none a).set (some o) nx) (nx + 1) w ∧ Ext ρ nx (ρ.set nx (b, N)) (nx + 1) := by
  have hn := H.new nx (Nat.le_refl _)
  have hle : ρ.le (ρ.set nx (b, N)) := Rho.le_set hn
  have hna : a ≠ nx := fun e => by subst e; rw [hn] at hp; cases hp
  have sub : ∀ x ox, x ≠ nx → ((h.set none a).set (some o) nx).get x = some ox → x ≠ a ∧ h.get x = some ox := by
    intro x ox hx hgx
    rw [Tr.get_set, if_neg hx, Tr.get_set] at hgx
    split at hgx
    · cases hgx
    · rename_i e; exact ⟨e, hgx⟩
  have self : ∀ ox, ((h.set none a).set (some o) nx).get nx = some ox → ox = o := by
    intro ox hgx
    rw [Tr.get_set, if_pos rfl] at hgx; cases hgx; rfl
  refine ⟨⟨?_, ?_, ?_, ?_, ?_, H.keep, H.size, H.tape, H.os, H.out, Nat.le_succ_of_le H.low⟩, hle, Nat.le_succ _, ?_⟩
  · intro x ox bx M hgx hpx
    by_cases e : x = nx
    · subst e
      obtain rfl := self _ hgx
      rw [Rho.set_same] at hpx; cases hpx
      obtain ⟨O, h1, h2⟩ := H.obj a _ b N hg hp
      exact ⟨O, h1, ObjRel.mono hle h2⟩
    · obtain ⟨e2, hgx⟩ := sub x ox e hgx
      rw [Rho.set_other _ _ e] at hpx
      obtain ⟨O, h1, h2⟩ := H.obj x ox bx M hgx hpx
      exact ⟨O, h1, ObjRel.mono hle h2⟩
  · intro x y ox oy bx M M' hgx hgy hpx hpy
    by_cases e : x = nx <;> by_cases e' : y = nx
    · omega
    · subst e
      obtain ⟨e2, hgy⟩ := sub y oy e' hgy
      rw [Rho.set_same] at hpx; rw [Rho.set_other _ _ e'] at hpy
      cases hpx
      exact absurd (H.inj y a oy o _ _ _ hgy hg hpy hp) e2
    · subst e'
      obtain ⟨e2, hgx⟩ := sub x ox e hgx
      rw [Rho.set_same] at hpy; rw [Rho.set_other _ _ e] at hpx
      cases hpy
      exact absurd (H.inj x a ox o _ _ _ hgx hg hpx hp) e2
    · obtain ⟨_, hgx⟩ := sub x ox e hgx
      obtain ⟨_, hgy⟩ := sub y oy e' hgy
      rw [Rho.set_other _ _ e] at hpx; rw [Rho.set_other _ _ e'] at hpy
      exact H.inj x y ox oy bx M M' hgx hgy hpx hpy
  · intro x hx; rw [Rho.set_other _ _ (by omega)]; exact H.new x (by omega)
  · intro g hgl; obtain ⟨M, hM⟩ := H.glob g hgl; exact ⟨M, hle _ _ hM⟩
  · intro x ox bx M hgx hro hpx
    by_cases e : x = nx
    · subst e
      rw [Rho.set_same] at hpx; cases hpx
      exact H.own a o b N hg hr hp
    · obtain ⟨_, hgx⟩ := sub x ox e hgx
      rw [Rho.set_other _ _ e] at hpx
      exact H.own x ox bx M hgx hro hpx
  · intro x hx hxn; rw [Rho.set_other _ _ (by omega)]; exact hxn

theorem nextcap_le {need old : Nat} (h1 : need ≤ 1000000) (h2 : old ≤ 1000000) : Builtin.nextslicecap need old ≤ 4000000 := by
  unfold Builtin.nextslicecap
  split
  · omega
  · split
    · omega
    · simp only [Builtin.growBy]
      repeat' split
      all_goals omega
end Go.Sx

/- The operations, part 15: append. -/
namespace Go.Sx
open Go.MapKept
variable {E : Env} {P : Program} {ρ : Rho} {h : Tr AObj} {nx : Nat} {w : World}

theorem loadCellsFrom_drawn {a : Addr} {w : World} (d : Nat) : ∀ (n i : Nat) (acc vs : Array Value), (loadCellsFrom a i n acc).run P w = .ok vs w → (loadCellsFrom a i n acc).run P { w with drawn := d } = .ok vs { w with drawn := d }
  | 0, i, acc, vs, h => by
    simp only [loadCellsFrom, Sem.run_pure, Result.ok.injEq] at h ⊢
    exact ⟨h.1, trivial⟩
  | n + 1, i, acc, vs, h => by
    simp only [loadCellsFrom, Sem.run_bind, run_load] at h ⊢
    have e1 : ({ w with drawn := d } : World).cell? (a.add i) = w.cell? (a.add i) := rfl
    have e2 : ∀ x, ({ w with drawn := d } : World).farLoad P (a.add i) x = w.farLoad P (a.add i) x := fun _ => rfl
    rw [e1, e2]
    cases hc : w.cell? (a.add i) with
    | some v =>
      rw [hc] at h
      exact loadCellsFrom_drawn d n (i + 1) (acc.push v) vs h
    | none =>
      rw [hc] at h
      cases hf : w.farLoad P (a.add i) (Mode.plain == .atomic) with
      | ok p =>
        rw [hf] at h
        obtain ⟨v, l⟩ := p
        exact loadCellsFrom_drawn d n (i + 1) (acc.push v) vs h
      | error e => rw [hf] at h; cases h
theorem firstCells_drawn {s n : Nat} {v : Value} {vs : Array Value} (d : Nat) (hr : (Builtin.firstCells s n v).run P w = .ok vs w) :
    (Builtin.firstCells s n v).run P { w with drawn := d } = .ok vs { w with drawn := d } := by
  cases v <;> try (simp [Builtin.firstCells] at hr; done)
  · rename_i x
    simp only [Builtin.firstCells, Sem.run_pure, Result.ok.injEq] at hr ⊢
    exact ⟨hr.1, trivial⟩
  · rename_i a l c
    cases a with
    | none =>
      simp only [Builtin.firstCells, Sem.run_pure, Result.ok.injEq] at hr ⊢
      exact ⟨hr.1, trivial⟩
    | some a => exact loadCellsFrom_drawn d _ _ _ _ hr

/-- what is appended, in the model -/
def AppIs (P : Program) (w : World) (e : TypeId) (sz : Nat) (zeros : Bool) (x : Value) (n : Nat) (vs : Array Value) : Prop := match zeros with
  | true => ∃ (kd : IntKind) (zv : Value), x = .int kd (Int.ofNat n) ∧ n ≤ 1000000 ∧ (∀ w, (zeroValue e).run P w = .ok zv w) ∧ vs = if n * sz = 0 then #[] else Builtin.zeroCells zv.cells n
  | false => (∀ w, (Builtin.lenOf x).run P w = .ok n w) ∧ ∀ d, (Builtin.firstCells sz n x).run P { w with drawn := d } = .ok vs { w with drawn := d }

theorem firstCells_str {s m b : Nat} (hb : b < 2 ^ (8 * m)) (w : World) : (Builtin.firstCells s m (.string (mkStr m b))).run P w = .ok (valsOf m b).toArray w := by
  have e1 : (mkStr m b).extract 0 m = mkStr (m - 0) (subB b 0 (m - 0)) := mkStr_extract (Nat.zero_le _) (Nat.le_refl _)
  have e2 : subB b 0 (m - 0) = b := by
    rw [subB_eq, Nat.sub_zero]; simp only [Nat.mul_zero, Nat.pow_zero, Nat.div_one]; exact Nat.mod_eq_of_lt hb
  rw [e2, Nat.sub_zero] at e1
  simp only [Builtin.firstCells, e1, strBytes]
  rfl

theorem appWhat_elim (H : HRel E ρ h nx w) {β : Type} {Q : β → Prop} {e : TypeId} {z : List AV} {x : AV} {v : Value} {sz : Nat} {d : β} {k : Nat → Ch → β} (hx : VRel E.σ ρ x v) (hz : zeroC P e = some z) (hzs : z.length = sz) (hsz : 1 ≤ sz) (hd : Q d)
    (hk : ∀ n c vs, AppIs P w e sz (isIntV x) v n vs → LRel E.σ ρ c.list vs.toList → ChOk c → vs.size = n * sz → Q (k n c)) : Q (appWhat sz z x h d k) := by
  have rest : isIntV x = false → (∀ m b, x ≠ .str m b) → Q (lenV x d fun n => firstC sz n x h d fun c => k n c) := by
    intro hi hns
    unfold lenV
    split
    · obtain rfl : v = .slice none 0 0 := by simpa only [VRel] using hx
      show Q (k 0 (.cells []))
      refine hk 0 (.cells []) #[] ?_ (by simp only [Ch.list, LRel]) trivial (by simp)
      exact ⟨fun _ => rfl, fun _ => rfl⟩
    · rename_i a off len s cap
      have hx0 := hx
      obtain ⟨b, N, o, c, hp, rfl, hok⟩ := hx.sl_inv
      refine firstC_elim (P := P) H hx0 hd (fun a off len' sz cap e => by cases e; exact Nat.le_refl _) (fun e => by cases e) fun c vs g1 g2 g3 => ?_
      exact hk _ c vs ⟨fun _ => rfl, fun d => firstCells_drawn d g1⟩ g2 g3 (run_loadCells_size g1)
    · exact absurd rfl (hns _ _)
    · exact hd
  unfold appWhat
  split
  · rename_i kd n
    split
    · rename_i hle
      have hle : n ≤ 1000000 := by simpa using hle
      simp only [fN_eq']
      obtain ⟨zv, hz1, hz2⟩ := zeroC_some hz
      have hv := hx.int_inv
      have hzl := (hz2 E.σ ρ).length
      rw [Array.length_toList] at hzl
      refine hk n (.cells (repl z n)) (if n * sz = 0 then #[] else Builtin.zeroCells zv.cells n) ⟨kd, zv, hv, hle, hz1, rfl⟩ ?_ trivial ?_
      · have := repl_rel (hz2 E.σ ρ) n
        split
        · rename_i h0
          have hn : n = 0 := by
            rcases Nat.mul_eq_zero.1 h0 with h | h
            · exact h
            · omega
          subst hn
          simp [Ch.list, repl, LRel]
        · rw [Builtin.zeroCells, zeros_eq zv.cells n _ rfl]
          exact this
      · split
        · rename_i h0; rw [h0]; rfl
        · have h3 : z.length = zv.cells.size := hzl
          simp [Builtin.zeroCells, ← h3, hzs]
    · exact hd
  · exact hd
  · rename_i m b
    obtain ⟨rfl, hb⟩ := hx.str_inv
    split
    · rename_i hs1
      have hs1 : sz = 1 := Nat.eq_of_beq_eq_true hs1
      refine hk m (.bytes m b) (valsOf m b).toArray ⟨fun w => by simp [Builtin.lenOf, mkStr_size], fun d => firstCells_str hb _⟩ (bytes_rel m b) hb (by simp [valsOf_length, hs1])
    · exact hd
  · rename_i h1 h2 h3
    refine rest ?_ fun m b e => absurd e (h3 m b)
    cases x <;> first | rfl | skip
    rename_i kd n
    cases n with
    | ofNat n => exact absurd rfl (h1 kd n)
    | negSucc n => exact absurd rfl (h2 kd n)

theorem intLike_some {t : TypeId} {b : Bool} (h : intLike P t b = true) : ∃ d, P.underlying t = some d ∧ (match d with | .int _ => true | _ => false) = b := by
  unfold intLike at h
  split at h
  · rename_i k hd; exact ⟨_, hd, by simpa using h.symm⟩
  · rename_i d hne hd
    refine ⟨d, hd, ?_⟩
    cases d <;> first | (simp at h; rw [h]; done) | skip
    exact absurd rfl (hne _)
  · cases h
theorem exact_eq {o : AObj} {O : Obj} {N : Nat} (ho : ObjRel E.σ ρ N o O) (hx : isExact o = true) : known o = N := by
  cases o <;> simp only [isExact] at hx <;> try (cases hx; done)
  · obtain ⟨cs, e, _, _, _, h4, _⟩ := ho; exact h4 hx
  · obtain ⟨cs, e, fr, _, _, _, _, h4, _⟩ := ho; exact h4 hx
theorem sl_capOf {off len sz N o c k : Nat} (hok : SlOk off len sz none N o c) (hs : 1 ≤ sz) (hk : k ≤ N) : (k - off) / sz ≤ c ∧ (k = N → (k - off) / sz = c) := by
  obtain ⟨_, _, _, _, h5⟩ := hok
  have h5 := h5 rfl
  have e : (N - off) / sz = c := by
    have : N - off = c * sz := by omega
    rw [this]; exact Nat.mul_div_cancel _ (by omega)
  refine ⟨?_, fun h => by rw [h]; exact e⟩
  rw [← e]
  exact Nat.div_le_div_right (by omega)
theorem fitCap_le {off len sz N o c : Nat} {cap : Option Nat} {obj : AObj} {O : Obj} (hok : SlOk off len sz cap N o c) (hs : 1 ≤ sz) (ho : ObjRel E.σ ρ N obj O) : fitCap cap obj off sz ≤ c ∧ ((cap.isSome || isExact obj) = true → fitCap cap obj off sz = c) := by
  cases cap with
  | some q => have := hok.2.2.2.1 q rfl; exact ⟨by simp only [fitCap]; omega, fun _ => by simp only [fitCap]; omega⟩
  | none =>
    obtain ⟨h1, h2⟩ := sl_capOf hok hs (known_le ho)
    refine ⟨h1, fun hx => h2 (exact_eq ho (by simpa using hx))⟩

theorem append_run {ts : Array TypeId} {ty t t2 e : TypeId} {args : Array Value} {i : TypeInfo} {base : Option Addr} {sLen sCap n : Nat} {x : Value} {vs : Array Value} {zeros : Bool} {d2 : TypeDesc} {zv : Value}
    (ht : ts[0]? = some t) (ht2 : ts[1]? = some t2) (h0 : args[0]? = some (.slice base sLen sCap)) (h1 : args[1]? = some x)
    (hd : P.underlying t = some (.slice e)) (hi : P.info? e = some i) (hd2 : P.underlying t2 = some d2) (hz : (match d2 with | .int _ => true | _ => false) = zeros)
    (ha : AppIs P w e i.size zeros x n vs) (hb1 : 1 ≤ i.bytes) (hb2 : i.bytes ≤ 10000) (hneed : sLen + n ≤ 1000000) (hzv : ∀ w, (zeroValue e).run P w = .ok zv w) :
    (sLen + n ≤ sCap → (Builtin.append_ ts ty args).run P w = ((match base with | some a => storeCells (a.add (sLen * i.size)) vs.toList | none => pure ()).run P w).andThen fun _ w' => .ok (.slice base (sLen + n) sCap) w') ∧
    (¬ sLen + n ≤ sCap → ∀ old, (Builtin.firstCells i.size sLen (.slice base sLen sCap)).run P w = .ok old w →
      ∃ c, sLen + n ≤ c ∧ (Builtin.append_ ts ty args).run P w = .ok (.slice (some ⟨w.heap.size, 0, none⟩) (sLen + n) c) ({ w with drawn := w.drawn + 1 }.alloc (.cells (old ++ vs ++ Builtin.zeroCells zv.cells (c - (sLen + n))) e (0, 0)))) := by
  have hs : szO P e = some i.size := by simp [szO, hi]
  have hold1 : ∀ {old : Array Value}, (Builtin.firstCells i.size sLen (.slice base sLen sCap)).run P w = .ok old w → (Builtin.firstCells i.size sLen (.slice base sLen sCap)).run P w.drew = .ok old w.drew := fun h => firstCells_drawn (w.drawn + 1) h
  have b1 : ¬ (IntKind.i64.max < ((sLen + n : Nat) : Int)) := by simp only [IntKind.max, IntKind.signed, IntKind.bits]; simp; omega
  have b2 : ¬ sLen + n ≤ sCap → ¬ (2 ^ 48 < Builtin.nextslicecap (sLen + n) sCap * i.bytes) := fun hle => by
    have h1 := nextcap_le (need := sLen + n) (old := sCap) hneed (by omega)
    have h2 : Builtin.nextslicecap (sLen + n) sCap * i.bytes ≤ 4000000 * 10000 := Nat.mul_le_mul h1 hb2
    omega
  have hask : ∀ (k : Nat) (w : World), (askRoom k).run P w = .ok () w := fun k w => by unfold askRoom; split <;> rfl
  cases zeros with
  | true =>
    obtain ⟨kd, zv', rfl, hn, hzv', hvs⟩ := ha
    have hd2' : ∃ k, d2 = .int k := by cases d2 <;> simp at hz; exact ⟨_, rfl⟩
    obtain ⟨k, rfl⟩ := hd2'
    have w1 := i64_wrap_nat hn
    have hbc : n * i.bytes ≤ 1000000 * 10000 := Nat.mul_le_mul hn hb2
    have t1 : ¬ ((2 : Int) ^ 48 < (n : Int) * (i.bytes : Int)) := by
      have : ((n * i.bytes : Nat) : Int) ≤ ((1000000 * 10000 : Nat) : Int) := Int.ofNat_le.2 hbc
      rw [Int.natCast_mul] at this
      omega
    have t2 : ¬ ((n : Int) < 0) := by omega
    have happ : ∀ w : World, (if n * i.size = 0 then (pure #[] : Sem (Array Value)) else do pure (Builtin.zeroCells (← zeroValue e).cells n)).run P w = .ok vs w := by
      intro w; rw [hvs]; split <;> simp [hzv']
    refine ⟨fun hle => ?_, fun hle old hold => ?_⟩
    · simp only [Builtin.append_, ht, ht2, h0, h1, Sem.run_bind, run_underlying hd, run_underlying hd2, run_sizeOf' hs, run_typeInfo' hi, Result.andThen_ok, Sem.run_pure, asInt, asIntOf, Int.ofNat_eq_natCast, w1,
        if_true, t1, t2, gt_iff_lt, if_false, Int.toNat_natCast, hle, Bool.not_true, Bool.false_eq_true, happ]
      cases base <;> first | rfl | simp only [Sem.run_bind, Sem.run_pure]
    · obtain ⟨c, hc, hch⟩ := run_choose_cap P (sLen + n) sCap e w
      refine ⟨c, hc, ?_⟩
      have b2 := b2 hle
      simp only [Builtin.append_, ht, ht2, h0, h1, Sem.run_bind, run_underlying hd, run_underlying hd2, run_sizeOf' hs, run_typeInfo' hi, Result.andThen_ok, Sem.run_pure, asInt, asIntOf, Int.ofNat_eq_natCast, w1,
        if_true, t1, t2, gt_iff_lt, if_false, Int.toNat_natCast, hle, Bool.not_true, Bool.false_eq_true, happ, b1, b2, false_and, hch, hask, hold1 hold, hzv, run_newRow]
      rfl
  | false =>
    obtain ⟨hn, hv⟩ := ha
    have hd2' : ∀ k, d2 ≠ .int k := by intro k e; subst e; simp at hz
    have hn0 := hn w
    have hv0 : (Builtin.firstCells i.size n x).run P w = .ok vs w := hv w.drawn
    have hv1 : (Builtin.firstCells i.size n x).run P w.drew = .ok vs w.drew := hv (w.drawn + 1)
    refine ⟨fun hle => ?_, fun hle old hold => ?_⟩
    · have key : (Builtin.append_ ts ty args).run P w = ((Builtin.firstCells i.size n x).run P w).andThen fun new w => ((match base with | some a => storeCells (a.add (sLen * i.size)) new.toList | none => pure ()).run P w).andThen fun _ w' => .ok (.slice base (sLen + n) sCap) w' := by
        cases d2 <;> first | exact absurd rfl (hd2' _) | (simp only [Builtin.append_, ht, ht2, h0, h1, Sem.run_bind, run_underlying hd, run_underlying hd2, run_sizeOf' hs, Result.andThen_ok, Sem.run_pure, hn0, Bool.false_eq_true, if_false, Bool.not_false, if_true, hle]; cases base <;> first | rfl | simp only [Sem.run_bind, Sem.run_pure])
      rw [key, hv0]; rfl
    · obtain ⟨c, hc, hch⟩ := run_choose_cap P (sLen + n) sCap e w
      refine ⟨c, hc, ?_⟩
      have b2 := b2 hle
      have b3 : ¬ (i.bytes = 0) := by omega
      cases d2 <;> first | exact absurd rfl (hd2' _) | (simp only [Builtin.append_, ht, ht2, h0, h1, Sem.run_bind, run_underlying hd, run_underlying hd2, run_sizeOf' hs, run_typeInfo' hi, Result.andThen_ok, Sem.run_pure, hn0, Bool.false_eq_true, if_false, Bool.not_false, if_true, hle,
        b1, b2, b3, gt_iff_lt, false_and, hch, hask, hold1 hold, hv1, hzv, run_newRow]; rfl)

theorem chOk_cat {a b : Ch} (ha : ChOk a) (hb : ChOk b) : ChOk (catCh a b) := by
  unfold catCh
  split
  · simp only [ChOk] at ha hb ⊢; exact catB_lt ha hb
  · trivial
theorem list_cat {a b : Ch} (ha : ChOk a) : (catCh a b).list = a.list ++ b.list := by
  unfold catCh
  split
  · rename_i n x m y
    simp only [Ch.list, ChOk] at ha ⊢
    apply List.ext_getElem?
    intro i
    by_cases hi : i < n + m
    · rw [cellsOfBytes_get hi, byteAt_cat ha]
      by_cases h : i < n
      · rw [if_pos h, List.getElem?_append_left (by rw [cellsOfBytes_length]; exact h), cellsOfBytes_get h]
      · rw [if_neg h, List.getElem?_append_right (by rw [cellsOfBytes_length]; omega), cellsOfBytes_length, cellsOfBytes_get (by omega)]
    · rw [List.getElem?_eq_none (by rw [cellsOfBytes_length]; omega), List.getElem?_eq_none (by simp [cellsOfBytes_length]; omega)]
  · rfl

/-- a new block is laid for what is appended -/
theorem appNew_ok (H : HRel E ρ h nx w) {byte : Bool} {e : TypeId} {sz need c dn : Nat} {ch : Ch} {s : Sem Value} {vs rest : Array Value} (hr : s.run P w = .ok (.slice (some ⟨w.heap.size, 0, none⟩) need c) ({ w with drawn := dn }.alloc (.cells (vs ++ rest) e (0, 0))))
    (hl : LRel E.σ ρ ch.list vs.toList) (hco : ChOk ch) (hv : vs.size = need * sz) (hrs : rest.size = (c - need) * sz) (hc : need ≤ c) : Good E P ρ nx w s (appNew byte sz need ch h nx) := by
  unfold appNew
  simp only [fN_eq']
  refine mkObj_elim (E := E) hco fun o ho => ?_
  rw [newO_eq]
  have hN : vs.size + rest.size = c * sz := by rw [hv, hrs, ← Nat.add_mul]; congr 1; omega
  have hobj := ho ρ vs rest e hl (fun h => by cases h)
  rw [hN] at hobj
  refine GoodA.good H ?_
  refine goodA_val (n := dn) hr hobj rfl fun ρ' a _ hp => ?_
  simp only [reId, VRel]; exact ⟨_, _, _, _, hp, rfl, SlOk.new hc⟩

theorem mkObj_id {β : Type} {byte x : Bool} {c : Ch} {k : AObj → β} : mkObj byte x c k = k (mkObj byte x c id) := by
  unfold mkObj
  split
  · rfl
  · split
    · simp only [fN_eq']; rfl
    · simp only [fN_eq', ofListK_eq]; rfl
theorem mkObj_ro {byte x : Bool} {c : Ch} : (mkObj byte x c id).isRo = false := by
  unfold mkObj
  split
  · rfl
  · split
    · simp only [fN_eq']; rfl
    · simp only [fN_eq', ofListK_eq]; rfl
def AObj.isBytes : AObj → Bool | .bytes .. => true | _ => false
def AObj.isCells : AObj → Bool | .cells .. => true | _ => false
theorem mkObj_bytes {obj : AObj} {byte : Bool} {c : Ch} (ha : appBoth obj byte c = true) (hb : obj.isBytes = true) : (mkObj byte false c id).isBytes = true := by
  cases obj <;> simp only [AObj.isBytes] at hb <;> try (cases hb; done)
  cases c with
  | bytes n b => rfl
  | cells l =>
    simp only [appBoth, Bool.and_eq_true] at ha
    obtain ⟨rfl, h2⟩ := ha
    unfold mkObj
    simp only []
    cases hp : packV l with
    | none => rw [hp] at h2; cases h2
    | some b => simp only [fN_eq']; rfl
theorem both_one {obj : AObj} {byte : Bool} {c : Ch} {vs : Array Value} (ha : appBoth obj byte c = true) (hl : LRel E.σ ρ c.list vs.toList) : ∀ v ∈ vs.toList, v.oneCell' = true := by
  have bytes : ∀ n b, c.list = cellsOfBytes n b → ∀ v ∈ vs.toList, v.oneCell' = true := by
    intro n b e v hv
    rw [e] at hl
    have := bytes_rel_inv hl
    rw [this] at hv
    simp only [valsOf, List.mem_map] at hv
    obtain ⟨x, _, rfl⟩ := hv
    rfl
  have cells : ∀ l : List AV, c.list = l → (∀ a ∈ l, a.isOne = true) → ∀ v ∈ vs.toList, v.oneCell' = true := by
    intro l e h v hv
    rw [e] at hl
    obtain ⟨i, hi⟩ := List.mem_iff_getElem?.1 hv
    have hlen := hl.length
    have hil : i < l.length := by rw [hlen]; exact (List.getElem?_eq_some_iff.1 hi).1
    obtain ⟨v', h1, h2⟩ := LRel.get i hl (a := l[i]) (by simp [hil])
    rw [h1] at hi; cases hi
    exact VRel.isOne (h _ (by simp)) h2
  cases obj <;> cases c <;> simp only [appBoth, Bool.false_eq_true] at ha
  · exact bytes _ _ rfl
  · exact cells _ rfl fun a h => List.all_eq_true.1 ha a h
  · exact bytes _ _ rfl
  · rename_i l
    simp only [Bool.and_eq_true] at ha
    cases hp : packV l with
    | none => rw [hp] at ha; cases ha.2
    | some b => exact bytes _ _ (packV_ok hp).2.symm

/-- what is appended fits where it is: the block goes on under another number -/
theorem append_both (H : HRel E ρ h nx w) {a b N o c len n sz : Nat} {obj : AObj} {cs : Array Value} {el : TypeId} {fr : Nat × Nat} {och l : Ch} {ovs vs : Array Value} {s : Sem Value} {byte : Bool}
    (hg : h.get a = some obj) (hro : obj.isRo = false) (hp : ρ a = some (b, N)) (hO : w.heap[b]? = some (.cells cs el fr)) (hfr : ∀ i, i < cs.size → ¬ (fr.1 ≤ i ∧ i < fr.2)) (hcsz : cs.size = N) (ho : ObjRel E.σ ρ N obj (.cells cs el fr))
    (ho0 : o = 0 ∨ c = 0) (hN : c * sz = N) (hfit : len + n ≤ c) (hvs : vs.size = n * sz) (hcl : LRel E.σ ρ (catCh och l).list (ovs ++ vs).toList) (hcs : (ovs ++ vs).size = (len + n) * sz) (hco : ChOk (catCh och l)) (hamb : appBoth obj byte (catCh och l) = true)
    (hold : (Builtin.firstCells sz len (.slice (some ⟨b, o, none⟩) len c)).run P w = .ok ovs w) (hos : ovs.size = len * sz)
    (hr : s.run P w = ((match some (⟨b, o, none⟩ : Addr) with | some a => storeCells (a.add (len * sz)) vs.toList | none => pure ()).run P w).andThen fun _ w' => .ok (.slice (some ⟨b, o, none⟩) (len + n) c) w') :
    Good E P ρ nx w s (appNew byte sz (len + n) (catCh och l) (h.set none a) nx) := by
  have hle : (len + n) * sz ≤ N := by rw [← hN]; exact Nat.mul_le_mul_right _ hfit
  have hle' : len * sz + n * sz ≤ N := by rw [← Nat.add_mul]; exact hle
  have hone := both_one hamb hcl
  obtain ⟨w', cs', g1, g2, g3, g4, g5, g6, g7⟩ := run_storeCells_row (P := P) (b := b) (o := len * sz) (e := el) (fr := fr) vs.toList 0 cs w hO (by rw [Array.length_toList, hvs, hcsz]; omega) hfr (fun v hv => hone v (by rw [Array.toList_append]; exact List.mem_append_right _ hv))
  have hst : s.run P w = .ok (.slice (some ⟨b, o, none⟩) (len + n) c) w' := by
    rw [hr]
    simp only [addr_add]
    rcases ho0 with rfl | hc0
    · rw [Nat.zero_add]
      have g1' : (storeCells ⟨b, len * sz, none⟩ vs.toList).run P w = .ok () w' := g1
      rw [g1']; rfl
    · have hn0 : n = 0 := by omega
      have hv0 : vs = #[] := Array.eq_empty_of_size_eq_zero (by rw [hvs, hn0, Nat.zero_mul])
      subst hv0
      simp only [storeCells, Sem.run_pure, Result.ok.injEq] at g1 ⊢
      obtain ⟨_, rfl⟩ := g1
      rfl
  -- the old cells
  have hovs : ∀ i, i < len * sz → ovs[i]? = cs[i]? := by
    intro i hi
    rcases ho0 with rfl | hc0
    · have h1 := run_loadCells_list (P := P) w ⟨b, 0, none⟩ (cs.toList.take (len * sz)) (fun j v hv => by
        rw [addr_add, cell?_of hO, Nat.zero_add]
        rw [List.getElem?_take] at hv
        split at hv
        · simpa using hv
        · cases hv)
      have hlen : (cs.toList.take (len * sz)).length = len * sz := by rw [List.length_take, Array.length_toList, hcsz]; omega
      rw [hlen] at h1
      have h2 : (loadCells ⟨b, 0, none⟩ (len * sz)).run P w = .ok ovs w := hold
      rw [h1] at h2
      simp only [Result.ok.injEq] at h2
      rw [← h2.1]
      simp [List.getElem?_take, hi]
    · have : len = 0 := by omega
      rw [this, Nat.zero_mul] at hi; omega
  have hcs' : cs' = (ovs ++ vs) ++ cs'.extract ((len + n) * sz) N := by
    apply Array.ext_getElem?
    intro i
    have hsz' : cs'.size = N := by rw [g6, hcsz]
    by_cases h1 : i < (len + n) * sz
    · rw [Array.getElem?_append_left (by rw [hcs]; exact h1), g7 i]
      by_cases h2 : i < len * sz
      · rw [if_neg (by omega), Array.getElem?_append_left (by rw [hos]; exact h2), hovs i h2]
      · rw [Nat.add_mul] at h1
        rw [if_pos (by rw [Array.length_toList, hvs]; omega), Array.getElem?_append_right (by rw [hos]; omega), hos]
        simp
    · rw [Array.getElem?_append_right (by rw [hcs]; omega), hcs, Array.getElem?_extract]
      by_cases h2 : i < N
      · rw [if_pos (by rw [hsz']; omega)]
        congr 1; omega
      · rw [if_neg (by rw [hsz']; omega), Array.getElem?_eq_none (by omega)]
  -- the object
  have hobj0 : ∀ (ρ : Rho) (vs rest : Array Value) (e : TypeId), LRel E.σ ρ (catCh och l).list vs.toList → ObjRel E.σ ρ (vs.size + rest.size) (mkObj byte false (catCh och l) id) (.cells (vs ++ rest) e (0, 0)) :=
    mkObj_elim (E := E) (byte := byte) (x := false) (c := catCh och l) (k := id) (Q := fun o => ∀ (ρ : Rho) (vs rest : Array Value) (e : TypeId), LRel E.σ ρ (catCh och l).list vs.toList → ObjRel E.σ ρ (vs.size + rest.size) o (.cells (vs ++ rest) e (0, 0))) hco
      fun o ho ρ vs rest e hl => ho ρ vs rest e hl (fun h => by cases h)
  have hobj1 := hobj0 ρ (ovs ++ vs) (cs'.extract ((len + n) * sz) N) el hcl
  rw [← hcs'] at hobj1
  have hsz : (ovs ++ vs).size + (cs'.extract ((len + n) * sz) N).size = N := by
    rw [hcs, Array.size_extract, g6, hcsz]; omega
  rw [hsz] at hobj1
  have hobj : ObjRel E.σ ρ N (mkObj byte false (catCh och l) id) (.cells cs' el fr) := by
    have hkind : obj.isCells = true ∨ obj.isBytes = true := by
      cases obj <;> first | exact .inl rfl | exact .inr rfl | (simp [appBoth] at hamb)
    rcases hkind with hk | hk
    · cases obj <;> simp only [AObj.isCells] at hk <;> try (cases hk; done)
      obtain ⟨cs2, e2, q1, _⟩ := ho
      cases q1
      exact hobj1
    · have hb := mkObj_bytes hamb hk
      cases obj <;> simp only [AObj.isBytes] at hk <;> try (cases hk; done)
      obtain ⟨cs2, e2, fr2, q1, q2, _⟩ := ho
      cases q1
      generalize mkObj byte false (catCh och l) id = ob at hobj1 hb
      cases ob <;> simp only [AObj.isBytes] at hb <;> try (cases hb; done)
      obtain ⟨cs3, e3, fr3, p1, p2, p3, p4, p5, p6⟩ := hobj1
      cases p1
      exact ⟨cs', el, fr, rfl, q2, p3, p4, p5, p6⟩
  have H1 : HRel E ρ (h.set (some (mkObj byte false (catCh och l) id)) a) nx w' := H.update hg hro hp hobj g2 g3 g4 g5
  have hro' : (mkObj byte false (catCh och l) id).isRo = false := mkObj_ro
  obtain ⟨H2, X2⟩ := H1.rename (a := a) (by rw [Tr.get_set, if_pos rfl]) hro' hp
  unfold appNew
  simp only [fN_eq']
  rw [mkObj_id, newO_eq]
  refine ⟨.slice (some ⟨b, o, none⟩) (len + n) c, w', _, hst, H2.congr fun y => ?_, X2, ?_⟩
  · rw [Tr.get_set, Tr.get_set, Tr.get_set, Tr.get_set]
    by_cases e1 : y = nx
    · rw [if_pos e1, if_pos e1]
    · rw [if_neg e1, if_neg e1]
      by_cases e2 : y = a
      · rw [if_pos e2, if_pos e2]
      · rw [if_neg e2, if_neg e2, Tr.get_set, if_neg e2]
  · simp only [VRel]
    refine ⟨b, N, o, c, Rho.set_same _ _ _, rfl, hfit, ?_, by omega, by simp, fun _ => by omega⟩
    exact ho0

theorem opAppend_ok (H : HRel E ρ h nx w) {ts : Array TypeId} {args : Array Value} {ty t t2 : TypeId} {sa xa : AV} {sv xv : Value} (ht : ts[0]? = some t) (ht2 : ts[1]? = some t2) (h0 : args[0]? = some sv) (h1 : args[1]? = some xv)
    (hs : VRel E.σ ρ sa sv) (hx : VRel E.σ ρ xa xv) : Good E P ρ nx w (Builtin.append_ ts ty args) (opAppend P t t2 sa xa h nx) := by
  unfold opAppend
  split
  · rename_i e he
    have hd := elemSl_some he
    split
    · rename_i sz z bytes hsz hz hby
      split
      · exact good_bad
      · rename_i hcond
        simp only [Bool.and_eq_true, Nat.ble_eq, Nat.beq_eq] at hcond
        obtain ⟨⟨⟨⟨hil, hb1⟩, hb2⟩, hs1⟩, hzl⟩ := hcond
        have hb1 : 1 ≤ bytes := hb1
        have hb2 : bytes ≤ 10000 := hb2
        have hs1 : 1 ≤ sz := hs1
        have hzl : z.length = sz := hzl
        obtain ⟨d2, hd2, hd2z⟩ := intLike_some hil
        obtain ⟨i, hi, hisz⟩ := szO_some hsz
        have hbe : i.bytes = bytes := by rw [hi] at hby; simpa using hby
        obtain ⟨zv, hz1, hz2⟩ := zeroC_some hz
        have hzvs : zv.cells.size = sz := by rw [← Array.length_toList, ← hzl]; exact (hz2 E.σ ρ).length.symm
        subst hisz
        refine appWhat_elim (P := P) H hx hz hzl hs1 good_bad fun n l vs hap hlr hco hvs => ?_
        split
        · obtain rfl : sv = .slice none 0 0 := by simpa only [VRel] using hs
          split
          · exact good_bad
          · rename_i hn
            have hn : n ≤ 1000000 := by simpa using hn
            obtain ⟨r1, r2⟩ := append_run (w := w) (ty := ty) ht ht2 h0 h1 hd hi hd2 hd2z hap (by omega) (by omega) (by omega) hz1
            split
            · refine ⟨.slice none 0 0, w, ρ, ?_, H, Ext.refl _ _, by simp only [VRel]⟩
              rw [r1 (by omega)]; rfl
            · rename_i n' hn0
              have hn0 : n ≠ 0 := fun e => hn0 e
              obtain ⟨c, hc, hr⟩ := r2 (by omega) #[] rfl
              rw [Nat.zero_add] at hc hr
              rw [Array.empty_append] at hr
              exact appNew_ok H hr hlr hco hvs (by simp [Builtin.zeroCells, hzvs]) hc
        · rename_i a off len s' cap
          obtain ⟨b, N, o, c, hp, rfl, hok⟩ := hs.sl_inv
          split
          · exact good_bad
          · rename_i hc2
            simp only [Bool.and_eq_true, Nat.ble_eq, Nat.beq_eq] at hc2
            have hss : s' = i.size := hc2.1
            have hneed : len + n ≤ 1000000 := hc2.2
            subst hss
            refine onObj_elim good_bad fun obj hg => ?_
            obtain ⟨O, hO, ho⟩ := H.obj a obj b N hg hp
            obtain ⟨r1, r2⟩ := append_run (w := w) (ty := ty) ht ht2 h0 h1 hd hi hd2 hd2z hap (by omega) (by omega) hneed hz1
            have hkN := known_le ho
            obtain ⟨k1, k2, k3, k4, k5⟩ := hok
            have hfc := fitCap_le (cap := cap) (obj := obj) (off := off) (len := len) (o := o) (sz := i.size) ⟨k1, k2, k3, k4, k5⟩ hs1 ho
            split
            · rename_i hle
              have hle : len + n ≤ fitCap cap obj off i.size := by simpa using hle
              have hle : len + n ≤ c := by omega
              have hrun := r1 hle
              refine writeCh_elim (P := P) H hg hp hlr hco good_bad fun o' hw => ?_
              obtain ⟨w', h5, H5⟩ := hw
              simp only [setK_eq', fN_eq']
              refine ⟨.slice (some ⟨b, o, none⟩) (len + n) c, w', ρ, ?_, H5, Ext.refl _ _, ?_⟩
              · rw [hrun]
                simp only [addr_add]
                rcases k2 with rfl | hc0
                · have h5' : (storeCells ⟨b, o + len * i.size, none⟩ vs.toList).run P w = .ok () w' := h5
                  rw [h5']; rfl
                · have hv0 : vs = #[] := by
                    apply Array.eq_empty_of_size_eq_zero; rw [hvs]
                    have : n = 0 := by omega
                    rw [this, Nat.zero_mul]
                  subst hv0
                  simp only [storeCells, Sem.run_pure, Result.ok.injEq] at h5 ⊢
                  obtain ⟨_, rfl⟩ := h5
                  rfl
              · simp only [VRel]
                exact ⟨b, N, o, c, hp, rfl, hle, k2, k3, k4, k5⟩
            · rename_i hle
              have hold : ∀ {Q : OR → Prop}, True := fun {Q} => trivial
              refine firstC_elim (P := P) H (n := len) (s := i.size) hs good_bad (fun a off len' sz cap e => by cases e; exact Nat.le_refl _) (fun e => by cases e) fun och ovs g1 g2 g3 => ?_
              have hos : ovs.size = len * i.size := run_loadCells_size g1
              have hcl : LRel E.σ ρ (catCh och l).list (ovs ++ vs).toList := by rw [list_cat g3, Array.toList_append]; exact g2.append hlr
              have hcs : (ovs ++ vs).size = (len + n) * i.size := by rw [Array.size_append, hos, hvs, Nat.add_mul]
              have new : ∀ {h' : Tr AObj}, HRel E ρ h' nx w → ¬ len + n ≤ c → Good E P ρ nx w (Builtin.append_ ts ty args) (appNew (isByte P e) i.size (len + n) (catCh och l) h' nx) := by
                intro h' H' hgt
                obtain ⟨c', hc', hr⟩ := r2 hgt ovs g1
                exact appNew_ok H' hr hcl (chOk_cat g3 hco) hcs (by simp [Builtin.zeroCells, hzvs]) hc'
              split
              · rename_i hex
                refine new H ?_
                intro hle'
                have h2 := hfc.2 hex
                rw [show Nat.ble (len + n) (fitCap cap obj off i.size) = true by simp; omega] at hle
                cases hle
              · rename_i hex
                split
                · rename_i hamb
                  simp only [setK_eq']
                  by_cases hfit : len + n ≤ c
                  · -- it fits where it is: the block goes on under another number
                    have hcap : cap = none := by
                      cases cap with
                      | none => rfl
                      | some q => simp at hex
                    subst hcap
                    have hN := k5 rfl
                    rw [Nat.zero_add] at hN
                    have hro : obj.isRo = false := by cases obj <;> first | rfl | (simp [appBoth] at hamb)
                    obtain ⟨cs, el, fr, rfl, hfr, hcsz⟩ : ∃ (cs : Array Value) (el : TypeId) (fr : Nat × Nat), O = .cells cs el fr ∧ (∀ i, i < cs.size → ¬ (fr.1 ≤ i ∧ i < fr.2)) ∧ cs.size = N := by
                      cases obj <;> try (simp [appBoth] at hamb; done)
                      · obtain ⟨cs, el, rfl, q1, _⟩ := ho
                        exact ⟨cs, el, (0, 0), rfl, fun i _ => by simp, q1⟩
                      · obtain ⟨cs, el, fr, rfl, q0, q1, _⟩ := ho
                        refine ⟨cs, el, fr, rfl, fun i hi => ?_, q1⟩
                        rcases q0 with rfl | rfl
                        · simp
                        · simp; omega
                    have ho0 : o = 0 ∨ c = 0 := k2
                    exact append_both H hg hro hp hO hfr hcsz ho ho0 hN hfit hvs hcl hcs (chOk_cat g3 hco) hamb g1 hos (r1 hfit)
                  · exact new (H.drop a) hfit
                · exact good_bad
        · exact good_bad
    · exact good_bad
  · exact good_bad
end Go.Sx

/- The operations, part 16: capacities, clearing, functions without a body. -/
namespace Go.Sx
open Go.MapKept
variable {E : Env} {P : Program} {ρ : Rho} {h : Tr AObj} {nx : Nat} {w : World}

theorem repUnk_get (t : Tr AV) (n : Nat) : ∀ (k i : Nat), (opCap.repUnk t n k).get i = if n ≤ i ∧ i < n + k then some .unk else t.get i
  | 0, i => by simp only [opCap.repUnk]; rw [if_neg (by omega)]
  | k + 1, i => by
    simp only [opCap.repUnk]
    rw [Tr.get_set, repUnk_get t n k i]
    by_cases h1 : i = n + k
    · rw [if_pos h1, if_pos (by omega)]
    · rw [if_neg h1]
      by_cases h2 : n ≤ i ∧ i < n + k
      · rw [if_pos h2, if_pos (by omega)]
      · rw [if_neg h2, if_neg (by omega)]

/-- an object is known otherwise -/
theorem HRel.know (H : HRel E ρ h nx w) {a b N : Nat} {o o' : AObj} {O : Obj} (hg : h.get a = some o) (hr : o.isRo = false) (hp : ρ a = some (b, N)) (hO : w.heap[b]? = some O) (ho : ObjRel E.σ ρ N o' O) : HRel E ρ (h.set (some o') a) nx w :=
  H.update hg hr hp ho (by
    apply Array.ext_getElem?
    intro i
    rw [Array.getElem?_setIfInBounds]
    split
    · rename_i e; subst e; rw [hO, if_pos (Array.getElem?_eq_some_iff.1 hO).1]
    · rfl) rfl rfl rfl

theorem opCap_ok (H : HRel E ρ h nx w) {ts : Array TypeId} {args : Array Value} {ty t : TypeId} {xa : AV} {xv : Value} (ht : ts[0]? = some t) (h0 : args[0]? = some xv) (hx : VRel E.σ ρ xa xv) :
    Good E P ρ nx w (Builtin.cap_ ts ty args) (opCap P t xa h nx) := by
  have fin : ∀ (e : TypeId) (a : Option Addr) (l c : Nat), P.underlying t = some (.slice e) → xv = .slice a l c → (Builtin.cap_ ts ty args).run P w = .ok (goInt c) w := by
    intro e a l c hd hv
    subst hv
    simp [Builtin.cap_, ht, h0, run_underlying hd]
  unfold opCap
  split
  · rename_i e hd
    obtain rfl : xv = .slice none 0 0 := by simpa only [VRel] using hx
    exact ⟨goInt 0, w, ρ, fin e _ _ _ hd rfl, H, Ext.refl _ _, goInt_rel 0⟩
  · rename_i e a off len sz c hd
    obtain ⟨b, N, o, c', hp, rfl, hok⟩ := hx.sl_inv
    have hc : c' = c := hok.2.2.2.1 c rfl
    exact ⟨goInt c', w, ρ, fin e _ _ _ hd rfl, H, Ext.refl _ _, by rw [hc]; exact goInt_rel c⟩
  · rename_i e a off len sz hd
    obtain ⟨b, N, o, c', hp, rfl, hok⟩ := hx.sl_inv
    refine onObj_elim good_bad fun obj hg => ?_
    obtain ⟨O, hO, ho⟩ := H.obj a obj b N hg hp
    have hrun := fin e _ _ _ hd rfl
    cases hsz : szO P e with
    | none => exact good_bad
    | some s =>
      simp only []
      split
      · exact good_bad
      · rename_i hcond
        simp only [Bool.and_eq_true, Nat.ble_eq, Nat.beq_eq] at hcond
        obtain ⟨⟨⟨h1, h2⟩, h3⟩, h4⟩ := hcond
        have h1 : s = sz := h1
        have h3 : (known obj - off) % sz = 0 := h3
        have h4 : off + len * sz ≤ known obj := h4
        have hkN := known_le ho
        obtain ⟨g1, g2⟩ := sl_capOf hok h2 hkN
        have h5 := hok.2.2.2.2 rfl
        simp only [fN_eq']
        cases hex : isExact obj with
        | true =>
          simp only []
          have := g2 (exact_eq ho hex)
          refine ⟨goInt c', w, ρ, hrun, H, Ext.refl _ _, ?_⟩
          have e2 : capOf obj off sz = c' := this
          rw [e2]; exact goInt_rel c'
        | false =>
          cases obj with
          | cells x n tt =>
            simp only [setK_eq']
            have hkn : known (AObj.cells x n tt) = n := rfl
            rw [hkn] at h3 h4 hkN g1 g2
            obtain ⟨cs, el, rfl, q1, q2, q3, q4⟩ := ho
            have hdiv : (n - off) / sz * sz = n - off := Nat.div_mul_cancel (Nat.dvd_of_mod_eq_zero h3)
            by_cases hnN : n = N
            · refine ⟨_, List.mem_cons_self, ?_⟩
              refine ⟨goInt c', w, ρ, hrun, H.know hg rfl hp hO ⟨cs, el, rfl, q1, q2, fun _ => hnN, q4⟩, Ext.refl _ _, ?_⟩
              have e2 : capOf (AObj.cells x n tt) off sz = c' := g2 hnN
              rw [e2]; exact goInt_rel c'
            · refine ⟨_, List.mem_cons_of_mem _ List.mem_cons_self, ?_⟩
              have hlt : (n - off) / sz < c' := by
                rcases Nat.lt_or_ge ((n - off) / sz) c' with h | h
                · exact h
                · exfalso
                  have : (n - off) / sz = c' := Nat.le_antisymm g1 h
                  rw [this] at hdiv
                  omega
              have hle : n + sz ≤ N := by
                have : ((n - off) / sz + 1) * sz ≤ c' * sz := Nat.mul_le_mul_right _ hlt
                rw [Nat.succ_mul, hdiv] at this
                omega
              refine ⟨goInt c', w, ρ, hrun, H.know hg rfl hp hO ⟨cs, el, rfl, q1, hle, (fun h => by cases h), fun i v hi hv => ?_⟩, Ext.refl _ _, ?_⟩
              · rw [repUnk_get]
                by_cases h : n ≤ i ∧ i < n + sz
                · rw [if_pos h]; simp [orOne, VRel]
                · rw [if_neg h]; exact q4 i v (by omega) hv
              · simp only [VRel, goInt]
                refine ⟨(c' : Int), ?_, rfl⟩
                have : capOf (AObj.cells x n tt) off sz = (n - off) / sz := rfl
                rw [this]; omega
          | bytes => exact good_bad
          | ro => exact good_bad
          | map => exact good_bad
          | strIter => exact good_bad
          | mapIter => exact good_bad
          | loop => exact good_bad
          | defd => exact good_bad
  · exact good_bad

theorem opClear_ok (H : HRel E ρ h nx w) {ts : Array TypeId} {args : Array Value} {ty t : TypeId} {xa : AV} {xv : Value} (ht : ts[0]? = some t) (h0 : args[0]? = some xv) (hx : VRel E.σ ρ xa xv) :
    Good E P ρ nx w (Builtin.clear_ ts ty args) (opClear P t xa h nx) := by
  have unit : ∀ (d : TypeDesc), P.underlying t = some d → (∀ c, (xv = .map none ∨ xv = .slice none 0 0 ∨ ∃ a, xv = .slice a 0 c) → (Builtin.clear_ ts ty args).run P w = .ok (.tuple #[]) w) := by
    intro d hd c hv
    rcases hv with rfl | rfl | ⟨a, rfl⟩
    · cases d <;> simp [Builtin.clear_, ht, h0, run_underlying hd]
    · cases d <;> simp [Builtin.clear_, ht, h0, run_underlying hd]
    · cases a <;> cases d <;> simp [Builtin.clear_, ht, h0, run_underlying hd]
  have tup : VRel E.σ ρ (.tup []) (.tuple #[]) := by simp only [VRel, LRel]; exact ⟨_, rfl, rfl⟩
  unfold opClear
  split
  · rename_i d hd
    exact ⟨.tuple #[], w, ρ, unit d hd 0 (.inl (by simpa only [VRel] using hx)), H, Ext.refl _ _, tup⟩
  · rename_i d hd
    exact ⟨.tuple #[], w, ρ, unit d hd 0 (.inr (.inl (by simpa only [VRel] using hx))), H, Ext.refl _ _, tup⟩
  · rename_i d a hd
    refine onObj_elim good_bad fun o hg => ?_
    split
    · rename_i es clock
      simp only [setK_eq']
      exact opClear_map H ht h0 hx a es clock d rfl hd hg
    · exact good_bad
  · rename_i e a off n sz cap hd
    obtain ⟨b, N, o, c, hp, rfl, hok⟩ := hx.sl_inv
    cases n with
    | zero => exact ⟨.tuple #[], w, ρ, unit _ hd c (.inr (.inr ⟨_, rfl⟩)), H, Ext.refl _ _, tup⟩
    | succ n =>
      cases hz : zeroC P e with
      | none => exact good_bad
      | some z =>
        cases hs : szO P e with
        | none => exact good_bad
        | some s =>
          simp only []
          split
          · refine onObj_elim good_bad fun obj hg => ?_
            refine writeCells_elim good_bad fun o' hcs => ?_
            simp only [setK_eq']
            obtain ⟨zv, hz1, hz2⟩ := zeroC_some hz
            have ho : o = off := by
              have h1 := hok.1; have h2 := hok.2.1
              omega
            subst ho
            have hrel : LRel E.σ ρ (repl z (n + 1)) (Builtin.zeroCells zv.cells (n + 1)).toList := by
              rw [Builtin.zeroCells, zeros_eq zv.cells (n + 1) _ rfl]; exact repl_rel (hz2 E.σ ρ) (n + 1)
            obtain ⟨w', h5, H5⟩ := storeCells_ok (P := P) a b N o hp (repl z (n + 1)) _ 0 h w obj o' H hg hcs hrel
            refine ⟨.tuple #[], w', ρ, ?_, H5, Ext.refl _ _, tup⟩
            simp [Builtin.clear_, ht, h0, run_underlying hd, hz1, h5]
          · exact good_bad
  · exact good_bad
end Go.Sx

/- The operations, part 17: functions without a body. -/
namespace Go.Sx
open Go.MapKept
variable {E : Env} {P : Program} {ρ : Rho} {h : Tr AObj} {nx : Nat} {w : World}

theorem cmp_less : ∀ (a b : List UInt8), Lib.compareBytes a b = if Op.bytesLess a b then -1 else if a = b then 0 else 1
  | [], [] => by simp [Lib.compareBytes, Op.bytesLess]
  | [], b :: l => by simp [Lib.compareBytes, Op.bytesLess]
  | a :: l, [] => by simp [Lib.compareBytes, Op.bytesLess]
  | a :: l, b :: m => by
    simp only [Lib.compareBytes, Op.bytesLess, cmp_less l m]
    by_cases h1 : a < b
    · simp [h1]
    · by_cases h2 : b < a
      · have : a ≠ b := fun e => by subst e; exact h1 h2
        simp [h1, h2, this]
      · have : a = b := UInt8.le_antisymm (UInt8.not_lt.1 h2) (UInt8.not_lt.1 h1)
        subst this
        simp [h1]
theorem opCmpStr_ok (H : HRel E ρ h nx w) {xa ya : AV} {xv yv : Value} (hx : VRel E.σ ρ xa xv) (hy : VRel E.σ ρ ya yv) :
    Good E P ρ nx w (Extern.BytealgCompare.compare #[xv, yv]) (opCmpStr xa ya h nx) := by
  unfold opCmpStr
  split
  · rename_i l a m b
    obtain ⟨rfl, ha⟩ := hx.str_inv
    obtain ⟨rfl, hb⟩ := hy.str_inv
    have hr := Lib.run_compareString (P := P) (mkStr l a) (mkStr m b) w
    rw [mkStr_toList, mkStr_toList, cmp_less, ← bytesLt_eq] at hr
    have heq := mkStr_eq (l := l) (m := m) ha hb
    have key : (bytesOf l a = bytesOf m b) ↔ (Nat.beq l m && Nat.beq a b) = true := by
      constructor
      · intro e
        have : mkStr l a = mkStr m b := by unfold mkStr; rw [e]
        obtain ⟨e1, e2⟩ := mkStr_inj ha hb this
        subst e1; subst e2; simp
      · intro e
        simp only [Bool.and_eq_true, Nat.beq_eq] at e
        have e1 : l = m := e.1
        have e2 : a = b := e.2
        rw [e1, e2]
    split
    · rename_i h1
      rw [h1] at hr
      exact ⟨_, w, ρ, hr, H, Ext.refl _ _, by simp [VRel]⟩
    · rename_i h1
      rw [h1] at hr
      split
      · rename_i h2
        rw [if_neg (by simp), if_pos (key.2 h2)] at hr
        exact ⟨_, w, ρ, hr, H, Ext.refl _ _, by simp [VRel]⟩
      · rename_i h2
        rw [if_neg (by simp), if_neg (fun e => by rw [key.1 e] at h2; cases h2)] at hr
        exact ⟨_, w, ρ, hr, H, Ext.refl _ _, by simp [VRel]⟩
  · exact good_bad

theorem clone_eq (t r : Nat) : Extern.MapsClone.clone #[.iface t (.map (some r))] = (do
    let .map entries clock ← getObj r | stuck "maps.clone: a map expected"
    pure (.iface t (.map (some (← newObj (.map entries clock)))))) := rfl
theorem makeNoZero_eq (params results : Array TypeId) (n : Int) : Extern.BytealgMakeNoZero.makeNoZero params results #[.int .i64 n] = (do
    let some t := results[0]? | stuck "bytealg.MakeNoZero: no result type"
    let .slice elem ← underlying t | stuck "bytealg.MakeNoZero: slice type expected"
    if n < 0 || n > 2 ^ 48 then runtimePanic (.error "makeslice: len out of range")
    let cap ← choose (.appendCap n.toNat 0 elem)
    askRoom cap
    let bytes ← choose (.extern "internal/bytealg.MakeNoZero.bytes" 0)
    let a ← newRow elem (Extern.BytealgMakeNoZero.digits cap bytes #[])
    pure (.slice (some a) n.toNat cap)) := rfl
theorem overlaps_eq (params results : Array TypeId) (a b : Option Addr) (la lb ca cb : Nat) : Extern.SlicesOverlaps.overlaps params results #[.slice a la ca, .slice b lb cb] = (do
    let some t := params[0]? | stuck "slices.overlaps: no parameter types"
    let .slice elem ← underlying t | stuck "slices.overlaps: slice type expected"
    let size ← sizeOf elem
    match a, b with
    | some a, some b =>
      if la = 0 ∨ lb = 0 ∨ size = 0 then pure (.bool false)
      else if a.block != b.block && (← frozen a) && (← frozen b) then unsupported .addressObserved
      else do
        if a.block != b.block then do
          noView a; noView b
          if ← mayBeOne a b then return .bool ((← choose (.extern "sameAddr.stringBytes" 2)) == 1)
        pure (.bool (a.block == b.block && a.off < b.off + lb * size && b.off < a.off + la * size))
    | _, _ => pure (.bool false)) := rfl
theorem opMapsClone_ok (H : HRel E ρ h nx w) {xa : AV} {xv : Value} (hx : VRel E.σ ρ xa xv) : Good E P ρ nx w (Extern.MapsClone.clone #[xv]) (opMapsClone xa h nx) := by
  unfold opMapsClone
  split
  · rename_i t a
    simp only [VRel] at hx
    obtain ⟨y, rfl, b, N, hp, rfl⟩ := hx
    refine onObj_elim good_bad fun o hg => ?_
    split
    · rename_i es clock
      obtain ⟨es', hO, hm⟩ := map_obj H hg hp
      rw [newO_eq]
      obtain ⟨g1, g2⟩ := H.alloc (o := .map es clock) (O := .map es' clock) (N := 0) ⟨es', rfl, hm⟩
      refine ⟨.iface t (.map (some w.heap.size)), _, _, ?_, g1, g2, ?_⟩
      · rw [clone_eq]; simp [run_getObj_map' hO]
      · simp only [VRel]; exact ⟨_, rfl, _, _, Rho.set_same _ _ _, rfl⟩
    · exact good_bad
  · exact good_bad

theorem digits_ok : ∀ (n t : Nat) (acc : Array Value), (∀ (i : Nat) v, acc[i]? = some v → v.oneCell' = true) →
    (Extern.BytealgMakeNoZero.digits n t acc).size = acc.size + n ∧ ∀ (i : Nat) v, (Extern.BytealgMakeNoZero.digits n t acc)[i]? = some v → v.oneCell' = true
  | 0, t, acc, h => ⟨rfl, h⟩
  | n + 1, t, acc, h => by
    obtain ⟨h1, h2⟩ := digits_ok n (t / 256) (acc.push (.int .u8 (Int.ofNat (t % 256)))) (by
      intro i v hv
      rw [Array.getElem?_push] at hv
      split at hv
      · cases hv; rfl
      · exact h i v hv)
    refine ⟨?_, h2⟩
    show (Extern.BytealgMakeNoZero.digits n (t / 256) (acc.push (.int .u8 (Int.ofNat (t % 256))))).size = _
    rw [h1, Array.size_push]; omega

theorem resSl_some {f : FuncId} {fn : Func} (hf : P.funcs[f]? = some fn) (hr : resSl P f = true) : ∃ t e, fn.resultTypes[0]? = some t ∧ P.underlying t = some (.slice e) := by
  unfold resSl at hr
  rw [hf] at hr
  simp only [] at hr
  split at hr
  · rename_i t ht
    cases he : elemSl P t with
    | none => rw [he] at hr; cases hr
    | some e => exact ⟨t, e, ht, elemSl_some he⟩
  · cases hr
theorem opMakeNoZero_ok (H : HRel E ρ h nx w) {f : FuncId} {fn : Func} (hf : P.funcs[f]? = some fn) {xa : AV} {xv : Value} (hx : VRel E.σ ρ xa xv) :
    Good E P ρ nx w (Extern.BytealgMakeNoZero.makeNoZero fn.params fn.resultTypes #[xv]) (opMakeNoZero P f xa h nx) := by
  unfold opMakeNoZero
  split
  · rename_i n
    obtain rfl := hx.int_inv
    split
    · rename_i hc
      simp only [Bool.and_eq_true, Nat.ble_eq] at hc
      obtain ⟨hn, hr⟩ := hc
      have hn : n ≤ 1000000 := hn
      obtain ⟨t, e, ht, hd⟩ := resSl_some hf hr
      rw [newO_eq]
      obtain ⟨c, hc, hrun⟩ := run_choose_cap P n 0 e w
      obtain ⟨bs, w2, hb, d, hw2⟩ : ∃ bs w2, (choose (.extern "internal/bytealg.MakeNoZero.bytes" 0)).run P w.drew = .ok bs w2 ∧ ∃ d, w2 = { w with drawn := d } := by
        rw [run_choose]
        split
        · exact ⟨_, _, rfl, w.drawn + 1, rfl⟩
        · exact ⟨_, _, rfl, w.drawn + 1 + 1, rfl⟩
      subst hw2
      obtain ⟨k1, k2⟩ := digits_ok c bs #[] (by intro i v hv; simp at hv)
      have ho : ObjRel E.σ ρ c (.cells false n .leaf) (.cells (Extern.BytealgMakeNoZero.digits c bs #[]) e (0, 0)) := by
        refine ⟨_, e, rfl, by simpa using k1, hc, (fun h => by cases h), fun i v hi hv => ?_⟩
        have := k2 i v hv
        simpa [Tr.get, orOne, VRel] using this
      obtain ⟨g1, g2⟩ := (H.drawn d).alloc ho
      refine ⟨.slice (some ⟨w.heap.size, 0, none⟩) n c, _, _, ?_, g1, g2, ?_⟩
      · have t1 : ¬ ((n : Int) < 0) := by omega
        have t2 : ¬ ((281474976710656 : Int) < (n : Int)) := by omega
        have hcnd : (decide (Int.ofNat n < 0) || decide (Int.ofNat n > 2 ^ 48)) = false := by
          simp only [Int.ofNat_eq_natCast, Bool.or_eq_false_iff, decide_eq_false_iff_not]; omega
        have hask : ∀ (k : Nat) (w : World), (askRoom k).run P w = .ok () w := fun k w => by unfold askRoom; split <;> rfl
        have htn : (Int.ofNat n).toNat = n := rfl
        rw [makeNoZero_eq]
        simp only [ht, Sem.run_bind, run_underlying hd, Result.andThen_ok, hcnd, Bool.false_eq_true, if_false, Sem.run_pure, htn, hrun, hask, hb, run_newRow]
      · simp only [VRel]
        exact ⟨_, _, _, _, Rho.set_same _ _ _, rfl, by have := SlOk.new (sz := 1) hc; rwa [Nat.mul_one] at this⟩
    · exact good_bad
  · exact good_bad

theorem ovSz_some {f : FuncId} {fn : Func} {s : Nat} (hf : P.funcs[f]? = some fn) (hr : ovSz P f = some s) : ∃ t e, fn.params[0]? = some t ∧ P.underlying t = some (.slice e) ∧ szO P e = some s := by
  unfold ovSz at hr
  rw [hf] at hr
  simp only [] at hr
  split at hr
  · rename_i t ht
    split at hr
    · rename_i e he
      exact ⟨t, e, ht, elemSl_some he, hr⟩
    · cases hr
  · cases hr
theorem opOverlaps_ok (H : HRel E ρ h nx w) {f : FuncId} {fn : Func} (hf : P.funcs[f]? = some fn) {xa ya : AV} {xv yv : Value} (hx : VRel E.σ ρ xa xv) (hy : VRel E.σ ρ ya yv) :
    Good E P ρ nx w (Extern.SlicesOverlaps.overlaps fn.params fn.resultTypes #[xv, yv]) (opOverlaps P f xa ya h nx) := by
  unfold opOverlaps
  split
  · exact good_bad
  · rename_i s hs
    obtain ⟨t, e, ht, hd, hz⟩ := ovSz_some hf hs
    have fin : ∀ b : Bool, (Extern.SlicesOverlaps.overlaps fn.params fn.resultTypes #[xv, yv]).run P w = .ok (.bool b) w → GoodV E P ρ nx w (Extern.SlicesOverlaps.overlaps fn.params fn.resultTypes #[xv, yv]) (.bool b) h nx :=
      fun b hr => ⟨.bool b, w, ρ, hr, H, Ext.refl _ _, by simp only [VRel]⟩
    split
    · rename_i a o l s1 c1 b p m s2 c2
      split
      · exact good_bad
      · rename_i hc
        simp only [Bool.and_eq_true, Nat.beq_eq] at hc
        have e1 : s = s1 := hc.1
        have e2 : s = s2 := hc.2
        subst e1; subst e2
        obtain ⟨b1, N1, o1, k1, hp1, rfl, hok1⟩ := hx.sl_inv
        obtain ⟨b2, N2, o2, k2, hp2, rfl, hok2⟩ := hy.sl_inv
        split
        · rename_i h0
          refine fin false ?_
          have h0' : l = 0 ∨ m = 0 ∨ s = 0 := by
            simp only [Bool.or_eq_true, Nat.beq_eq] at h0
            rcases h0 with (h | h) | h
            · exact .inl h
            · exact .inr (.inl h)
            · exact .inr (.inr h)
          rw [overlaps_eq]; simp [ht, run_underlying hd, run_sizeOf' hz, h0']
        · rename_i h0
          have h0' : ¬ (l = 0 ∨ m = 0 ∨ s = 0) := by
            intro hh
            have : (Nat.beq l 0 || Nat.beq m 0 || Nat.beq s 0) = true := by
              simp only [Bool.or_eq_true, Nat.beq_eq]
              rcases hh with h | h | h
              · exact .inl (.inl h)
              · exact .inl (.inr h)
              · exact .inr h
            rw [this] at h0; cases h0
          have ho1 : o1 = o := by have := hok1.1; have := hok1.2.1; omega
          have ho2 : o2 = p := by have := hok2.1; have := hok2.2.1; omega
          subst ho1; subst ho2
          split
          · rename_i hab
            have hab : a = b := Nat.eq_of_beq_eq_true hab
            subst hab
            rw [hp1] at hp2; cases hp2
            simp only [fB_eq]
            refine fin _ ?_
            rw [overlaps_eq]
            simp only [ht, Sem.run_bind, run_underlying hd, Result.andThen_ok, run_sizeOf' hz]
            rw [if_neg h0']
            simp
            rw [Bool.eq_iff_iff]
            simp only [Bool.and_eq_true, Nat.blt_eq, decide_eq_true_eq]
          · rename_i hab
            have hab : a ≠ b := Nat.ne_of_beq_eq_false hab
            split
            · rename_i hap
              obtain ⟨hne, ⟨cs1, e1, q1⟩, ⟨cs2, e2, q2⟩⟩ := apart_ok H hab hap hp1 hp2
              refine fin false ?_
              have hb : (b1 == b2) = false := by simp [hne]
              have f1 : ∀ i, w.frozen? ⟨b1, i, none⟩ = false := fun i => by simp [World.frozen?, q1]
              have f2 : ∀ i, w.frozen? ⟨b2, i, none⟩ = false := fun i => by simp [World.frozen?, q2]
              have s1 : w.shape? b1 = some (e1, cs1.size) := by simp [World.shape?, q1]
              have s2 : w.shape? b2 = some (e2, cs2.size) := by simp [World.shape?, q2]
              have hbb : (b1 != b2) = true := by simp [hne]
              rw [overlaps_eq]
              simp only [ht, Sem.run_bind, run_underlying hd, Result.andThen_ok, run_sizeOf' hz]
              rw [if_neg h0']
              simp [hb, hbb, f1, f2, noView, viewAt, s1, s2, mayBeOne, stringish]
            · exact good_bad
    · obtain rfl : xv = .slice none 0 0 := by simpa only [VRel] using hx
      obtain rfl : yv = .slice none 0 0 := by simpa only [VRel] using hy
      exact fin false (by rw [overlaps_eq]; simp [ht, run_underlying hd, run_sizeOf' hz])
    · obtain rfl : xv = .slice none 0 0 := by simpa only [VRel] using hx
      obtain ⟨b2, N2, o2, k2, hp2, rfl, hok2⟩ := hy.sl_inv
      exact fin false (by rw [overlaps_eq]; simp [ht, run_underlying hd, run_sizeOf' hz])
    · obtain ⟨b2, N2, o2, k2, hp2, rfl, hok2⟩ := hx.sl_inv
      obtain rfl : yv = .slice none 0 0 := by simpa only [VRel] using hy
      exact fin false (by rw [overlaps_eq]; simp [ht, run_underlying hd, run_sizeOf' hz])
    · exact good_bad

-- calls of functions
def implX (f : FuncId) (fn : Func) : EK → Array Value → Sem Value
  | .told _ => fun _ => stuck ""
  | .mapsClone => Extern.MapsClone.clone
  | .overlaps => Extern.SlicesOverlaps.overlaps fn.params fn.resultTypes
  | .makeNoZero => Extern.BytealgMakeNoZero.makeNoZero fn.params fn.resultTypes
  | .cmpStr => Extern.BytealgCompare.compare
/-- the functions without a body are those that they are taken for -/
def XOk (P : Program) (X : Nat → Option EK) (σ : Nat → Value) : Prop := (∀ f tab, X f = some (.told tab) → (∃ fn, P.funcs[f]? = some fn ∧ (fn.name == "runtime.NumGoroutine") = false ∧ fn.body.isSome = true) ∧ ∀ args v, (args, v) ∈ tab → ∀ (ρ : Rho) (vs : Array Value) (w : World), LRel σ ρ args vs.toList →
    ∃ val, VRel σ ρ v val ∧ Calls P f vs w fun e w' => e = .returned val ∧ World.Kept w w') ∧
  ∀ f e, X f = some e → (∀ tab, e ≠ .told tab) → ∃ fn, P.funcs[f]? = some fn ∧ (fn.name == "runtime.NumGoroutine") = false ∧ fn.body.isNone = true ∧ Extern.findNext fn = none ∧ Extern.find fn = some (implX f fn e)

theorem LRel.one_inv {x : AV} {vs : Array Value} (hl : LRel E.σ ρ [x] vs.toList) : ∃ v, vs = #[v] ∧ VRel E.σ ρ x v := by
  simp only [LRel] at hl
  obtain ⟨v, vs', e1, hv, rfl⟩ := hl
  exact ⟨v, by rw [← Array.toList_inj, e1], hv⟩
theorem LRel.two_inv {x y : AV} {vs : Array Value} (hl : LRel E.σ ρ [x, y] vs.toList) : ∃ v u, vs = #[v, u] ∧ VRel E.σ ρ x v ∧ VRel E.σ ρ y u := by
  simp only [LRel] at hl
  obtain ⟨v, vs', e1, hv, u, vs2, e2, hu, rfl⟩ := hl
  exact ⟨v, u, by rw [← Array.toList_inj, e1, e2], hv, hu⟩
theorem opExtern_ok (H : HRel E ρ h nx w) {f : FuncId} {fn : Func} (hf : P.funcs[f]? = some fn) {e : EK} {args : List AV} {vs : Array Value} (hl : LRel E.σ ρ args vs.toList) :
    Good E P ρ nx w (implX f fn e vs) (opExtern P f e args h nx) := by
  unfold opExtern
  split
  · obtain ⟨v, rfl, hv⟩ := hl.one_inv; exact opMapsClone_ok H hv
  · obtain ⟨v, u, rfl, hv, hu⟩ := hl.two_inv; exact opOverlaps_ok H hf hv hu
  · obtain ⟨v, rfl, hv⟩ := hl.one_inv; exact opMakeNoZero_ok H hf hv
  · obtain ⟨v, u, rfl, hv, hu⟩ := hl.two_inv; exact opCmpStr_ok H hv hu
  · exact good_bad
end Go.Sx

/- The operations, part 18: all of them. -/
namespace Go.Sx
open Go.MapKept
variable {E : Env} {P : Program} {ρ : Rho} {h : Tr AObj} {nx : Nat} {w : World}

-- a slice of bytes, as another
theorem conv_slice (H : HRel E ρ h nx w) {src dst : TypeId} {xa : AV} {xv : Value} (hx : VRel E.σ ρ xa xv) {e0 e1 : TypeId} (hs0 : P.underlying src = some (.slice e1)) (hd0 : P.underlying dst = some (.slice e0)) :
    Good E P ρ nx w (convert src dst xv) (opConvert P src dst xa h nx) := by
  unfold opConvert
  split
  · rename_i hd; rw [hd0] at hd; cases hd
  · rename_i hd; rw [hd0] at hd; cases hd
  · rename_i hd; rw [hd0] at hd; cases hd
  · rename_i e2 e a off len sz cap hs hd
    obtain ⟨b, N, o, c, hp, rfl, hok⟩ := hx.sl_inv
    split
    · rename_i hc
      simp only [Bool.and_eq_true] at hc
      obtain ⟨hsd, hb⟩ := hc
      have he := isByte_true hb
      refine onObj_elim good_bad fun obj hg => ?_
      obtain ⟨O, hO, ho⟩ := H.obj a obj b N hg hp
      split
      · rename_i x n bb
        obtain ⟨cs, e', fr, rfl, q1, q2, q3, q4, q5⟩ := ho
        have hN : N < N + 1 := by omega
        have hfr : (if fr.1 == fr.2 then (cs.size, cs.size + 1) else (min fr.1 cs.size, max fr.2 (cs.size + 1))) = (N, N + 1) := by
          rcases q1 with rfl | rfl
          · simp [q2]
          · simp [q2]
        have hw : (w.freeze ⟨b, cs.size, none⟩ 1).heap = w.heap.setIfInBounds b (.cells cs e' (N, N + 1)) := by
          have hb := (Array.getElem?_eq_some_iff.1 hO).1
          simp only [World.freeze]
          rw [if_neg (by decide)]
          apply Array.ext_getElem?
          intro i
          rw [Array.getElem?_modify, Array.getElem?_setIfInBounds]
          by_cases hi : b = i
          · subst hi
            rw [if_pos rfl, if_pos rfl, if_pos hb, hO]
            obtain ⟨lo, hi⟩ := fr
            simp only [Option.map_some, hfr]
          · rw [if_neg hi, if_neg hi]
        have hH : HRel E ρ (h.set (some (.bytes x n bb)) a) nx (w.freeze ⟨b, cs.size, none⟩ 1) :=
          H.update hg rfl hp (o' := .bytes x n bb) ⟨cs, e', (N, N + 1), rfl, .inr rfl, q2, q3, q4, q5⟩ hw (by simp only [World.freeze]; rw [if_neg (by decide)]) (by simp only [World.freeze]; rw [if_neg (by decide)]) (by simp only [World.freeze]; rw [if_neg (by decide)])
        refine ⟨.slice (some ⟨b, o, none⟩) len c, w.freeze ⟨b, cs.size, none⟩ 1, ρ, ?_, hH.congr fun y => ?_, Ext.refl _ _, hx⟩
        · have hsh : w.shape? b = some (e', cs.size) := by simp [World.shape?, hO]
          simp [convert, run_underlying hs, run_underlying hd, hsd, run_underlying he, markStringish, hsh]
        · rw [Tr.get_set]; split
          · rename_i e; rw [e, hg]
          · rfl
      · exact good_bad
    · exact good_bad
  · rename_i s e l n hs hd
    have g := conv_bytes (P := P) (h := h) (nx := nx) (w := w) (src := src) hx hd0 (.inr ⟨l, n, rfl⟩)
    have e2 : opConvert P src dst (.str l n) h nx = (match isByte P e with | true => newO (.bytes false l n) h nx (.sl nx 0 l 1 none) | false => bad "convert: runes") := by
      unfold opConvert; rw [hs, hd]; rw [hs0] at hs; cases hs; rfl
    rw [e2] at g
    exact g.good H
  · rename_i hd _ _; rw [hd0] at hd; cases hd
  · exact good_bad
end Go.Sx

/- The operations, part 19: all of them. -/
namespace Go.Sx
open Go.MapKept
variable {E : Env} {P : Program} {X : Nat → Option EK} {ρ : Rho} {h : Tr AObj} {nx : Nat} {w : World} {m : Nat} {tm : Tr AV} {loc : Loc}

/-- an operation's result is a value -/
def ValIs (P : Program) (s : Sem Next) (s' : Sem Value) : Prop := ∀ w, s.run P w = (s'.run P w).andThen fun v w => .ok (.value v) w
theorem valIs_v (s' : Sem Value) : ValIs P (do pure (.value (← s'))) s' := fun w => by simp
/-- an operation that may be done sooner or later -/
def FloatOk (E : Env) (P : Program) (ρ : Rho) (h : Tr AObj) (nx : Nat) (w : World) (s : Sem Next) (k : FK) (r : OR) : Prop := (∃ why, r = .bad why) ∨ match k with
  | .anchor => True
  | .alloc => ∃ s', ValIs P s s' ∧ GoodA E P ρ h nx w s' r
  | _ => ∃ s', ValIs P s s' ∧ GoodP E P ρ h nx w s' r
theorem floatP {s : Sem Next} {s' : Sem Value} {r : OR} (k : FK) (hk : k = .pure ∨ k = .load) (hs : ValIs P s s') (g : GoodP E P ρ h nx w s' r) : FloatOk E P ρ h nx w s k r := by
  rcases hk with rfl | rfl <;> exact .inr ⟨s', hs, g⟩
theorem floatA {s : Sem Next} {s' : Sem Value} {r : OR} (hs : ValIs P s s') (g : GoodA E P ρ h nx w s' r) : FloatOk E P ρ h nx w s .alloc r := .inr ⟨s', hs, g⟩
theorem floatN {s : Sem Next} {r : OR} : FloatOk E P ρ h nx w s .anchor r := .inr trivial

/-- the operands are as the executor has them -/
def EvOk (E : Env) (ρ : Rho) (m : Nat) (tm : Tr AV) (loc : Loc) (eval : Operand → Value) (xs : List Operand) : Prop := ∀ x ∈ xs, VRel E.σ ρ (ev x m tm loc) (eval x)

theorem evO_ok {eval : Operand → Value} {x : Option Operand} (hx : ∀ y, x = some y → VRel E.σ ρ (ev y m tm loc) (eval y)) : ORel E ρ (evO x m tm loc) (x.map eval) := by
  cases x with
  | none => exact trivial
  | some x => exact hx x rfl
theorem evP_ok {eval : Operand → Value} : ∀ (ps : List (Nat × Operand)), (∀ p ∈ ps, VRel E.σ ρ (ev p.2 m tm loc) (eval p.2)) →
    PRel E ρ (ps.map fun p => (p.1, ev p.2 m tm loc)) (ps.map fun (i, x) => (i, eval x))
  | [], _ => .nil
  | p :: ps, hp => .cons (hp p (by simp)) (evP_ok ps fun q hq => hp q (by simp [hq]))
theorem asBool_run {b : Bool} (w : World) : (asBool (.bool b)).run P w = .ok b w := rfl

theorem doOp_float (H : HRel E ρ h nx w) {eval : Operand → Value} {o : Oper} (hev : EvOk E ρ m tm loc eval o.op.operands.toList) :
    FloatOk E P ρ h nx w (execOp eval o) (kindOf P o) (doOp P X o.op m tm loc h nx) := by
  obtain ⟨dst, op, type, pos, after, guard⟩ := o
  have P1 : ∀ {s : Sem Next} {s' : Sem Value} {r : OR}, ValIs P s s' → GoodP E P ρ h nx w s' r → FloatOk E P ρ h nx w s .pure r := fun hs g => .inr ⟨_, hs, g⟩
  cases op
  case move x =>
    have hx := hev x (by simp [Op.operands])
    exact P1 (s' := pure (eval x)) (fun w => by simp [execOp]) (by simp only [doOp, oMove, evK_eq]; exact goodP_val rfl hx)
  case pick c a b =>
    have hc := hev c (by simp [Op.operands])
    have ha := hev a (by simp [Op.operands])
    have hb := hev b (by simp [Op.operands])
    refine P1 (s' := do pure (if ← asBool (eval c) then eval a else eval b)) (fun w => by simp only [execOp, Sem.run_bind, Sem.run_pure]; cases (asBool (eval c)).run P w <;> rfl) ?_
    simp only [doOp, oPick, evK_eq]
    refine onBool_elim ?_ fun t ht => ?_
    · -- a choice that is not known
      cases he : ev c m tm loc <;> try exact goodP_bad
      rw [he] at hc
      simp only [VRel] at hc
      obtain ⟨t, hc⟩ := hc
      refine bRec_elim (fun _ => goodP_bad) fun hb2 => ?_
      simp only [Bool.and_eq_true] at hb2
      have bl : ∀ {x : AV} {y : Value}, boolish x = true → VRel E.σ ρ x y → ∃ b, y = .bool b := by
        intro x y hx hy
        cases x <;> simp only [boolish, Bool.false_eq_true] at hx <;> simp only [VRel] at hy
        · exact hy
        · exact ⟨_, hy⟩
      obtain ⟨x, hx⟩ := bl hb2.1 ha
      obtain ⟨y, hy⟩ := bl hb2.2 hb
      refine goodP_val (v := .bool (if t then x else y)) ?_ (by simp [VRel])
      rw [hc, hx, hy]
      cases t <;> simp [asBool]
    rw [ht] at hc
    have hc := hc.bool_inv
    cases t
    · exact goodP_val (v := eval b) (by rw [hc]; simp [asBool]) hb
    · exact goodP_val (v := eval a) (by rw [hc]; simp [asBool]) ha
  case alloc e => exact floatA (valIs_v _) (oAlloc_ok (m := m) (tm := tm) (loc := loc))
  case box e x =>
    have hx := hev x (by simp [Op.operands])
    refine floatA (valIs_v _) ?_
    simp only [doOp, oBox, evK_eq]
    exact box_ok hx
  case build t ps =>
    refine P1 (valIs_v _) ?_
    simp only [doOp, oBuild, evP_eq]
    refine opBuild_ok ?_
    rw [Array.toList_map]
    exact evP_ok ps.toList fun p hp => hev p.2 (by simp only [Op.operands]; exact List.mem_map.2 ⟨p, hp, rfl⟩)
  case buildSlice t n ps =>
    refine floatA (valIs_v _) ?_
    simp only [doOp, oBuildSlice, evP_eq]
    refine opBuildSlice_ok ?_
    rw [Array.toList_map]
    exact evP_ok ps.toList fun p hp => hev p.2 (by simp only [Op.operands]; exact List.mem_map.2 ⟨p, hp, rfl⟩)
  case load t a => exact floatP .load (.inr rfl) (valIs_v _) (opLoad_ok H (hev a (by simp [Op.operands])))
  case nilCheck x =>
    have hx := hev x (by simp [Op.operands])
    simp only [kindOf, doOp, oNilCheck]
    unfold opNilCheck
    split
    · rename_i a off he
      rw [he] at hx
      have hx0 := hx
      obtain ⟨b, N, hp, hv⟩ := hx.ptr_inv
      exact P1 (s' := pure (eval x)) (fun w => by simp [execOp, hv]) (goodP_val rfl hx0)
    · rename_i t y he
      rw [he] at hx
      have hx0 := hx
      simp only [VRel] at hx
      obtain ⟨y, hv, _⟩ := hx
      exact P1 (s' := pure (eval x)) (fun w => by simp [execOp, hv]) (goodP_val rfl hx0)
    · rename_i f a b he
      rw [he] at hx
      have hx0 := hx
      simp only [VRel] at hx
      obtain ⟨xs, ys, hv, _⟩ := hx
      exact P1 (s' := pure (eval x)) (fun w => by simp [execOp, hv]) (goodP_val rfl hx0)
    · rename_i l he
      rw [he] at hx
      have hx0 := hx
      simp only [VRel] at hx
      obtain ⟨b, N, _, hv⟩ := hx
      exact P1 (s' := pure (eval x)) (fun w => by simp [execOp, hv]) (goodP_val rfl hx0)
    · exact .inl ⟨_, rfl⟩
  case binOp op t x y yt => exact P1 (valIs_v _) (opBin_ok H (hev x (by simp [Op.operands])) (hev y (by simp [Op.operands])))
  case unOp op t x => exact P1 (valIs_v _) (opUn_ok (hev x (by simp [Op.operands])))
  case convert s d x =>
    have hx := hev x (by simp [Op.operands])
    by_cases h2 : ∃ e, P.underlying d = some (.slice e)
    · obtain ⟨e, h2⟩ := h2
      by_cases h1 : ∃ e, P.underlying s = some (.slice e)
      · obtain ⟨e1, h1⟩ := h1
        simp only [kindOf, h1, h2]; exact floatN
      · have hk : kindOf P { dst, op := .convert s d x, type, pos, after, guard } = .alloc := by
          simp only [kindOf, h2]
          cases hs : P.underlying s with
          | none => rfl
          | some t => cases t with
            | slice e => exact absurd ⟨e, hs⟩ h1
            | _ => rfl
        rw [hk]
        exact floatA (valIs_v _) (conv_bytes hx h2 (.inl fun e he => h1 ⟨e, he⟩))
    · have hg := conv_pure H hx (src := s) (dst := d) (P := P) (fun e he => h2 ⟨e, he⟩)
      have hk : kindOf P { dst, op := .convert s d x, type, pos, after, guard } = .pure ∨ kindOf P { dst, op := .convert s d x, type, pos, after, guard } = .load := by
        simp only [kindOf]
        cases hd : P.underlying d with
        | none =>
          cases hs : P.underlying s with
          | none => exact .inl rfl
          | some t => cases t <;> first | exact .inl rfl | exact .inr rfl
        | some u =>
          cases u with
          | slice e => exact absurd ⟨e, hd⟩ h2
          | _ =>
            cases hs : P.underlying s with
            | none => exact .inl rfl
            | some t => cases t <;> first | exact .inl rfl | exact .inr rfl
      exact floatP _ hk (valIs_v _) hg
  case makeInterface t x =>
    have hx := hev x (by simp [Op.operands])
    refine P1 (valIs_v _) ?_
    simp only [doOp, oMkIface, evK_eq]
    exact opMkIface_ok hx
  case makeFunc f a b =>
    refine P1 (valIs_v _) ?_
    simp only [doOp, oMakeFunc]
    split
    · rename_i f
      simp only [evLK_eq]
      refine goodP_val (v := .func (.func f) (a.map eval) (b.map eval)) (by simp [Instr.makeFunc]) ?_
      simp only [VRel]
      refine ⟨_, _, rfl, ?_, ?_⟩
      · rw [Array.toList_map]; exact evL_ok _ fun x hx => hev x (by simp only [Op.operands, Array.toList_append, List.mem_append]; exact .inl hx)
      · rw [Array.toList_map]; exact evL_ok _ fun x hx => hev x (by simp only [Op.operands, Array.toList_append, List.mem_append]; exact .inr hx)
    · exact goodP_bad
  case makeMap t r =>
    refine floatA (valIs_v _) ?_
    simp only [doOp, oMakeMap]
    refine makeMap_ok (r := evO r m tm loc) (r' := r.map eval) (evO_ok fun y hy => hev y (by simp [Op.operands, hy])) ?_
    cases r <;> rfl
  case makeSlice t l c => exact floatA (valIs_v _) (opMakeSlice_ok (hev l (by simp [Op.operands])) (hev c (by simp [Op.operands])))
  case slice t x lo hi mx =>
    refine P1 (valIs_v _) ?_
    refine opSlice_ok H (hev x (by simp [Op.operands])) (evO_ok fun y hy => hev y (by simp [Op.operands, hy])) (evO_ok fun y hy => hev y (by simp [Op.operands, hy])) (evO_ok fun y hy => hev y (by simp [Op.operands, hy]))
  case fieldAddr s x f => exact P1 (valIs_v _) (opFieldAddr_ok (hev x (by simp [Op.operands])))
  case field s x f => exact P1 (valIs_v _) (opField_ok (hev x (by simp [Op.operands])))
  case indexAddr t x i => exact P1 (valIs_v _) (opIndexAddr_ok (hev x (by simp [Op.operands])) (hev i (by simp [Op.operands])))
  case index t x i => exact P1 (valIs_v _) (opIndex_ok (hev x (by simp [Op.operands])) (hev i (by simp [Op.operands])))
  case lookup t x k ok =>
    have hx := hev x (by simp [Op.operands])
    have hk := hev k (by simp [Op.operands])
    refine floatP .load (.inr rfl) (valIs_v _) ?_
    simp only [doOp, oLookup, evK_eq]
    exact opLookup_ok H hx hk
  case typeAssert x xt a ok => exact P1 (valIs_v _) (opTypeAssert_ok (hev x (by simp [Op.operands])))
  case extract t i =>
    have hx := hev t (by simp [Op.operands])
    refine P1 (valIs_v _) ?_
    simp only [doOp, oExtract]
    generalize ev t m tm loc = xa at hx ⊢
    cases xa <;> exact opExtract_ok hx
  case call c =>
    obtain ⟨callee, args, argTypes⟩ := c
    cases callee <;> try exact floatN
    rename_i b
    have hargs : LRel E.σ ρ (evL args.toList m tm loc) (args.map eval).toList := by
      rw [Array.toList_map]
      exact evL_ok _ fun x hx => hev x (by simp only [Op.operands, Call.operands, Array.toList_append, List.mem_append]; exact .inr hx)
    generalize hal : evL args.toList m tm loc = al at hargs
    generalize hav : args.map eval = av at hargs
    cases b <;> try exact floatN
    case len =>
      simp only [kindOf, doOp, oCall, opCall, evLK_eq, hal]
      cases hts : argTypes.toList with
      | nil => exact .inl ⟨_, rfl⟩
      | cons t ts =>
        cases al with
        | nil => exact .inl ⟨_, rfl⟩
        | cons x l =>
          simp only [LRel] at hargs
          obtain ⟨v, vs, e1, hv, _⟩ := hargs
          refine floatP .load (.inr rfl) (s' := Builtin.len_ argTypes type av) (fun w => by simp [execOp, resolve, invoke, builtin, hav]) ?_
          exact opLen_ok H (by rw [← Array.getElem?_toList, hts]; rfl) (by rw [← Array.getElem?_toList, e1]; rfl) hv
    case min =>
      simp only [kindOf, doOp, oCall, opCall, evLK_eq, hal]
      cases al with
      | nil => exact .inl ⟨_, by cases argTypes.toList <;> rfl⟩
      | cons x l =>
        simp only [LRel] at hargs
        obtain ⟨v, vs, e1, hv, hl⟩ := hargs
        have hb : opBuiltin P .min argTypes.toList (x :: l) h nx = (match foldMM true x l with | some v => fV v fun v => .val v h nx | none => bad "min") := by cases argTypes.toList <;> rfl
        rw [hb]
        cases hf : foldMM true x l with
        | none => exact .inl ⟨_, rfl⟩
        | some r =>
          obtain ⟨rv, h1, h2⟩ := foldMM_ok (P := P) (w := w) true l x r v vs hf hv hl
          simp only [fV_eq']
          refine P1 (s' := Builtin.min_ argTypes type av) (fun w => by simp [execOp, resolve, invoke, builtin, hav]) (goodP_val ?_ h2)
          simp only [Builtin.min_, e1]
          simpa using h1
    case max =>
      simp only [kindOf, doOp, oCall, opCall, evLK_eq, hal]
      cases al with
      | nil => exact .inl ⟨_, by cases argTypes.toList <;> rfl⟩
      | cons x l =>
        simp only [LRel] at hargs
        obtain ⟨v, vs, e1, hv, hl⟩ := hargs
        have hb : opBuiltin P .max argTypes.toList (x :: l) h nx = (match foldMM false x l with | some v => fV v fun v => .val v h nx | none => bad "max") := by cases argTypes.toList <;> rfl
        rw [hb]
        cases hf : foldMM false x l with
        | none => exact .inl ⟨_, rfl⟩
        | some r =>
          obtain ⟨rv, h1, h2⟩ := foldMM_ok (P := P) (w := w) false l x r v vs hf hv hl
          simp only [fV_eq']
          refine P1 (s' := Builtin.max_ argTypes type av) (fun w => by simp [execOp, resolve, invoke, builtin, hav]) (goodP_val ?_ h2)
          simp only [Builtin.max_, e1]
          simpa using h1
  all_goals exact floatN
end Go.Sx

/- The operations, part 20: what comes next. -/
namespace Go.Sx
open Go.MapKept
variable {E : Env} {P : Program} {X : Nat → Option EK} {ρ : Rho} {h : Tr AObj} {nx : Nat} {w : World} {m : Nat} {tm : Tr AV} {loc : Loc}

/-- a value comes of it, at once or by a call whose answer is known -/
def NVal (E : Env) (P : Program) (ρ : Rho) (nx : Nat) (w : World) (s : Sem Next) (av : AV) (h' : Tr AObj) (nx' : Nat) : Prop :=
  (∃ n v w' ρ', s.run P w = .ok n w' ∧ (n = .value v ∨ (n = .skip ∧ v = undef)) ∧ HRel E ρ' h' nx' w' ∧ Ext ρ nx ρ' nx' ∧ VRel E.σ ρ' av v) ∨
  (∃ f vs v, s.run P w = .ok (.enter f vs) w ∧ HRel E ρ h' nx' w ∧ nx' = nx ∧ VRel E.σ ρ av v ∧ Calls P f vs w fun e w' => e = .returned v ∧ World.Kept w w')
def NextOk (E : Env) (P : Program) (ρ : Rho) (nx : Nat) (w : World) (s : Sem Next) : OR → Prop
  | .val av h' nx' => NVal E P ρ nx w s av h' nx'
  | .fork l => ∃ f ∈ l, match f with | .mk av h' nx' => NVal E P ρ nx w s av h' nx'
  | .enter f args => ∀ c, enterOk P f = some c → ∃ vs : Array Value, s.run P w = .ok (.enter f vs) w ∧ LRel E.σ ρ args vs.toList
  | .round l args => ∃ (b N : Nat) (vs : Array Value), ρ l = some (b, N) ∧ LRel E.σ ρ args vs.toList ∧ s.run P w = (Instr.yield b vs).run P w
  | .defer d => ∃ d', s.run P w = .ok (.defer d') w ∧ DRel E.σ ρ d d'
  | .recov => s.run P w = .ok .recover w
  | .bad _ => True
theorem nVal_of {s : Sem Next} {s' : Sem Value} {av : AV} {h' : Tr AObj} {nx' : Nat} (hs : s.run P w = (s'.run P w).andThen fun v w => .ok (.value v) w) (g : GoodV E P ρ nx w s' av h' nx') : NVal E P ρ nx w s av h' nx' := by
  obtain ⟨v, w', ρ', h1, h2, h3, h4⟩ := g
  exact .inl ⟨.value v, v, w', ρ', by rw [hs, h1]; rfl, .inl rfl, h2, h3, h4⟩
theorem next_good {s : Sem Next} {s' : Sem Value} {r : OR} (hs : s.run P w = (s'.run P w).andThen fun v w => .ok (.value v) w) (g : Good E P ρ nx w s' r) : NextOk E P ρ nx w s r := by
  cases r with
  | val => exact nVal_of hs g
  | fork l =>
    obtain ⟨f, h1, h2⟩ := g
    refine ⟨f, h1, ?_⟩
    cases f; exact nVal_of hs h2
  | bad => trivial
  | enter => exact g.elim
  | round => exact g.elim
  | defer => exact g.elim
  | recov => exact g.elim
theorem nVal_u {s : Sem Unit} {av : AV} {h' : Tr AObj} {nx' : Nat} (g : GoodV E P ρ nx w (do s; pure (.tuple #[])) av h' nx') : NVal E P ρ nx w (do s; pure .skip) av h' nx' := by
  obtain ⟨v, w', ρ', h1, h2, h3, h4⟩ := g
  simp only [Sem.run_bind] at h1
  cases hr : s.run P w with
  | ok u w1 =>
    rw [hr] at h1
    simp only [Result.andThen_ok, Sem.run_pure, Result.ok.injEq] at h1
    obtain ⟨rfl, rfl⟩ := h1
    exact .inl ⟨.skip, .tuple #[], w1, ρ', by simp [hr], .inr ⟨rfl, rfl⟩, h2, h3, h4⟩
  | halt x w1 => rw [hr] at h1; cases h1
theorem next_u {s : Sem Unit} {r : OR} (g : Good E P ρ nx w (do s; pure (.tuple #[])) r) : NextOk E P ρ nx w (do s; pure .skip) r := by
  cases r with
  | val => exact nVal_u g
  | fork l =>
    obtain ⟨f, h1, h2⟩ := g
    refine ⟨f, h1, ?_⟩
    cases f; exact nVal_u h2
  | bad => trivial
  | enter => exact g.elim
  | round => exact g.elim
  | defer => exact g.elim
  | recov => exact g.elim
theorem next_bad {s : Sem Next} {why : String} : NextOk E P ρ nx w s (bad why) := trivial

-- calls
theorem enterOk_some {f : FuncId} {c : Code} (hc : enterOk P f = some c) : ∃ fn, P.funcs[f]? = some fn ∧ fn.body = some c ∧ fn.name ≠ "runtime.NumGoroutine" := by
  unfold enterOk at hc
  split at hc
  · rename_i fn hf
    split at hc
    · cases hc
    · rename_i hn
      exact ⟨fn, hf, hc, by simpa using hn⟩
  · cases hc
mutual
theorem sameV_rel {σ : Nat → Value} : ∀ (u v : AV) (x : Value), sameV u v = true → VRel σ ρ v x → VRel σ ρ u x
  | .unk, v, x, hl, hv => by cases v <;> simp only [sameV, Bool.false_eq_true] at hl
  | .one, v, x, hl, hv => by cases v <;> simp only [sameV, Bool.false_eq_true] at hl
  | .sym i, v, x, hl, hv => by
    cases v <;> simp only [sameV, Bool.false_eq_true] at hl
    rw [Nat.eq_of_beq_eq_true hl]; exact hv
  | .anyB, v, x, hl, hv => by cases v <;> simp only [sameV, Bool.false_eq_true] at hl
  | .anyI k, v, x, hl, hv => by cases v <;> simp only [sameV, Bool.false_eq_true] at hl
  | .bool b, v, x, hl, hv => by
    cases v <;> simp only [sameV, Bool.false_eq_true, beq_iff_eq] at hl
    rw [hl]; exact hv
  | .int k n, v, x, hl, hv => by
    cases v <;> simp only [sameV, Bool.false_eq_true, Bool.and_eq_true, beq_iff_eq, eqI_eq] at hl
    rw [hl.1, hl.2]; exact hv
  | .intGe lo, v, x, hl, hv => by cases v <;> simp only [sameV, Bool.false_eq_true] at hl
  | .str l n, v, x, hl, hv => by
    cases v <;> simp only [sameV, Bool.false_eq_true, Bool.and_eq_true] at hl
    rw [Nat.eq_of_beq_eq_true hl.1, Nat.eq_of_beq_eq_true hl.2]; exact hv
  | .nilPtr, v, x, hl, hv => by cases v <;> simp only [sameV, Bool.false_eq_true] at hl; exact hv
  | .ptr a off, v, x, hl, hv => by cases v <;> simp only [sameV, Bool.false_eq_true] at hl
  | .nilSl, v, x, hl, hv => by cases v <;> simp only [sameV, Bool.false_eq_true] at hl; exact hv
  | .sl a off len sz cap, v, x, hl, hv => by cases v <;> simp only [sameV, Bool.false_eq_true] at hl
  | .nilMap, v, x, hl, hv => by cases v <;> simp only [sameV, Bool.false_eq_true] at hl; exact hv
  | .map a, v, x, hl, hv => by cases v <;> simp only [sameV, Bool.false_eq_true] at hl
  | .nilFn, v, x, hl, hv => by cases v <;> simp only [sameV, Bool.false_eq_true] at hl; exact hv
  | .fn f a b, v, x, hl, hv => by cases v <;> simp only [sameV, Bool.false_eq_true] at hl
  | .yield l, v, x, hl, hv => by cases v <;> simp only [sameV, Bool.false_eq_true] at hl
  | .nilIf, v, x, hl, hv => by cases v <;> simp only [sameV, Bool.false_eq_true] at hl; exact hv
  | .iface t y, v, x, hl, hv => by cases v <;> simp only [sameV, Bool.false_eq_true] at hl
  | .agg a, v, x, hl, hv => by
    cases v <;> simp only [sameV, Bool.false_eq_true] at hl
    simp only [VRel] at hv ⊢
    obtain ⟨vs, e, g⟩ := hv
    exact ⟨vs, e, sameL_rel _ _ _ hl g⟩
  | .tup a, v, x, hl, hv => by cases v <;> simp only [sameV, Bool.false_eq_true] at hl
theorem sameL_rel {σ : Nat → Value} : ∀ (a b : List AV) (xs : List Value), sameL a b = true → LRel σ ρ b xs → LRel σ ρ a xs
  | [], b, xs, hl, hv => by cases b <;> simp only [sameL, Bool.false_eq_true] at hl; exact hv
  | u :: a, b, xs, hl, hv => by
    cases b <;> simp only [sameL, Bool.false_eq_true, Bool.and_eq_true] at hl
    simp only [LRel] at hv ⊢
    obtain ⟨x, ys, e, g1, g2⟩ := hv
    exact ⟨x, ys, e, sameV_rel _ _ _ hl.1 g1, sameL_rel _ _ _ hl.2 g2⟩
end
theorem toldAt_some {args : List AV} {v : AV} : ∀ {tab : List (List AV × AV)}, toldAt args tab = some v → ∃ x, (x, v) ∈ tab ∧ sameL x args = true
  | [], h => by cases h
  | (x, u) :: l, h => by
    simp only [toldAt] at h
    split at h
    · rename_i hs; cases h; exact ⟨x, List.mem_cons_self, hs⟩
    · obtain ⟨y, h1, h2⟩ := toldAt_some h; exact ⟨y, List.mem_cons_of_mem _ h1, h2⟩
theorem callFn_ok (H : HRel E ρ h nx w) (hX : XOk P X E.σ) {f : FuncId} {args : List AV} {vs : Array Value} (hl : LRel E.σ ρ args vs.toList) : NextOk E P ρ nx w (callFunc f vs) (callFn P X f args h nx) := by
  have enter : NextOk E P ρ nx w (callFunc f vs) (.enter f args) := by
    intro c hc
    obtain ⟨fn, hf, hb, hn⟩ := enterOk_some hc
    exact ⟨vs, by simp [callFunc, hf, hb, hn], hl⟩
  unfold callFn
  split
  · exact enter
  · rename_i tab hX'
    split
    · rename_i v ht
      obtain ⟨x, h1, h2⟩ := toldAt_some ht
      obtain ⟨⟨fn, hf, hn, hb⟩, hc⟩ := hX.1 f tab hX'
      obtain ⟨val, h3, h4⟩ := hc x v h1 ρ vs w (sameL_rel _ _ _ h2 hl)
      refine .inr ⟨f, vs, val, ?_, H, rfl, h3, h4⟩
      cases hbb : fn.body with
      | none => rw [hbb] at hb; cases hb
      | some c => simp only [callFunc, Sem.run_bind]; simp [hf, hbb, (by simpa using hn : ¬ fn.name = "runtime.NumGoroutine")]
    · exact enter
  · rename_i e hne he
    obtain ⟨fn, hf, hn, hb, h1, h2⟩ := hX.2 f e he (fun tab e2 => hne tab e2)
    exact next_good (run_callFunc_extern hf hn hb h1 h2 vs w) (opExtern_ok H hf hl)
theorem methodOf_some {t : TypeId} {name : String} {f : FuncId} {p q : Bool} (hm : methodOf P t name = some (f, p, q)) : ∃ i mt d, P.info? t = some i ∧ i.methods.find? (·.name == name) = some mt ∧ mt.path = #[] ∧ mt.func = some (f, p) ∧
    P.underlying t = some d ∧ q = (match d with | .pointer _ => true | _ => false) := by
  unfold methodOf at hm
  split at hm
  · rename_i i hi
    split at hm
    · rename_i mt hmt
      split at hm
      · rename_i f' p' he hf
        split at hm
        · rename_i e hd
          simp only [Option.some.injEq, Prod.mk.injEq] at hm
          obtain ⟨rfl, rfl, rfl⟩ := hm
          exact ⟨i, mt, _, hi, hmt, by simpa using he, hf, hd, rfl⟩
        · rename_i d hne hd
          simp only [Option.some.injEq, Prod.mk.injEq] at hm
          obtain ⟨rfl, rfl, rfl⟩ := hm
          refine ⟨i, mt, d, hi, hmt, by simpa using he, hf, hd, ?_⟩
          cases d <;> first | rfl | exact absurd rfl (hne _)
        · cases hm
      · cases hm
    · cases hm
  · cases hm
theorem run_method {t : TypeId} {name : String} {f : FuncId} {p : Bool} (hm : methodOf P t name = some (f, p, p)) (v : Value) (fuel : Nat) (w : World) : (method (fuel + 1) t v name).run P w = .ok (f, v) w := by
  obtain ⟨i, mt, d, hi, hmt, hp, hf, hd, hq⟩ := methodOf_some hm
  cases p <;> cases d <;> simp only [reduceCtorEq, Bool.false_eq_true] at hq <;> simp [method, run_typeInfo' hi, hmt, hp, follow, hf, receiverAt, run_underlying hd, Place.get]
theorem opInvoke_ok (H : HRel E ρ h nx w) (hX : XOk P X E.σ) {ra : AV} {rv : Value} {name : String} {args : List AV} {vs : Array Value} (hr : VRel E.σ ρ ra rv) (hl : LRel E.σ ρ args vs.toList) :
    NextOk E P ρ nx w (callMethod rv name vs) (opInvoke P X ra name args h nx) := by
  have key : ∀ (t : TypeId) (v : AV) (f : FuncId) (p : Bool), ra = .iface t v → methodOf P t name = some (f, p, p) → NextOk E P ρ nx w (callMethod rv name vs) (callFn P X f (v :: args) h nx) := by
    intro t v f p e hm
    subst e
    simp only [VRel] at hr
    obtain ⟨y, rfl, hy⟩ := hr
    have hlv : LRel E.σ ρ (v :: args) (#[y] ++ vs).toList := by
      simp only [Array.toList_append, List.cons_append, List.nil_append, LRel]; exact ⟨y, _, rfl, hy, hl⟩
    have g := callFn_ok H hX hlv (f := f)
    obtain ⟨k, hk⟩ : ∃ k, P.types.size + Made.depth = k + 1 := ⟨P.types.size + 99, rfl⟩
    have hrun : (callMethod (.iface t y) name vs).run P w = (callFunc f (#[y] ++ vs)).run P w := by
      simp [callMethod, hk, run_method hm]
    unfold NextOk NVal at g ⊢
    rw [hrun]; exact g
  unfold opInvoke
  split
  · rename_i t v
    split
    · rename_i f hm; exact key t v f true rfl hm
    · rename_i f hm; exact key t v f false rfl hm
    · exact next_bad
  · exact next_bad
theorem opBuiltin_ok (H : HRel E ρ h nx w) {b : Builtin} {ts : Array TypeId} {ty : TypeId} {consts : Array Bool} {args : List AV} {vs : Array Value} (hl : LRel E.σ ρ args vs.toList) :
    NextOk E P ρ nx w (builtin b ts ty consts vs) (opBuiltin P b ts.toList args h nx) := by
  have one : ∀ {t : TypeId} {l : List TypeId}, ts.toList = t :: l → ts[0]? = some t := fun h => by rw [← Array.getElem?_toList, h]; rfl
  have two : ∀ {t t2 : TypeId} {l : List TypeId}, ts.toList = t :: t2 :: l → ts[1]? = some t2 := fun h => by rw [← Array.getElem?_toList, h]; rfl
  have a0 : ∀ {x : AV} {l : List AV}, args = x :: l → ∃ v, vs[0]? = some v ∧ VRel E.σ ρ x v := by
    intro x l e
    subst e
    simp only [LRel] at hl
    obtain ⟨v, vs', e1, hv, _⟩ := hl
    exact ⟨v, by rw [← Array.getElem?_toList, e1]; rfl, hv⟩
  have a1 : ∀ {x y : AV} {l : List AV}, args = x :: y :: l → ∃ v, vs[1]? = some v ∧ VRel E.σ ρ y v := by
    intro x y l e
    subst e
    simp only [LRel] at hl
    obtain ⟨v, vs', e1, hv, u, vs2, e2, hu, _⟩ := hl
    exact ⟨u, by rw [← Array.getElem?_toList, e1, e2]; rfl, hu⟩
  have mm : ∀ (why : String) (lt : Bool) (x : AV) (l : List AV) (s : Sem Value), args = x :: l → (∀ v vs', vs.toList = v :: vs' → s.run P w = (vs'.foldlM (fun x y => if lt then Builtin.min2 x y else Builtin.max2 x y) v).run P w) →
      Good E P ρ nx w s (match foldMM lt x l with | some v => fV v fun v => .val v h nx | none => bad why) := by
    intro why lt x l s e hs
    subst e
    simp only [LRel] at hl
    obtain ⟨v, vs', e1, hv, hl⟩ := hl
    split
    · rename_i r hf
      obtain ⟨rv, h1, h2⟩ := foldMM_ok (P := P) (w := w) lt l x r v vs' hf hv hl
      simp only [fV_eq']
      exact ⟨rv, w, ρ, by rw [hs v vs' e1]; exact h1, H, Ext.refl _ _, h2⟩
    · exact good_bad
  have wrap : ∀ {s : Sem Value} {r : OR}, Good E P ρ nx w s r → NextOk E P ρ nx w (do pure (.value (← s))) r := fun g => next_good (by simp) g
  unfold opBuiltin
  split
  · rename_i t l x l' hts
    obtain ⟨v, h0, hv⟩ := a0 rfl
    exact wrap ((opLen_ok H (one hts) h0 hv).good H)
  · rename_i t l x l' hts
    obtain ⟨v, h0, hv⟩ := a0 rfl
    exact wrap (opCap_ok H (one hts) h0 hv)
  · rename_i t t2 l s x l' hts
    obtain ⟨v, h0, hv⟩ := a0 rfl
    obtain ⟨u, h1, hu⟩ := a1 rfl
    exact wrap (opAppend_ok H (one hts) (two hts) h0 h1 hv hu)
  · rename_i t l d x l' hts
    obtain ⟨v, h0, hv⟩ := a0 rfl
    obtain ⟨u, h1, hu⟩ := a1 rfl
    exact wrap (opCopy_ok H (one hts) h0 h1 hv hu)
  · rename_i x l
    exact wrap (mm _ true x l _ rfl fun v vs' e => by simp [Builtin.min_, e])
  · rename_i x l
    exact wrap (mm _ false x l _ rfl fun v vs' e => by simp [Builtin.max_, e])
  · rename_i t l m k l' hts
    obtain ⟨v, h0, hv⟩ := a0 rfl
    obtain ⟨u, h1, hu⟩ := a1 rfl
    exact wrap (opDelete_ok H (one hts) h0 h1 hv hu)
  · rename_i t l x l' hts
    obtain ⟨v, h0, hv⟩ := a0 rfl
    exact wrap (opClear_ok H (one hts) h0 hv)
  · rfl
  · exact next_bad
theorem resolve_value {eval : Operand → Value} {c : Call} {f : Operand} {ty : TypeId} {fid : FuncId} {xs ys : Array Value} (hc : c.callee = .value f) (hf : eval f = .func (.func fid) xs ys) (w : World) :
    (resolve eval c ty).run P w = .ok { target := .fn (.func fid) ys, args := xs ++ c.args.map eval } w := by
  simp [resolve, hc, hf, Deferred.ofValue]
theorem opCall_ok (H : HRel E ρ h nx w) (hX : XOk P X E.σ) {eval : Operand → Value} {c : Call} {ty : TypeId} (hev : EvOk E ρ m tm loc eval c.operands.toList) :
    NextOk E P ρ nx w (do let d ← resolve eval c ty; invoke d.target d.args) (opCall P X c m tm loc h nx) := by
  have hargs : LRel E.σ ρ (evL c.args.toList m tm loc) (c.args.map eval).toList := by
    rw [Array.toList_map]
    exact evL_ok _ fun x hx => hev x (by simp only [Call.operands, Array.toList_append, List.mem_append]; exact .inr hx)
  unfold opCall
  simp only [evLK_eq]
  split
  · rename_i b hb
    have hres : (do let d ← resolve eval c ty; invoke d.target d.args).run P w = (builtin b c.argTypes ty (c.args.map fun | .const _ => true | _ => false) (c.args.map eval)).run P w := by
      simp only [Sem.run_bind, resolve, hb, Sem.run_pure, Result.andThen_ok, invoke]; rfl
    have g := opBuiltin_ok (P := P) H (b := b) (ts := c.argTypes) (ty := ty) (consts := c.args.map fun | .const _ => true | _ => false) hargs
    unfold NextOk NVal at g ⊢
    rw [hres]; exact g
  · rename_i f hf
    have hfv := hev f (by simp [Call.operands, hf])
    have func : ∀ (fid : FuncId) (first cap : List AV), ev f m tm loc = .fn fid first cap → NextOk E P ρ nx w (do let d ← resolve eval c ty; invoke d.target d.args) (callFn P X fid (first ++ (evL c.args.toList m tm loc ++ cap)) h nx) := by
      intro fid first cap he
      rw [he] at hfv
      simp only [VRel] at hfv
      obtain ⟨xs, ys, hv, h1, h2⟩ := hfv
      have hlv : LRel E.σ ρ (first ++ (evL c.args.toList m tm loc ++ cap)) (xs ++ c.args.map eval ++ ys).toList := by
        rw [Array.toList_append, Array.toList_append, List.append_assoc]
        exact h1.append (hargs.append h2)
      have g := callFn_ok H hX hlv (f := fid)
      have hrun : (do let d ← resolve eval c ty; invoke d.target d.args).run P w = (callFunc fid (xs ++ c.args.map eval ++ ys)).run P w := by
        simp only [Sem.run_bind, resolve_value hf hv, Result.andThen_ok, invoke]
      unfold NextOk NVal at g ⊢
      rw [hrun]; exact g
    split
    · rename_i fid he
      have := func fid [] [] he
      simpa using this
    · rename_i fid first cap hne he
      exact func fid first cap he
    · rename_i l he
      rw [he] at hfv
      simp only [VRel] at hfv
      obtain ⟨b, N, hp, hv⟩ := hfv
      refine ⟨b, N, c.args.map eval, hp, hargs, ?_⟩
      simp [resolve, hf, hv, Deferred.ofValue, invoke]
    · exact next_bad
  · rename_i r name hr
    have hrv := hev r (by simp [Call.operands, hr])
    simp only [evK_eq]
    have g := opInvoke_ok H hX hrv hargs (name := name)
    have hrun : (do let d ← resolve eval c ty; invoke d.target d.args).run P w = (callMethod (eval r) name (c.args.map eval)).run P w := by
      have e0 : (#[eval r] ++ Array.map eval c.args)[0]? = some (eval r) := by rw [Array.getElem?_append_left (by simp)]; rfl
      simp only [Sem.run_bind, resolve, hr, Sem.run_pure, Result.andThen_ok, invoke, e0]
      have e1 : (Array.map eval c.args).extract 0 c.args.size = Array.map eval c.args := by
        have := Array.extract_size (xs := Array.map eval c.args)
        simpa using this
      have e2 : (#[eval r] ++ Array.map eval c.args).extract 1 (#[eval r] ++ Array.map eval c.args).size = Array.map eval c.args := by
        simp [e1]
      rw [e2]
    unfold NextOk NVal at g ⊢
    rw [hrun]; exact g
theorem opDefer_ok {eval : Operand → Value} {c : Call} {ty : TypeId} (hev : EvOk E ρ m tm loc eval c.operands.toList) : NextOk E P ρ nx w (do pure (.defer (← resolve eval c ty))) (opDefer c m tm loc) := by
  have hargs : LRel E.σ ρ (evL c.args.toList m tm loc) (c.args.map eval).toList := by
    rw [Array.toList_map]
    exact evL_ok _ fun x hx => hev x (by simp only [Call.operands, Array.toList_append, List.mem_append]; exact .inr hx)
  unfold opDefer
  simp only [evLK_eq]
  split
  · rename_i f hf
    have hfv := hev f (by simp [Call.operands, hf])
    split
    · rename_i fid first cap he
      rw [he] at hfv
      simp only [VRel] at hfv
      obtain ⟨xs, ys, hv, h1, h2⟩ := hfv
      refine ⟨{ target := .fn (.func fid) ys, args := xs ++ c.args.map eval }, by simp [resolve_value hf hv], .call ?_⟩
      rw [Array.toList_append, Array.toList_append, List.append_assoc]
      exact h1.append (hargs.append h2)
    · exact next_bad
  · exact next_bad

theorem doOp_defer {o : Oper} : ∀ c, o.op = .defer c → (∃ d, doOp P X o.op m tm loc h nx = .defer d) ∨ ∃ y, doOp P X o.op m tm loc h nx = .bad y := by
  intro c hc
  rw [hc]
  simp only [doOp, oDefer, opDefer, evLK_eq]
  split
  · split
    · exact .inl ⟨_, rfl⟩
    · exact .inr ⟨_, rfl⟩
  · exact .inr ⟨_, rfl⟩

theorem float_next (H : HRel E ρ h nx w) {s : Sem Next} {k : FK} {r : OR} (hk : k.isAnchor = false) (g : FloatOk E P ρ h nx w s k r) : NextOk E P ρ nx w s r := by
  rcases g with ⟨why, rfl⟩ | g
  · exact next_bad
  · cases k
    · obtain ⟨s', hs, g⟩ := g; exact next_good (hs w) (g.good H)
    · obtain ⟨s', hs, g⟩ := g; exact next_good (hs w) (g.good H)
    · obtain ⟨s', hs, g⟩ := g; exact next_good (hs w) (g.good H)
    · cases hk
theorem doOp_ok (H : HRel E ρ h nx w) (hX : XOk P X E.σ) {eval : Operand → Value} {o : Oper} (hev : EvOk E ρ m tm loc eval o.op.operands.toList) : NextOk E P ρ nx w (execOp eval o) (doOp P X o.op m tm loc h nx) := by
  cases hk : (kindOf P o).isAnchor with
  | false => exact float_next H hk (doOp_float H hev)
  | true =>
    obtain ⟨dst, op, type, pos, after, guard⟩ := o
    cases op
    case assign x => exact next_good (s' := pure (eval x)) (by simp [execOp]) (GoodP.good H (by simp only [doOp, oMove, evK_eq]; exact goodP_val rfl (hev x (by simp [Op.operands]))))
    case store t a v =>
      have ha := hev a (by simp [Op.operands]); have hv := hev v (by simp [Op.operands])
      simp only [doOp, oStore, evK_eq]
      exact next_u (opStore_ok H ha hv)
    case mapUpdate t mm k v =>
      have hm := hev mm (by simp [Op.operands]); have hk := hev k (by simp [Op.operands]); have hv := hev v (by simp [Op.operands])
      simp only [doOp, oMapUpdate, evK_eq]
      exact next_u (opMapUpdate_ok H hm hk hv)
    case insert t mm k v =>
      have hm := hev mm (by simp [Op.operands]); have hk := hev k (by simp [Op.operands]); have hv := hev v (by simp [Op.operands])
      simp only [doOp, oMapUpdate, evK_eq]
      exact next_u (opMapUpdate_ok H hm hk hv)
    case range t x => exact next_good (by simp [execOp]) ((opRange_ok H (hev x (by simp [Op.operands]))).good H)
    case next it s => exact next_good (by simp [execOp]) (opNext_ok (ty := type) H (hev it (by simp [Op.operands])))
    case entry it => exact next_good (by simp [execOp]) ((opEntry_ok H (hev it (by simp [Op.operands]))).good H)
    case convert s d x =>
      have hx := hev x (by simp [Op.operands])
      simp only [kindOf] at hk
      split at hk <;> simp only [FK.isAnchor, Bool.false_eq_true] at hk
      rename_i hs hd
      exact next_good (by simp [execOp]) (conv_slice H hx hs hd)
    case call c => exact opCall_ok H hX (by simpa [Op.operands] using hev)
    case defer c => exact opDefer_ok (by simpa [Op.operands] using hev)
    all_goals first
      | exact next_bad
      | (simp only [kindOf, FK.isAnchor, Bool.false_eq_true] at hk; done)
end Go.Sx
