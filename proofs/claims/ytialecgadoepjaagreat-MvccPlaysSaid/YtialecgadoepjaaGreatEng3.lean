/-
  The evaluator's operations are the model's: each that goes through is what the model runs.
-/
import Derived.Test.YtialecgadoepjaaGreatEng2
import Derived.Laws.Sem
namespace Go.Cb
variable {P : Program}

theorem und_run {t : TypeId} {d : TypeDesc} (h : P.underlying t = some d) (w : World) : (underlying t).run P w = .ok d w := by
  simp [underlying, h]
theorem inf_run {t : TypeId} {i : TypeInfo} (h : P.info? t = some i) (w : World) : (typeInfo t).run P w = .ok i w := by
  simp [typeInfo, h]
theorem siz_run {t : TypeId} {i : TypeInfo} (h : P.info? t = some i) (w : World) : (Go.sizeOf t).run P w = .ok i.size w := by
  simp [Go.sizeOf, inf_run h]
theorem agg_run {t : TypeId} {b : Bool} (h : aggT P t = some b) (w : World) : (isAgg t).run P w = .ok b w := by
  unfold aggT at h
  cases hu : P.underlying t with
  | none => rw [hu] at h; cases h
  | some d =>
    rw [hu] at h
    cases d <;> simp at h <;> subst h <;> simp [isAgg, und_run hu]

theorem okV_eq {s : Sem Value} {v : Value} (h : okV s = some v) : s = Sem.pure v := by
  unfold okV at h
  split at h
  · injection h with h; subst h; rfl
  · cases h

theorem bin_run {op : BinOp} {t : TypeId} {ox oy : Operand} {x y v : Value} (h : binV op x y = some v) (w : World) :
    (do eqGuard op t ox oy x y; binOp op t x y : Sem Value).run P w = .ok v w := by
  have hg : (eqGuard op t ox oy x y).run P w = .ok () w := by
    unfold eqGuard
    cases op <;> first | rfl | (cases x <;> cases y <;> simp [binV] at h <;> rfl)
  rw [Sem.run_bind, hg]
  simp only [Result.andThen_ok]
  cases x with
  | int k a =>
    cases y with
    | int k' b =>
      by_cases hk : k = k'
      · subst hk
        cases op <;> simp [binV] at h <;> (try subst h) <;>
          first
          | rfl
          | (obtain ⟨h0, rfl⟩ := h; simp [binOp, Op.shift, Int.not_lt.2 h0]; done)
          | (obtain ⟨h0, rfl⟩ := h; simp [binOp, Op.intDiv, h0]; done)
          | (simp [binOp, Op.intArith, Op.intCmp]; done)
          | (simp [binOp, okV_eq h]; done)
      · cases op <;> simp [binV, hk] at h <;>
          first
          | (obtain ⟨h0, rfl⟩ := h; simp [binOp, Op.shift, Int.not_lt.2 h0]; done)
    | _ => cases op <;> simp [binV] at h
  | string a =>
    cases y with
    | string b =>
      cases op <;> simp [binV] at h <;> (try subst h) <;>
        first
        | (obtain ⟨h0, rfl⟩ := h; simp [binOp, Op.stringOp]; omega)
        | (simp [binOp, Op.stringOp]; done)
    | _ => cases op <;> simp [binV] at h
  | _ => cases op <;> simp [binV] at h

theorem un_run {op : UnOp} {x v : Value} (h : unV op x = some v) (w : World) : (Op.unary op x).run P w = .ok v w := by
  cases op <;> cases x <;> simp [unV] at h <;> (try subst h) <;>
    first
    | (simp [Op.unary, Op.intArith]; done)
    | (simp [Op.unary, okV_eq h]; done)

theorem fldA_run {s : TypeId} {x v : Value} {f : Nat} (h : fldA P s x f = some v) (w : World) : (Instr.fieldAt s x f).run P w = .ok v w := by
  unfold fldA at h
  split at h
  · rename_i fields a hu
    split at h
    · rename_i fd hf
      split at h
      · rename_i i hi
        split at h
        · cases h
        · rename_i hs
          injection h with h; subst h
          simp [Instr.fieldAt, und_run hu, hf, Instr.sureAddr, fieldPlace, siz_run hi, hs]
      · cases h
    · cases h
  · cases h

theorem part_run {t : TypeId} {cs : Array Value} {off : Nat} {v : Value} (h : partV P t cs off = some v) (w : World) : (part t cs off).run P w = .ok v w := by
  unfold partV at h
  split at h
  · rename_i ha
    split at h
    · rename_i i hi
      injection h with h; subst h
      simp [part, agg_run ha, siz_run hi]
    · cases h
  · rename_i ha
    simp [part, agg_run ha, h]
  · cases h

theorem fld_run {s : TypeId} {x v : Value} {f : Nat} (h : fldV P s x f = some v) (w : World) : (Instr.field s x f).run P w = .ok v w := by
  unfold fldV at h
  split at h
  · rename_i fields cs hu
    split at h
    · rename_i fd hf
      simp [Instr.field, und_run hu, hf, asAgg, part_run h]
    · cases h
  · cases h

theorem ixA_run {t : TypeId} {x i v : Value} (h : ixA P t x i = some v) (w : World) : (Instr.indexAt t x i).run P w = .ok v w := by
  unfold ixA at h
  split at h
  · rename_i k n
    split at h
    · rename_i elem a len cap hu
      split at h
      · rename_i inf hi
        split at h
        · rename_i hb
          injection h with h; subst h
          simp [Instr.indexAt, asIntOf, und_run hu, siz_run hi, hb.1, hb.2]
        · cases h
      · cases h
    · rename_i len elem a hu
      split at h
      · rename_i inf hi
        split at h
        · rename_i hb
          injection h with h; subst h
          simp [Instr.indexAt, asIntOf, und_run hu, siz_run hi, hb.1, hb.2, Instr.sureAddr]
        · cases h
      · cases h
    · cases h
  · cases h

theorem ix_run {t : TypeId} {x i v : Value} (h : ixV P t x i = some v) (w : World) : (Instr.index t x i).run P w = .ok v w := by
  unfold ixV at h
  split at h
  · rename_i k n
    split at h
    · rename_i s hu
      split at h
      · rename_i hn
        simp only [Option.map_eq_some_iff] at h
        obtain ⟨b, hb, rfl⟩ := h
        simp [Instr.index, asIntOf, und_run hu, hn, hb]
      · cases h
    · rename_i len elem cs hu
      split at h
      · rename_i inf hi
        split at h
        · rename_i hb
          simp [Instr.index, asIntOf, und_run hu, siz_run hi, hb.1, hb.2, part_run h]
        · cases h
      · cases h
    · cases h
  · cases h

theorem bd_run {x : Value} {y n : Nat} (h : bdV x y = some n) (c : BoundsCode) (w : World) : (Instr.sliceBound x y c).run P w = .ok n w := by
  unfold bdV at h
  split at h
  · split at h
    · rename_i hb
      injection h with h; subst h
      simp [Instr.sliceBound, asIntOf, hb.1, hb.2]
    · cases h
  · cases h


theorem bds_run {b : Bool} {n c h l : Nat} {lo hi : Option Value} (hh : bdO n c hi = some h) (hl : bdO 0 h lo = some l) (w : World) :
    (Instr.sliceBounds b n c lo hi none).run P w = .ok (l, h, c) w := by
  cases hi with
  | none =>
    simp only [bdO, Option.some.injEq] at hh; subst hh
    cases lo with
    | none => simp only [bdO, Option.some.injEq] at hl; subst hl; simp [Instr.sliceBounds]
    | some x => simp only [bdO] at hl; simp [Instr.sliceBounds, bd_run hl]
  | some y =>
    simp only [bdO] at hh
    cases lo with
    | none => simp only [bdO, Option.some.injEq] at hl; subst hl; simp [Instr.sliceBounds, bd_run hh]
    | some x => simp only [bdO] at hl; simp [Instr.sliceBounds, bd_run hh, bd_run hl]

theorem sl_run {t : TypeId} {x v : Value} {lo hi mx : Option Value} (h : slV P t x lo hi mx = some v) (w : World) : (Instr.sliceAt t x lo hi mx).run P w = .ok v w := by
  unfold slV at h
  split at h
  · rename_i s hu
    simp only [Option.bind_eq_some_iff] at h
    obtain ⟨hv, hh, l, hl, h⟩ := h
    injection h with h; subst h
    simp [Instr.sliceAt, und_run hu, Instr.slice, bds_run hh hl]
  · rename_i elem a len cap hu
    simp only [Option.bind_eq_some_iff] at h
    obtain ⟨hv, hh, l, hl, h⟩ := h
    split at h
    · rename_i inf hi'
      injection h with h; subst h
      simp [Instr.sliceAt, und_run hu, Instr.slice, bds_run hh hl, siz_run hi']
    · cases h
  · rename_i elem a len cap m hu
    split at h
    · cases h
    · rename_i hv
      simp only [Option.bind_eq_some_iff] at h
      obtain ⟨m', hm, h', hh, l, hl, h⟩ := h
      split at h
      · rename_i inf hi'
        injection h with h; subst h
        cases lo with
        | none => simp only [bdO, Option.some.injEq] at hl; subst hl; simp [Instr.sliceAt, und_run hu, Instr.slice, Instr.sliceBounds, bd_run hm, bd_run hh, siz_run hi']
        | some y => simp only [bdO] at hl; simp [Instr.sliceAt, und_run hu, Instr.slice, Instr.sliceBounds, bd_run hm, bd_run hh, bd_run hl, siz_run hi']
      · cases h
  · rename_i n elem a hu
    simp only [Option.bind_eq_some_iff] at h
    obtain ⟨hv, hh, l, hl, h⟩ := h
    split at h
    · rename_i inf hi'
      injection h with h; subst h
      simp [Instr.sliceAt, und_run hu, Instr.sureAddr, bds_run hh hl, siz_run hi']
    · cases h
  · cases h

theorem ext_run {x v : Value} {i : Nat} (h : extV x i = some v) (w : World) : (Instr.extract x i).run P w = .ok v w := by
  unfold extV at h
  split at h
  · simp [Instr.extract, h]
  · cases h

theorem flds_run (w : World) : ∀ {l : List Field} {ps : List (Nat × Nat)}, fldsV P l = some ps →
    (l.mapM (fun f => do pure (f.offset, ← Go.sizeOf f.type) : Field → Sem (Nat × Nat))).run P w = .ok ps w := by
  intro l
  induction l with
  | nil => intro ps h; simp only [fldsV, Option.some.injEq] at h; subst h; simp
  | cons f r ih =>
    intro ps h
    simp only [fldsV, Option.bind_eq_some_iff, Option.map_eq_some_iff] at h
    obtain ⟨i, hi, qs, hq, rfl⟩ := h
    rw [List.mapM_cons, Sem.run_bind, Sem.run_bind, siz_run hi]
    simp only [Result.andThen_ok, Sem.run_pure]
    rw [Sem.run_bind, ih hq]
    simp

theorem bld_run {t : TypeId} {ps : List (Nat × Value)} {v : Value} (h : bldV P t ps = some v) (w : World) : (Instr.build t ps.toArray).run P w = .ok v w := by
  unfold bldV at h
  simp only [Option.bind_eq_some_iff] at h
  obtain ⟨i, hi, z, hz, h⟩ := h
  have hzr : (zeroValue t).run P w = .ok z w := by simp [zeroValue, inf_run hi, hz]
  split at h
  · rename_i fields hu
    simp only [Option.bind_eq_some_iff, Option.map_eq_some_iff] at h
    obtain ⟨pl, hpl, cells, hf, rfl⟩ := h
    have hm := flds_run (P := P) w hpl
    simp only [Instr.build, Sem.run_bind, hzr, Result.andThen_ok, und_run hu]
    rw [Array.mapM_eq_mapM_toList]
    simp only [Sem.run_map, hm, Result.andThen_ok]
    simp [hf]
  · rename_i n elem hu
    simp only [Option.bind_eq_some_iff, Option.map_eq_some_iff] at h
    obtain ⟨ie, hie, cells, hf, rfl⟩ := h
    simp [Instr.build, hzr, und_run hu, siz_run hie, hf]
  · cases h

theorem cells_run (w : World) (a : Addr) : ∀ (n i : Nat) (acc : Array Value) (l : List Value), cellsAt w a i n = some l → (loadCellsFrom a i n acc).run P w = .ok (acc ++ l.toArray) w := by
  intro n
  induction n with
  | zero => intro i acc l h; simp only [cellsAt, Option.some.injEq] at h; subst h; simp [loadCellsFrom]
  | succ n ih =>
    intro i acc l h
    simp only [cellsAt, Option.bind_eq_some_iff, Option.map_eq_some_iff] at h
    obtain ⟨v, hv, r, hr, rfl⟩ := h
    simp [loadCellsFrom, hv, ih _ _ _ hr]

theorem ld_run {t : TypeId} {x v : Value} {w : World} (h : ldV P t x w = some v) : (Instr.loadAt t x).run P w = .ok v w := by
  unfold ldV at h
  split at h
  · rename_i a
    split at h
    · rename_i ha
      split at h
      · rename_i i hi
        simp only [Option.map_eq_some_iff] at h
        obtain ⟨l, hl, rfl⟩ := h
        simp [Instr.loadAt, Instr.sureAddr, loadVar, agg_run ha, siz_run hi, loadCells, cells_run w a _ _ _ _ hl]
      · cases h
    · rename_i ha
      simp [Instr.loadAt, Instr.sureAddr, loadVar, agg_run ha, h]
    · cases h
  · cases h

theorem rawV_run {s : Sem Value} {w : World} {v : Value} {w' : World} (h : rawV P s w = some (v, w')) : s.run P w = .ok v w' := by
  unfold rawV at h
  split at h
  · rename_i hs
    injection h with h; injection h with h1 h2; subst h1; subst h2; exact hs
  · cases h

theorem rawU_run {s : Sem Unit} {w : World} {v : Value} {w' : World} (h : rawU P s w = some (v, w')) : v = undef ∧ s.run P w = .ok () w' := by
  unfold rawU at h
  split at h
  · rename_i hs
    injection h with h; injection h with h1 h2; subst h1; subst h2; exact ⟨rfl, hs⟩
  · cases h

theorem rawN_run {s : Sem Next} {w : World} {v : Value} {w' : World} (h : rawN P s w = some (v, w')) : s.run P w = .ok (.value v) w' := by
  unfold rawN at h
  split at h
  · rename_i hs
    injection h with h; injection h with h1 h2; subst h1; subst h2; exact hs
  · cases h

theorem eqFs_run {d : Nat} (ih : ∀ (t : TypeId) (x y : Value) (b : Bool), eqV P d t x y = some b → ∀ w, (Op.equalIn d t x y).run P w = .ok b w) (xs ys : Array Value) : ∀ (fs : List Field) (b : Bool), eqFs P (eqV P d) xs ys fs = some b → ∀ w,
    ((forIn fs ((none, ()) : Option Bool × Unit) fun f _ => (if f.name ≠ "_" then do
        let a ← part f.type xs f.offset
        let b ← part f.type ys f.offset
        let r ← Op.equalIn d f.type a b
        if (!r) = true then pure (ForInStep.done (some false, ())) else pure (ForInStep.yield (none, ()))
      else pure (ForInStep.yield (none, ()))) : Sem (Option Bool × Unit)).run P w = .ok (if b then none else some false, ()) w)
  | [], b, h, w => by
    injection h with h; subst h; rfl
  | f :: r, b, h, w => by
    unfold eqFs at h
    rw [List.forIn_cons, Sem.run_bind]
    by_cases hf : f.name = "_"
    · rw [if_neg (by simpa using hf)]
      simp only [hf, decide_true, cond_true] at h
      exact eqFs_run ih xs ys r b h w
    · rw [if_pos hf]
      simp only [hf, decide_false, cond_false, Option.bind_eq_some_iff] at h
      obtain ⟨a, ha, c, hc, t, ht, h⟩ := h
      rw [Sem.run_bind, part_run ha, Result.andThen_ok, Sem.run_bind, part_run hc, Result.andThen_ok, Sem.run_bind, ih _ _ _ _ ht, Result.andThen_ok]
      cases t with
      | true => exact eqFs_run ih xs ys r b h w
      | false => injection h with h; subst h; rfl
theorem eqV_run : ∀ (d : Nat) (t : TypeId) (x y : Value) (b : Bool), eqV P d t x y = some b → ∀ w, (Op.equalIn d t x y).run P w = .ok b w
  | 0, _, _, _, _, h, _ => by cases h
  | d + 1, t, x, y, b, h, w => by
    unfold eqV at h
    split at h
    · split at h
      · rename_i hu
        injection h with h; subst h
        simp [Op.equalIn, und_run hu]
      · cases h
    · split at h
      · rename_i hu
        split at h
        · rename_i hk
          subst hk
          injection h with h; subst h
          simp [Op.equalIn, und_run hu]
        · cases h
      · cases h
    · split at h
      · rename_i hu
        injection h with h; subst h
        simp [Op.equalIn, und_run hu]
      · cases h
    · split at h
      · rename_i fs hu
        cases hp : P.stoodInHeld t with
        | true => rw [hp] at h; cases h
        | false =>
          rw [hp] at h
          have := eqFs_run (eqV_run d) _ _ _ _ h w
          simp only [Op.equalIn, Sem.run_bind, und_run hu, Result.andThen_ok, run_program, hp, Bool.false_eq_true, if_false]
          rw [← Array.forIn_toList, this]
          cases b <;> rfl
      · cases h
    · cases h
theorem cmp_run {op : BinOp} {t : TypeId} {ox oy : Operand} {x y v : Value} (h : cmpV P op t x y = some v) (w : World) : (do eqGuard op t ox oy x y; binOp op t x y : Sem Value).run P w = .ok v w := by
  have fin : ∀ {x y : Value}, (∀ op, (eqGuard op t ox oy x y).run P w = .ok () w) → (binOp .eql t x y = do pure (.bool (← Op.equal t x y))) → (binOp .neq t x y = do pure (.bool (!(← Op.equal t x y)))) → cmpO op (eqV P 10000 t x y) = some v → (do eqGuard op t ox oy x y; binOp op t x y : Sem Value).run P w = .ok v w := by
    intro x y hg h1 h2 h
    rw [Sem.run_bind, hg, Result.andThen_ok]
    unfold cmpO at h
    split at h
    · obtain ⟨b, hb, rfl⟩ := Option.map_eq_some_iff.1 h
      have := eqV_run _ _ _ _ _ hb w
      have h3 : (Op.equal t x y).run P w = .ok b w := this
      rw [h1, Sem.run_bind, h3, Result.andThen_ok]; rfl
    · obtain ⟨b, hb, rfl⟩ := Option.map_eq_some_iff.1 h
      have := eqV_run _ _ _ _ _ hb w
      have h3 : (Op.equal t x y).run P w = .ok b w := this
      rw [h2, Sem.run_bind, h3, Result.andThen_ok]; rfl
    · cases h
  unfold cmpV at h
  split at h
  · exact fin (fun op => by cases op <;> rfl) rfl rfl h
  · cases hq : P.eqGuardType P.depth t with
    | true => rw [hq] at h; cases h
    | false =>
      rw [hq] at h
      exact fin (fun op => by cases op <;> simp [eqGuard, run_program, hq]) rfl rfl h
  · cases h

theorem binG_run {st : Bool} {op : BinOp} {t : TypeId} {ox oy : Operand} {x y v : Value} {w w' : World} (h : binG st P op t (opnd ox) (opnd oy) x y w = some (v, w')) :
    (do eqGuard op t ox oy x y; binOp op t x y : Sem Value).run P w = .ok v w' := by
  unfold binG at h
  split at h
  · rename_i u hb
    injection h with h; injection h with h1 h2; subst h1; subst h2
    exact bin_run hb w
  split at h
  · rename_i u hb
    injection h with h; injection h with h1 h2; subst h1; subst h2
    exact cmp_run hb w
  · cases st
    · have hE : eqGuard op t (opnd ox) (opnd oy) x y = eqGuard op t ox oy x y := by
        unfold eqGuard opnd
        cases ox <;> cases oy <;> rfl
      rw [hE] at h
      exact rawV_run h
    · cases h

theorem sameW_run {s : Sem Value} {w w' : World} {v : Value} (h : sameW P s w = some (v, w')) : s.run P w = .ok v w' := by
  unfold sameW at h
  split at h
  · rename_i v1 w1 hr
    split at h
    · rename_i hw
      subst hw
      injection h with h; injection h with h1 h2; subst h1; subst h2
      exact hr
    · cases h
  · cases h
theorem cvG_run {st : Bool} {s d : TypeId} {x v : Value} {w w' : World} (h : cvG st P s d x w = some (v, w')) : (convert s d x).run P w = .ok v w' := by
  unfold cvG at h
  split at h
  · rename_i k hs hd
    injection h with h; injection h with h1 h2; subst h1; subst h2
    simp [convert, und_run hs, und_run hd, Conv.intToInt]
  · rename_i hs hd
    injection h with h; injection h with h1 h2; subst h1; subst h2
    simp [convert, und_run hs, und_run hd]
  · cases st
    · exact rawV_run h
    · exact sameW_run h

theorem lkG_run {st : Bool} {t : TypeId} {x i v : Value} {ok : Bool} {w w' : World} (h : lkG st P t x i ok w = some (v, w')) : (Instr.lookup t x i ok).run P w = .ok v w' := by
  unfold lkG at h
  cases st
  · exact rawV_run h
  · exact sameW_run h

theorem lenG_run {st : Bool} {b : Builtin} {ts : Array TypeId} {t : TypeId} {cs : Array Bool} {args : List Value} {v : Value} {w w' : World}
    (h : lenG st P b ts t cs args w = some (v, w')) : (builtin b ts t cs args.toArray).run P w = .ok (.value v) w' := by
  unfold lenG at h
  split at h
  · split at h
    · rename_i hu
      injection h with h; injection h with h1 h2; subst h1; subst h2
      simp only [Option.bind_eq_some_iff] at hu
      obtain ⟨t0, ht, hu⟩ := hu
      simp [builtin, Builtin.len_, ht, und_run hu]
    · cases h
  · split at h
    · rename_i hu
      injection h with h; injection h with h1 h2; subst h1; subst h2
      simp only [Option.bind_eq_some_iff] at hu
      obtain ⟨t0, ht, hu⟩ := hu
      simp [builtin, Builtin.len_, ht, und_run hu]
    · cases h
  · split at h
    · rename_i hu
      injection h with h; injection h with h1 h2; subst h1; subst h2
      simp only [Option.bind_eq_some_iff] at hu
      obtain ⟨t0, ht, hu⟩ := hu
      simp [builtin, Builtin.cap_, ht, und_run hu]
    · cases h
  · cases st
    · exact rawN_run h
    · cases h

theorem nil_run {x v : Value} (h : nilV x = some v) : v = x ∧ ((∃ a, x = .pointer (some a)) ∨ (∃ g f c, x = .func (.func g) f c) ∨ ∃ g f c, x = .func (.yield g) f c) := by
  unfold nilV at h
  split at h <;> first
    | (injection h with h; subst h; exact ⟨rfl, .inl ⟨_, rfl⟩⟩)
    | (injection h with h; subst h; exact ⟨rfl, .inr (.inl ⟨_, _, _, rfl⟩)⟩)
    | (injection h with h; subst h; exact ⟨rfl, .inr (.inr ⟨_, _, _, rfl⟩)⟩)
    | cases h

end Go.Cb
