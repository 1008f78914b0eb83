/-
  seek.
-/
import Derived.Test.YtialecgadoepjaaRv
set_option linter.unusedVariables false
set_option linter.unusedSimpArgs false
namespace Go.Cb
variable {w : World} {F : List HP} {Q : Value → World → Prop}

theorem bin_raw {P : Program} {op : BinOp} {t : TypeId} {ox oy : Operand} {x y : Value} {w : World} {v : Value} (h1 : binV op x y = none) (h0 : cmpV P op t x y = none) (h2 : (eqGuard op t ox oy x y).run P w = .ok () w) (h3 : (binOp op t x y).run P w = .ok v w) : binG false P op t ox oy x y w = some (v, w) := by
  unfold binG
  rw [h1, h0]
  simp only [cond_false, rawV]
  rw [Sem.run_bind, h2]
  simp only [Result.andThen_ok, h3]

theorem eq_ptr_nil {P : Program} {t e : TypeId} (hu : P.underlying t = some (.pointer e)) (a : Option Addr) (w : World) (d : Nat) : (Op.equalIn (d + 1) t (.pointer a) (.pointer none)).run P w = .ok a.isNone w := by
  cases a <;> simp [Op.equalIn, und_run hu]
theorem eql_ptr {P : Program} {t e : TypeId} {ox oy : Operand} (hu : P.underlying t = some (.pointer e)) {a : Option Addr} {w : World} : binG false P .eql t ox oy (.pointer a) (.pointer none) w = some (.bool a.isNone, w) := by
  refine bin_raw rfl rfl rfl ?_
  have h4 : (Op.equal t (.pointer a) (.pointer none)).run P w = .ok a.isNone w := eq_ptr_nil hu a w 9999
  simp only [binOp]
  simp [h4]
theorem neq_ptr {P : Program} {t e : TypeId} {ox oy : Operand} (hu : P.underlying t = some (.pointer e)) {a : Option Addr} {w : World} : binG false P .neq t ox oy (.pointer a) (.pointer none) w = some (.bool (!a.isNone), w) := by
  refine bin_raw rfl rfl rfl ?_
  have h4 : (Op.equal t (.pointer a) (.pointer none)).run P w = .ok a.isNone w := eq_ptr_nil hu a w 9999
  simp only [binOp]
  simp [h4]
theorem up101 : Pg.underlying 101 = some (.pointer 40) := by kernel_rfl
theorem up25 : Pg.underlying 25 = some (.pointer 57) := by kernel_rfl
theorem up55 : Pg.underlying 55 = some (.pointer 100) := by kernel_rfl

theorem flat_setv (key : ByteArray) (y : V1) : ∀ (xs : List Ent) (i : Nat) (h : i < xs.length), xs[i].1 = key → (xs.flatMap encE).set (i * 2 + 1) y.1 = (xs.set i (key, y)).flatMap encE
  | x :: r, 0, _, hk => by
    simp at hk
    simp [encE, hk]
  | x :: r, i + 1, h, hk => by
    have := flat_setv key y r i (by simpa using h) (by simpa using hk)
    simp only [List.flatMap_cons, List.set_cons_succ, ← this]
    rw [List.set_append_right _ _ (by simp [encE]; omega)]
    congr 2
    simp [encE]; omega

/-- a value turned in its place. -/
theorem sl_setv {v : Value} {xs : List Ent} {i : Nat} {key : ByteArray} {y : V1} {b o : Nat} (h : Sat w (slH 40 2 encE v xs :: F)) (hi : i < xs.length) (hk : xs[i].1 = key) (hb : ixA Pg 37 v (int i) = some (ptr b o)) :
    ∃ w', rawU Pg (Instr.storeAt 3 (ptr b (o + 1)) y.1) w = some (undef, w') ∧ Sat w' (slH 40 2 encE v (xs.set i (key, y)) :: F) ∧ Sm w w' := by
  obtain ⟨i', z, hi', hk', _⟩ := T37.i
  rcases slH_cases h with ⟨a, rfl, rfl, h'⟩ | ⟨b', c, l, rfl, h1, h2, h3, h'⟩
  · simp at hi
  · rw [ix_sl T37.u hi' hi, hk', Nat.zero_add] at hb
    simp only [Option.some.injEq, Value.pointer.injEq, Addr.mk.injEq, and_true] at hb
    obtain ⟨rfl, rfl⟩ := hb
    obtain ⟨w', g1, g2, g3⟩ := st_one (P := Pg) (t := 3) (sz_of (by kernel_rfl)) h' 0 rfl (o := i * 2 + 1) (by omega) y.2
    refine ⟨w', g1, ?_, g3⟩
    refine slH_mk (by simp) (by rw [List.length_set]; exact h1) (by simpa using h2) ?_ g2
    rw [List.length_set, List.take_set, h3, flat_setv key y xs i hi hk]

theorem nd_setv {p k : Nat} {l : List Ent} {ks : List Nat} {i : Nat} {key : ByteArray} (hs : Sat w (nd p l ks :: F)) (hi : i < l.length) (hk : l[i].1 = key) :
    ∃ lv b o, ldV Pg 37 (ptr p 0) w = some lv ∧ ixA Pg 37 lv (int i) = some (ptr b o) ∧ ldV Pg 3 (ptr b (o + 1)) w = some l[i].2.1 ∧
      ∀ y : V1, ∃ w', rawU Pg (Instr.storeAt 3 (ptr b (o + 1)) y.1) w = some (undef, w') ∧ Sat w' (nd p (l.set i (key, y)) ks :: F) ∧ Sm w w' := by
  obtain ⟨lv, kv, h⟩ := nd_open hs
  obtain ⟨b, o, h1, _, _, h2⟩ := ix_l h 1 rfl (List.getElem?_eq_getElem hi)
  refine ⟨lv, b, o, ld_l h 0 rfl, h1, h2, fun y => ?_⟩
  obtain ⟨w', g1, g2, g3⟩ := sl_setv (y := y) (h.foc (k := 1) rfl) hi hk h1
  exact ⟨w', g1, nd_mk (g2.sw), g3⟩

def SeekQ (h p : Nat) (t : BT h) (F : List HP) (key : ByteArray) (w0 : World) (v : Value) (w' : World) : Prop :=
  ((v = .pointer none ∧ ¬ hasL (flat h t) key) ∨ ∃ b o e, v = ptr b o ∧ e ∈ flat h t ∧ e.1 = key ∧ ldV Pg 3 (ptr b (o + 1)) w' = some e.2.1 ∧
    ∀ y : V1, ∃ w'', rawU Pg (Instr.storeAt 3 (ptr b (o + 1)) y.1) w' = some (undef, w'') ∧ (∃ t' : BT h, Sat w'' (tr h p t' :: F) ∧ wf h t' ∧ flat h t' = putL (flat h t) (key, y) ∧ (ents h t').length = (ents h t).length) ∧ Sm w' w'') ∧
  Sat w' (tr h p t :: F) ∧ Sm w0 w'

theorem seek_loop : ∀ (h p : Nat) (t : BT h) (key : ByteArray) (e : Env) (w : World) (F : List HP), wf h t → Srt (flat h t) → Sat w (tr h p t :: F) → e 5 = ptr p 0 → e 1 = .string key → e 36 = undef →
    Ok (evalLoop (cx46 (Fn Pg) (Rnd Pg)) (cdA Go.Proofs.Try.f46 [1, 1, 0, 0]) (K46_1 (Fn Pg) (Rnd Pg)) e w) (SeekQ h p t F key w) := by
  intro h
  induction h with
  | zero =>
    intro p (t : List Ent) key e w F hw hsr hs e5 e1 e36
    have hs : Sat w (nd p t [] :: F) := hs
    have hw : List.length t ≤ 5 := hw
    rw [S46_L1_eq]; unfold S46_L1
    rw [e5, e1, e36]
    refine Ok.bind (find_ok hs (k := 0) rfl (by omega)) ?_
    rintro v w1 ⟨l1, l2, b, hl, hf, rfl, h2, s1⟩
    have hsr' : Srt (l1 ++ l2) := by rw [← hl]; exact hsr
    have hf2 := fits_has hf hsr'
    refine Ok.rd rfl (Ok.rd rfl ?_)
    cases b with
    | false =>
      refine Ok.cf rfl (Ok.rd2 (leaf_eq h2 0 rfl) (Ok.ct rfl ?_))
      refine ⟨_, _, rfl, .inl ⟨rfl, ?_⟩, h2, s1⟩
      have := (hf2.2 rfl).1
      rw [← hl] at this
      exact this
    | true =>
      obtain ⟨x, r, rfl, rfl⟩ := hf2.1 rfl
      have hi : l1.length < List.length t := by rw [hl]; simp
      have hx : t[l1.length]'hi = x := by
        have : t[l1.length]? = some x := by rw [hl]; simp
        rw [List.getElem?_eq_getElem hi] at this
        exact Option.some.inj this
      refine Ok.ct rfl ?_
      obtain ⟨lv, b, o, g1, g2, g3, g4⟩ := nd_setv (k := 0) (key := x.1) h2 hi (by rw [hx])
      refine Ok.rd (nil_ptr _ _) (Ok.rd (fld100_0 _ _) (Ok.rd g1 (Ok.rd g2 ?_)))
      refine ⟨_, _, rfl, .inr ⟨b, o, x, rfl, ?_, rfl, ?_, fun y => ?_⟩, h2, s1⟩
      · show x ∈ t; rw [hl]; simp
      · rw [g3, hx]
      · obtain ⟨w'', m1, m2, m3⟩ := g4 y
        refine ⟨w'', m1, ⟨List.set t l1.length (x.1, y), m2, ?_, ?_, ?_⟩, m3⟩
        · show List.length (List.set t _ _) ≤ 5; rw [List.length_set]; exact hw
        · show List.set t _ _ = putL t (x.1, y)
          rw [hl, put_set (x := x) (e := (x.1, y)) (srt_mid hsr').1 (srt_mid hsr').2 rfl]; simp
        · show List.length (List.set t _ _) = List.length t; rw [List.length_set]
  | succ h ih =>
    intro p t key e w F hw hsr hs e5 e1 e36
    obtain ⟨l, ks⟩ := t
    have hl5 : l.length ≤ 5 := hw.1
    have hkl : ks.length = l.length + 1 := hw.2.1
    obtain ⟨qs, hq, hs0⟩ := tr_open1 hs
    clear hs
    have hq : qs.map (·.2) = ks := hq
    have hqs : qs.length = l.length + 1 := by rw [← hkl, ← hq, List.length_map]
    subst hq
    have hkids : ∀ q ∈ qs, wf h q.2 ∧ 2 ≤ (ents h q.2).length := fun q hm => wf_kid hw (List.mem_map_of_mem hm)
    have hs0 : Sat w (nd p l (qs.map (·.1)) :: (fo h qs ++ F)) := hs0
    have hl30 : l.length ≤ 2 ^ 30 := by omega
    rw [S46_L1_eq]; unfold S46_L1
    rw [e5, e1, e36]
    refine Ok.bind (find_ok hs0 (k := 0) rfl hl30) ?_
    rintro v w1 ⟨l1, l2, b, rfl, hf, rfl, h2, s1⟩
    clear hs0
    refine Ok.rd rfl (Ok.rd rfl ?_)
    obtain ⟨q1, ⟨f, k⟩, q2, rfl, e1'⟩ := ex_at (xs := qs) (i := l1.length) (by rw [hqs]; simp; omega)
    have e2' : q2.length = l2.length := by simp at hqs; omega
    have hfl := flat_at (p := f) (l2 := l2) (q2 := q2) (k := k) e1'
    have hkw : wf h k ∧ 2 ≤ (ents h k).length := hkids (f, k) (by simp)
    have hp : ((q1 ++ (f, k) :: q2).map (·.1))[l1.length]? = some f := by rw [← e1']; simp
    cases b with
    | false =>
      refine Ok.cf rfl (Ok.rd2 (leaf_eq h2 0 rfl) (Ok.cf (by simp) ?_))
      have hhd : ∀ y, l2.head? = some y → kl key y.1 = true := by
        intro y hy
        rcases hf.2 with ⟨rfl, _⟩ | ⟨y', r, rfl, hy', hb⟩
        · cases hy
        · simp at hy; subst hy
          exact kl_gt hy' (by simpa using hb)
      obtain ⟨hA, hB, hsk⟩ := beside e1' hsr hf.1 hhd
      refine go_nkid h2 0 rfl hp fun z a => ?_
      have h3 := pull1 (q := (f, k)) |>.1 h2
      refine Ok.mono (ih f k key _ w1 _ hkw.1 hsk h3.sw rfl e1 e36) ?_
      rintro v w2 ⟨g1, g2, g3⟩
      refine ⟨?_, put_kid rfl g2, s1.trans g3⟩
      rw [hfl]
      rcases g1 with ⟨rfl, g1⟩ | ⟨b, o, x, rfl, m1, m2, m3, m4⟩
      · exact .inl ⟨rfl, fun hh => g1 ((has_mid hA hB).1 hh)⟩
      · refine .inr ⟨b, o, x, rfl, by simp [m1], m2, m3, fun y => ?_⟩
        obtain ⟨w'', n1, ⟨k', n2, n3, n4, n5⟩, n6⟩ := m4 y
        obtain ⟨t', t1, t2, t3, t4⟩ := rem_close (k := k) e1' e2' rfl n2 hl5 (fun q hm => hkids q (by simp at hm ⊢; rcases hm with hm | hm; exact .inl hm; exact .inr (.inr hm))) n3 (by omega)
        refine ⟨w'', n1, ⟨t', t1, t2, ?_, ?_⟩, n6⟩
        · rw [t3, n4, put_mid (e := (key, y)) hA hB]
        · show t'.1.length = (l1 ++ l2).length
          rw [t4]
    | true =>
      obtain ⟨x, r, rfl, rfl⟩ : ∃ e r, l2 = e :: r ∧ e.1 = key := by
        rcases hf.2 with ⟨_, hh⟩ | ⟨y', r, rfl, hy', hb⟩
        · cases hh
        · exact ⟨y', r, rfl, by simpa using hb⟩
      refine Ok.ct rfl ?_
      have hi : l1.length < (l1 ++ x :: r).length := by simp
      have hx : (l1 ++ x :: r)[l1.length]'hi = x := by simp
      obtain ⟨lv, b, o, g1, g2, g3, g4⟩ := nd_setv (k := 0) (key := x.1) h2 hi (by rw [hx])
      refine Ok.rd (nil_ptr _ _) (Ok.rd (fld100_0 _ _) (Ok.rd g1 (Ok.rd g2 ?_)))
      have h3 := tr_mk1 h2
      obtain ⟨⟨f2, k2⟩, q2', rfl⟩ : ∃ q r, q2 = q :: r := by
        cases q2 with
        | nil => simp at e2'
        | cons q r => exact ⟨q, r, rfl⟩
      refine ⟨_, _, rfl, .inr ⟨b, o, x, rfl, ?_, rfl, ?_, fun y => ?_⟩, h3, s1⟩
      · rw [hfl, show fk h ((f2, k2) :: q2') = flat h k2 :: fk h q2' from rfl, rpart_cons]; simp
      · rw [g3, hx]
      · obtain ⟨w'', m1, m2, m3⟩ := g4 y
        have hset : (l1 ++ x :: r).set l1.length (x.1, y) = l1 ++ (x.1, y) :: r := by simp
        rw [hset] at m2
        refine ⟨w'', m1, ⟨_, tr_mk1 m2, ⟨by simp at hl5 ⊢; omega, by simp at hqs ⊢; omega, hw.2.2⟩, ?_, ?_⟩, m3⟩
        · have hfl2 := flat_at (p := f) (l2 := (x.1, y) :: r) (q2 := (f2, k2) :: q2') (k := k) e1'
          rw [hfl, show fk h ((f2, k2) :: q2') = flat h k2 :: fk h q2' from rfl, rpart_cons] at hsr
          rw [hfl2, hfl, show fk h ((f2, k2) :: q2') = flat h k2 :: fk h q2' from rfl, rpart_cons, rpart_cons]
          rw [List.cons_append] at hsr
          simp only [List.cons_append]
          rw [put_set (x := x) (e := (x.1, y)) (srt_mid hsr).1 (srt_mid hsr).2 rfl]
        · show (l1 ++ (x.1, y) :: r).length = (l1 ++ x :: r).length
          simp

end Go.Cb
