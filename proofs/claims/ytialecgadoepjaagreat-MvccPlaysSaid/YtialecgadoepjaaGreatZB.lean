import Derived.Test.YtialecgadoepjaaGreatZA
/-
  seek.
-/
set_option linter.unusedVariables false
set_option linter.unusedSimpArgs false
namespace Go.Cb
variable {w : World} {F : List HP} {Q : Value → World → Prop}

theorem bin_raw {P : Program} {op : BinOp} {t : TypeId} {ox oy : Operand} {x y : Value} {w : World} {v : Value} (h1 : binV op x y = none) (h0 : cmpV P op t x y = none) (h2 : (eqGuard op t ox oy x y).run P w = .ok () w) (h3 : (binOp op t x y).run P w = .ok v w) : binG false P op t ox oy x y w = some (v, w) := by
  unfold binG
  rw [h1, h0]
  simp only [cond_false, rawV]
  rw [Sem.run_bind, h2]
  simp only [Result.andThen_ok, h3]

theorem eq_ptr_nil {P : Program} {t e : TypeId} (hu : P.underlying t = some (.pointer e)) (a : Option Addr) (w : World) (d : Nat) : (Op.equalIn (d + 1) t (.pointer a) (.pointer none)).run P w = .ok a.isNone w := by
  cases a <;> simp [Op.equalIn, und_run hu]
theorem eql_ptr {P : Program} {t e : TypeId} {ox oy : Operand} (hu : P.underlying t = some (.pointer e)) {a : Option Addr} {w : World} : binG false P .eql t ox oy (.pointer a) (.pointer none) w = some (.bool a.isNone, w) := by
  refine bin_raw rfl rfl rfl ?_
  have h4 : (Op.equal t (.pointer a) (.pointer none)).run P w = .ok a.isNone w := eq_ptr_nil hu a w 9999
  simp only [binOp]
  simp [h4]
theorem neq_ptr {P : Program} {t e : TypeId} {ox oy : Operand} (hu : P.underlying t = some (.pointer e)) {a : Option Addr} {w : World} : binG false P .neq t ox oy (.pointer a) (.pointer none) w = some (.bool (!a.isNone), w) := by
  refine bin_raw rfl rfl rfl ?_
  have h4 : (Op.equal t (.pointer a) (.pointer none)).run P w = .ok a.isNone w := eq_ptr_nil hu a w 9999
  simp only [binOp]
  simp [h4]
theorem up101 : Pg.underlying 237 = some (.pointer 240) := by kernel_rfl
theorem up25 : Pg.underlying 141 = some (.pointer 234) := by kernel_rfl
theorem up55 : Pg.underlying 228 = some (.pointer 232) := by kernel_rfl

theorem flat_setv (key : ByteArray) (y : V1) : ∀ (xs : List Ent) (i : Nat) (h : i < xs.length), xs[i].1 = key → (xs.flatMap encE).set (i * 2 + 1) y.1 = (xs.set i (key, y)).flatMap encE
  | x :: r, 0, _, hk => by
    simp at hk
    simp [encE, hk]
  | x :: r, i + 1, h, hk => by
    have := flat_setv key y r i (by simpa using h) (by simpa using hk)
    simp only [List.flatMap_cons, List.set_cons_succ, ← this]
    rw [List.set_append_right _ _ (by simp [encE]; omega)]
    congr 2
    simp [encE]; omega

/-- a value turned in its place. -/
theorem sl_setv {v : Value} {xs : List Ent} {i : Nat} {key : ByteArray} {y : V1} {b o : Nat} (h : Sat w (slH 240 2 encE v xs :: F)) (hi : i < xs.length) (hk : xs[i].1 = key) (hb : ixA Pg 229 v (int i) = some (ptr b o)) :
    ∃ w', rawU Pg (Instr.storeAt 43 (ptr b (o + 1)) y.1) w = some (undef, w') ∧ Sat w' (slH 240 2 encE v (xs.set i (key, y)) :: F) ∧ Sm w w' := by
  obtain ⟨i', z, hi', hk', _⟩ := T37.i
  rcases slH_cases h with ⟨a, rfl, rfl, h'⟩ | ⟨b', c, l, rfl, h1, h2, h3, h'⟩
  · simp at hi
  · rw [ix_sl T37.u hi' hi, hk', Nat.zero_add] at hb
    simp only [Option.some.injEq, Value.pointer.injEq, Addr.mk.injEq, and_true] at hb
    obtain ⟨rfl, rfl⟩ := hb
    obtain ⟨w', g1, g2, g3⟩ := st_one (P := Pg) (t := 43) (sz_of (by kernel_rfl)) h' 0 rfl (o := i * 2 + 1) (by omega) y.2
    refine ⟨w', g1, ?_, g3⟩
    refine slH_mk (by simp) (by rw [List.length_set]; exact h1) (by simpa using h2) ?_ g2
    rw [List.length_set, List.take_set, h3, flat_setv key y xs i hi hk]

theorem nd_setv {p k : Nat} {l : List Ent} {ks : List Nat} {i : Nat} {key : ByteArray} (hs : Sat w (nd p l ks :: F)) (hi : i < l.length) (hk : l[i].1 = key) :
    ∃ lv b o, ldV Pg 229 (ptr p 0) w = some lv ∧ ixA Pg 229 lv (int i) = some (ptr b o) ∧ ldV Pg 43 (ptr b (o + 1)) w = some l[i].2.1 ∧
      ∀ y : V1, ∃ w', rawU Pg (Instr.storeAt 43 (ptr b (o + 1)) y.1) w = some (undef, w') ∧ Sat w' (nd p (l.set i (key, y)) ks :: F) ∧ Sm w w' := by
  obtain ⟨lv, kv, h⟩ := nd_open hs
  obtain ⟨b, o, h1, _, _, h2⟩ := ix_l h 1 rfl (List.getElem?_eq_getElem hi)
  refine ⟨lv, b, o, ld_l h 0 rfl, h1, h2, fun y => ?_⟩
  obtain ⟨w', g1, g2, g3⟩ := sl_setv (y := y) (h.foc (k := 1) rfl) hi hk h1
  exact ⟨w', g1, nd_mk (g2.sw), g3⟩

def SeekQ (h p : Nat) (t : BT h) (F : List HP) (key : ByteArray) (w0 : World) (v : Value) (w' : World) : Prop :=
  ((v = .pointer none ∧ ¬ hasL (flat h t) key) ∨ ∃ b o e, v = ptr b o ∧ e ∈ flat h t ∧ e.1 = key ∧ ldV Pg 43 (ptr b (o + 1)) w' = some e.2.1 ∧
    ∀ y : V1, ∃ w'', rawU Pg (Instr.storeAt 43 (ptr b (o + 1)) y.1) w' = some (undef, w'') ∧ (∃ t' : BT h, Sat w'' (tr h p t' :: F) ∧ wf h t' ∧ flat h t' = putL (flat h t) (key, y) ∧ (ents h t').length = (ents h t).length) ∧ Sm w' w'') ∧
  Sat w' (tr h p t :: F) ∧ Sm w0 w'

theorem seek_loop : ∀ (h p : Nat) (t : BT h) (key : ByteArray) (e : Env) (w : World) (F : List HP), wf h t → Srt (flat h t) → Sat w (tr h p t :: F) → e 5 = ptr p 0 → e 1 = .string key → e 36 = undef →
    Ok (evalLoop (cx137 (Fn Pg) (Rnd Pg)) (cdA Go.Proofs.Tryz.f137 [1, 1, 0, 0]) (K137_1 (Fn Pg) (Rnd Pg)) e w) (SeekQ h p t F key w) := by
  intro h
  induction h with
  | zero =>
    intro p (t : List Ent) key e w F hw hsr hs e5 e1 e36
    have hs : Sat w (nd p t [] :: F) := hs
    have hw : List.length t ≤ 5 := hw
    rw [S137_L1_eq]; unfold S137_L1
    rw [e5, e1, e36]
    refine Ok.bind (find_ok hs (k := 0) rfl (by omega)) ?_
    rintro v w1 ⟨l1, l2, b, hl, hf, rfl, h2, s1⟩
    have hsr' : Srt (l1 ++ l2) := by rw [← hl]; exact hsr
    have hf2 := fits_has hf hsr'
    refine Ok.rd rfl (Ok.rd rfl ?_)
    cases b with
    | false =>
      refine Ok.cf rfl (Ok.rd2 (leaf_eq h2 0 rfl) (Ok.ct rfl ?_))
      refine ⟨_, _, rfl, .inl ⟨rfl, ?_⟩, h2, s1⟩
      have := (hf2.2 rfl).1
      rw [← hl] at this
      exact this
    | true =>
      obtain ⟨x, r, rfl, rfl⟩ := hf2.1 rfl
      have hi : l1.length < List.length t := by rw [hl]; simp
      have hx : t[l1.length]'hi = x := by
        have : t[l1.length]? = some x := by rw [hl]; simp
        rw [List.getElem?_eq_getElem hi] at this
        exact Option.some.inj this
      refine Ok.ct rfl ?_
      obtain ⟨lv, b, o, g1, g2, g3, g4⟩ := nd_setv (k := 0) (key := x.1) h2 hi (by rw [hx])
      refine Ok.rd (nil_ptr _ _) (Ok.rd (fld100_0 _ _) (Ok.rd g1 (Ok.rd g2 ?_)))
      refine ⟨_, _, rfl, .inr ⟨b, o, x, rfl, ?_, rfl, ?_, fun y => ?_⟩, h2, s1⟩
      · show x ∈ t; rw [hl]; simp
      · rw [g3, hx]
      · obtain ⟨w'', m1, m2, m3⟩ := g4 y
        refine ⟨w'', m1, ⟨List.set t l1.length (x.1, y), m2, ?_, ?_, ?_⟩, m3⟩
        · show List.length (List.set t _ _) ≤ 5; rw [List.length_set]; exact hw
        · show List.set t _ _ = putL t (x.1, y)
          rw [hl, put_set (x := x) (e := (x.1, y)) (srt_mid hsr').1 (srt_mid hsr').2 rfl]; simp
        · show List.length (List.set t _ _) = List.length t; rw [List.length_set]
  | succ h ih =>
    intro p t key e w F hw hsr hs e5 e1 e36
    obtain ⟨l, ks⟩ := t
    have hl5 : l.length ≤ 5 := hw.1
    have hkl : ks.length = l.length + 1 := hw.2.1
    obtain ⟨qs, hq, hs0⟩ := tr_open1 hs
    clear hs
    have hq : qs.map (·.2) = ks := hq
    have hqs : qs.length = l.length + 1 := by rw [← hkl, ← hq, List.length_map]
    subst hq
    have hkids : ∀ q ∈ qs, wf h q.2 ∧ 2 ≤ (ents h q.2).length := fun q hm => wf_kid hw (List.mem_map_of_mem hm)
    have hs0 : Sat w (nd p l (qs.map (·.1)) :: (fo h qs ++ F)) := hs0
    have hl30 : l.length ≤ 2 ^ 30 := by omega
    rw [S137_L1_eq]; unfold S137_L1
    rw [e5, e1, e36]
    refine Ok.bind (find_ok hs0 (k := 0) rfl hl30) ?_
    rintro v w1 ⟨l1, l2, b, rfl, hf, rfl, h2, s1⟩
    clear hs0
    refine Ok.rd rfl (Ok.rd rfl ?_)
    obtain ⟨q1, ⟨f, k⟩, q2, rfl, e1'⟩ := ex_at (xs := qs) (i := l1.length) (by rw [hqs]; simp; omega)
    have e2' : q2.length = l2.length := by simp at hqs; omega
    have hfl := flat_at (p := f) (l2 := l2) (q2 := q2) (k := k) e1'
    have hkw : wf h k ∧ 2 ≤ (ents h k).length := hkids (f, k) (by simp)
    have hp : ((q1 ++ (f, k) :: q2).map (·.1))[l1.length]? = some f := by rw [← e1']; simp
    cases b with
    | false =>
      refine Ok.cf rfl (Ok.rd2 (leaf_eq h2 0 rfl) (Ok.cf (by simp) ?_))
      have hhd : ∀ y, l2.head? = some y → kl key y.1 = true := by
        intro y hy
        rcases hf.2 with ⟨rfl, _⟩ | ⟨y', r, rfl, hy', hb⟩
        · cases hy
        · simp at hy; subst hy
          exact kl_gt hy' (by simpa using hb)
      obtain ⟨hA, hB, hsk⟩ := beside e1' hsr hf.1 hhd
      refine go_nkid h2 0 rfl hp fun z a => ?_
      have h3 := pull1 (q := (f, k)) |>.1 h2
      refine Ok.mono (ih f k key _ w1 _ hkw.1 hsk h3.sw rfl e1 e36) ?_
      rintro v w2 ⟨g1, g2, g3⟩
      refine ⟨?_, put_kid rfl g2, s1.trans g3⟩
      rw [hfl]
      rcases g1 with ⟨rfl, g1⟩ | ⟨b, o, x, rfl, m1, m2, m3, m4⟩
      · exact .inl ⟨rfl, fun hh => g1 ((has_mid hA hB).1 hh)⟩
      · refine .inr ⟨b, o, x, rfl, by simp [m1], m2, m3, fun y => ?_⟩
        obtain ⟨w'', n1, ⟨k', n2, n3, n4, n5⟩, n6⟩ := m4 y
        obtain ⟨t', t1, t2, t3, t4⟩ := rem_close (k := k) e1' e2' rfl n2 hl5 (fun q hm => hkids q (by simp at hm ⊢; rcases hm with hm | hm; exact .inl hm; exact .inr (.inr hm))) n3 (by omega)
        refine ⟨w'', n1, ⟨t', t1, t2, ?_, ?_⟩, n6⟩
        · rw [t3, n4, put_mid (e := (key, y)) hA hB]
        · show t'.1.length = (l1 ++ l2).length
          rw [t4]
    | true =>
      obtain ⟨x, r, rfl, rfl⟩ : ∃ e r, l2 = e :: r ∧ e.1 = key := by
        rcases hf.2 with ⟨_, hh⟩ | ⟨y', r, rfl, hy', hb⟩
        · cases hh
        · exact ⟨y', r, rfl, by simpa using hb⟩
      refine Ok.ct rfl ?_
      have hi : l1.length < (l1 ++ x :: r).length := by simp
      have hx : (l1 ++ x :: r)[l1.length]'hi = x := by simp
      obtain ⟨lv, b, o, g1, g2, g3, g4⟩ := nd_setv (k := 0) (key := x.1) h2 hi (by rw [hx])
      refine Ok.rd (nil_ptr _ _) (Ok.rd (fld100_0 _ _) (Ok.rd g1 (Ok.rd g2 ?_)))
      have h3 := tr_mk1 h2
      obtain ⟨⟨f2, k2⟩, q2', rfl⟩ : ∃ q r, q2 = q :: r := by
        cases q2 with
        | nil => simp at e2'
        | cons q r => exact ⟨q, r, rfl⟩
      refine ⟨_, _, rfl, .inr ⟨b, o, x, rfl, ?_, rfl, ?_, fun y => ?_⟩, h3, s1⟩
      · rw [hfl, show fk h ((f2, k2) :: q2') = flat h k2 :: fk h q2' from rfl, rpart_cons]; simp
      · rw [g3, hx]
      · obtain ⟨w'', m1, m2, m3⟩ := g4 y
        have hset : (l1 ++ x :: r).set l1.length (x.1, y) = l1 ++ (x.1, y) :: r := by simp
        rw [hset] at m2
        refine ⟨w'', m1, ⟨_, tr_mk1 m2, ⟨by simp at hl5 ⊢; omega, by simp at hqs ⊢; omega, hw.2.2⟩, ?_, ?_⟩, m3⟩
        · have hfl2 := flat_at (p := f) (l2 := (x.1, y) :: r) (q2 := (f2, k2) :: q2') (k := k) e1'
          rw [hfl, show fk h ((f2, k2) :: q2') = flat h k2 :: fk h q2' from rfl, rpart_cons] at hsr
          rw [hfl2, hfl, show fk h ((f2, k2) :: q2') = flat h k2 :: fk h q2' from rfl, rpart_cons, rpart_cons]
          rw [List.cons_append] at hsr
          simp only [List.cons_append]
          rw [put_set (x := x) (e := (x.1, y)) (srt_mid hsr).1 (srt_mid hsr).2 rfl]
        · show (l1 ++ (x.1, y) :: r).length = (l1 ++ x :: r).length
          simp

end Go.Cb

/-
  The tree as its users see it: New, Len, Get, Put, Delete.
-/
set_option linter.unusedVariables false
set_option linter.unusedSimpArgs false
namespace Go.Cb
variable {w : World} {F : List HP} {Q : Value → World → Prop}

theorem fld57_0 (b o : Nat) : fldA Pg 234 (ptr b o) 0 = some (ptr b o) := by kernel_rfl
theorem fld57_1 (b o : Nat) : fldA Pg 234 (ptr b o) 1 = some (ptr b (o + 1)) := by kernel_rfl
theorem bld100_0 : bldV Pg 232 [] = some (.agg #[.slice none 0 0, .slice none 0 0]) := by kernel_rfl
theorem bld100_k (a : Option Addr) (n c : Nat) : bldV Pg 232 [(1, .slice a n c)] = some (.agg #[.slice none 0 0, .slice a n c]) := by kernel_rfl
theorem bld57_0 (r : Nat) : bldV Pg 234 [(0, ptr r 0)] = some (.agg #[ptr r 0, int 0]) := by kernel_rfl
theorem bld40_i (s : ByteArray) (a : Option Addr) (n c : Nat) : bldV Pg 240 [(0, .string s), (1, .slice a n c)] = some (.agg #[.string s, .slice a n c]) := by kernel_rfl
def vI (n : Int) : V1 := ⟨int n, rfl⟩

def tree (T : Nat) (L : List Ent) : HP := fun x => ∃ r h t, (wf h t ∧ (h = 0 ∨ 1 ≤ (ents h t).length) ∧ flat h t = L ∧ Srt L) ∧ stars [pt T [ptr r 0, int L.length] 234, tr h r t] x

theorem tree_open {T : Nat} {L : List Ent} (hs : Sat w (tree T L :: F)) : ∃ r h, ∃ t : BT h, wf h t ∧ (h = 0 ∨ 1 ≤ (ents h t).length) ∧ flat h t = L ∧ Srt L ∧ Sat w (pt T [ptr r 0, int L.length] 234 :: tr h r t :: F) := by
  obtain ⟨r, hs⟩ := Sat.ex.1 hs
  obtain ⟨h, hs⟩ := Sat.ex.1 hs
  obtain ⟨t, hs⟩ := Sat.ex.1 hs
  obtain ⟨⟨h1, h2, h3, h4⟩, hs⟩ := Sat.and.1 hs
  exact ⟨r, h, t, h1, h2, h3, h4, Sat.flat.1 hs⟩
theorem tree_mk {T r h : Nat} {L : List Ent} {t : BT h} {n : Int} (h1 : wf h t) (h2 : h = 0 ∨ 1 ≤ (ents h t).length) (h3 : flat h t = L) (h4 : Srt L) (hn : n = L.length) (hs : Sat w (pt T [ptr r 0, int n] 234 :: tr h r t :: F)) : Sat w (tree T L :: F) := by
  subst hn
  exact Sat.ex.2 ⟨r, Sat.ex.2 ⟨h, Sat.ex.2 ⟨t, Sat.and.2 ⟨⟨h1, h2, h3, h4⟩, Sat.flat.2 hs⟩⟩⟩⟩

/-- of a tree: its root, its number. -/
theorem ld_root {T : Nat} {a b : Value} (hs : Sat w F) (k : Nat) (hk : F[k]? = some (pt T [a, b] 234)) : ldV Pg 228 (ptr T 0) w = some a := (ldV_sc a55 _ _).trans ((hs.foc hk).at.cell 0)
theorem ld_num {T : Nat} {a b : Value} (hs : Sat w F) (k : Nat) (hk : F[k]? = some (pt T [a, b] 234)) : ldV Pg 3 (ptr T (0 + 1)) w = some b := (ldV_sc a3 _ _).trans ((hs.foc hk).at.cell 1)
theorem st_root {T : Nat} {a b v : Value} (hs : Sat w F) (k : Nat) (hk : F[k]? = some (pt T [a, b] 234)) (hv : one v = true) : ∃ w', rawU Pg (Instr.storeAt 228 (ptr T 0) v) w = some (undef, w') ∧ Sat w' (F.set k (pt T [v, b] 234)) ∧ Sm w w' :=
  st_one (sz_of (by kernel_rfl)) hs k hk (Nat.zero_lt_succ _) hv
theorem st_num {T : Nat} {a b v : Value} (hs : Sat w F) (k : Nat) (hk : F[k]? = some (pt T [a, b] 234)) (hv : one v = true) : ∃ w', rawU Pg (Instr.storeAt 3 (ptr T (0 + 1)) v) w = some (undef, w') ∧ Sat w' (F.set k (pt T [a, v] 234)) ∧ Sm w w' :=
  st_one (sz_of (by kernel_rfl)) hs k hk (Nat.lt_succ_self 1) hv

theorem Ok.f0 {r : Unit → R} {k : Value → World → R} {w : World} (hk : Ok (k undef w) Q) : Ok (Cb.rd2 (gate (.bool true) false r w) k) Q := hk
theorem Ok.f1 {r : Unit → R} {k : Value → World → R} {v : Value} {w w' : World} (h : r () = some (v, w')) (hk : Ok (k v w') Q) : Ok (Cb.rd2 (gate (.bool false) false r w) k) Q := by
  show Ok (Cb.rd2 (r ()) k) Q
  rw [h]; exact hk

/-- is there no tree? -/
theorem none_ok {T : Nat} {a : Option Addr} {b : Value} (hs : Sat w F) (k : Nat) (hk : F[k]? = some (pt T [.pointer a, b] 234)) : Fn Pg 136 [ptr T 0] w = some (.bool a.isNone, w) := by
  have : Ok (Fn Pg 136 [ptr T 0] w) fun v w' => v = .bool a.isNone ∧ w' = w := by
    rw [F136]; unfold S136
    refine Ok.rd2 (eql_ptr up25) ?_
    refine Ok.f1 rfl (Ok.f1 (gr (nil_ptr _ _)) (Ok.f1 (gr (fld57_0 _ _)) (Ok.f1 (gr (ld_root hs k hk)) (Ok.f1 (gr2 (eql_ptr up55)) ?_))))
    refine Ok.rd (pick_f _ _) (Ok.ret ⟨rfl, rfl⟩)
  obtain ⟨v, w', h1, rfl, rfl⟩ := this
  exact h1
theorem none_nil : Fn Pg 136 [.pointer none] w = some (.bool true, w) := by
  have : Ok (Fn Pg 136 [.pointer none] w) fun v w' => v = .bool true ∧ w' = w := by
    rw [F136]; unfold S136
    refine Ok.rd2 (eql_ptr up25) ?_
    refine Ok.f0 (Ok.f0 (Ok.f0 (Ok.f0 (Ok.f0 ?_))))
    refine Ok.rd (pick_t _ _) (Ok.ret ⟨rfl, rfl⟩)
  obtain ⟨v, w', h1, rfl, rfl⟩ := this
  exact h1

theorem new_ok (hs : Sat w F) : Ok (Fn Pg 61 [] w) fun v w' => ∃ T, v = ptr T 0 ∧ Sat w' (tree T [] :: F) ∧ Sm w w' := by
  rw [F61]; unfold S61
  refine Ok.rd bld100_0 ?_
  refine go_box100 rfl rfl hs fun r w1 h1 s1 => ?_
  refine Ok.rd (bld57_0 r) (Ok.rd2 box_ok ?_)
  have hE := Ext.push (fun _ => False) w1 (.cells #[ptr r 0, int 0] 234)
  have h2 := h1.new (l' := [ptr r 0, int 0]) (T' := 234) hE (fun _ _ hf => hf) (At.new w1 [ptr r 0, int 0] 234) (Nat.le_refl _)
  refine ⟨_, _, rfl, _, rfl, ?_, s1.trans hE.sm⟩
  have h3 : Sat _ (slH 228 1 encP (.slice none 0 0) [] :: _) := slH_nil none h2
  have h4 : Sat _ (slH 240 2 encE (.slice none 0 0) [] :: _) := slH_nil none h3
  have h5 := nd_mk (h4.re [3, 0, 1, 2] (by decide))
  exact tree_mk (h := 0) (t := ([] : List Ent)) (by show List.length [] ≤ 5; simp) (.inl rfl) rfl List.Pairwise.nil rfl (h5.sw)

theorem len_ok {T : Nat} {L : List Ent} (hs : Sat w (tree T L :: F)) : Fn Pg 155 [ptr T 0] w = some (int L.length, w) := by
  obtain ⟨r, h, t, _, _, _, _, hs⟩ := tree_open hs
  have : Ok (Fn Pg 155 [ptr T 0] w) fun v w' => v = int L.length ∧ w' = w := by
    rw [F155]; unfold S155
    refine Ok.rd2 (none_ok hs 0 rfl) (Ok.cf rfl ?_)
    exact Ok.rd (nil_ptr _ _) (Ok.rd (fld57_1 _ _) (Ok.rd (ld_num hs 0 rfl) (Ok.ret ⟨rfl, rfl⟩)))
  obtain ⟨v, w', h1, rfl, rfl⟩ := this
  exact h1

theorem seek_ok {T r h : Nat} {t : BT h} {key : ByteArray} {b : Value} (hw : wf h t) (hsr : Srt (flat h t)) (hs : Sat w (pt T [ptr r 0, b] 234 :: tr h r t :: F)) : Ok (Fn Pg 137 [ptr T 0, .string key] w) (SeekQ h r t (pt T [ptr r 0, b] 234 :: F) key w) := by
  rw [F137]; unfold S137
  refine Ok.rd (nil_ptr _ _) (Ok.rd (fld57_0 _ _) (Ok.rd (ld_root hs 0 rfl) ?_))
  exact seek_loop h r t key _ w _ hw hsr hs.sw rfl rfl rfl

/-- the value at a key. -/
def getL (L : List Ent) (k : ByteArray) : Option V1 := (L.find? fun e => decide (e.1 = k)).map (·.2)
theorem get_none {L : List Ent} {k : ByteArray} (h : ¬ hasL L k) : getL L k = none := by
  have : L.find? (fun e => decide (e.1 = k)) = none := by
    rw [List.find?_eq_none]
    intro e he hk
    exact h ⟨e, he, by simpa using hk⟩
  simp [getL, this]
theorem get_some {L : List Ent} (hs : Srt L) {e : Ent} (he : e ∈ L) : getL L e.1 = some e.2 := by
  obtain ⟨A, B, rfl⟩ := List.append_of_mem he
  have hA := (srt_mid hs).1
  have : (A ++ e :: B).find? (fun x => decide (x.1 = e.1)) = some e := by
    rw [List.find?_append]
    have h0 : A.find? (fun x => decide (x.1 = e.1)) = none := by
      rw [List.find?_eq_none]
      intro x hx hk
      exact kl_ne (hA x hx) (by simpa using hk)
    rw [h0]; simp
  simp [getL, this]

theorem get_ok {T : Nat} {L : List Ent} {key : ByteArray} (hs : Sat w (tree T L :: F)) : Ok (Fn Pg 148 [ptr T 0, .string key] w) fun v w' =>
    v = (match getL L key with | some y => .tuple #[y.1, .bool true] | none => .tuple #[.slice none 0 0, .bool false]) ∧ Sat w' (tree T L :: F) ∧ Sm w w' := by
  obtain ⟨r, h, t, h1, h2, h3, h4, hs⟩ := tree_open hs
  subst h3
  rw [F148]; unfold S148
  refine Ok.rd2 (none_ok hs 0 rfl) (Ok.cf rfl ?_)
  refine Ok.bind (seek_ok h1 h4 hs) ?_
  rintro v w1 ⟨hv, g1, g2⟩
  have hback : Sat w1 (tree T (flat h t) :: F) := tree_mk h1 h2 rfl h4 rfl g1.sw
  rcases hv with ⟨rfl, hv⟩ | ⟨b, o, e, rfl, m1, rfl, m3, m4⟩
  · refine Ok.rd2 (eql_ptr up101) (Ok.ct rfl (Ok.ret ⟨?_, hback, g2⟩))
    rw [get_none hv]
  · refine Ok.rd2 (eql_ptr up101) (Ok.cf rfl ?_)
    refine Ok.rd (nil_ptr _ _) (Ok.rd (fld40_1 _ _) (Ok.rd m3 (Ok.ret ⟨?_, hback, g2⟩)))
    rw [get_some h4 m1]

theorem put_len {L : List Ent} (hs : Srt L) (e : Ent) : (hasL L e.1 → (putL L e).length = L.length) ∧ (¬ hasL L e.1 → (putL L e).length = L.length + 1) := by
  rcases srt_cases hs e.1 with ⟨h, A, x, B, rfl, hx, hA, hB⟩ | ⟨h, A, B, rfl, hA, hB⟩
  · exact ⟨fun _ => by rw [put_set hA hB hx]; simp, fun hh => absurd h hh⟩
  · exact ⟨fun hh => absurd hh h, fun _ => by rw [put_one hA hB]; simp; omega⟩
theorem del_len {L : List Ent} (hs : Srt L) {k : ByteArray} (h : hasL L k) : (delL L k).length + 1 = L.length := by
  rcases srt_cases hs k with ⟨_, A, x, B, rfl, hx, hA, hB⟩ | ⟨h', _⟩
  · rw [del_one hA hB hx]; simp; omega
  · exact absurd h h'

/-! the levels -/

def lvs : (h : Nat) → List (BT h) → List (List Nat)
  | 0, ts => [ts.map fun t => (ents 0 t).length]
  | h + 1, ts => (ts.map fun t => (ents (h + 1) t).length) :: lvs h (ts.flatMap fun t => t.2)

/-- what the page's example needs to know of Put. -/
def PutX (h : Nat) (t : BT h) (x : Ent) (h' : Nat) (t' : BT h') : Prop :=
  (h = 0 → (flat h t).length ≤ 4 → h' = 0) ∧ (h = 0 → (flat h t).length = 5 → (∀ y ∈ flat h t, kl y.1 x.1 = true) → lvs h' [t'] = [[1], [2, 3]])

theorem putX_room {h : Nat} {t t' : BT h} {x : Ent} (h4 : (ents h t).length ≤ 4) : PutX h t x h t' :=
  ⟨fun hh _ => hh, fun hh h5 _ => by subst hh; exact absurd (show (ents 0 t).length = 5 from h5) (by omega)⟩

theorem putX_full {h : Nat} {t ta tb : BT h} {em x : Ent} {t' : BT (h + 1)} (hsr : Srt (flat h t)) (h5 : (ents h t).length = 5) (hf : flat h t = flat h ta ++ em :: flat h tb) (la : (ents h ta).length = 2) (lb : (ents h tb).length = 2) (hX : insX (h + 1) (([em], [ta, tb]) : BT (h + 1)) x t') : PutX h t x (h + 1) t' := by
  refine ⟨fun hh h4 => by subst hh; exact absurd (show (ents 0 t).length ≤ 4 from h4) (by omega), fun hh _ hall => ?_⟩
  subst hh
  obtain ⟨l1, l2, k1, k2, k, k', e1, e2, e3, e4, e5, rfl, e7⟩ := hX (fun k hk => by
    have hk : k ∈ [ta, tb] := hk
    simp at hk
    rcases hk with rfl | rfl
    · exact Nat.le_trans (Nat.le_of_eq la) (by decide)
    · exact Nat.le_trans (Nat.le_of_eq lb) (by decide))
  have e1 : [em] = l1 ++ l2 := e1
  have e2 : [ta, tb] = k1 ++ k :: k2 := e2
  have hem : kl em.1 x.1 = true := hall em (by rw [hf]; simp)
  cases l1 with
  | nil =>
    have e1 : l2 = [em] := by simpa using e1.symm
    have := e5 em (by rw [e1]; rfl)
    rw [kl_asym hem] at this; cases this
  | cons a l1 =>
    have hl1 : l1 = [] ∧ l2 = [] ∧ a = em := by
      have h1 : 1 = (a :: l1).length + l2.length := by rw [← List.length_append, ← e1]; rfl
      rw [List.length_cons] at h1
      have h2 : l1 = [] := List.length_eq_zero_iff.1 (by omega)
      have h3 : l2 = [] := List.length_eq_zero_iff.1 (by omega)
      subst h2; subst h3
      simp at e1
      exact ⟨rfl, rfl, e1.symm⟩
    obtain ⟨rfl, rfl, rfl⟩ := hl1
    cases k1 with
    | nil => simp at e3
    | cons b k1 =>
      have hk1 : k1 = [] := List.length_eq_zero_iff.1 (by simpa using e3)
      subst hk1
      simp at e2
      obtain ⟨rfl, rfl, rfl⟩ := e2
      have hno : ¬ hasL (flat 0 tb) x.1 := by
        rintro ⟨z, hz, hzx⟩
        have := hall z (by rw [hf]; simp [hz])
        rw [hzx, kl_irr] at this; cases this
      have hsb : Srt (flat 0 tb) := by rw [hf] at hsr; exact (srt_cons.1 (srt_app.1 hsr).2.1).2
      have hk' : (ents 0 k').length = 3 := by
        have := (put_len hsb x).2 hno
        rw [← e7] at this
        exact this.trans (by rw [show (flat 0 tb).length = 2 from lb])
      show [[[a].length], [ta, k'].map fun t => (ents 0 t).length] = _
      simp [la, hk']

open Classical in
theorem putT_ok {T r h : Nat} {t : BT h} {key : ByteArray} {y : V1} (h1 : wf h t) (h2 : h = 0 ∨ 1 ≤ (ents h t).length) (h4 : Srt (flat h t)) (hs : Sat w (pt T [ptr r 0, int (flat h t).length] 234 :: tr h r t :: F)) (hb : (flat h t).length ≤ 2 ^ 30) (hbl : bldV Pg 240 [(0, .string key), (1, y.1)] = some (aggE (key, y))) :
    Ok (Fn Pg 64 [ptr T 0, .string key, y.1] w) fun v w' => v = .bool (decide (¬ hasL (flat h t) key)) ∧ Sm w w' ∧ ∃ (r' h' : Nat) (t' : BT h'), wf h' t' ∧ (h' = 0 ∨ 1 ≤ (ents h' t').length) ∧ flat h' t' = putL (flat h t) (key, y) ∧
      Sat w' (pt T [ptr r' 0, int (flat h' t').length] 234 :: tr h' r' t' :: F) ∧ (¬ hasL (flat h t) key → PutX h t (key, y) h' t') := by
  rw [F64]; unfold S64
  refine Ok.rd2 (none_ok hs 0 rfl) (Ok.cf rfl ?_)
  refine Ok.bind (seek_ok h1 h4 hs) ?_
  rintro v w1 ⟨hv, g1, g2⟩
  rcases hv with ⟨rfl, hv⟩ | ⟨b, o, e, rfl, m1, rfl, m3, m4⟩
  · refine Ok.rd2 (neq_ptr up101) (Ok.cf rfl ?_)
    have h1' := g1.sw
    refine Ok.rd (nil_ptr _ _) (Ok.rd (fld57_0 _ _) (Ok.rd (ld_root h1' 0 rfl) ?_))
    refine Ok.rd2 (full_tr h1' 1 rfl) ?_
    have fin : ∀ (w2 : World) (r' h' : Nat) (t' : BT h'), Sm w w2 → Sat w2 (pt T [ptr r' 0, int (flat h t).length] 234 :: tr h' r' t' :: F) → wf h' t' → (h' = 0 ∨ 1 ≤ (ents h' t').length) → flat h' t' = putL (flat h t) (key, y) → PutX h t (key, y) h' t' →
        Ok (rd (nilV (ptr T 0)) fun x57 =>
  rd (fldA Pg 234 x57 1) fun x58 =>
  rd (ldV Pg 3 x58 w2) fun x59 =>
  rd2 (binG false Pg .add 3 (.tmp 0) (.const .nilFunc) x59 (.int .i64 1) w2) fun x60 w61 =>
  rd (nilV (ptr T 0)) fun x62 =>
  rd (fldA Pg 234 x62 1) fun x63 =>
  rd2 (rawU Pg (Instr.storeAt 3 x63 x60) w61) fun x65 w64 =>
  some ((.bool true), w64)) fun v w' => v = .bool (decide (¬ hasL (flat h t) key)) ∧ Sm w w' ∧ ∃ (r' h' : Nat) (t' : BT h'), wf h' t' ∧ (h' = 0 ∨ 1 ≤ (ents h' t').length) ∧ flat h' t' = putL (flat h t) (key, y) ∧
      Sat w' (pt T [ptr r' 0, int (flat h' t').length] 234 :: tr h' r' t' :: F) ∧ (¬ hasL (flat h t) key → PutX h t (key, y) h' t') := by
      intro w2 r' h' t' s2 hs2 k1 k2 k3 k4
      refine Ok.rd (nil_ptr _ _) (Ok.rd (fld57_1 _ _) (Ok.rd (ld_num hs2 0 rfl) (Ok.rd2 (bin_add1 (by omega)) ?_)))
      obtain ⟨w3, n1, n2, n3⟩ := st_num (v := int ((flat h t).length + 1 : Nat)) hs2 0 rfl rfl
      refine Ok.rd (nil_ptr _ _) (Ok.rd (fld57_1 _ _) (Ok.rd2 n1 (Ok.ret ⟨?_, s2.trans n3, r', h', t', k1, k2, k3, ?_, fun _ => k4⟩)))
      · rw [decide_eq_true hv]
      · rw [k3, (put_len h4 (key, y)).2 hv]; exact n2
    refine Ok.ci (fun hfull => ?_) (fun hfull => ?_)
    · have hfull : (ents h t).length = 5 := by simpa using hfull
      refine Ok.rd (nil_ptr _ _) (Ok.rd (fld57_0 _ _) (Ok.rd (ld_root h1' 0 rfl) ?_))
      refine go_bsk h1' fun nb w2 h2' s2 => ?_
      refine Ok.rd (bld100_k _ _ _) ?_
      refine go_box100 rfl rfl h2' fun nr w3 h3' s3 => ?_
      obtain ⟨w4, n1, n2, n3⟩ := st_root (v := ptr nr 0) h3' 2 rfl rfl
      refine Ok.rd (nil_ptr _ _) (Ok.rd (fld57_0 _ _) (Ok.rd2 n1 ?_))
      refine Ok.rd (nil_ptr _ _) (Ok.rd (fld57_0 _ _) (Ok.rd (ld_root n2 2 rfl) ?_))
      have q1 : Sat w4 (slH 228 1 encP (sl nb 0 1 1) [r] :: pt nr [.slice none 0 0, sl nb 0 1 1] 232 :: pt T [ptr nr 0, int (flat h t).length] 234 :: tr h r t :: F) :=
        slH_mk (l := encP r) rfl rfl (by simp) (by simp [encP]) (n2.re [1, 0, 2, 3] (by decide))
      have q2 : Sat w4 (slH 240 2 encE (.slice none 0 0) [] :: _) := slH_nil none q1
      have q3 := nd_mk (q2.re [2, 0, 1, 3, 4] (by decide))
      have q4 : Sat w4 (nd nr [] [r] :: tr h r t :: pt T [ptr nr 0, int (flat h t).length] 234 :: F) := q3.re [0, 2, 1] (by decide)
      refine Ok.bind (split_tr (i := 0) q4 h1 hfull rfl (Nat.le_refl _) (by simp) (by simp)) ?_
      rintro v w5 ⟨⟨b', em, ta, tb, d1, d2, d3, d4, d5, d6⟩, s5⟩
      have d7 : Sat w5 (nd nr [em] ([(r, ta), (b', tb)].map (·.1)) :: (fo h [(r, ta), (b', tb)] ++ (pt T [ptr nr 0, int (flat h t).length] 234 :: F))) := d1
      have d8 := (tr_mk1 d7).sw
      refine Ok.rd (nil_ptr _ _) (Ok.rd (fld57_0 _ _) (Ok.rd (ld_root d8 0 rfl) ?_))
      refine Ok.rd hbl ?_
      have hfl : flat (h + 1) ([em], [(r, ta), (b', tb)].map (·.2)) = flat h t := by
        show il [em] [flat h ta, flat h tb] = _
        rw [d2]; simp [il, rpart]
      refine Ok.bind (insert_ok (h := h + 1) (x := (key, y)) (t := (([em], [(r, ta), (b', tb)].map (·.2)) : BT (h + 1))) ⟨by simp, by simp, fun q hq => by
        simp at hq
        rcases hq with rfl | rfl
        · exact ⟨d3, by omega⟩
        · exact ⟨d4, by omega⟩⟩ (by show List.length [em] ≤ 4; simp) (by rw [hfl]; exact h4) (by rw [hfl]; exact hv) d8.sw) ?_
      rintro v w6 ⟨⟨t', c1, c2, c3, c4, c5⟩, s6⟩
      rw [hfl] at c3
      exact fin w6 nr (h + 1) t' (g2.trans (s2.trans (s3.trans (n3.trans (s5.trans s6))))) c1.sw c2 (.inr (by have : 1 ≤ (ents (h + 1) t').length := c4; exact this)) c3 (putX_full h4 hfull d2 d5 d6 c5)
    · have hfull : (ents h t).length ≤ 4 := by have := wf_ents h1; simp at hfull; omega
      refine Ok.rd (nil_ptr _ _) (Ok.rd (fld57_0 _ _) (Ok.rd (ld_root h1' 0 rfl) ?_))
      refine Ok.rd hbl ?_
      refine Ok.bind (insert_ok (x := (key, y)) h1 hfull h4 hv h1'.sw) ?_
      rintro v w6 ⟨⟨t', c1, c2, c3, c4, c5⟩, s6⟩
      exact fin w6 r h t' (g2.trans s6) c1.sw c2 (h2.imp id fun hh => Nat.le_trans hh c4) c3 (putX_room hfull)
  · refine Ok.rd2 (neq_ptr up101) (Ok.ct rfl ?_)
    obtain ⟨w2, n1, ⟨t', n2, n3, n4, n5⟩, n6⟩ := m4 y
    refine Ok.rd (nil_ptr _ _) (Ok.rd (fld40_1 _ _) (Ok.rd2 n1 (Ok.ret ⟨?_, g2.trans n6, r, h, t', n3, (h2.imp id fun hh => by rw [n5]; exact hh), n4, ?_, fun hn => absurd ⟨e, m1, rfl⟩ hn⟩)))
    · have hh : hasL (flat h t) e.1 := ⟨e, m1, rfl⟩
      rw [decide_eq_false (fun hn => hn hh)]
    · rw [n4, (put_len h4 (e.1, y)).1 ⟨e, m1, rfl⟩]; exact n2.sw

open Classical in
theorem put_ok {T : Nat} {L : List Ent} {key : ByteArray} {y : V1} (hs : Sat w (tree T L :: F)) (hb : L.length ≤ 2 ^ 30) (hbl : bldV Pg 240 [(0, .string key), (1, y.1)] = some (aggE (key, y))) :
    Ok (Fn Pg 64 [ptr T 0, .string key, y.1] w) fun v w' => v = .bool (decide (¬ hasL L key)) ∧ Sat w' (tree T (putL L (key, y)) :: F) ∧ Sm w w' := by
  obtain ⟨r, h, t, h1, h2, h3, h4, hs⟩ := tree_open hs
  subst h3
  refine Ok.mono (putT_ok h1 h2 h4 hs hb hbl) ?_
  rintro v w' ⟨rfl, g1, r', h', t', g2, g3, g4, g5, _⟩
  exact ⟨rfl, tree_mk g2 g3 g4 (put_srt h4 _) (by rw [g4]) g5, g1⟩

open Classical in
theorem delete_ok {T : Nat} {L : List Ent} {key : ByteArray} (hs : Sat w (tree T L :: F)) (hb : L.length ≤ 2 ^ 30) :
    Ok (Fn Pg 71 [ptr T 0, .string key] w) fun v w' => v = .bool (decide (hasL L key)) ∧ Sat w' (tree T (delL L key) :: F) ∧ Sm w w' := by
  obtain ⟨r, h, t, h1, h2, h3, h4, hs⟩ := tree_open hs
  subst h3
  rw [F71]; unfold S71
  refine Ok.rd2 (none_ok hs 0 rfl) ?_
  obtain ⟨v, w1, hv0, hv, g1, g2⟩ := seek_ok (key := key) h1 h4 hs
  refine Ok.f1 rfl (Ok.f1 rfl (Ok.f1 (gr2 hv0) ?_))
  rcases hv with ⟨rfl, hv⟩ | ⟨b, o, e, rfl, m1, rfl, m3, m4⟩
  · refine Ok.f1 (gr2 (eql_ptr up101)) (Ok.rd (pick_f _ _) (Ok.ct rfl (Ok.ret ⟨?_, ?_, g2⟩)))
    · rw [decide_eq_false hv]
    · have hd : delL (flat h t) key = flat h t := by
        rcases srt_cases h4 key with ⟨h', _⟩ | ⟨_, A, B, he, hA, hB⟩
        · exact absurd h' hv
        · rw [he]
          have := del_mid (X := []) hA hB
          simpa [delL, lows, upps] using this
      rw [hd]
      exact tree_mk h1 h2 rfl h4 rfl g1.sw
  · have hh : hasL (flat h t) e.1 := ⟨e, m1, rfl⟩
    have hpos : 1 ≤ (flat h t).length := List.length_pos_of_mem m1
    refine Ok.f1 (gr2 (eql_ptr up101)) (Ok.rd (pick_f _ _) (Ok.cf rfl ?_))
    have h1' := g1.sw
    refine Ok.rd (nil_ptr _ _) (Ok.rd (fld57_0 _ _) (Ok.rd (ld_root h1' 0 rfl) ?_))
    refine Ok.bind (remove_ok h r t e.1 w1 _ h1 h2 h4 hh g1) ?_
    rintro v w2 ⟨⟨t', c1, c2, c3, c4⟩, s2⟩
    have hs2 := c1.sw
    have fin : ∀ (w3 : World) (r' h' : Nat) (t'' : BT h'), Sm w w3 → Sat w3 (pt T [ptr r' 0, int (flat h t).length] 234 :: tr h' r' t'' :: F) → wf h' t'' → (h' = 0 ∨ 1 ≤ (ents h' t'').length) → flat h' t'' = delL (flat h t) e.1 →
        Ok (rd (nilV (ptr T 0)) fun x73 =>
  rd (fldA Pg 234 x73 1) fun x74 =>
  rd (ldV Pg 3 x74 w3) fun x75 =>
  rd2 (binG false Pg .sub 3 (.tmp 0) (.const .nilFunc) x75 (.int .i64 1) w3) fun x76 w77 =>
  rd (nilV (ptr T 0)) fun x78 =>
  rd (fldA Pg 234 x78 1) fun x79 =>
  rd2 (rawU Pg (Instr.storeAt 3 x79 x76) w77) fun x81 w80 =>
  some ((.bool true), w80)) fun v w' => v = .bool (decide (hasL (flat h t) e.1)) ∧ Sat w' (tree T (delL (flat h t) e.1) :: F) ∧ Sm w w' := by
      intro w3 r' h' t'' s3 hs3 k1 k2 k3
      refine Ok.rd (nil_ptr _ _) (Ok.rd (fld57_1 _ _) (Ok.rd (ld_num hs3 0 rfl) (Ok.rd2 (bin_sub1 hpos (by omega)) ?_)))
      obtain ⟨w4, n1, n2, n3⟩ := st_num (v := int ((flat h t).length - 1 : Nat)) hs3 0 rfl rfl
      refine Ok.rd (nil_ptr _ _) (Ok.rd (fld57_1 _ _) (Ok.rd2 n1 (Ok.ret ⟨?_, ?_, s3.trans n3⟩)))
      · rw [decide_eq_true hh]
      · exact tree_mk k1 k2 k3 (del_srt h4 _) (by have := del_len h4 hh; omega) n2
    refine Ok.rd (nil_ptr _ _) (Ok.rd (fld57_0 _ _) (Ok.rd (ld_root hs2 0 rfl) ?_))
    obtain ⟨lv, y1, y2⟩ := tr_len hs2 (k := 1) rfl
    refine Ok.rd (nil_ptr _ _) (Ok.rd (fld100_0 _ _) (Ok.rd y1 (Ok.rd2 (y2 _ _ _ _) (Ok.rd2 bin_eql ?_))))
    by_cases h0 : (ents h t').length = 0
    · rw [show (((ents h t').length : Nat) : Int) == 0 from by rw [h0]; rfl]
      refine Ok.g1 rfl (Ok.g1 (gr (nil_ptr _ _)) (Ok.g1 (gr (fld57_0 _ _)) (Ok.g1 (gr (ld_root hs2 0 rfl)) (Ok.g1 (gr2 (leaf_tr hs2 1 rfl c2)) (Ok.g1 (gr (un_not _)) ?_)))))
      refine Ok.rd (pick_t _ _) ?_
      refine Ok.ci (fun hl => ?_) (fun hl => ?_)
      · cases h with
        | zero => simp at hl
        | succ h =>
          obtain ⟨l', ks'⟩ := t'
          have hl0 : l' = [] := List.length_eq_zero_iff.1 h0
          subst hl0
          obtain ⟨qs, hq, hs3⟩ := tr_open1 c1
          have hq : qs.map (·.2) = ks' := hq
          have hlen : ks'.length = 1 := c2.2.1
          obtain ⟨⟨f, k⟩, rfl⟩ : ∃ q, qs = [q] := by
            have : qs.length = 1 := by rw [← hlen, ← hq, List.length_map]
            exact List.length_eq_one_iff.1 this
          subst hq
          have hkw := wf_kid c2 (k := k) (by simp)
          have hs4 : Sat w2 (nd r [] [f] :: tr h f k :: pt T [ptr r 0, int (flat (h + 1) t).length] 234 :: F) := hs3
          refine Ok.rd (nil_ptr _ _) (Ok.rd (fld57_0 _ _) (Ok.rd (ld_root hs2 0 rfl) ?_))
          refine go_nkid (i := 0) (q := f) hs4 0 rfl rfl fun z a => ?_
          obtain ⟨w3, n1, n2, n3⟩ := st_root (v := ptr f 0) hs4 2 rfl rfl
          refine Ok.rd (nil_ptr _ _) (Ok.rd (fld57_0 _ _) (Ok.rd2 n1 ?_))
          refine fin w3 f h k (g2.trans (s2.trans n3)) (n2.drop.sw) hkw.1 (.inr (by omega)) ?_
          rw [← c3]
          show _ = il [] [flat h k]
          simp [il, rpart]
      · have hl : h = 0 := by simpa using hl
        exact fin w2 r h t' (g2.trans s2) hs2 c2 (.inl hl) c3
    · rw [show ((((ents h t').length : Nat) : Int) == 0) = false from by rw [beq_eq_false_iff_ne]; omega]
      refine Ok.g0 (Ok.g0 (Ok.g0 (Ok.g0 (Ok.g0 (Ok.g0 (Ok.rd (pick_f _ _) (Ok.cf rfl ?_)))))))
      exact fin w2 r h t' (g2.trans s2) hs2 c2 (.inr (by omega)) c3

end Go.Cb

/-
  Gates, and slices, as steps.
-/
set_option linter.unusedVariables false
set_option linter.unusedSimpArgs false
namespace Go.Cb
variable {w : World} {F : List HP} {Q Q' : Value → World → Prop}

theorem f_ok {r : Unit → R} {k : Value → World → R} {x : Bool} {v : Value} {w w' : World} (hx : x = false) (h : r () = some (v, w')) (hk : Ok (k v w') Q) : Ok (Cb.rd2 (gate (.bool x) false r w) k) Q := by
  subst hx; exact Ok.f1 h hk
theorem t_ok {r : Unit → R} {k : Value → World → R} {x : Bool} {v : Value} {w w' : World} (hx : x = true) (h : r () = some (v, w')) (hk : Ok (k v w') Q) : Ok (Cb.rd2 (gate (.bool x) true r w) k) Q := by
  subst hx; exact Ok.g1 h hk
theorem t_no {r : Unit → R} {k : Value → World → R} {x : Bool} {w : World} (hx : x = false) (hk : Ok (k undef w) Q) : Ok (Cb.rd2 (gate (.bool x) true r w) k) Q := by
  subst hx; exact Ok.g0 hk
theorem pk_f {x : Bool} {a b : Value} {κ : Value → R} (hx : x = false) (hk : Ok (κ b) Q) : Ok (rd (pickV (.bool x) a b) κ) Q := by subst hx; exact Ok.rd (pick_f _ _) hk
theorem pk_t {x : Bool} {a b : Value} {κ : Value → R} (hx : x = true) (hk : Ok (κ a) Q) : Ok (rd (pickV (.bool x) a b) κ) Q := by subst hx; exact Ok.rd (pick_t _ _) hk

/-! ### Slices, as steps -/

theorem go_app {t e k : Nat} {α : Type} {enc : α → List Value} (hT : SlT Pg t e k) (hE : En enc k) {v x : Value} {xs ys : List α} {rt : TypeId} {cs : Array Bool} {κ : Value → World → R} (h : Sat w F) (j : Nat) (hj : F[j]? = some (slH e k enc v xs)) (hx : Src w x ys.length k (ys.flatMap enc)) (hb : xs.length + ys.length ≤ 2 ^ 30)
    (hκ : ∀ v w', Sat w' (F.set j (slH e k enc v (xs ++ ys))) → Sm w w' → Ok (κ v w') Q) : Ok (rd2 (lenG false Pg .append #[t, t] rt cs [v, x] w) κ) Q :=
  Ok.bind (sl_append' hT hE (h.foc hj) hx hb) fun v w' hq => hκ v w' (Sat.unf hj hq.1) hq.2
theorem go_bs1 {t e k : Nat} {α : Type} {enc : α → List Value} (hT : SlT Pg t e k) (hE : En enc k) (hk : k ≤ 1000) {x : α} {v : Value} (hv : v.cells.toList = enc x) (h : Sat w F) {κ : Value → World → R} (hκ : ∀ nb w', Sat w' (pt nb (enc x) e :: F) → Src w' (sl nb 0 1 1) [x].length k ([x].flatMap enc) → Sm w w' → Ok (κ (sl nb 0 1 1) w') Q) :
    Ok (rd2 (rawV Pg (Instr.buildSlice t 1 #[(0, v)]) w) κ) Q := by
  obtain ⟨i, z, h1, h2, h3, _⟩ := hT.i
  have hl : v.cells.size = k := by rw [← Array.length_toList, hv, hE.len]
  refine Ok.rd2 (slice1_ok (v := v) hT.u h1 h3 (by rw [hl, h2]) (by rw [h2]; exact hT.k0) (by rw [h2]; exact hk)) ?_
  have hs := h.new (l' := enc x) (T' := e) (Ext.push (fun _ => False) w (.cells v.cells e)) (fun _ _ hf => hf) (by have := At.new w v.cells.toList e; rw [hv] at this; simpa [← hv] using this) (Nat.le_refl _)
  refine hκ _ _ hs ?_ (Ext.push (fun _ => False) w _).sm
  have := src_at (o := 0) (n := 1) (k := k) (c := 1) hs.at (by rw [hE.len]; omega)
  rw [List.drop_zero, Nat.one_mul, List.take_of_length_le (by rw [hE.len]; exact Nat.le_refl _)] at this
  simpa using this
theorem go_bs0 {t e k : Nat} {α : Type} {enc : α → List Value} (hT : SlT Pg t e k) (h : Sat w F) {κ : Value → World → R} (hκ : ∀ v w', Sat w' (slH e k enc v ([] : List α) :: F) → Sm w w' → Ok (κ v w') Q) :
    Ok (rd2 (rawV Pg (Instr.buildSlice t 0 #[]) w) κ) Q := by
  obtain ⟨i, z, h1, h2, h3, _⟩ := hT.i
  refine Ok.rd2 (slice0_ok hT.u h1) ?_
  exact hκ _ _ (slH_nil _ (h.ext (Ext.push (fun _ => False) w (.cells #[] e)) (fun _ _ hf => hf))) (Ext.push (fun _ => False) w _).sm
theorem go_pre {t e k : Nat} {α : Type} {enc : α → List Value} (hT : SlT Pg t e k) (hE : En enc k) {v : Value} {xs : List α} {κ : Value → R} (h : Sat w F) (j : Nat) (hj : F[j]? = some (slH e k enc v xs)) {hi : Nat} (hh : hi ≤ xs.length) (hκ : ∀ v', Src w v' (xs.take hi).length k ((xs.take hi).flatMap enc) → Ok (κ v') Q) :
    Ok (rd (slV Pg t v none (some (int hi)) none) κ) Q := by
  obtain ⟨v', h1, h2⟩ := sl_pre hT hE (h.foc hj) hh
  exact Ok.rd h1 (hκ v' (slH_src h2))
theorem go_suf {t e k : Nat} {α : Type} {enc : α → List Value} (hT : SlT Pg t e k) (hE : En enc k) {v : Value} {xs : List α} {κ : Value → R} (h : Sat w F) (j : Nat) (hj : F[j]? = some (slH e k enc v xs)) {lo : Nat} (hh : lo ≤ xs.length) (hκ : ∀ v', Src w v' (xs.drop lo).length k ((xs.drop lo).flatMap enc) → Ok (κ v') Q) :
    Ok (rd (slV Pg t v (some (int lo)) none none) κ) Q := by
  obtain ⟨v', h1, h2⟩ := sl_suf hT hE (h.foc hj) hh
  exact Ok.rd h1 (hκ v' h2)
theorem one_slH {e k : Nat} {α : Type} {enc : α → List Value} {v : Value} {xs : List α} (h : Sat w F) (j : Nat) (hj : F[j]? = some (slH e k enc v xs)) : one v = true := by
  obtain ⟨a, c, rfl, _⟩ := slH_len (h.foc hj)
  rfl
end Go.Cb

/-
  What is handed on, entry by entry, until it is said so: in plain lists.
-/
set_option linter.unusedVariables false
set_option linter.unusedSimpArgs false
namespace Go.Cb
variable {w : World} {F : List HP} {Q : Value → World → Prop}

/-- entries are handed on until one is refused: those taken, and the one refused. -/
def feed (stop : List Ent → Ent → Bool) : List Ent → List Ent → List Ent × Option Ent
  | s, [] => (s, none)
  | s, e :: r => bif stop s e then (s, some e) else feed stop (s ++ [e]) r
theorem feed_none {stop : List Ent → Ent → Bool} : ∀ {A s B : List Ent}, (feed stop s A).2 = none → feed stop s (A ++ B) = feed stop (feed stop s A).1 B
  | [], s, B, _ => rfl
  | e :: r, s, B, h => by
    simp only [feed, List.cons_append] at h ⊢
    cases hs : stop s e with
    | true => rw [hs] at h; cases h
    | false => rw [hs] at h; exact feed_none (A := r) h
theorem feed_some {stop : List Ent → Ent → Bool} : ∀ {A s B : List Ent} {e : Ent}, (feed stop s A).2 = some e → feed stop s (A ++ B) = feed stop s A
  | [], s, B, _, h => by cases h
  | x :: r, s, B, e, h => by
    simp only [feed, List.cons_append] at h ⊢
    cases hs : stop s x with
    | true => rfl
    | false => rw [hs] at h; exact feed_some (A := r) h
theorem feed_end {stop : List Ent → Ent → Bool} : ∀ {A s : List Ent}, (feed stop s A).2 = none → (feed stop s A).1 = s ++ A
  | [], s, _ => by simp [feed]
  | e :: r, s, h => by
    simp only [feed] at h ⊢
    cases hs : stop s e with
    | true => rw [hs] at h; cases h
    | false =>
      rw [hs] at h
      have := feed_end (A := r) h
      simp only [cond_false]
      rw [this]; simp

/-- those from a key on. -/
def fromL (L : List Ent) (k : ByteArray) : List Ent := L.filter fun e => !kl e.1 k
theorem fromL_app (A B : List Ent) (k : ByteArray) : fromL (A ++ B) k = fromL A k ++ fromL B k := List.filter_append ..
theorem fromL_bel {A : List Ent} {k : ByteArray} (h : bel A k) : fromL A k = [] := List.filter_eq_nil_iff.2 fun e he => by rw [h e he]; simp
theorem fromL_id {A : List Ent} {k : ByteArray} (h : ∀ e ∈ A, kl e.1 k = false) : fromL A k = A := List.filter_eq_self.2 fun e he => by rw [h e he]; rfl

theorem fits_head {key : ByteArray} {l1 l2 : List Ent} {b : Bool} (hf : Fits key l1 l2 b) : ∀ e, l2.head? = some e → kl e.1 key = false := by
  rcases hf.2 with ⟨rfl, _⟩ | ⟨x, r, rfl, hx, _⟩
  · simp
  · intro e he; simp at he; subst he; exact hx

theorem head_from {key : ByteArray} {x : Ent} {r : List Ent} (hs : Srt (x :: r)) (hx : kl x.1 key = false) : ∀ e ∈ x :: r, kl e.1 key = false := by
  intro e he
  rcases List.mem_cons.1 he with rfl | he
  · exact hx
  · have h1 := (srt_cons.1 hs).1 e he
    cases hk : kl e.1 key with
    | false => rfl
    | true => rw [kl_tr h1 hk] at hx; cases hx

theorem rpart_from {key : ByteArray} {l2 : List Ent} {k2 : List (List Ent)} (hs : Srt (rpart l2 k2)) (hl : ∀ e, l2.head? = some e → kl e.1 key = false) : ∀ e ∈ rpart l2 k2, kl e.1 key = false := by
  match l2, k2 with
  | [], _ => simp [rpart]
  | x :: r, [] => simp [rpart]
  | x :: r, k :: ks =>
    rw [rpart_cons] at hs ⊢
    exact head_from hs (hl x rfl)

theorem from_il {key : ByteArray} {l1 l2 : List Ent} {b : Bool} {k1 k2 : List (List Ent)} {k : List Ent} (hf : Fits key l1 l2 b) (hk : k1.length = l1.length) (hs : Srt (il (l1 ++ l2) (k1 ++ k :: k2))) :
    fromL (il (l1 ++ l2) (k1 ++ k :: k2)) key = fromL k key ++ rpart l2 k2 := by
  rw [il_app l2 k k2 hk] at hs ⊢
  obtain ⟨h1, h2, _⟩ := srt_app.1 hs
  obtain ⟨h3, h4, _⟩ := srt_app.1 h1
  rw [fromL_app, fromL_app, fromL_bel (lpart_bel h3 hf.1), fromL_id (rpart_from h2 (fits_head hf))]
  rfl
end Go.Cb

/-
  What a walk takes, in plain lists: the keys in a span, so many; the next key above a text.
-/
set_option linter.unusedVariables false
set_option linter.unusedSimpArgs false
namespace Go.Cb

theorem bl_next : ∀ (a b : List UInt8), Op.bytesLess a (b ++ [0]) = !Op.bytesLess b a
  | [], [] => rfl
  | x :: r, [] => by
    simp only [List.nil_append, Op.bytesLess]
    have h1 : ¬ x < 0 := by simp [UInt8.lt_iff_toNat_lt]
    cases r <;> simp [Op.bytesLess, h1]
  | [], y :: s => by simp [Op.bytesLess]
  | x :: r, y :: s => by
    have ih := bl_next r s
    simp only [List.cons_append, Op.bytesLess]
    rw [ih]
    rcases Nat.lt_trichotomy x.toNat y.toNat with h | h | h
    · have h1 : x < y := UInt8.lt_iff_toNat_lt.2 h
      have h2 : ¬ y < x := fun h' => by have := UInt8.lt_iff_toNat_lt.1 h'; omega
      have h3 : ¬ y = x := by rintro rfl; omega
      simp [h1, h2, h3]
    · have h3 : x = y := UInt8.toNat_inj.1 h
      subst h3
      have h1 : ¬ x < x := fun h' => by have := UInt8.lt_iff_toNat_lt.1 h'; omega
      simp [h1]
    · have h1 : y < x := UInt8.lt_iff_toNat_lt.2 h
      have h2 : ¬ x < y := fun h' => by have := UInt8.lt_iff_toNat_lt.1 h'; omega
      have h3 : ¬ x = y := by rintro rfl; omega
      simp [h1, h2, h3]

/-- in a span. -/
def inB (f t k : ByteArray) : Bool := !kl k f && (decide (t = ByteArray.empty) || kl k t)
def stopW (m : Int) (f t : ByteArray) (s : List Ent) (e : Ent) : Bool := decide (m ≤ (s.length : Int)) || !inB f t e.1

theorem feedW {m : Int} {f t : ByteArray} : ∀ (A s : List Ent), Srt A → (∀ e ∈ A, kl e.1 f = false) → (feed (stopW m f t) s A).1 = s ++ (A.filter fun e => inB f t e.1).take (m - s.length).toNat
  | [], s, _, _ => by simp [feed]
  | e :: r, s, hs, hf => by
    obtain ⟨h1, h2⟩ := srt_cons.1 hs
    have he := hf e (by simp)
    by_cases hm : m ≤ (s.length : Int)
    · have : (m - s.length).toNat = 0 := by omega
      rw [this]
      simp [feed, stopW, hm]
    · cases hi : inB f t e.1 with
      | true =>
        have ih := feedW (m := m) (f := f) (t := t) r (s ++ [e]) h2 (fun x hx => hf x (by simp [hx]))
        have hst : stopW m f t s e = false := by simp [stopW, hm, hi]
        simp only [feed, hst, cond_false]
        rw [ih]
        obtain ⟨n, hn⟩ : ∃ n, (m - s.length).toNat = n + 1 := ⟨(m - s.length).toNat - 1, by omega⟩
        have hn' : (m - (s ++ [e]).length).toNat = n := by simp; omega
        rw [hn, hn', List.filter_cons_of_pos (by simpa using hi), List.take_succ_cons]
        simp
      | false =>
        have hst : stopW m f t s e = true := by simp [stopW, hi]
        have hr : (e :: r).filter (fun e => inB f t e.1) = [] := by
          rw [List.filter_eq_nil_iff]
          have hb : decide (t = ByteArray.empty) = false ∧ kl e.1 t = false := by
            have := hi
            simp only [inB, he, Bool.not_false, Bool.true_and, Bool.or_eq_false_iff] at this
            exact this
          intro x hx
          rcases List.mem_cons.1 hx with rfl | hx
          · rw [hi]; simp
          · have hk : kl x.1 t = false := by
              cases hk : kl x.1 t with
              | false => rfl
              | true => rw [kl_tr (h1 x hx) hk] at hb; exact absurd hb.2 (by simp)
            simp [inB, hb.1, hk]
        rw [hr]
        simp [feed, hst]

theorem from_in {f t : ByteArray} (L : List Ent) : (fromL L f).filter (fun e => inB f t e.1) = L.filter fun e => inB f t e.1 := by
  unfold fromL
  rw [List.filter_filter]
  congr 1
  funext e
  cases h : kl e.1 f <;> simp [inB, h]
theorem from_srt {L : List Ent} {f : ByteArray} (h : Srt L) : Srt (fromL L f) := List.Pairwise.filter _ h
theorem from_ge {L : List Ent} {f : ByteArray} : ∀ e ∈ fromL L f, kl e.1 f = false := by
  intro e he
  have := (List.mem_filter.1 he).2
  simpa using this

/-- what a walk answers. -/
def walkL (L : List Ent) (f t : ByteArray) (m : Int) : List Ent := (L.filter fun e => inB f t e.1).take m.toNat
theorem feed_walk {m : Int} {f t : ByteArray} {L : List Ent} (h : Srt L) : (feed (stopW m f t) [] (fromL L f)).1 = walkL L f t m := by
  rw [feedW _ _ (from_srt h) from_ge, from_in]
  simp [walkL]
end Go.Cb

/-
  Records of a range over a function, as parts of the heap; its steps.
-/
set_option linter.unusedVariables false
set_option linter.unusedSimpArgs false
namespace Go.Cb
variable {w : World} {F : List HP} {Q : Value → World → Prop}

/-- block b is this. -/
def ob (b : Nat) (o : Obj) : HP := fun h => h = fun c => if c = b then some o else none
def nocell : Obj → Bool
  | .cells _ _ _ => false
  | _ => true
theorem Sat.obAt {b : Nat} {o : Obj} (h : Sat w (ob b o :: F)) : w.heap[b]? = some o := by
  obtain ⟨x, hx, h1, h2, hd, rfl, hA, hF⟩ := h
  exact hx b _ (un_l (by rw [hA]; simp))

theorem fz_push {o : Obj} (hn : nocell o = true) (a : Addr) : (World.push w o).frozen? a = w.frozen? a := by
  unfold World.push World.frozen?
  simp only [Array.getElem?_push]
  by_cases h : a.block = w.heap.size
  · rw [if_pos h, h, Array.getElem?_eq_none (Nat.le_refl _)]
    cases o <;> first | rfl | exact absurd hn Bool.false_ne_true
  · rw [if_neg h]
theorem fz_put {b : Nat} {o o' : Obj} (hb : w.heap[b]? = some o) (hn : nocell o = true) (hn' : nocell o' = true) (a : Addr) : (World.putObj w b o').frozen? a = w.frozen? a := by
  unfold World.putObj World.frozen?
  simp only [Array.getElem?_setIfInBounds]
  by_cases h : b = a.block
  · subst h
    have hlt := (Array.getElem?_eq_some_iff.1 hb).1
    rw [if_pos rfl, if_pos hlt, hb]
    cases o <;> cases o' <;> first | rfl | exact absurd hn Bool.false_ne_true | exact absurd hn' Bool.false_ne_true
  · rw [if_neg h]

theorem Sat.obNew {o : Obj} (hn : nocell o = true) (h : Sat w F) : Sat (World.push w o) (ob w.heap.size o :: F) ∧ Sm w (World.push w o) := by
  refine ⟨?_, ⟨rfl, rfl, rfl, fz_push hn⟩⟩
  obtain ⟨h2, hx2, hF⟩ := h
  have hne : ∀ c, h2 c ≠ none → c ≠ w.heap.size := by
    intro c hc
    have := hx2.lt hc; omega
  refine ⟨un (fun c => if c = w.heap.size then some o else none) h2, ?_, _, h2, ?_, rfl, rfl, hF⟩
  · intro c x hc
    unfold un at hc
    by_cases hcb : c = w.heap.size
    · subst hcb
      simp at hc
      subst hc
      show (w.heap.push o)[w.heap.size]? = some o
      simp
    · simp only [if_neg hcb, Option.none_or] at hc
      have hlt := hx2.lt (b := c) (by rw [hc]; simp)
      have := hx2 c x hc
      simp only [World.push, Array.getElem?_push]
      rw [if_neg hcb]; exact this
  · intro c
    by_cases hcb : h2 c = none
    · exact .inr hcb
    · left; simp only [if_neg (hne c hcb)]

theorem Sat.obPut {b : Nat} {o o' : Obj} (hn : nocell o = true) (hn' : nocell o' = true) (h : Sat w (ob b o :: F)) : Sat (World.putObj w b o') (ob b o' :: F) ∧ Sm w (World.putObj w b o') := by
  refine ⟨?_, ⟨rfl, rfl, rfl, fz_put h.obAt hn hn'⟩⟩
  have hat := h.obAt
  have hlt : b < w.heap.size := (Array.getElem?_eq_some_iff.1 hat).1
  obtain ⟨x, hx, h1, h2, hd, rfl, hA, hF⟩ := h
  have hx2 : h2.on w := fun c o hc => hx c o (un_r hd hc)
  have h1b : h1 b ≠ none := by rw [hA]; simp
  have hne : ∀ c, h2 c ≠ none → c ≠ b := by
    rintro c hc rfl
    rcases hd c with h | h
    · exact h1b h
    · exact hc h
  refine ⟨un (fun c => if c = b then some o' else none) h2, ?_, _, h2, ?_, rfl, rfl, hF⟩
  · intro c x hc
    unfold un at hc
    by_cases hcb : c = b
    · rw [hcb]
      simp only [if_pos hcb, Option.some_or, Option.some.injEq] at hc
      subst hc
      show (w.heap.setIfInBounds b o')[b]? = some o'
      simp [hlt]
    · simp only [if_neg hcb, Option.none_or] at hc
      have := hx2 c x hc
      simp only [World.putObj, Array.getElem?_setIfInBounds]
      rw [if_neg (fun h => hcb h.symm)]; exact this
  · intro c
    by_cases hcb : h2 c = none
    · exact .inr hcb
    · left; simp only [if_neg (hne c hcb)]

/-- a range's record. -/
abbrev lp (f : FuncId) (ts : Array Value) (ps : Array Tmp) (a b : Code) (D : Nat) (st : LoopState) (pd : Option Code) : Obj :=
  .loop { state := st, pending := pd, fn := f, tmps := ts, params := ps, assign := a, body := b, defers := D }

theorem go_rng {C : Ctx} {f : Nat} {first cap : Array Value} {ps : Array Tmp} {assign body : Code} {K : Exit → Env → World → R} {e : Env} (hro : C.ro = none) (hb : bodied C.P f = true) (he : e C.N = undef) (hs : Sat w F)
    (h : ∀ d l w', Sat w' (ob l (lp C.f (tab C.N e) ps assign body d .ready none) :: ob d (.deferred (some [])) :: F) → Sm w w' → Ok (callV C (.func (.func f) first cap) [.func (.yield l) #[] #[]] w') fun _ w'' => Ok (endL l K (upd e C.N (.map (some d))) w'') Q) :
    Ok (rngR C (.func (.func f) first cap) ps assign body K e w) Q := by
  unfold rngR
  simp only [hb, hro, he, cond_true]
  have hu : unset undef = true := rfl
  rw [hu]
  simp only [cond_true]
  obtain ⟨g1, s1⟩ := hs.obNew (o := .deferred (some [])) rfl
  obtain ⟨g2, s2⟩ := g1.obNew (o := newLoop C.f (tab C.N e) ps assign body w.heap.size) rfl
  have hz : (World.push w (.deferred (some []))).heap.size = w.heap.size + 1 := by simp [World.push]
  rw [hz] at g2
  exact Ok.bind (h _ _ _ g2 (s1.trans s2)) fun _ _ hk => hk

theorem end_norm {l : Nat} {f : FuncId} {ts : Array Value} {ps : Array Tmp} {a b : Code} {D : Nat} {K : Exit → Env → World → R} {e : Env} (hs : Sat w (ob l (lp f ts ps a b D .ready none) :: F))
    (hk : ∀ w', Sat w' F → Sm w w' → Ok (K .normal e w') Q) : Ok (endL l K e w) Q := by
  unfold endL
  rw [hs.obAt]
  obtain ⟨g, s⟩ := hs.obPut (o' := lp f ts ps a b D .exhausted none) rfl rfl
  exact hk _ g.drop s
theorem end_ret {l : Nat} {f : FuncId} {ts : Array Value} {ps : Array Tmp} {a b : Code} {D : Nat} {K : Exit → Env → World → R} {e : Env} (hs : Sat w (ob l (lp f ts ps a b D .done (some .ret)) :: F))
    (hk : ∀ w', Sat w' F → Sm w w' → Ok (K .ret e w') Q) : Ok (endL l K e w) Q := by
  unfold endL
  rw [hs.obAt]
  obtain ⟨g, s⟩ := hs.obPut (o' := lp f ts ps a b D .exhausted (some .ret)) rfl rfl
  exact hk _ g.drop s
theorem end_exit {l i : Nat} {f : FuncId} {ts : Array Value} {ps : Array Tmp} {a b : Code} {D : Nat} {K : Exit → Env → World → R} {e : Env} (hs : Sat w (ob l (lp f ts ps a b D .done (some (.exit i))) :: F))
    (hk : ∀ w', Sat w' F → Sm w w' → Ok (K (.exit i) e w') Q) : Ok (endL l K e w) Q := by
  unfold endL
  rw [hs.obAt]
  obtain ⟨g, s⟩ := hs.obPut (o' := lp f ts ps a b D .exhausted (some (.exit i))) rfl rfl
  exact hk _ g.drop s

theorem go_shut {d : Nat} {k : World → R} (hs : Sat w (ob d (.deferred (some [])) :: F)) (hk : ∀ w', Sat w' F → Sm w w' → Ok (k w') Q) : Ok (shutK (.map (some d)) w k) Q := by
  unfold shutK
  simp only [hs.obAt]
  obtain ⟨g, s⟩ := hs.obPut (o' := .deferred none) rfl rfl
  exact hk _ g.drop s

theorem go_beg {l : Nat} {f : FuncId} {ts : Array Value} {ps : Array Tmp} {a b : Code} {D : Nat} {pd : Option Code} {k : World → R} (hs : Sat w (ob l (lp f ts ps a b D .ready pd) :: F)) (hk : ∀ w', Sat w' (ob l (lp f ts ps a b D .busy pd) :: F) → Sm w w' → Ok (k w') Q) : Ok (begR l w k) Q := by
  unfold begR
  simp only [hs.obAt]
  obtain ⟨g, s⟩ := hs.obPut (o' := lp f ts ps a b D .busy pd) rfl rfl
  exact hk _ g s

theorem go_fin {l : Nat} {f : FuncId} {ts : Array Value} {ps : Array Tmp} {a b : Code} {D : Nat} {st : LoopState} {pd jump : Option Code} (hs : Sat w (ob l (lp f ts ps a b D st pd) :: F))
    (hk : ∀ w', Sat w' (ob l (lp f ts ps a b D (if jump.isNone then .ready else .done) jump) :: F) → Sm w w' → Q (.bool jump.isNone) w') : Ok (finR l jump w) Q := by
  unfold finR
  simp only [hs.obAt]
  obtain ⟨g, s⟩ := hs.obPut (o' := lp f ts ps a b D (if jump.isNone then .ready else .done) jump) rfl rfl
  exact ⟨_, _, rfl, hk _ g s⟩

/-- the state of a walk: those taken, or the one refused behind them. -/
def St (R : List Ent → HP) (D : List Ent → Ent → HP) : List Ent × Option Ent → HP
  | (s, none) => R s
  | (s, some e) => D s e
/-- what is called with each entry. -/
def YOk (on : Value) (N : Nat) (stop : List Ent → Ent → Bool) (R : List Ent → HP) (D : List Ent → Ent → HP) : Prop :=
  ∀ (s : List Ent) (e : Ent) (w : World) (F : List HP), s.length < N → Sat w (R s :: F) → Ok (callV (cx199 (Fn Pg) (Rnd Pg)) on [aggE e] w) fun x w' => x = .bool (!stop s e) ∧ Sat w' (St R D (bif stop s e then (s, some e) else (s ++ [e], none)) :: F) ∧ Sm w w'
end Go.Cb

/-
  walk: each entry from a key on is handed on, until one is refused.
-/
set_option linter.unusedVariables false
set_option linter.unusedSimpArgs false
namespace Go.Cb
variable {w : World} {F : List HP} {Q Q' : Value → World → Prop}

theorem t_call {o : R} {k : Value → World → R} {x : Bool} {w : World} (hx : x = true) (h : Ok o Q') (hk : ∀ v w', Q' v w' → Ok (k v w') Q) : Ok (rd2 (gate (.bool x) true (fun _ => rd2 o fun v w => some (v, w)) w) k) Q := by
  obtain ⟨v, w', h, q⟩ := h
  exact t_ok hx (gr2 h) (hk _ _ q)
theorem f_call {o : R} {k : Value → World → R} {x : Bool} {w : World} (hx : x = false) (h : Ok o Q') (hk : ∀ v w', Q' v w' → Ok (k v w') Q) : Ok (rd2 (gate (.bool x) false (fun _ => rd2 o fun v w => some (v, w)) w) k) Q := by
  obtain ⟨v, w', h, q⟩ := h
  exact f_ok hx (gr2 h) (hk _ _ q)

theorem wk_in {h : Nat} {N A : HP} {q1 q2 : List (Nat × BT h)} {q : Nat × BT h} : Sat w (N :: (fo h (q1 ++ q :: q2) ++ (A :: F))) ↔ Sat w (tr h q.1 q.2 :: A :: N :: (fo h (q1 ++ q2) ++ F)) := by
  have hp : (N :: (fo h (q1 ++ q :: q2) ++ (A :: F))).Perm (tr h q.1 q.2 :: A :: N :: (fo h (q1 ++ q2) ++ F)) := by
    rw [fo_app, fo_cons, fo_app, List.append_assoc, List.cons_append, List.append_assoc]
    have h1 : (fo h q1 ++ tr h q.1 q.2 :: (fo h q2 ++ A :: F)).Perm (tr h q.1 q.2 :: A :: (fo h q1 ++ (fo h q2 ++ F))) := by
      refine List.perm_middle.trans (List.Perm.cons _ ?_)
      rw [← List.append_assoc, ← List.append_assoc]
      exact List.perm_middle
    exact (h1.cons N).trans ((List.Perm.swap _ _ _).trans ((List.Perm.swap _ _ _).cons _))
  exact ⟨fun hs => hs.perm hp, fun hs => hs.perm hp.symm⟩
theorem ca_in {N A : HP} {X : List HP} : Sat w (N :: (X ++ (A :: F))) ↔ Sat w (A :: N :: (X ++ F)) := by
  have hp : (N :: (X ++ (A :: F))).Perm (A :: N :: (X ++ F)) := (List.perm_middle.cons N).trans (List.Perm.swap _ _ _)
  exact ⟨fun hs => hs.perm hp, fun hs => hs.perm hp.symm⟩

theorem sub_flat {p : Ent × List Ent} {L : List (Ent × List Ent)} (h : p ∈ L) : (p.1 :: p.2).Sublist (L.flatMap fun p => p.1 :: p.2) := by
  obtain ⟨A, B, rfl⟩ := List.append_of_mem h
  rw [List.flatMap_append, List.flatMap_cons]
  exact (List.sublist_append_left _ _).trans (List.sublist_append_right _ _)

variable {on : Value} {N : Nat} {stop : List Ent → Ent → Bool} {R : List Ent → HP} {D : List Ent → Ent → HP} {key : ByteArray}

theorem walk_leaf (hon : YOk on N stop R D) {p : Nat} : ∀ (l2 l1 s : List Ent) (e : Env) (w : World) (F : List HP), s.length + l2.length ≤ N → Sat w (nd p (l1 ++ l2) [] :: R s :: F) → (l1 ++ l2).length ≤ 5 → e 0 = ptr p 0 → e 1 = .string key → e 2 = on → e 7 = int l1.length → e 50 = undef →
    Ok (evalLoop (cx199 (Fn Pg) (Rnd Pg)) (cdA Go.Proofs.Tryz.f199 [1, 1, 0, 0]) (K199_1 (Fn Pg) (Rnd Pg)) e w) fun x w' => x = .bool (feed stop s l2).2.isNone ∧ Sat w' (nd p (l1 ++ l2) [] :: St R D (feed stop s l2) :: F) ∧ Sm w w' := by
  intro l2
  induction l2 with
  | nil =>
    intro l1 s e w F hN hs h5 e0 e1 e2 e7 e50
    obtain ⟨lv, kv, f1, f2, f3, f4, f5, _⟩ := nd_facts hs (k := 0) rfl
    rw [S199_L1_eq]; unfold S199_L1
    rw [e0, e1, e2, e7, e50]
    refine Ok.rd2 (leaf_eq hs 0 rfl) (Ok.rd (un_not _) ?_)
    refine t_no rfl (t_no rfl (t_no rfl (t_no rfl (t_no rfl (t_no rfl (t_no rfl (t_no rfl (t_no rfl (t_no rfl (t_no rfl (pk_f rfl (Ok.cf rfl ?_))))))))))))
    refine Ok.rd (nil_ptr _ _) (Ok.rd (fld100_0 _ _) (Ok.rd f1 (Ok.rd2 (f5 _ _ _ _) (Ok.rd2 bin_eql (Ok.ct (by simp) ?_)))))
    exact ⟨_, _, rfl, rfl, hs, Sm.refl _⟩
  | cons y l2 ih =>
    intro l1 s e w F hN hs h5 e0 e1 e2 e7 e50
    obtain ⟨lv, kv, f1, f2, f3, f4, f5, _⟩ := nd_facts hs (k := 0) rfl
    rw [S199_L1_eq]; unfold S199_L1
    rw [e0, e1, e2, e7, e50]
    refine Ok.rd2 (leaf_eq hs 0 rfl) (Ok.rd (un_not _) ?_)
    refine t_no rfl (t_no rfl (t_no rfl (t_no rfl (t_no rfl (t_no rfl (t_no rfl (t_no rfl (t_no rfl (t_no rfl (t_no rfl (pk_f rfl (Ok.cf rfl ?_))))))))))))
    refine Ok.rd (nil_ptr _ _) (Ok.rd (fld100_0 _ _) (Ok.rd f1 (Ok.rd2 (f5 _ _ _ _) (Ok.rd2 bin_eql (Ok.cf (by simp; omega) ?_)))))
    obtain ⟨b, o, g1, g2, _⟩ := f4 l1.length y (by simp)
    refine Ok.rd (nil_ptr _ _) (Ok.rd (fld100_0 _ _) (Ok.rd f1 (Ok.rd g1 (Ok.rd g2 ?_))))
    refine Ok.bind (hon s y w _ (by simp at hN; omega) hs.sw) ?_
    rintro x w1 ⟨rfl, h1, s1⟩
    refine Ok.rd (un_not _) ?_
    cases hst : stop s y with
    | true =>
      rw [hst] at h1
      refine Ok.ct rfl ?_
      refine ⟨_, _, rfl, ?_, ?_, s1⟩
      · simp [feed, hst]
      · simp only [feed, hst, cond_true]; exact h1.sw
    | false =>
      rw [hst] at h1
      refine Ok.cf rfl (Ok.rd2 (bin_add1 (by simp at h5; omega)) ?_)
      have hl : l1 ++ y :: l2 = (l1 ++ [y]) ++ l2 := by simp
      have h2 : Sat w1 (nd p ((l1 ++ [y]) ++ l2) [] :: R (s ++ [y]) :: F) := by rw [← hl]; exact h1.sw
      refine Ok.mono (ih (l1 ++ [y]) (s ++ [y]) _ w1 F (by simp at hN ⊢; omega) h2 (by rw [← hl]; exact h5) ?_ ?_ ?_ ?_ ?_) ?_
      · exact e0
      · exact e1
      · exact e2
      · show int _ = int _; simp
      · exact e50
      · rintro x w2 ⟨rfl, m1, m2⟩
        simp only [feed, hst, cond_false]
        exact ⟨trivial, by rw [hl]; exact m1, s1.trans m2⟩

theorem walk_node (hon : YOk on N stop R D) {h p : Nat} (ihh : ∀ (p : Nat) (t : BT h) (s : List Ent) (w : World) (F : List HP), s.length + (fromL (flat h t) key).length ≤ N → wf h t → Srt (flat h t) → Sat w (tr h p t :: R s :: F) →
      Ok (Fn Pg 199 [ptr p 0, .string key, on] w) fun x w' => x = .bool (feed stop s (fromL (flat h t) key)).2.isNone ∧ Sat w' (tr h p t :: St R D (feed stop s (fromL (flat h t) key)) :: F) ∧ Sm w w') :
    ∀ (l2 l1 : List Ent) (q1 q2 : List (Nat × BT h)) (q : Nat × BT h) (s : List Ent) (e : Env) (w : World) (F : List HP), s.length + (fromL (flat h q.2) key ++ rpart l2 (fk h q2)).length ≤ N → q1.length = l1.length → q2.length = l2.length → Sat w (nd p (l1 ++ l2) ((q1 ++ q :: q2).map (·.1)) :: (fo h (q1 ++ q :: q2) ++ (R s :: F))) → (l1 ++ l2).length ≤ 5 →
    (∀ q' ∈ q :: q2, wf h q'.2 ∧ Srt (flat h q'.2)) → (∀ x ∈ rpart l2 (fk h q2), kl x.1 key = false) → e 0 = ptr p 0 → e 1 = .string key → e 2 = on → e 7 = int l1.length → e 50 = undef →
    Ok (evalLoop (cx199 (Fn Pg) (Rnd Pg)) (cdA Go.Proofs.Tryz.f199 [1, 1, 0, 0]) (K199_1 (Fn Pg) (Rnd Pg)) e w) fun x w' => x = .bool (feed stop s (fromL (flat h q.2) key ++ rpart l2 (fk h q2))).2.isNone ∧
      Sat w' (nd p (l1 ++ l2) ((q1 ++ q :: q2).map (·.1)) :: (fo h (q1 ++ q :: q2) ++ (St R D (feed stop s (fromL (flat h q.2) key ++ rpart l2 (fk h q2))) :: F))) ∧ Sm w w' := by
  intro l2
  induction l2 with
  | nil =>
    intro l1 q1 q2 q s e w F hN hq1 hq2 hs h5 hw hge e0 e1 e2 e7 e50
    obtain ⟨lv, kv, f1, f2, f3, f4, f5, _⟩ := nd_facts hs (k := 0) rfl
    rw [S199_L1_eq]; unfold S199_L1
    rw [e0, e1, e2, e7, e50]
    have hx : (!decide (((q1 ++ q :: q2).map (·.1)).length = 0)) = true := by simp
    obtain ⟨b, o, g1, g2⟩ := f3 l1.length q.1 (by rw [← hq1]; simp)
    refine Ok.rd2 (leaf_eq hs 0 rfl) (Ok.rd (un_not _) ?_)
    refine t_ok hx rfl (t_ok hx rfl (t_ok hx (by rw [fld100_1]; rfl) (t_ok hx (by rw [f2]; rfl) (t_ok hx rfl (t_ok hx (by rw [g1]; rfl) (t_ok hx (by rw [g2]; rfl) (t_ok hx rfl (t_ok hx rfl ?_))))))))
    refine t_call hx (ihh q.1 q.2 s w _ (by rw [List.length_append] at hN; omega) (hw q (by simp)).1 (hw q (by simp)).2 (wk_in.1 hs)) ?_
    rintro x w1 ⟨rfl, h1, s1⟩
    refine t_ok hx (by rw [un_not]; rfl) (pk_t hx ?_)
    have hr : rpart [] (fk h q2) = [] := by simp [rpart]
    rw [hr, List.append_nil]
    cases hst : (feed stop s (fromL (flat h q.2) key)).2 with
    | some z =>
      refine Ok.ct rfl ?_
      exact ⟨_, _, rfl, rfl, wk_in.2 h1, s1⟩
    | none =>
      have h2 := wk_in.2 h1
      obtain ⟨lv, kv, f1, f2, f3, f4, f5, _⟩ := nd_facts h2 (k := 0) rfl
      refine Ok.cf rfl ?_
      refine Ok.rd (nil_ptr _ _) (Ok.rd (fld100_0 _ _) (Ok.rd f1 (Ok.rd2 (f5 _ _ _ _) (Ok.rd2 bin_eql (Ok.ct (by simp) ?_)))))
      exact ⟨_, _, rfl, rfl, h2, s1⟩
  | cons y l2 ih =>
    intro l1 q1 q2 q s e w F hN hq1 hq2 hs h5 hw hge e0 e1 e2 e7 e50
    obtain ⟨q', q2, rfl⟩ : ∃ a b, q2 = a :: b := by
      cases q2 with
      | nil => simp at hq2
      | cons a b => exact ⟨a, b, rfl⟩
    obtain ⟨lv, kv, f1, f2, f3, f4, f5, _⟩ := nd_facts hs (k := 0) rfl
    rw [S199_L1_eq]; unfold S199_L1
    rw [e0, e1, e2, e7, e50]
    have hx : (!decide (((q1 ++ q :: q' :: q2).map (·.1)).length = 0)) = true := by simp
    obtain ⟨b, o, g1, g2⟩ := f3 l1.length q.1 (by rw [← hq1]; simp)
    refine Ok.rd2 (leaf_eq hs 0 rfl) (Ok.rd (un_not _) ?_)
    refine t_ok hx rfl (t_ok hx rfl (t_ok hx (by rw [fld100_1]; rfl) (t_ok hx (by rw [f2]; rfl) (t_ok hx rfl (t_ok hx (by rw [g1]; rfl) (t_ok hx (by rw [g2]; rfl) (t_ok hx rfl (t_ok hx rfl ?_))))))))
    refine t_call hx (ihh q.1 q.2 s w _ (by rw [List.length_append] at hN; omega) (hw q (by simp)).1 (hw q (by simp)).2 (wk_in.1 hs)) ?_
    rintro x w1 ⟨rfl, h1, s1⟩
    refine t_ok hx (by rw [un_not]; rfl) (pk_t hx ?_)
    have hr : rpart (y :: l2) (fk h (q' :: q2)) = y :: (flat h q'.2 ++ rpart l2 (fk h q2)) := by
      show rpart (y :: l2) (flat h q'.2 :: fk h q2) = _
      rw [rpart_cons]; rfl
    rw [hr] at hge hN ⊢
    cases hst : (feed stop s (fromL (flat h q.2) key)).2 with
    | some z =>
      refine Ok.ct rfl ?_
      rw [feed_some hst]
      refine ⟨_, _, rfl, by rw [hst]; rfl, wk_in.2 h1, s1⟩
    | none =>
      have h2 := wk_in.2 h1
      rw [feed_none hst]
      obtain ⟨s', hs'⟩ : ∃ s', feed stop s (fromL (flat h q.2) key) = (s', none) := ⟨_, Prod.ext rfl hst⟩
      have hse := feed_end hst
      rw [hs'] at hse
      have hse : s' = s ++ fromL (flat h q.2) key := hse
      have hN' : s'.length + (y :: (flat h q'.2 ++ rpart l2 (fk h q2))).length ≤ N := by rw [hse, List.length_append]; rw [List.length_append] at hN; omega
      clear hse
      rw [hs'] at h2 ⊢
      have h2 : Sat w1 (nd p (l1 ++ y :: l2) ((q1 ++ q :: q' :: q2).map (·.1)) :: (fo h (q1 ++ q :: q' :: q2) ++ (R s' :: F))) := h2
      obtain ⟨lv, kv, f1, f2, f3, f4, f5, _⟩ := nd_facts h2 (k := 0) rfl
      refine Ok.cf rfl ?_
      refine Ok.rd (nil_ptr _ _) (Ok.rd (fld100_0 _ _) (Ok.rd f1 (Ok.rd2 (f5 _ _ _ _) (Ok.rd2 bin_eql (Ok.cf (by simp; omega) ?_)))))
      obtain ⟨b, o, g1, g2, _⟩ := f4 l1.length y (by simp)
      refine Ok.rd (nil_ptr _ _) (Ok.rd (fld100_0 _ _) (Ok.rd f1 (Ok.rd g1 (Ok.rd g2 ?_))))
      refine Ok.bind (hon s' y w1 _ (by simp at hN'; omega) (ca_in.1 h2)) ?_
      rintro x w2 ⟨rfl, h3, s3⟩
      refine Ok.rd (un_not _) ?_
      cases hsy : stop s' y with
      | true =>
        rw [hsy] at h3
        refine Ok.ct rfl ?_
        refine ⟨_, _, rfl, ?_, ?_, s1.trans s3⟩
        · simp [feed, hsy]
        · simp only [feed, hsy, cond_true]; exact ca_in.2 h3
      | false =>
        rw [hsy] at h3
        refine Ok.cf rfl (Ok.rd2 (bin_add1 (by simp at h5; omega)) ?_)
        have hl : l1 ++ y :: l2 = (l1 ++ [y]) ++ l2 := by simp
        have hqq : q1 ++ q :: q' :: q2 = (q1 ++ [q]) ++ q' :: q2 := by simp
        have h4 : Sat w2 (nd p ((l1 ++ [y]) ++ l2) (((q1 ++ [q]) ++ q' :: q2).map (·.1)) :: (fo h ((q1 ++ [q]) ++ q' :: q2) ++ (R (s' ++ [y]) :: F))) := by
          rw [← hl, ← hqq]; exact ca_in.2 h3
        have hid : fromL (flat h q'.2) key = flat h q'.2 := fromL_id fun x hx => hge x (by simp [hx])
        refine Ok.mono (ih (l1 ++ [y]) (q1 ++ [q]) q2 q' (s' ++ [y]) _ w2 F (by rw [hid]; simp at hN' ⊢; omega) (by simp [hq1]) (by simpa using hq2) h4 (by rw [← hl]; exact h5) (fun z hz => hw z (by simp at hz ⊢; exact .inr hz)) (fun x hx => hge x (by simp [hx])) ?_ ?_ ?_ ?_ ?_) ?_
        · exact e0
        · exact e1
        · exact e2
        · show int _ = int _; simp
        · exact e50
        · rintro x w3 ⟨rfl, m1, m2⟩
          rw [hid] at m1 ⊢
          simp only [feed, hsy, cond_false]
          refine ⟨trivial, ?_, s1.trans (s3.trans m2)⟩
          rw [hl, hqq]; exact m1

theorem walk_ok (hon : YOk on N stop R D) : ∀ (h p : Nat) (t : BT h) (s : List Ent) (w : World) (F : List HP), s.length + (fromL (flat h t) key).length ≤ N → wf h t → Srt (flat h t) → Sat w (tr h p t :: R s :: F) →
    Ok (Fn Pg 199 [ptr p 0, .string key, on] w) fun x w' => x = .bool (feed stop s (fromL (flat h t) key)).2.isNone ∧ Sat w' (tr h p t :: St R D (feed stop s (fromL (flat h t) key)) :: F) ∧ Sm w w' := by
  intro h
  induction h with
  | zero =>
    intro p (t : List Ent) s w F hN hw hsr hs
    have hs : Sat w (nd p t [] :: R s :: F) := hs
    have hw : List.length t ≤ 5 := hw
    rw [F199]; unfold S199
    refine Ok.bind (find_ok hs (k := 0) rfl (by omega)) ?_
    rintro v w1 ⟨l1, l2, b, rfl, hf, rfl, h2, s1⟩
    refine Ok.rd rfl (Ok.rd rfl ?_)
    have hsr' : Srt (l1 ++ l2) := hsr
    have hfr : fromL (flat 0 (l1 ++ l2)) key = l2 := by
      show fromL (l1 ++ l2) key = l2
      rw [fromL_app, fromL_bel hf.1]
      match l2, fits_head hf, (srt_app.1 hsr').2.1 with
      | [], _, _ => rfl
      | z :: r, hz, hr => exact fromL_id (head_from hr (hz z rfl))
    rw [hfr] at hN ⊢
    refine Ok.mono (walk_leaf hon (key := key) l2 l1 s _ w1 F hN h2 hw rfl rfl rfl rfl rfl) ?_
    rintro x w2 ⟨rfl, m1, m2⟩
    exact ⟨rfl, m1, s1.trans m2⟩
  | succ h ih =>
    intro p t s w F hN hw hsr hs
    obtain ⟨l, ks⟩ := t
    have hl5 : l.length ≤ 5 := hw.1
    have hkl : ks.length = l.length + 1 := hw.2.1
    obtain ⟨qs, hq, hs0⟩ := tr_open1 hs
    clear hs
    have hq : qs.map (·.2) = ks := hq
    have hqs : qs.length = l.length + 1 := by rw [← hkl, ← hq, List.length_map]
    subst hq
    have hkids : ∀ q ∈ qs, wf h q.2 ∧ 2 ≤ (ents h q.2).length := fun q hm => wf_kid hw (List.mem_map_of_mem hm)
    have hs0 : Sat w (nd p l (qs.map (·.1)) :: (fo h qs ++ (R s :: F))) := hs0
    rw [F199]; unfold S199
    refine Ok.bind (find_ok hs0 (k := 0) rfl (by omega)) ?_
    rintro v w1 ⟨l1, l2, b, rfl, hf, rfl, h2, s1⟩
    refine Ok.rd rfl (Ok.rd rfl ?_)
    obtain ⟨q1, q, q2, rfl, hq1⟩ := ex_at (xs := qs) (i := l1.length) (by rw [hqs]; simp; omega)
    have hq2 : q2.length = l2.length := by simp at hqs; omega
    have hfl := flat_at (p := q.1) (l2 := l2) (q2 := q2) (k := q.2) hq1
    have hfl : flat (h + 1) (l1 ++ l2, (q1 ++ q :: q2).map (·.2)) = lpart l1 (fk h q1) ++ flat h q.2 ++ rpart l2 (fk h q2) := hfl
    rw [hfl] at hsr hN ⊢
    obtain ⟨a1, a2, _⟩ := srt_app.1 hsr
    obtain ⟨a3, a4, _⟩ := srt_app.1 a1
    have hge := rpart_from a2 (fits_head hf)
    have hall : ∀ q' ∈ q2, Srt (flat h q'.2) := by
      intro q' hm
      obtain ⟨n, hn⟩ := List.getElem?_of_mem hm
      obtain ⟨hlt, rfl⟩ := List.getElem?_eq_some_iff.1 hn
      clear hfl hsr hkids hs0 h2 hqs hf hw hkl hl5
      have : (flat h q2[n].2).Sublist (rpart l2 (fk h q2)) := by
        unfold rpart
        have hz : (l2[n]'(by omega), flat h q2[n].2) ∈ l2.zip (fk h q2) := by
          refine List.mem_of_getElem? (i := n) ?_
          rw [List.getElem?_zip_eq_some]
          exact ⟨List.getElem?_eq_getElem _, by simp [fk, hlt]⟩
        exact (List.sublist_cons_self _ _).trans (sub_flat hz)
      exact List.Pairwise.sublist this a2
    have hfr : fromL (lpart l1 (fk h q1) ++ flat h q.2 ++ rpart l2 (fk h q2)) key = fromL (flat h q.2) key ++ rpart l2 (fk h q2) := by
      rw [fromL_app, fromL_app, fromL_bel (lpart_bel a3 hf.1), fromL_id hge]; rfl
    rw [hfr] at hN ⊢
    refine Ok.mono (walk_node hon ih l2 l1 q1 q2 q s _ w1 F hN hq1 hq2 h2 hl5 ?_ hge rfl rfl rfl rfl rfl) ?_
    · intro q' hm
      rcases List.mem_cons.1 hm with rfl | hm
      · exact ⟨(hkids _ (by simp)).1, a4⟩
      · exact ⟨(hkids _ (by simp [hm])).1, hall _ hm⟩
    · rintro x w2 ⟨rfl, m1, m2⟩
      exact ⟨rfl, tr_mk1 m1, s1.trans m2⟩
end Go.Cb

/-
  from: a range over a tree's entries; Next, In; After and Walk.
-/
set_option linter.unusedVariables false
set_option linter.unusedSimpArgs false
namespace Go.Cb
variable {w : World} {F : List HP} {Q Q' : Value → World → Prop}

theorem go_box {t : TypeId} {v : Value} {l : List Value} {κ : Value → World → R} (hv : v.cells.toList = l) (h : Sat w F) (hκ : ∀ nb w', Sat w' (pt nb l t :: F) → Sm w w' → Ok (κ (ptr nb 0) w') Q) : Ok (rd2 (rawV Pg (Instr.box t v) w) κ) Q := by
  subst hv
  refine Ok.rd2 box_ok (hκ _ _ ?_ (Ext.push (fun _ => False) w _).sm)
  exact h.new (Ext.push (fun _ => False) w (.cells v.cells t)) (fun _ _ hf => hf) (by have := At.new w v.cells.toList t; simpa using this) (Nat.le_refl _)
def zeroL (P : Program) (t : TypeId) : Option (List Value) := (P.info? t).bind fun i => i.zero.map fun z => z.cells.toList
theorem go_new {t : TypeId} {l : List Value} {κ : Value → World → R} (hz : zeroL Pg t = some l) (h : Sat w F) (hκ : ∀ nb w', Sat w' (pt nb l t :: F) → Sm w w' → Ok (κ (ptr nb 0) w') Q) : Ok (rd2 (rawV Pg (Instr.alloc t true (.tuple #[])) w) κ) Q := by
  unfold zeroL at hz
  obtain ⟨i, hi, hz1⟩ := Option.bind_eq_some_iff.1 hz
  obtain ⟨z, hz2, rfl⟩ := Option.map_eq_some_iff.1 hz1
  refine Ok.rd2 (alloc_ok hi hz2) (hκ _ _ ?_ (Ext.push (fun _ => False) w _).sm)
  exact h.new (Ext.push (fun _ => False) w (.cells z.cells t)) (fun _ _ hf => hf) (by have := At.new w z.cells.toList t; simpa using this) (Nat.le_refl _)
abbrev noB : ByteArray := { data := #[] }
theorem z9 : zeroL Pg 9 = some [.string noB] := by kernel_rfl
theorem z4 : zeroL Pg 4 = some [.bool false] := by kernel_rfl
theorem z37 : zeroL Pg 229 = some [.slice none 0 0] := by kernel_rfl
theorem a25 : aggT Pg 141 = some false := by kernel_rfl
theorem a4 : aggT Pg 4 = some false := by kernel_rfl

/-- one cell, read and stored. -/
theorem ld1 {b : Nat} {v : Value} {t : TypeId} (ha : aggT Pg t = some false) (h : Sat w F) (k : Nat) (hk : F[k]? = some (pt b [v] t)) : ldV Pg t (ptr b 0) w = some v := (ldV_sc ha _ _).trans ((h.foc hk).at.cell 0)
theorem st9 {b : Nat} {v u : Value} (h : Sat w F) (k : Nat) (hk : F[k]? = some (pt b [v] 9)) (hu : one u = true) : ∃ w', rawU Pg (Instr.storeAt 9 (ptr b 0) u) w = some (undef, w') ∧ Sat w' (F.set k (pt b [u] 9)) ∧ Sm w w' :=
  st_one (sz_of (by kernel_rfl)) h k hk (Nat.zero_lt_succ _) hu
theorem st4 {b : Nat} {v u : Value} (h : Sat w F) (k : Nat) (hk : F[k]? = some (pt b [v] 4)) (hu : one u = true) : ∃ w', rawU Pg (Instr.storeAt 4 (ptr b 0) u) w = some (undef, w') ∧ Sat w' (F.set k (pt b [u] 4)) ∧ Sm w w' :=
  st_one (sz_of (by kernel_rfl)) h k hk (Nat.zero_lt_succ _) hu
theorem st37 {b : Nat} {v u : Value} (h : Sat w F) (k : Nat) (hk : F[k]? = some (pt b [v] 229)) (hu : one u = true) : ∃ w', rawU Pg (Instr.storeAt 229 (ptr b 0) u) w = some (undef, w') ∧ Sat w' (F.set k (pt b [u] 229)) ∧ Sm w w' :=
  st_one (sz_of (by kernel_rfl)) h k hk (Nat.zero_lt_succ _) hu

/-! ### The closure of a range -/

abbrev frV (b1 b2 : Nat) : Value := .func (.func 198) #[] #[ptr b1 0, ptr b2 0]
theorem go_from {t : Value} {key : ByteArray} {κ : Value → World → R} (ht : one t = true) (h : Sat w F) (hκ : ∀ b1 b2 w', Sat w' (pt b2 [.string key] 9 :: pt b1 [t] 141 :: F) → Sm w w' → Ok (κ (frV b1 b2) w') Q) :
    Ok (rd2 (Fn Pg 142 [t, .string key] w) κ) Q := by
  refine Ok.bind (Q := fun v w' => ∃ b1 b2, v = frV b1 b2 ∧ Sat w' (pt b2 [.string key] 9 :: pt b1 [t] 141 :: F) ∧ Sm w w') ?_ ?_
  · rw [F142]; unfold S142
    refine go_box (l := [t]) (by rw [cells_one ht]) h fun b1 w1 h1 s1 => ?_
    refine go_box (l := [.string key]) rfl h1 fun b2 w2 h2 s2 => ?_
    exact ⟨_, _, rfl, b1, b2, rfl, h2, s1.trans s2⟩
  · rintro v w' ⟨b1, b2, rfl, h1, s1⟩
    exact hκ _ _ _ h1 s1

theorem each_ok {on : Value} {N : Nat} {stop : List Ent → Ent → Bool} {R : List Ent → HP} {D : List Ent → Ent → HP} (hon : YOk on N stop R D) {T b1 b2 : Nat} {L s : List Ent} {key : ByteArray} (hN : s.length + (fromL L key).length ≤ N) (hs : Sat w (tree T L :: R s :: pt b2 [.string key] 9 :: pt b1 [ptr T 0] 141 :: F)) :
    Ok (Fn Pg 198 [on, ptr b1 0, ptr b2 0] w) fun _ w' => Sat w' (tree T L :: St R D (feed stop s (fromL L key)) :: pt b2 [.string key] 9 :: pt b1 [ptr T 0] 141 :: F) ∧ Sm w w' := by
  obtain ⟨r, h, t, h1, h2, h3, h4, hs⟩ := tree_open hs
  rw [F198]; unfold S198
  refine Ok.rd (ld1 a25 hs 4 rfl) (Ok.rd2 (none_ok hs 0 rfl) (Ok.rd (un_not _) (Ok.ct rfl ?_)))
  have hd : Sat (drw w) (pt T [ptr r 0, int L.length] 234 :: tr h r t :: R s :: pt b2 [.string key] 9 :: pt b1 [ptr T 0] 141 :: F) := hs.drw
  refine Ok.rd (ld1 a25 hd 4 rfl) (Ok.rd (nil_ptr _ _) (Ok.rd (fld57_0 _ _) (Ok.rd (ld_root hd 0 rfl) (Ok.rd (ld1 a9 hd 3 rfl) ?_))))
  subst h3
  refine Ok.bind (walk_ok hon h r t s (drw w) _ hN h1 h4 (hd.re [1, 2, 0] (by decide))) ?_
  rintro x w1 ⟨_, g1, s1⟩
  exact ⟨_, _, rfl, tree_mk h1 h2 rfl h4 rfl (g1.re [2, 0, 1] (by decide)), s1.drw⟩

theorem each_none {on t : Value} {b1 b2 : Nat} {key : ByteArray} (hs : Sat w F) (k : Nat) (hk : F[k]? = some (pt b1 [t] 141)) (hn : Fn Pg 136 [t] w = some (.bool true, w)) :
    Ok (Fn Pg 198 [on, ptr b1 0, ptr b2 0] w) fun _ w' => w' = w := by
  rw [F198]; unfold S198
  refine Ok.rd (ld1 a25 hs k hk) (Ok.rd2 hn (Ok.rd (un_not _) (Ok.cf rfl ?_)))
  exact ⟨_, _, rfl, rfl⟩

/-! ### What is called with each entry, as a round -/

theorem yield_run {l f : Nat} {ts : Array Value} {ps : Array Tmp} {a b : Code} {D : Nat} {st : LoopState} {pd : Option Code} {args : List Value} (hs : w.heap[l]? = some (lp f ts ps a b D st pd)) (hl : args.length = ps.size) :
    callV (cx199 (Fn Pg) (Rnd Pg)) (.func (.yield l) #[] #[]) args w = Rnd Pg l f ((ps.zip args.toArray).foldl (fun tmps (t, a) => tmps.setIfInBounds t a) ts).toList a b w := by
  show yieldR _ l ([] ++ args) w = _
  unfold yieldR
  rw [hs]
  simp [hl, cx199]
theorem tab_len (N : Nat) (e : Env) : (tab N e).toList.length = N := by simp [tab]
theorem tab_get {N k j : Nat} {e : Env} {v : Value} (hj : j < N) (hk : k < N) : envL ((#[k].zip #[v]).foldl (fun tmps (t, a) => tmps.setIfInBounds t a) (tab N e)).toList j = if k = j then v else e j := by
  simp only [envL, List.size_toArray, List.zip_toArray, List.zip_cons_cons, List.zip_nil_right, List.foldl_toArray', List.foldl_cons, List.foldl_nil, tab]
  by_cases hkj : k = j
  · subst hkj
    simp [List.getD, hk]
  · simp [List.getD, List.getElem?_set, hj, hkj]
theorem tab_len' {N k : Nat} {e : Env} {v : Value} : ((#[k].zip #[v]).foldl (fun tmps (t, a) => tmps.setIfInBounds t a) (tab N e)).toList.length = N := by
  simp [tab]

/-! ### Next, In -/

abbrev zB : ByteArray := { data := #[0] }
theorem next_ok {key : ByteArray} (hk : key.size ≤ 2 ^ 62) : Fn Pg 143 [.string key] w = some (.string (key ++ zB), w) := by
  rw [F143]; unfold S143
  have : binG false Pg .add 9 (.tmp 0) (.const .nilFunc) (.string key) (.string zB) w = some (.string (key ++ zB), w) := by
    unfold binG binV
    have h1 : ¬ ((key.size + zB.size : Nat) : Int) > IntKind.i64.max := by
      have h2 : zB.size = 1 := rfl
      have h3 : IntKind.i64.max = 9223372036854775807 := rfl
      rw [h2, h3]; omega
    simp only [h1, if_false]
  rw [this]; rfl
theorem toL_next (key : ByteArray) : (key ++ zB).toList = key.toList ++ [0] := by
  rw [ByteArray.toList_eq, ByteArray.toList_eq, ByteArray.data_append]; simp
theorem kl_next (a b : ByteArray) : kl a (b ++ zB) = !kl b a := by
  unfold kl; rw [toL_next]; exact bl_next _ _
theorem from_next (L : List Ent) (key : ByteArray) : fromL L (key ++ zB) = upps L key := by
  unfold fromL upps
  congr 1
  funext e
  rw [kl_next]; simp

abbrev spC (f t : ByteArray) : List Value := [.string f, .string t]
theorem fld36_0 (b o : Nat) : fldA Pg 25 (ptr b o) 0 = some (ptr b o) := by kernel_rfl
theorem fld36_1 (b o : Nat) : fldA Pg 25 (ptr b o) 1 = some (ptr b (o + 1)) := by kernel_rfl
theorem ldsp0 {b : Nat} {f t : ByteArray} (h : Sat w F) (k : Nat) (hk : F[k]? = some (pt b (spC f t) 25)) : ldV Pg 9 (ptr b 0) w = some (.string f) := (ldV_sc a9 _ _).trans ((h.foc hk).at.cell 0)
theorem ldsp1 {b : Nat} {f t : ByteArray} (h : Sat w F) (k : Nat) (hk : F[k]? = some (pt b (spC f t) 25)) : ldV Pg 9 (ptr b (0 + 1)) w = some (.string t) := (ldV_sc a9 _ _).trans ((h.foc hk).at.cell 1)
theorem a36 : aggT Pg 25 = some true := by kernel_rfl
theorem i36 : ∃ i, Pg.info? 25 = some i ∧ i.size = 2 := sz_of (by kernel_rfl)
theorem ldsp {b : Nat} {f t : ByteArray} (h : Sat w F) (k : Nat) (hk : F[k]? = some (pt b (spC f t) 25)) : ldV Pg 25 (ptr b 0) w = some (.agg #[.string f, .string t]) := by
  obtain ⟨i', hi', hs⟩ := i36
  rw [at_load (h.foc hk).at (o := 0) (n := 2) (by simp) a36 hi' hs]; rfl

theorem ahead_ok {k t : ByteArray} : Fn Pg 231 [.string k, .string t] w = some (.bool (decide (t = ByteArray.empty) || kl k t), w) := by
  have : Ok (Fn Pg 231 [.string k, .string t] w) fun x w' => x = .bool (decide (t = ByteArray.empty) || kl k t) ∧ w' = w := by
    rw [F231]; unfold S231
    refine Ok.rd2 bin_seql ?_
    have he : decide (t = noB) = decide (t = ByteArray.empty) := rfl
    rw [he]
    cases hx : decide (t = ByteArray.empty) with
    | true => exact Ok.f0 (Ok.f0 (Ok.f0 (Ok.rd (pick_t _ _) ⟨_, _, rfl, rfl, rfl⟩)))
    | false => exact f_ok rfl rfl (f_ok rfl rfl (f_ok rfl (gr2 bin_slss) (Ok.rd (pick_f _ _) ⟨_, _, rfl, rfl, rfl⟩)))
  obtain ⟨x, w', h1, rfl, rfl⟩ := this
  exact h1

theorem in_ok {f t k : ByteArray} (hs : Sat w F) : Ok (Fn Pg 208 [.agg #[.string f, .string t], .string k] w) fun x w' => x = .bool (inB f t k) ∧ Sat w' F ∧ Sm w w' := by
  rw [F208]; unfold S208
  refine go_box (l := spC f t) rfl hs fun b w1 h1 s1 => ?_
  refine Ok.rd (fld36_0 _ _) (Ok.rd (ldsp0 h1 0 rfl) (Ok.rd2 bin_sgeq ?_))
  unfold inB
  cases hx : kl k f with
  | true =>
    refine t_no rfl (t_no rfl (t_no rfl (t_no rfl (pk_f rfl ?_))))
    exact ⟨_, _, rfl, rfl, h1.drop, s1⟩
  | false =>
    refine t_ok rfl rfl (t_ok rfl (by rw [fld36_1]; rfl) (t_ok rfl (by rw [ldsp1 h1 0 rfl]; rfl) (t_ok rfl (gr2 ahead_ok) (pk_t rfl ?_))))
    exact ⟨_, _, rfl, rfl, h1.drop, s1⟩

/-! ### After -/

def aftR (l r1 r2 : Nat) (ts : Array Value) (a b : Code) (d : Nat) : List Ent → HP := fun _ => stars [ob l (lp 68 ts #[11] a b d .ready none), pt r1 [.string noB] 9, pt r2 [.bool false] 4]
def aftD (l r1 r2 : Nat) (ts : Array Value) (a b : Code) (d : Nat) : List Ent → Ent → HP := fun _ e => stars [ob l (lp 68 ts #[11] a b d .done (some .ret)), pt r1 [.string e.1] 9, pt r2 [.bool true] 4]

theorem aft_yield {l r1 r2 d N : Nat} {e0 : Env} (h4 : e0 4 = ptr r1 0) (h5 : e0 5 = ptr r2 0) :
    YOk (.func (.yield l) #[] #[]) N (fun _ _ => true) (aftR l r1 r2 (tab 14 e0) (cdA Go.Proofs.Tryz.f68 [1, 0, 1, 0, 0]) (cdA Go.Proofs.Tryz.f68 [1, 0, 1, 0, 1]) d) (aftD l r1 r2 (tab 14 e0) (cdA Go.Proofs.Tryz.f68 [1, 0, 1, 0, 0]) (cdA Go.Proofs.Tryz.f68 [1, 0, 1, 0, 1]) d) := by
  intro s x w F _ hs
  have hs : Sat w (ob l (lp 68 (tab 14 e0) #[11] (cdA Go.Proofs.Tryz.f68 [1, 0, 1, 0, 0]) (cdA Go.Proofs.Tryz.f68 [1, 0, 1, 0, 1]) d .ready none) :: pt r1 [.string noB] 9 :: pt r2 [.bool false] 4 :: F) := Sat.flat.1 hs
  rw [yield_run hs.obAt rfl, R68_1 w tab_len']
  have g11 := tab_get (N := 14) (k := 11) (j := 11) (e := e0) (v := aggE x) (by decide) (by decide)
  have g4 := tab_get (N := 14) (k := 11) (j := 4) (e := e0) (v := aggE x) (by decide) (by decide)
  have g5 := tab_get (N := 14) (k := 11) (j := 5) (e := e0) (v := aggE x) (by decide) (by decide)
  rw [if_pos rfl] at g11
  rw [if_neg (by decide)] at g4 g5
  unfold S68_R1
  rw [show (([aggE x] : List Value).toArray) = #[aggE x] from rfl, g11, g4, g5, h4, h5]
  refine go_tmp hs fun nb w1 t1 s1 => ?_
  refine go_beg t1.sw fun w2 t2 s2 => ?_
  refine Ok.rd (fld40_0 _ _) (Ok.rd (ld_key t2 1 rfl) ?_)
  obtain ⟨w3, m3, t3, s3⟩ := st9 (u := .string x.1) t2 2 rfl rfl
  refine Ok.rd2 m3 ?_
  obtain ⟨w4, m4, t4, s4⟩ := st4 (u := .bool true) t3 3 rfl rfl
  refine Ok.rd2 m4 ?_
  refine go_fin t4 fun w5 t5 s5 => ?_
  refine ⟨rfl, (Sat.flat (G := [_, _, _])).2 ?_, s1.trans (s2.trans (s3.trans (s4.trans s5)))⟩
  exact ((t5.re [1, 0, 2, 3] (by decide)).drop)

/-- the first key above a text. -/
def aftV (L : List Ent) (key : ByteArray) : Value := match (upps L key).head? with
  | some e => .tuple #[.string e.1, .bool true]
  | none => .tuple #[.string noB, .bool false]
theorem after_ok {T : Nat} {L : List Ent} {key : ByteArray} (hk : key.size ≤ 2 ^ 62) (hs : Sat w (tree T L :: F)) :
    Ok (Fn Pg 68 [ptr T 0, .string key] w) fun v w' => v = aftV L key ∧ Sat w' (tree T L :: F) ∧ Sm w w' := by
  rw [F68]; unfold S68
  refine go_new z9 hs fun r1 w1 t1 s1 => ?_
  refine go_new z4 t1 fun r2 w2 t2 s2 => ?_
  refine Ok.rd2 (next_ok hk) ?_
  refine go_from rfl t2 fun b1 b2 w3 t3 s3 => ?_
  refine go_rng rfl (by kernel_rfl) rfl t3 fun d l w4 t4 s4 => ?_
  have hcall : ∀ (a b : Value) (w : World), callV (cx68 (Fn Pg) (Rnd Pg)) (frV b1 b2) [a] w = Fn Pg 198 [a, ptr b1 0, ptr b2 0] w := fun _ _ _ => rfl
  rw [hcall _ undef]
  obtain ⟨e0, he0⟩ : ∃ e0 : Env, e0 = upd (upd (upd (upd (upd (upd (envL [ptr T 0, Value.string key]) 4 (ptr r1 0)) 5 (ptr r2 0)) 7 (ptr T 0)) 8 (Value.string key)) 9 (Value.string (key ++ zB))) 10 (frV b1 b2) := ⟨_, rfl⟩
  rw [← he0] at t4 ⊢
  have h4 : e0 4 = ptr r1 0 := by rw [he0]; rfl
  have h5 : e0 5 = ptr r2 0 := by rw [he0]; rfl
  have t5 : Sat w4 (tree T L :: aftR l r1 r2 (tab 14 e0) (cdA Go.Proofs.Tryz.f68 [1, 0, 1, 0, 0]) (cdA Go.Proofs.Tryz.f68 [1, 0, 1, 0, 1]) d [] :: pt b2 [.string (key ++ zB)] 9 :: pt b1 [ptr T 0] 141 :: ob d (.deferred (some [])) :: F) := by
    refine Sat.sw ((Sat.flat (G := [_, _, _])).2 ?_)
    exact t4.re [0, 5, 4, 6, 2, 3, 1] (by decide)
  refine Ok.mono (each_ok (aft_yield h4 h5) (Nat.le_refl _) t5) ?_
  rintro _ w5 ⟨t6, s5⟩
  rw [from_next] at t6
  unfold aftV
  match hX : upps L key, t6 with
  | [], t6 =>
    have t6 : Sat w5 (tree T L :: aftR l r1 r2 (tab 14 e0) (cdA Go.Proofs.Tryz.f68 [1, 0, 1, 0, 0]) (cdA Go.Proofs.Tryz.f68 [1, 0, 1, 0, 1]) d [] :: pt b2 [.string (key ++ zB)] 9 :: pt b1 [ptr T 0] 141 :: ob d (.deferred (some [])) :: F) := t6
    have t7 := Sat.flat.1 t6.sw
    refine end_norm t7 fun w6 t8 s6 => ?_
    rw [S68_N1_eq]; unfold S68_N1
    have e4 : upd e0 (cx68 (Fn Pg) (Rnd Pg)).N (.map (some d)) 4 = ptr r1 0 := h4
    have e5 : upd e0 (cx68 (Fn Pg) (Rnd Pg)).N (.map (some d)) 5 = ptr r2 0 := h5
    have e14 : upd e0 (cx68 (Fn Pg) (Rnd Pg)).N (.map (some d)) 14 = .map (some d) := rfl
    rw [e4, e5, e14]
    obtain ⟨w7, m7, t9, s7⟩ := st9 (u := .string noB) t8 0 rfl rfl
    refine Ok.rd2 m7 ?_
    obtain ⟨w8, m8, t10, s8⟩ := st4 (u := .bool false) t9 1 rfl rfl
    refine Ok.rd2 m8 ?_
    refine go_shut (t10.re [5, 0, 1, 2, 3, 4] (by decide)) fun w9 t11 s9 => ?_
    refine Ok.rd (ld1 a9 t11 0 rfl) (Ok.rd (ld1 a4 t11 1 rfl) ?_)
    refine ⟨_, _, rfl, rfl, (t11.re [0, 1, 3, 4, 2] (by decide)).drop.drop.drop.drop, ?_⟩
    exact s1.trans (s2.trans (s3.trans (s4.trans (s5.trans (s6.trans (s7.trans (s8.trans s9)))))))
  | x :: X, t6 =>
    have t6 : Sat w5 (tree T L :: aftD l r1 r2 (tab 14 e0) (cdA Go.Proofs.Tryz.f68 [1, 0, 1, 0, 0]) (cdA Go.Proofs.Tryz.f68 [1, 0, 1, 0, 1]) d [] x :: pt b2 [.string (key ++ zB)] 9 :: pt b1 [ptr T 0] 141 :: ob d (.deferred (some [])) :: F) := t6
    have t7 := Sat.flat.1 t6.sw
    refine end_ret t7 fun w6 t8 s6 => ?_
    rw [S68_T1_eq]; unfold S68_T1
    have e4 : upd e0 (cx68 (Fn Pg) (Rnd Pg)).N (.map (some d)) 4 = ptr r1 0 := h4
    have e5 : upd e0 (cx68 (Fn Pg) (Rnd Pg)).N (.map (some d)) 5 = ptr r2 0 := h5
    have e14 : upd e0 (cx68 (Fn Pg) (Rnd Pg)).N (.map (some d)) 14 = .map (some d) := rfl
    rw [e4, e5, e14]
    refine go_shut (t8.re [5, 0, 1, 2, 3, 4] (by decide)) fun w9 t11 s9 => ?_
    refine Ok.rd (ld1 a9 t11 0 rfl) (Ok.rd (ld1 a4 t11 1 rfl) ?_)
    refine ⟨_, _, rfl, rfl, (t11.re [0, 1, 3, 4, 2] (by decide)).drop.drop.drop.drop, ?_⟩
    exact s1.trans (s2.trans (s3.trans (s4.trans (s5.trans (s6.trans s9)))))
end Go.Cb

/-
  Walk: the entries in a span, so many.
-/
set_option linter.unusedVariables false
set_option linter.unusedSimpArgs false
namespace Go.Cb
variable {w : World} {F : List HP} {Q Q' : Value → World → Prop}

/-- what a round of Walk holds. -/
def wkH (l c7 c4 c5 : Nat) (ts : Array Value) (d : Nat) (f t : ByteArray) (m : Int) (st : LoopState) (pd : Option Code) (s : List Ent) : HP := fun h => ∃ ov,
  stars [ob l (lp 154 ts #[13] (cdA Go.Proofs.Tryz.f154 [1, 1, 0, 1, 0, 0]) (cdA Go.Proofs.Tryz.f154 [1, 1, 0, 1, 0, 1]) d st pd), pt c7 [ov] 229, slH 240 2 encE ov s, pt c4 (spC f t) 25, pt c5 [int m] 3] h
def wkR (l c7 c4 c5 : Nat) (ts : Array Value) (d : Nat) (f t : ByteArray) (m : Int) : List Ent → HP := fun s => wkH l c7 c4 c5 ts d f t m .ready none s
def wkD (l c7 c4 c5 : Nat) (ts : Array Value) (d : Nat) (f t : ByteArray) (m : Int) : List Ent → Ent → HP := fun s _ => wkH l c7 c4 c5 ts d f t m .done (some (.exit 0)) s

theorem wk_open {l c7 c4 c5 : Nat} {ts : Array Value} {d : Nat} {f t : ByteArray} {m : Int} {st : LoopState} {pd : Option Code} {s : List Ent} (hs : Sat w (wkH l c7 c4 c5 ts d f t m st pd s :: F)) :
    ∃ ov, Sat w (ob l (lp 154 ts #[13] (cdA Go.Proofs.Tryz.f154 [1, 1, 0, 1, 0, 0]) (cdA Go.Proofs.Tryz.f154 [1, 1, 0, 1, 0, 1]) d st pd) :: pt c7 [ov] 229 :: slH 240 2 encE ov s :: pt c4 (spC f t) 25 :: pt c5 [int m] 3 :: F) := by
  obtain ⟨ov, h⟩ := Sat.ex.1 hs
  exact ⟨ov, Sat.flat.1 h⟩
theorem wk_mk {l c7 c4 c5 : Nat} {ts : Array Value} {d : Nat} {f t : ByteArray} {m : Int} {st : LoopState} {pd : Option Code} {s : List Ent} {ov : Value}
    (hs : Sat w (ob l (lp 154 ts #[13] (cdA Go.Proofs.Tryz.f154 [1, 1, 0, 1, 0, 0]) (cdA Go.Proofs.Tryz.f154 [1, 1, 0, 1, 0, 1]) d st pd) :: pt c7 [ov] 229 :: slH 240 2 encE ov s :: pt c4 (spC f t) 25 :: pt c5 [int m] 3 :: F)) :
    Sat w (wkH l c7 c4 c5 ts d f t m st pd s :: F) := Sat.ex.2 ⟨ov, (Sat.flat (G := [_, _, _, _, _])).2 hs⟩

theorem wk_yield {l c7 c4 c5 d : Nat} {e0 : Env} {f t : ByteArray} {m : Int} (h7 : e0 7 = ptr c7 0) (h4 : e0 4 = ptr c4 0) (h5 : e0 5 = ptr c5 0) {N : Nat} (hN : N ≤ 2 ^ 28) :
    YOk (.func (.yield l) #[] #[]) N (stopW m f t) (wkR l c7 c4 c5 (tab 30 e0) d f t m) (wkD l c7 c4 c5 (tab 30 e0) d f t m) := by
  intro s x w F hsl hs
  obtain ⟨ov, hs⟩ := wk_open hs
  rw [yield_run hs.obAt rfl, R154_1 w tab_len']
  have g13 := tab_get (N := 30) (k := 13) (j := 13) (e := e0) (v := aggE x) (by decide) (by decide)
  have g4 := tab_get (N := 30) (k := 13) (j := 4) (e := e0) (v := aggE x) (by decide) (by decide)
  have g5 := tab_get (N := 30) (k := 13) (j := 5) (e := e0) (v := aggE x) (by decide) (by decide)
  have g7 := tab_get (N := 30) (k := 13) (j := 7) (e := e0) (v := aggE x) (by decide) (by decide)
  rw [if_pos rfl] at g13
  rw [if_neg (by decide)] at g4 g5 g7
  unfold S154_R1
  rw [show (([aggE x] : List Value).toArray) = #[aggE x] from rfl, g13, g4, g5, g7, h4, h5, h7]
  refine go_tmp hs fun nb w1 t1 s1 => ?_
  refine go_beg t1.sw fun w2 t2 s2 => ?_
  refine Ok.rd (ld1 a37 t2 2 rfl) (Ok.rd2 (sl_len T37 (t2.foc (k := 3) rfl) w2) (Ok.rd (ld1 a3 t2 5 rfl) (Ok.rd2 bin_geq ?_)))
  by_cases hx : m ≤ (s.length : Int)
  · have hx' : decide (m ≤ (s.length : Int)) = true := by simpa using hx
    have hst : stopW m f t s x = true := by simp [stopW, hx]
    rw [hx']
    refine Ok.f0 (Ok.f0 (Ok.f0 (Ok.f0 (Ok.f0 (Ok.rd (pick_t _ _) (Ok.ct rfl ?_))))))
    refine go_fin t2 fun w3 t3 s3 => ?_
    rw [hst]
    exact ⟨rfl, wk_mk (t3.re [1, 0, 2, 3, 4, 5] (by decide)).drop, s1.trans (s2.trans s3)⟩
  · have hx' : decide (m ≤ (s.length : Int)) = false := by simpa using hx
    rw [hx']
    refine f_ok rfl (by rw [ldsp t2 4 rfl]; rfl) (f_ok rfl (by rw [fld40_0]; rfl) (f_ok rfl (by rw [ld_key t2 1 rfl]; rfl) ?_))
    refine f_call rfl (in_ok t2) ?_
    rintro y w3 ⟨rfl, t3, s3⟩
    refine f_ok rfl (by rw [un_not]; rfl) (Ok.rd (pick_f _ _) ?_)
    cases hi : inB f t x.1 with
    | false =>
      have hst : stopW m f t s x = true := by simp [stopW, hi]
      refine Ok.ct rfl (go_fin t3 fun w4 t4 s4 => ?_)
      rw [hst]
      exact ⟨rfl, wk_mk (t4.re [1, 0, 2, 3, 4, 5] (by decide)).drop, s1.trans (s2.trans (s3.trans s4))⟩
    | true =>
      have hst : stopW m f t s x = false := by simp [stopW, hi, hx']
      refine Ok.cf rfl ?_
      refine Ok.rd (ld1 a37 t3 2 rfl) (Ok.rd (ld_ent t3 1 rfl) ?_)
      refine go_bs1 T37 enE (by decide) (x := x) rfl t3 fun nb2 w4 t4 hv4 s4 => ?_
      refine go_app T37 enE t4 4 rfl hv4 (by simp; omega) fun a5 w5 t5 s5 => ?_
      obtain ⟨w6, m6, t6, s6⟩ := st37 (u := a5) t5 3 rfl (one_slH t5 4 rfl)
      refine Ok.rd2 m6 ?_
      have t6 : Sat w6 (pt nb2 (encE x) 240 :: ob l (lp 154 (tab 30 e0) #[13] (cdA Go.Proofs.Tryz.f154 [1, 1, 0, 1, 0, 0]) (cdA Go.Proofs.Tryz.f154 [1, 1, 0, 1, 0, 1]) d .busy none) :: pt nb (encE x) 240 :: pt c7 [a5] 229 :: slH 240 2 encE a5 (s ++ [x]) :: pt c4 (spC f t) 25 :: pt c5 [int m] 3 :: F) := t6
      refine go_fin t6.drop fun w7 t7 s7 => ?_
      rw [hst]
      exact ⟨rfl, wk_mk (t7.re [1, 0, 2, 3, 4, 5] (by decide)).drop, s1.trans (s2.trans (s3.trans (s4.trans (s5.trans (s6.trans s7)))))⟩

theorem twalk_ok {T : Nat} {L : List Ent} {f t : ByteArray} {m : Int} (hs : Sat w (tree T L :: F)) (hl : L.length ≤ 2 ^ 28) :
    Ok (Fn Pg 154 [ptr T 0, .agg #[.string f, .string t], int m] w) fun v w' => Sat w' (slH 240 2 encE v (walkL L f t m) :: tree T L :: F) ∧ Sm w w' := by
  have hsrt : Srt L := by obtain ⟨_, _, _, _, _, _, h4, _⟩ := tree_open hs; exact h4
  rw [F154]; unfold S154
  refine go_box (l := spC f t) rfl hs fun c4 w1 t1 s1 => ?_
  refine go_box (l := [int m]) rfl t1 fun c5 w2 t2 s2 => ?_
  refine go_new z37 t2 fun c7 w3 t3 s3 => ?_
  refine Ok.rd (fld36_0 _ _) (Ok.rd (ldsp0 t3 2 rfl) ?_)
  refine go_from rfl t3 fun b1 b2 w4 t4 s4 => ?_
  refine go_rng rfl (by kernel_rfl) rfl t4 fun d l w5 t5 s5 => ?_
  have hcall : ∀ (a b : Value) (w : World), callV (cx154 (Fn Pg) (Rnd Pg)) (frV b1 b2) [a] w = Fn Pg 198 [a, ptr b1 0, ptr b2 0] w := fun _ _ _ => rfl
  rw [hcall _ undef]
  obtain ⟨e0, he0⟩ : ∃ e0 : Env, e0 = upd (upd (upd (upd (upd (upd (upd (upd (envL [ptr T 0, Value.agg #[.string f, .string t], int m]) 4 (ptr c4 0)) 5 (ptr c5 0)) 6 (.slice none 0 0)) 7 (ptr c7 0)) 9 (ptr T 0)) 10 (ptr c4 0)) 11 (.string f)) 12 (frV b1 b2) := ⟨_, rfl⟩
  rw [← he0] at t5 ⊢
  have h4 : e0 4 = ptr c4 0 := by rw [he0]; rfl
  have h5 : e0 5 = ptr c5 0 := by rw [he0]; rfl
  have h7 : e0 7 = ptr c7 0 := by rw [he0]; rfl
  have t6 : Sat w5 (tree T L :: wkR l c7 c4 c5 (tab 30 e0) d f t m [] :: pt b2 [.string f] 9 :: pt b1 [ptr T 0] 141 :: ob d (.deferred (some [])) :: F) := by
    refine Sat.sw (wk_mk (ov := .slice none 0 0) ?_)
    have := (slH_nil (T := 240) (k := 2) (enc := encE) none t5).re [1, 5, 0, 7, 6, 8, 3, 4, 2] (by decide)
    exact this
  refine Ok.mono (each_ok (wk_yield h7 h4 h5 (N := (fromL L f).length) (Nat.le_trans (List.length_filter_le _ _) hl)) (by simp) t6) ?_
  rintro _ w6 ⟨t7, s6⟩
  have hfl := feed_walk (m := m) (f := f) (t := t) hsrt
  have e7 : upd e0 (cx154 (Fn Pg) (Rnd Pg)).N (.map (some d)) 7 = ptr c7 0 := h7
  have e30 : upd e0 (cx154 (Fn Pg) (Rnd Pg)).N (.map (some d)) 30 = .map (some d) := rfl
  have sall := s1.trans (s2.trans (s3.trans (s4.trans (s5.trans s6))))
  rcases hX : feed (stopW m f t) [] (fromL L f) with ⟨s, o⟩
  rw [hX] at t7 hfl
  have hfl : s = walkL L f t m := hfl
  subst hfl
  cases o with
  | none =>
    obtain ⟨ov, t8⟩ := wk_open t7.sw
    refine end_norm t8 fun w7 t9 s7 => ?_
    rw [S154_N1_eq]; unfold S154_N1
    rw [e7, e30]
    refine Ok.rd (ld1 a37 t9 0 rfl) ?_
    refine go_shut (t9.re [7, 0, 1, 2, 3, 4, 5, 6] (by decide)) fun w8 t10 s8 => ?_
    exact ⟨_, _, rfl, (t10.re [0, 2, 3, 5, 6, 1, 4] (by decide)).drop.drop.drop.drop.drop, sall.trans (s7.trans s8)⟩
  | some x =>
    obtain ⟨ov, t8⟩ := wk_open t7.sw
    refine end_exit t8 fun w7 t9 s7 => ?_
    rw [S154_X0_1_eq]; unfold S154_X0_1
    rw [e7, e30]
    refine Ok.rd (ld1 a37 t9 0 rfl) ?_
    refine go_shut (t9.re [7, 0, 1, 2, 3, 4, 5, 6] (by decide)) fun w8 t10 s8 => ?_
    exact ⟨_, _, rfl, (t10.re [0, 2, 3, 5, 6, 1, 4] (by decide)).drop.drop.drop.drop.drop, sall.trans (s7.trans s8)⟩
end Go.Cb

/-
  copied and Copy: a tree like one.
-/
set_option linter.unusedVariables false
set_option linter.unusedSimpArgs false
namespace Go.Cb
variable {w : World} {F : List HP} {Q Q' : Value → World → Prop}

theorem bld100_l (a : Option Addr) (n c : Nat) : bldV Pg 232 [(0, .slice a n c)] = some (.agg #[.slice a n c, .slice none 0 0]) := by kernel_rfl
theorem bld57_2 (r : Nat) (n : Int) : bldV Pg 234 [(0, ptr r 0), (1, int n)] = some (.agg #[ptr r 0, int n]) := by kernel_rfl

theorem cp_in {h : Nat} {X Y : List HP} {q1 q2 : List (Nat × BT h)} {q : Nat × BT h} : Sat w (X ++ (Y ++ (fo h (q1 ++ q :: q2) ++ F))) ↔ Sat w (tr h q.1 q.2 :: (X ++ (Y ++ (fo h (q1 ++ q2) ++ F)))) := by
  have hp : (X ++ (Y ++ (fo h (q1 ++ q :: q2) ++ F))).Perm (tr h q.1 q.2 :: (X ++ (Y ++ (fo h (q1 ++ q2) ++ F)))) := by
    rw [fo_app, fo_cons, fo_app, List.append_assoc, List.cons_append, List.append_assoc]
    rw [← List.append_assoc, ← List.append_assoc, ← List.append_assoc (bs := Y), ← List.append_assoc (bs := fo h q1)]
    exact List.perm_middle
  exact ⟨fun hs => hs.perm hp, fun hs => hs.perm hp.symm⟩
theorem cp_back {A : HP} {X Y Z : List HP} (hs : Sat w (A :: (X ++ (Y ++ Z)))) : Sat w (X ++ ((Y ++ [A]) ++ Z)) := by
  refine hs.perm ?_
  rw [List.append_assoc, ← List.append_assoc, ← List.append_assoc]
  exact List.perm_middle.symm

theorem copied_loop {h : Nat} {p c : Nat} {l : List Ent} {lv kv lv2 : Value} {qs : List (Nat × BT h)} (hb : qs.length ≤ 2 ^ 20)
    (ih : ∀ q ∈ qs, ∀ (w : World) (F : List HP), Sat w (tr h q.1 q.2 :: F) → Ok (Fn Pg 153 [ptr q.1 0] w) fun v w' => ∃ q', v = ptr q' 0 ∧ Sat w' (tr h q' q.2 :: tr h q.1 q.2 :: F) ∧ Sm w w') :
    ∀ (r1 r2 dq : List (Nat × BT h)) (kv2 : Value) (e : Env) (w : World) (F : List HP), qs = r1 ++ r2 → dq.map (·.2) = r1.map (·.2) →
    Sat w ([pt c [lv2, kv2] 232, slH 240 2 encE lv2 l, slH 228 1 encP kv2 (dq.map (·.1)), pt p [lv, kv] 232, slH 240 2 encE lv l, slH 228 1 encP kv (qs.map (·.1))] ++ (fo h dq ++ (fo h qs ++ F))) →
    e 3 = ptr c 0 → e 16 = kv → e 17 = int qs.length → e 18 = int r1.length → e 35 = undef →
    Ok (evalLoop (cx153 (Fn Pg) (Rnd Pg)) (cdA Go.Proofs.Tryz.f153 [1, 1, 0, 1, 0, 0]) (K153_2 (Fn Pg) (Rnd Pg)) e w) fun v w' => v = ptr c 0 ∧ Sm w w' ∧ ∃ (dq : List (Nat × BT h)) (kv2 : Value), dq.map (·.2) = qs.map (·.2) ∧
      Sat w' ([pt c [lv2, kv2] 232, slH 240 2 encE lv2 l, slH 228 1 encP kv2 (dq.map (·.1)), pt p [lv, kv] 232, slH 240 2 encE lv l, slH 228 1 encP kv (qs.map (·.1))] ++ (fo h dq ++ (fo h qs ++ F))) := by
  intro r1 r2
  induction r2 generalizing r1 with
  | nil =>
    intro dq kv2 e w F hq hd hs e3 e16 e17 e18 e35
    rw [S153_L1_eq]; unfold S153_L1
    rw [e3, e16, e17, e18, e35]
    refine Ok.rd2 bin_lss (Ok.cf (by rw [hq]; simp) ?_)
    exact ⟨_, _, rfl, rfl, Sm.refl _, dq, kv2, by rw [hd, hq]; simp, hs⟩
  | cons q r2 ihr =>
    intro dq kv2 e w F hq hd hs e3 e16 e17 e18 e35
    rw [S153_L1_eq]; unfold S153_L1
    rw [e3, e16, e17, e18, e35]
    refine Ok.rd2 bin_lss (Ok.ct (by rw [hq]; simp; omega) ?_)
    obtain ⟨b, o, g1, g2⟩ := ix_k hs 5 rfl (i := r1.length) (q := q.1) (by rw [hq]; simp)
    refine Ok.rd g1 (Ok.rd g2 ?_)
    have hdr := hs.drw
    refine Ok.rd (nil_ptr _ _) (Ok.rd (fld100_1 _ _) (Ok.rd (ld_k hdr 0 rfl) ?_))
    rw [hq] at hdr
    refine Ok.bind (ih q (by rw [hq]; simp) (drw w) _ (cp_in.1 hdr)) ?_
    rintro v w1 ⟨q', rfl, h1, s1⟩
    refine Ok.chk (show ldV Pg 230 (ptr c (0 + 1)) w1 = some kv2 from ld_k h1 2 rfl) ?_
    refine go_bs1 T98 enP (by decide) (x := q') rfl h1 fun nb w2 h2 hv2 s2 => ?_
    have hdl : dq.length = r1.length := by have := congrArg List.length hd; simpa using this
    have hrl : r1.length ≤ 2 ^ 20 := by rw [hq] at hb; simp at hb; omega
    refine go_app T98 enP h2 5 rfl hv2 (by simp; omega) fun a w3 h3 s3 => ?_
    refine Ok.rd (nil_ptr _ _) (Ok.rd (fld100_1 _ _) ?_)
    obtain ⟨w4, m4, h4, s4⟩ := st_k h3 3 rfl (one_slH h3 5 rfl)
    refine Ok.rd2 m4 (Ok.rd2 (bin_add1 (by omega)) ?_)
    have h4 : Sat w4 (pt nb (encP q') 228 :: tr h q' q.2 :: tr h q.1 q.2 :: ([pt c [lv2, a] 232, slH 240 2 encE lv2 l, slH 228 1 encP a (dq.map (·.1) ++ [q']), pt p [lv, kv] 232, slH 240 2 encE lv l, slH 228 1 encP kv ((r1 ++ q :: r2).map (·.1))] ++ (fo h dq ++ (fo h (r1 ++ r2) ++ F)))) := h4
    have h5 := (cp_in (X := tr h q' q.2 :: [pt c [lv2, a] 232, slH 240 2 encE lv2 l, slH 228 1 encP a (dq.map (·.1) ++ [q']), pt p [lv, kv] 232, slH 240 2 encE lv l, slH 228 1 encP kv ((r1 ++ q :: r2).map (·.1))])).2 h4.drop.sw
    have h6 := cp_back (X := [_, _, _, _, _, _]) h5
    have hm : dq.map (·.1) ++ [q'] = (dq ++ [(q', q.2)]).map (·.1) := by simp
    have hf : fo h dq ++ [tr h q' q.2] = fo h (dq ++ [(q', q.2)]) := by rw [fo_app]; rfl
    rw [hm, hf, ← hq] at h6
    refine Ok.mono (ihr (r1 ++ [q]) (dq ++ [(q', q.2)]) a _ w4 F (by rw [hq]; simp) (by simp [hd]) h6 ?_ ?_ ?_ ?_ ?_) ?_
    · exact e3
    · exact e16
    · exact e17
    · show int _ = int _; simp
    · exact e35
    · rintro v w5 ⟨m1, m2, m3⟩
      exact ⟨m1, (s1.drw.trans (s2.trans (s3.trans s4))).trans m2, m3⟩

theorem copied_ok : ∀ (h p : Nat) (t : BT h) (w : World) (F : List HP), wf h t → Sat w (tr h p t :: F) → Ok (Fn Pg 153 [ptr p 0] w) fun v w' => ∃ q, v = ptr q 0 ∧ Sat w' (tr h q t :: tr h p t :: F) ∧ Sm w w' := by
  intro h
  induction h with
  | zero =>
    intro p (t : List Ent) w F hw hs
    have hs : Sat w (nd p t [] :: F) := hs
    have hw : List.length t ≤ 5 := hw
    obtain ⟨lv, kv, hs⟩ := nd_open hs
    rw [F153]; unfold S153
    refine Ok.rd (nil_ptr _ _) (Ok.rd (fld100_0 _ _) (Ok.rd (ld_l hs 0 rfl) ?_))
    refine go_clonel hs (slH_src (hs.foc (k := 1) rfl)) (by omega) fun v w1 h1 s1 => ?_
    obtain ⟨pa, ca, rfl, _⟩ := slH_len h1
    refine Ok.rd (bld100_l _ _ _) ?_
    refine go_box100 rfl rfl h1 fun c w2 h2 s2 => ?_
    refine Ok.rd (nil_ptr _ _) (Ok.rd (fld100_1 _ _) (Ok.rd (ld_k h2 2 rfl) (Ok.rd2 (sl_len T98 (h2.foc (k := 4) rfl) w2) ?_)))
    have h3 := (slH_nil (T := 228) (k := 1) (enc := encP) none h2).re [1, 2, 0, 3, 4, 5] (by decide)
    refine Ok.mono (copied_loop (h := 0) (qs := []) (by simp) (fun q hq => by simp at hq) [] [] [] (.slice none 0 0) _ w2 F rfl rfl h3 rfl rfl rfl rfl rfl) ?_
    rintro v w3 ⟨rfl, s3, dq, kv2, hd, h4⟩
    have hd : dq = [] := by simpa using hd
    subst hd
    refine ⟨c, rfl, ?_, s1.trans (s2.trans s3)⟩
    have h5 : Sat w3 (nd c t [] :: pt p [lv, kv] 232 :: slH 240 2 encE lv t :: slH 228 1 encP kv ([] : List Nat) :: F) := nd_mk h4
    exact (nd_mk (h5.re [1, 2, 3, 0] (by decide))).sw
  | succ h ih =>
    intro p t w F hw hs
    obtain ⟨l, ks⟩ := t
    have hl5 : l.length ≤ 5 := hw.1
    have hkl : ks.length = l.length + 1 := hw.2.1
    obtain ⟨qs, hq, hs0⟩ := tr_open1 hs
    clear hs
    have hq : qs.map (·.2) = ks := hq
    have hqs : qs.length = l.length + 1 := by rw [← hkl, ← hq, List.length_map]
    subst hq
    have hkids : ∀ q ∈ qs, wf h q.2 ∧ 2 ≤ (ents h q.2).length := fun q hm => wf_kid hw (List.mem_map_of_mem hm)
    have hs0 : Sat w (nd p l (qs.map (·.1)) :: (fo h qs ++ F)) := hs0
    obtain ⟨lv, kv, hs⟩ := nd_open hs0
    rw [F153]; unfold S153
    refine Ok.rd (nil_ptr _ _) (Ok.rd (fld100_0 _ _) (Ok.rd (ld_l hs 0 rfl) ?_))
    refine go_clonel hs (slH_src (hs.foc (k := 1) rfl)) (by omega) fun v w1 h1 s1 => ?_
    obtain ⟨pa, ca, rfl, _⟩ := slH_len h1
    refine Ok.rd (bld100_l _ _ _) ?_
    refine go_box100 rfl rfl h1 fun c w2 h2 s2 => ?_
    refine Ok.rd (nil_ptr _ _) (Ok.rd (fld100_1 _ _) (Ok.rd (ld_k h2 2 rfl) (Ok.rd2 (sl_len T98 (h2.foc (k := 4) rfl) w2) ?_)))
    have h3 := (slH_nil (T := 228) (k := 1) (enc := encP) none h2).re [1, 2, 0, 3, 4, 5] (by decide)
    refine Ok.mono (copied_loop (h := h) (qs := qs) (by omega) (fun q hq w F hs => ih q.1 q.2 w F (hkids q hq).1 hs) [] qs [] (.slice none 0 0) _ w2 F rfl rfl h3 rfl rfl (by show int _ = int _; simp) rfl rfl) ?_
    rintro v w3 ⟨rfl, s3, dq, kv2, hd, h4⟩
    refine ⟨c, rfl, ?_, s1.trans (s2.trans s3)⟩
    have h5 : Sat w3 (nd c l (dq.map (·.1)) :: pt p [lv, kv] 232 :: slH 240 2 encE lv l :: slH 228 1 encP kv (qs.map (·.1)) :: (fo h dq ++ (fo h qs ++ F))) := nd_mk h4
    have h6 := nd_mk (h5.re [1, 2, 3, 0] (by decide))
    have h6 : Sat w3 (nd p l (qs.map (·.1)) :: nd c l (dq.map (·.1)) :: (fo h dq ++ (fo h qs ++ F))) := h6
    have h7 : Sat w3 (nd p l (qs.map (·.1)) :: (fo h qs ++ (nd c l (dq.map (·.1)) :: (fo h dq ++ F)))) := by
      refine h6.perm (List.Perm.cons _ ?_)
      refine (List.Perm.cons _ ?_).trans List.perm_middle.symm
      rw [← List.append_assoc, ← List.append_assoc]
      exact List.Perm.append_right _ List.perm_append_comm
    have h8 := tr_mk1 h7
    have h9 : Sat w3 (nd c l (dq.map (·.1)) :: (fo h dq ++ (tr (h + 1) p (l, qs.map (·.2)) :: F))) := by
      refine h8.perm ?_
      exact (List.perm_middle (l₁ := _ :: _) (l₂ := F)).symm
    have h10 := tr_mk1 h9
    rw [hd] at h10
    exact h10

theorem tcopy_ok {T : Nat} {L : List Ent} (hs : Sat w (tree T L :: F)) : Ok (Fn Pg 74 [ptr T 0] w) fun v w' => ∃ U, v = ptr U 0 ∧ Sat w' (tree U L :: tree T L :: F) ∧ Sm w w' := by
  obtain ⟨r, h, t, h1, h2, h3, h4, hs⟩ := tree_open hs
  rw [F74]; unfold S74
  refine Ok.rd2 (none_ok hs 0 rfl) (Ok.cf rfl ?_)
  have hd := hs.drw
  refine Ok.rd (nil_ptr _ _) (Ok.rd (fld57_0 _ _) (Ok.rd (ld_root hd 0 rfl) ?_))
  refine Ok.bind (copied_ok h r t (drw w) _ h1 hd.sw) ?_
  rintro v w1 ⟨q, rfl, g1, s1⟩
  refine Ok.rd (nil_ptr _ _) (Ok.rd (fld57_1 _ _) (Ok.rd (ld_num g1 2 rfl) ?_))
  refine Ok.chk (show ldV Pg 3 (ptr T (0 + 1)) (drw w) = some (int L.length) from ld_num hd 0 rfl) ?_
  refine Ok.rd (bld57_2 _ _) ?_
  refine go_box (l := [ptr q 0, int L.length]) rfl g1 fun U w2 g2 s2 => ?_
  refine ⟨_, _, rfl, U, rfl, ?_, s1.drw.trans s2⟩
  have g3 : Sat w2 (tree U L :: tr h r t :: pt T [ptr r 0, int L.length] 234 :: F) := tree_mk h1 h2 h3 h4 rfl g2
  exact (tree_mk h1 h2 h3 h4 rfl (g3.re [2, 1, 0] (by decide))).sw
end Go.Cb
