/-
  from: a range over a tree's entries; Next, In; After and Walk.
-/
import Derived.Test.YtialecgadoepjaaWa
import Derived.Test.YtialecgadoepjaaWl
set_option linter.unusedVariables false
set_option linter.unusedSimpArgs false
namespace Go.Cb
variable {w : World} {F : List HP} {Q Q' : Value → World → Prop}

theorem go_box {t : TypeId} {v : Value} {l : List Value} {κ : Value → World → R} (hv : v.cells.toList = l) (h : Sat w F) (hκ : ∀ nb w', Sat w' (pt nb l t :: F) → Sm w w' → Ok (κ (ptr nb 0) w') Q) : Ok (rd2 (rawV Pg (Instr.box t v) w) κ) Q := by
  subst hv
  refine Ok.rd2 box_ok (hκ _ _ ?_ (Ext.push (fun _ => False) w _).sm)
  exact h.new (Ext.push (fun _ => False) w (.cells v.cells t)) (fun _ _ hf => hf) (by have := At.new w v.cells.toList t; simpa using this) (Nat.le_refl _)
def zeroL (P : Program) (t : TypeId) : Option (List Value) := (P.info? t).bind fun i => i.zero.map fun z => z.cells.toList
theorem go_new {t : TypeId} {l : List Value} {κ : Value → World → R} (hz : zeroL Pg t = some l) (h : Sat w F) (hκ : ∀ nb w', Sat w' (pt nb l t :: F) → Sm w w' → Ok (κ (ptr nb 0) w') Q) : Ok (rd2 (rawV Pg (Instr.alloc t true (.tuple #[])) w) κ) Q := by
  unfold zeroL at hz
  obtain ⟨i, hi, hz1⟩ := Option.bind_eq_some_iff.1 hz
  obtain ⟨z, hz2, rfl⟩ := Option.map_eq_some_iff.1 hz1
  refine Ok.rd2 (alloc_ok hi hz2) (hκ _ _ ?_ (Ext.push (fun _ => False) w _).sm)
  exact h.new (Ext.push (fun _ => False) w (.cells z.cells t)) (fun _ _ hf => hf) (by have := At.new w z.cells.toList t; simpa using this) (Nat.le_refl _)
abbrev noB : ByteArray := { data := #[] }
theorem z9 : zeroL Pg 9 = some [.string noB] := by kernel_rfl
theorem z4 : zeroL Pg 4 = some [.bool false] := by kernel_rfl
theorem z37 : zeroL Pg 37 = some [.slice none 0 0] := by kernel_rfl
theorem a25 : aggT Pg 25 = some false := by kernel_rfl
theorem a4 : aggT Pg 4 = some false := by kernel_rfl

/-- one cell, read and stored. -/
theorem ld1 {b : Nat} {v : Value} {t : TypeId} (ha : aggT Pg t = some false) (h : Sat w F) (k : Nat) (hk : F[k]? = some (pt b [v] t)) : ldV Pg t (ptr b 0) w = some v := (ldV_sc ha _ _).trans ((h.foc hk).at.cell 0)
theorem st9 {b : Nat} {v u : Value} (h : Sat w F) (k : Nat) (hk : F[k]? = some (pt b [v] 9)) (hu : one u = true) : ∃ w', rawU Pg (Instr.storeAt 9 (ptr b 0) u) w = some (undef, w') ∧ Sat w' (F.set k (pt b [u] 9)) ∧ Sm w w' :=
  st_one (sz_of (by kernel_rfl)) h k hk (Nat.zero_lt_succ _) hu
theorem st4 {b : Nat} {v u : Value} (h : Sat w F) (k : Nat) (hk : F[k]? = some (pt b [v] 4)) (hu : one u = true) : ∃ w', rawU Pg (Instr.storeAt 4 (ptr b 0) u) w = some (undef, w') ∧ Sat w' (F.set k (pt b [u] 4)) ∧ Sm w w' :=
  st_one (sz_of (by kernel_rfl)) h k hk (Nat.zero_lt_succ _) hu
theorem st37 {b : Nat} {v u : Value} (h : Sat w F) (k : Nat) (hk : F[k]? = some (pt b [v] 37)) (hu : one u = true) : ∃ w', rawU Pg (Instr.storeAt 37 (ptr b 0) u) w = some (undef, w') ∧ Sat w' (F.set k (pt b [u] 37)) ∧ Sm w w' :=
  st_one (sz_of (by kernel_rfl)) h k hk (Nat.zero_lt_succ _) hu

/-! ### The closure of a range -/

abbrev frV (b1 b2 : Nat) : Value := .func (.func 89) #[] #[ptr b1 0, ptr b2 0]
theorem go_from {t : Value} {key : ByteArray} {κ : Value → World → R} (ht : one t = true) (h : Sat w F) (hκ : ∀ b1 b2 w', Sat w' (pt b2 [.string key] 9 :: pt b1 [t] 25 :: F) → Sm w w' → Ok (κ (frV b1 b2) w') Q) :
    Ok (rd2 (Fn Pg 52 [t, .string key] w) κ) Q := by
  refine Ok.bind (Q := fun v w' => ∃ b1 b2, v = frV b1 b2 ∧ Sat w' (pt b2 [.string key] 9 :: pt b1 [t] 25 :: F) ∧ Sm w w') ?_ ?_
  · rw [F52]; unfold S52
    refine go_box (l := [t]) (by rw [cells_one ht]) h fun b1 w1 h1 s1 => ?_
    refine go_box (l := [.string key]) rfl h1 fun b2 w2 h2 s2 => ?_
    exact ⟨_, _, rfl, b1, b2, rfl, h2, s1.trans s2⟩
  · rintro v w' ⟨b1, b2, rfl, h1, s1⟩
    exact hκ _ _ _ h1 s1

theorem each_ok {on : Value} {N : Nat} {stop : List Ent → Ent → Bool} {R : List Ent → HP} {D : List Ent → Ent → HP} (hon : YOk on N stop R D) {T b1 b2 : Nat} {L s : List Ent} {key : ByteArray} (hN : s.length + (fromL L key).length ≤ N) (hs : Sat w (tree T L :: R s :: pt b2 [.string key] 9 :: pt b1 [ptr T 0] 25 :: F)) :
    Ok (Fn Pg 89 [on, ptr b1 0, ptr b2 0] w) fun _ w' => Sat w' (tree T L :: St R D (feed stop s (fromL L key)) :: pt b2 [.string key] 9 :: pt b1 [ptr T 0] 25 :: F) ∧ Sm w w' := by
  obtain ⟨r, h, t, h1, h2, h3, h4, hs⟩ := tree_open hs
  rw [F89]; unfold S89
  refine Ok.rd (ld1 a25 hs 4 rfl) (Ok.rd2 (none_ok hs 0 rfl) (Ok.rd (un_not _) (Ok.ct rfl ?_)))
  have hd : Sat (drw w) (pt T [ptr r 0, int L.length] 57 :: tr h r t :: R s :: pt b2 [.string key] 9 :: pt b1 [ptr T 0] 25 :: F) := hs.drw
  refine Ok.rd (ld1 a25 hd 4 rfl) (Ok.rd (nil_ptr _ _) (Ok.rd (fld57_0 _ _) (Ok.rd (ld_root hd 0 rfl) (Ok.rd (ld1 a9 hd 3 rfl) ?_))))
  subst h3
  refine Ok.bind (walk_ok hon h r t s (drw w) _ hN h1 h4 (hd.re [1, 2, 0] (by decide))) ?_
  rintro x w1 ⟨_, g1, s1⟩
  exact ⟨_, _, rfl, tree_mk h1 h2 rfl h4 rfl (g1.re [2, 0, 1] (by decide)), s1.drw⟩

theorem each_none {on t : Value} {b1 b2 : Nat} {key : ByteArray} (hs : Sat w F) (k : Nat) (hk : F[k]? = some (pt b1 [t] 25)) (hn : Fn Pg 45 [t] w = some (.bool true, w)) :
    Ok (Fn Pg 89 [on, ptr b1 0, ptr b2 0] w) fun _ w' => w' = w := by
  rw [F89]; unfold S89
  refine Ok.rd (ld1 a25 hs k hk) (Ok.rd2 hn (Ok.rd (un_not _) (Ok.cf rfl ?_)))
  exact ⟨_, _, rfl, rfl⟩

/-! ### What is called with each entry, as a round -/

theorem yield_run {l f : Nat} {ts : Array Value} {ps : Array Tmp} {a b : Code} {D : Nat} {st : LoopState} {pd : Option Code} {args : List Value} (hs : w.heap[l]? = some (lp f ts ps a b D st pd)) (hl : args.length = ps.size) :
    callV (cx90 (Fn Pg) (Rnd Pg)) (.func (.yield l) #[] #[]) args w = Rnd Pg l f ((ps.zip args.toArray).foldl (fun tmps (t, a) => tmps.setIfInBounds t a) ts).toList a b w := by
  show yieldR _ l ([] ++ args) w = _
  unfold yieldR
  rw [hs]
  simp [hl, cx90]
theorem tab_len (N : Nat) (e : Env) : (tab N e).toList.length = N := by simp [tab]
theorem tab_get {N k j : Nat} {e : Env} {v : Value} (hj : j < N) (hk : k < N) : envL ((#[k].zip #[v]).foldl (fun tmps (t, a) => tmps.setIfInBounds t a) (tab N e)).toList j = if k = j then v else e j := by
  simp only [envL, List.size_toArray, List.zip_toArray, List.zip_cons_cons, List.zip_nil_right, List.foldl_toArray', List.foldl_cons, List.foldl_nil, tab]
  by_cases hkj : k = j
  · subst hkj
    simp [List.getD, hk]
  · simp [List.getD, List.getElem?_set, hj, hkj]
theorem tab_len' {N k : Nat} {e : Env} {v : Value} : ((#[k].zip #[v]).foldl (fun tmps (t, a) => tmps.setIfInBounds t a) (tab N e)).toList.length = N := by
  simp [tab]

/-! ### Next, In -/

abbrev zB : ByteArray := { data := #[0] }
theorem next_ok {key : ByteArray} (hk : key.size ≤ 2 ^ 62) : Fn Pg 54 [.string key] w = some (.string (key ++ zB), w) := by
  rw [F54]; unfold S54
  have : binG false Pg .add 9 (.tmp 0) (.const .nilFunc) (.string key) (.string zB) w = some (.string (key ++ zB), w) := by
    unfold binG binV
    have h1 : ¬ ((key.size + zB.size : Nat) : Int) > IntKind.i64.max := by
      have h2 : zB.size = 1 := rfl
      have h3 : IntKind.i64.max = 9223372036854775807 := rfl
      rw [h2, h3]; omega
    simp only [h1, if_false]
  rw [this]; rfl
theorem toL_next (key : ByteArray) : (key ++ zB).toList = key.toList ++ [0] := by
  rw [ByteArray.toList_eq, ByteArray.toList_eq, ByteArray.data_append]; simp
theorem kl_next (a b : ByteArray) : kl a (b ++ zB) = !kl b a := by
  unfold kl; rw [toL_next]; exact bl_next _ _
theorem from_next (L : List Ent) (key : ByteArray) : fromL L (key ++ zB) = upps L key := by
  unfold fromL upps
  congr 1
  funext e
  rw [kl_next]; simp

abbrev spC (f t : ByteArray) : List Value := [.string f, .string t]
theorem fld36_0 (b o : Nat) : fldA Pg 36 (ptr b o) 0 = some (ptr b o) := by kernel_rfl
theorem fld36_1 (b o : Nat) : fldA Pg 36 (ptr b o) 1 = some (ptr b (o + 1)) := by kernel_rfl
theorem ldsp0 {b : Nat} {f t : ByteArray} (h : Sat w F) (k : Nat) (hk : F[k]? = some (pt b (spC f t) 36)) : ldV Pg 9 (ptr b 0) w = some (.string f) := (ldV_sc a9 _ _).trans ((h.foc hk).at.cell 0)
theorem ldsp1 {b : Nat} {f t : ByteArray} (h : Sat w F) (k : Nat) (hk : F[k]? = some (pt b (spC f t) 36)) : ldV Pg 9 (ptr b (0 + 1)) w = some (.string t) := (ldV_sc a9 _ _).trans ((h.foc hk).at.cell 1)
theorem a36 : aggT Pg 36 = some true := by kernel_rfl
theorem i36 : ∃ i, Pg.info? 36 = some i ∧ i.size = 2 := sz_of (by kernel_rfl)
theorem ldsp {b : Nat} {f t : ByteArray} (h : Sat w F) (k : Nat) (hk : F[k]? = some (pt b (spC f t) 36)) : ldV Pg 36 (ptr b 0) w = some (.agg #[.string f, .string t]) := by
  obtain ⟨i', hi', hs⟩ := i36
  rw [at_load (h.foc hk).at (o := 0) (n := 2) (by simp) a36 hi' hs]; rfl

theorem ahead_ok {k t : ByteArray} : Fn Pg 91 [.string k, .string t] w = some (.bool (decide (t = ByteArray.empty) || kl k t), w) := by
  have : Ok (Fn Pg 91 [.string k, .string t] w) fun x w' => x = .bool (decide (t = ByteArray.empty) || kl k t) ∧ w' = w := by
    rw [F91]; unfold S91
    refine Ok.rd2 bin_seql ?_
    have he : decide (t = noB) = decide (t = ByteArray.empty) := rfl
    rw [he]
    cases hx : decide (t = ByteArray.empty) with
    | true => exact Ok.f0 (Ok.f0 (Ok.f0 (Ok.rd (pick_t _ _) ⟨_, _, rfl, rfl, rfl⟩)))
    | false => exact f_ok rfl rfl (f_ok rfl rfl (f_ok rfl (gr2 bin_slss) (Ok.rd (pick_f _ _) ⟨_, _, rfl, rfl, rfl⟩)))
  obtain ⟨x, w', h1, rfl, rfl⟩ := this
  exact h1

theorem in_ok {f t k : ByteArray} (hs : Sat w F) : Ok (Fn Pg 53 [.agg #[.string f, .string t], .string k] w) fun x w' => x = .bool (inB f t k) ∧ Sat w' F ∧ Sm w w' := by
  rw [F53]; unfold S53
  refine go_box (l := spC f t) rfl hs fun b w1 h1 s1 => ?_
  refine Ok.rd (fld36_0 _ _) (Ok.rd (ldsp0 h1 0 rfl) (Ok.rd2 bin_sgeq ?_))
  unfold inB
  cases hx : kl k f with
  | true =>
    refine t_no rfl (t_no rfl (t_no rfl (t_no rfl (pk_f rfl ?_))))
    exact ⟨_, _, rfl, rfl, h1.drop, s1⟩
  | false =>
    refine t_ok rfl rfl (t_ok rfl (by rw [fld36_1]; rfl) (t_ok rfl (by rw [ldsp1 h1 0 rfl]; rfl) (t_ok rfl (gr2 ahead_ok) (pk_t rfl ?_))))
    exact ⟨_, _, rfl, rfl, h1.drop, s1⟩

/-! ### After -/

def aftR (l r1 r2 : Nat) (ts : Array Value) (a b : Code) (d : Nat) : List Ent → HP := fun _ => stars [ob l (lp 21 ts #[11] a b d .ready none), pt r1 [.string noB] 9, pt r2 [.bool false] 4]
def aftD (l r1 r2 : Nat) (ts : Array Value) (a b : Code) (d : Nat) : List Ent → Ent → HP := fun _ e => stars [ob l (lp 21 ts #[11] a b d .done (some .ret)), pt r1 [.string e.1] 9, pt r2 [.bool true] 4]

theorem aft_yield {l r1 r2 d N : Nat} {e0 : Env} (h4 : e0 4 = ptr r1 0) (h5 : e0 5 = ptr r2 0) :
    YOk (.func (.yield l) #[] #[]) N (fun _ _ => true) (aftR l r1 r2 (tab 14 e0) (cdA Go.Proofs.Try.f21 [1, 0, 1, 0, 0]) (cdA Go.Proofs.Try.f21 [1, 0, 1, 0, 1]) d) (aftD l r1 r2 (tab 14 e0) (cdA Go.Proofs.Try.f21 [1, 0, 1, 0, 0]) (cdA Go.Proofs.Try.f21 [1, 0, 1, 0, 1]) d) := by
  intro s x w F _ hs
  have hs : Sat w (ob l (lp 21 (tab 14 e0) #[11] (cdA Go.Proofs.Try.f21 [1, 0, 1, 0, 0]) (cdA Go.Proofs.Try.f21 [1, 0, 1, 0, 1]) d .ready none) :: pt r1 [.string noB] 9 :: pt r2 [.bool false] 4 :: F) := Sat.flat.1 hs
  rw [yield_run hs.obAt rfl, R21_1 w tab_len']
  have g11 := tab_get (N := 14) (k := 11) (j := 11) (e := e0) (v := aggE x) (by decide) (by decide)
  have g4 := tab_get (N := 14) (k := 11) (j := 4) (e := e0) (v := aggE x) (by decide) (by decide)
  have g5 := tab_get (N := 14) (k := 11) (j := 5) (e := e0) (v := aggE x) (by decide) (by decide)
  rw [if_pos rfl] at g11
  rw [if_neg (by decide)] at g4 g5
  unfold S21_R1
  rw [show (([aggE x] : List Value).toArray) = #[aggE x] from rfl, g11, g4, g5, h4, h5]
  refine go_tmp hs fun nb w1 t1 s1 => ?_
  refine go_beg t1.sw fun w2 t2 s2 => ?_
  refine Ok.rd (fld40_0 _ _) (Ok.rd (ld_key t2 1 rfl) ?_)
  obtain ⟨w3, m3, t3, s3⟩ := st9 (u := .string x.1) t2 2 rfl rfl
  refine Ok.rd2 m3 ?_
  obtain ⟨w4, m4, t4, s4⟩ := st4 (u := .bool true) t3 3 rfl rfl
  refine Ok.rd2 m4 ?_
  refine go_fin t4 fun w5 t5 s5 => ?_
  refine ⟨rfl, (Sat.flat (G := [_, _, _])).2 ?_, s1.trans (s2.trans (s3.trans (s4.trans s5)))⟩
  exact ((t5.re [1, 0, 2, 3] (by decide)).drop)

/-- the first key above a text. -/
def aftV (L : List Ent) (key : ByteArray) : Value := match (upps L key).head? with
  | some e => .tuple #[.string e.1, .bool true]
  | none => .tuple #[.string noB, .bool false]
theorem after_ok {T : Nat} {L : List Ent} {key : ByteArray} (hk : key.size ≤ 2 ^ 62) (hs : Sat w (tree T L :: F)) :
    Ok (Fn Pg 21 [ptr T 0, .string key] w) fun v w' => v = aftV L key ∧ Sat w' (tree T L :: F) ∧ Sm w w' := by
  rw [F21]; unfold S21
  refine go_new z9 hs fun r1 w1 t1 s1 => ?_
  refine go_new z4 t1 fun r2 w2 t2 s2 => ?_
  refine Ok.rd2 (next_ok hk) ?_
  refine go_from rfl t2 fun b1 b2 w3 t3 s3 => ?_
  refine go_rng rfl (by kernel_rfl) rfl t3 fun d l w4 t4 s4 => ?_
  have hcall : ∀ (a b : Value) (w : World), callV (cx21 (Fn Pg) (Rnd Pg)) (frV b1 b2) [a] w = Fn Pg 89 [a, ptr b1 0, ptr b2 0] w := fun _ _ _ => rfl
  rw [hcall _ undef]
  obtain ⟨e0, he0⟩ : ∃ e0 : Env, e0 = upd (upd (upd (upd (upd (upd (envL [ptr T 0, Value.string key]) 4 (ptr r1 0)) 5 (ptr r2 0)) 7 (ptr T 0)) 8 (Value.string key)) 9 (Value.string (key ++ zB))) 10 (frV b1 b2) := ⟨_, rfl⟩
  rw [← he0] at t4 ⊢
  have h4 : e0 4 = ptr r1 0 := by rw [he0]; rfl
  have h5 : e0 5 = ptr r2 0 := by rw [he0]; rfl
  have t5 : Sat w4 (tree T L :: aftR l r1 r2 (tab 14 e0) (cdA Go.Proofs.Try.f21 [1, 0, 1, 0, 0]) (cdA Go.Proofs.Try.f21 [1, 0, 1, 0, 1]) d [] :: pt b2 [.string (key ++ zB)] 9 :: pt b1 [ptr T 0] 25 :: ob d (.deferred (some [])) :: F) := by
    refine Sat.sw ((Sat.flat (G := [_, _, _])).2 ?_)
    exact t4.re [0, 5, 4, 6, 2, 3, 1] (by decide)
  refine Ok.mono (each_ok (aft_yield h4 h5) (Nat.le_refl _) t5) ?_
  rintro _ w5 ⟨t6, s5⟩
  rw [from_next] at t6
  unfold aftV
  match hX : upps L key, t6 with
  | [], t6 =>
    have t6 : Sat w5 (tree T L :: aftR l r1 r2 (tab 14 e0) (cdA Go.Proofs.Try.f21 [1, 0, 1, 0, 0]) (cdA Go.Proofs.Try.f21 [1, 0, 1, 0, 1]) d [] :: pt b2 [.string (key ++ zB)] 9 :: pt b1 [ptr T 0] 25 :: ob d (.deferred (some [])) :: F) := t6
    have t7 := Sat.flat.1 t6.sw
    refine end_norm t7 fun w6 t8 s6 => ?_
    rw [S21_N1_eq]; unfold S21_N1
    have e4 : upd e0 (cx21 (Fn Pg) (Rnd Pg)).N (.map (some d)) 4 = ptr r1 0 := h4
    have e5 : upd e0 (cx21 (Fn Pg) (Rnd Pg)).N (.map (some d)) 5 = ptr r2 0 := h5
    have e14 : upd e0 (cx21 (Fn Pg) (Rnd Pg)).N (.map (some d)) 14 = .map (some d) := rfl
    rw [e4, e5, e14]
    obtain ⟨w7, m7, t9, s7⟩ := st9 (u := .string noB) t8 0 rfl rfl
    refine Ok.rd2 m7 ?_
    obtain ⟨w8, m8, t10, s8⟩ := st4 (u := .bool false) t9 1 rfl rfl
    refine Ok.rd2 m8 ?_
    refine go_shut (t10.re [5, 0, 1, 2, 3, 4] (by decide)) fun w9 t11 s9 => ?_
    refine Ok.rd (ld1 a9 t11 0 rfl) (Ok.rd (ld1 a4 t11 1 rfl) ?_)
    refine ⟨_, _, rfl, rfl, (t11.re [0, 1, 3, 4, 2] (by decide)).drop.drop.drop.drop, ?_⟩
    exact s1.trans (s2.trans (s3.trans (s4.trans (s5.trans (s6.trans (s7.trans (s8.trans s9)))))))
  | x :: X, t6 =>
    have t6 : Sat w5 (tree T L :: aftD l r1 r2 (tab 14 e0) (cdA Go.Proofs.Try.f21 [1, 0, 1, 0, 0]) (cdA Go.Proofs.Try.f21 [1, 0, 1, 0, 1]) d [] x :: pt b2 [.string (key ++ zB)] 9 :: pt b1 [ptr T 0] 25 :: ob d (.deferred (some [])) :: F) := t6
    have t7 := Sat.flat.1 t6.sw
    refine end_ret t7 fun w6 t8 s6 => ?_
    rw [S21_T1_eq]; unfold S21_T1
    have e4 : upd e0 (cx21 (Fn Pg) (Rnd Pg)).N (.map (some d)) 4 = ptr r1 0 := h4
    have e5 : upd e0 (cx21 (Fn Pg) (Rnd Pg)).N (.map (some d)) 5 = ptr r2 0 := h5
    have e14 : upd e0 (cx21 (Fn Pg) (Rnd Pg)).N (.map (some d)) 14 = .map (some d) := rfl
    rw [e4, e5, e14]
    refine go_shut (t8.re [5, 0, 1, 2, 3, 4] (by decide)) fun w9 t11 s9 => ?_
    refine Ok.rd (ld1 a9 t11 0 rfl) (Ok.rd (ld1 a4 t11 1 rfl) ?_)
    refine ⟨_, _, rfl, rfl, (t11.re [0, 1, 3, 4, 2] (by decide)).drop.drop.drop.drop, ?_⟩
    exact s1.trans (s2.trans (s3.trans (s4.trans (s5.trans (s6.trans s9)))))
end Go.Cb
