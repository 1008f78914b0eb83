/-
  shaped.
-/
import Derived.Test.YtialecgadoepjaaLv
set_option linter.unusedVariables false
set_option linter.unusedSimpArgs false
namespace Go.Cb
variable {w : World} {F G : List HP} {Q : Value → World → Prop}

theorem min_ok {a b : Int} {w : World} {rt : TypeId} {ts : Array TypeId} {cs : Array Bool} : lenG false Pg .min ts rt cs [int a, int b] w = some (int (if b < a then b else a), w) := by
  show rawN Pg (builtin .min ts rt cs #[int a, int b]) w = _
  simp [rawN, builtin, Builtin.min_, Builtin.min2]

/-- what is to be read of rows. -/
structure RowsF (w : World) (v : Value) (rows : List (List Nat)) : Prop where
  row : ∀ (i : Nat) (r : List Nat), rows[i]? = some r → ∃ b o u, ixA Pg 31 v (int i) = some (ptr b o) ∧ ldV Pg 81 (ptr b o) w = some u ∧
    (∀ (st : Bool) (rt : TypeId) (cs : Array Bool) (w' : World), lenG st Pg .len #[81] rt cs [u] w' = some (int r.length, w')) ∧
    ∀ (k c : Nat), r[k]? = some c → ∃ b' o', ixA Pg 81 u (int k) = some (ptr b' o') ∧ ldV Pg 3 (ptr b' o') w = some (int c)
  len : ∀ (st : Bool) (rt : TypeId) (cs : Array Bool) (w' : World), lenG st Pg .len #[31] rt cs [v] w' = some (int rows.length, w')

theorem rowsL_at {vs : List V1} {rows : List (List Nat)} (h : vs.length = rows.length) {i : Nat} {r : List Nat} (hr : rows[i]? = some r) : ∃ u, vs[i]? = some u ∧ (rowsL vs rows)[i]? = some (slH 3 1 encN u.1 r) := by
  obtain ⟨hi, rfl⟩ := List.getElem?_eq_some_iff.1 hr
  refine ⟨vs[i]'(by omega), List.getElem?_eq_getElem _, ?_⟩
  unfold rowsL
  rw [List.getElem?_zipWith, List.getElem?_eq_getElem (by omega), List.getElem?_eq_getElem hi]

theorem rows_facts {v : Value} {rows : List (List Nat)} (hs : Sat w (rowsH v rows :: F)) : RowsF w v rows := by
  obtain ⟨vs, hl, hs⟩ := rowsH_open hs
  refine ⟨fun i r hr => ?_, fun st rt cs w' => by rw [← hl]; exact sl_len T31 (hs.foc (k := 0) rfl) w'⟩
  obtain ⟨u, hu, hru⟩ := rowsL_at hl hr
  obtain ⟨hi, rfl⟩ := List.getElem?_eq_some_iff.1 hu
  obtain ⟨b, l, h1, h2, h3, h4⟩ := sl_ix T31 enV (hs.foc (k := 0) rfl) hi
  have hk : (slH 81 1 encV v vs :: (rowsL vs rows ++ F))[i + 1]? = some (slH 3 1 encN vs[i].1 r) := by
    rw [List.getElem?_cons_succ, List.getElem?_append_left]
    · exact hru
    · exact (List.getElem?_eq_some_iff.1 hru).1
  refine ⟨b, _, vs[i].1, h1, ?_, fun st rt cs w' => sl_len T81 (hs.foc hk) w', fun k c hkc => ?_⟩
  · rw [ldV_sc a81, h2.cell]
    have := congrArg (·[0]?) h4
    simpa [encV, List.getElem?_take, List.getElem?_drop] using this
  · obtain ⟨hkl, rfl⟩ := List.getElem?_eq_some_iff.1 hkc
    obtain ⟨b', l', g1, g2, g3, g4⟩ := sl_ix T81 enN (hs.foc hk) hkl
    refine ⟨b', _, g1, ?_⟩
    rw [ldV_sc a3, g2.cell]
    have := congrArg (·[0]?) g4
    simpa [encN, List.getElem?_take, List.getElem?_drop] using this

/-- a shape as it must be. -/
structure Shp (rows : List (List Nat)) (n : Nat) : Prop where
  top : ∃ c, rows[0]? = some [c]
  cnt : ∀ (i : Nat) (r : List Nat), rows[i]? = some r → ∀ c ∈ r, (if i = 0 then min n 1 else 2) ≤ c ∧ c ≤ 5
  below : ∀ (i : Nat) (r r' : List Nat), rows[i]? = some r → rows[i + 1]? = some r' → r'.length = r.sum + r.length
  all : rows.flatten.sum = n
  small : n ≤ 2 ^ 20 ∧ ∀ r ∈ rows, r.length ≤ 2 ^ 21

theorem f_ok {r : Unit → R} {k : Value → World → R} {x : Bool} {v : Value} {w w' : World} (hx : x = false) (h : r () = some (v, w')) (hk : Ok (k v w') Q) : Ok (Cb.rd2 (gate (.bool x) false r w) k) Q := by
  subst hx; exact Ok.f1 h hk
theorem t_ok {r : Unit → R} {k : Value → World → R} {x : Bool} {v : Value} {w w' : World} (hx : x = true) (h : r () = some (v, w')) (hk : Ok (k v w') Q) : Ok (Cb.rd2 (gate (.bool x) true r w) k) Q := by
  subst hx; exact Ok.g1 h hk
theorem t_no {r : Unit → R} {k : Value → World → R} {x : Bool} {w : World} (hx : x = false) (hk : Ok (k undef w) Q) : Ok (Cb.rd2 (gate (.bool x) true r w) k) Q := by
  subst hx; exact Ok.g0 hk
theorem pk_f {x : Bool} {a b : Value} {κ : Value → R} (hx : x = false) (hk : Ok (κ b) Q) : Ok (rd (pickV (.bool x) a b) κ) Q := by subst hx; exact Ok.rd (pick_f _ _) hk
theorem pk_t {x : Bool} {a b : Value} {κ : Value → R} (hx : x = true) (hk : Ok (κ a) Q) : Ok (rd (pickV (.bool x) a b) κ) Q := by subst hx; exact Ok.rd (pick_t _ _) hk

theorem sh_inner {v : Value} {rows : List (List Nat)} {n i : Nat} {r : List Nat} {all0 : Nat} (hf : RowsF w v rows) (hsh : Shp rows n) (hr : rows[i]? = some r) (ha : all0 + r.sum ≤ 2 ^ 40) (hi30 : i ≤ 2 ^ 30) : ∀ (rest done : List Nat) (e : Env), r = done ++ rest →
    e 0 = v → e 1 = int n → e 6 = int i → e 8 = int done.length → e 5 = int (all0 + done.sum : Nat) → e 7 = int (done.sum + done.length : Nat) → e 95 = undef →
    (∀ e' : Env, e' 0 = v → e' 1 = int n → e' 6 = int (i + 1 : Nat) → e' 5 = int (all0 + r.sum : Nat) → e' 95 = undef → Ok (evalLoop (cx17 (Fn Pg) (Rnd Pg)) (cdA Go.Proofs.Try.f17 [1, 1, 1, 0, 1, 0, 0]) (K17_2 (Fn Pg) (Rnd Pg)) e' w) Q) →
    Ok (evalLoop (cx17 (Fn Pg) (Rnd Pg)) (cdA Go.Proofs.Try.f17 [1, 1, 1, 0, 1, 0, 0, 1, 0, 0, 1, 0, 1, 0, 0]) (K17_7 (Fn Pg) (Rnd Pg)) e w) Q := by
  obtain ⟨b, o, u, x1, x2, x3, x4⟩ := hf.row i r hr
  intro rest
  induction rest with
  | nil =>
    intro done e hd e0 e1 e6 e8 e5 e7 e95 hend
    rw [List.append_nil] at hd
    subst hd
    rw [S17_L2_eq]; unfold S17_L2
    rw [e0, e1, e6, e8, e5, e7]
    refine Ok.rd x1 (Ok.rd x2 (Ok.rd2 (x3 _ _ _ _) (Ok.rd2 bin_lss (Ok.cf (by simp) ?_))))
    refine Ok.rd2 (bin_add1 (by omega)) (Ok.rd2 (hf.len _ _ _ _) (Ok.rd2 bin_lss ?_))
    by_cases hlast : i + 1 < rows.length
    · obtain ⟨r', hr'⟩ : ∃ r', rows[i + 1]? = some r' := ⟨_, List.getElem?_eq_getElem hlast⟩
      obtain ⟨b', o', u', y1, y2, y3, _⟩ := hf.row _ r' hr'
      have hb := hsh.below i r r' hr hr'
      have ht : decide (((i + 1 : Nat) : Int) < (rows.length : Int)) = true := by simp; omega
      refine t_ok ht rfl (t_ok ht rfl (t_ok ht (gr2 (bin_add1 (by omega))) (t_ok ht (gr y1) (t_ok ht (gr y2) (t_ok ht (gr2 (y3 _ _ _ _)) (t_ok ht rfl (t_ok ht (gr2 bin_neq) ?_)))))))
      refine pk_t ht (Ok.cf (by rw [hb]; simp) ?_)
      refine Ok.rd2 (bin_add1 (by omega)) ?_
      exact hend _ e0 e1 rfl e5 e95
    · have ht : decide (((i + 1 : Nat) : Int) < (rows.length : Int)) = false := by simp; omega
      refine t_no ht (t_no ht (t_no ht (t_no ht (t_no ht (t_no ht (t_no ht (t_no ht (pk_f ht (Ok.cf rfl ?_)))))))))
      refine Ok.rd2 (bin_add1 (by omega)) ?_
      exact hend _ e0 e1 rfl e5 e95
  | cons c rest ih =>
    intro done e hd e0 e1 e6 e8 e5 e7 e95 hend
    rw [S17_L2_eq]; unfold S17_L2
    rw [e0, e1, e6, e8, e5, e7]
    have hc : r[done.length]? = some c := by rw [hd]; simp
    have hcm := hsh.cnt i r hr c (by rw [hd]; simp)
    obtain ⟨b', o', z1, z2⟩ := x4 _ _ hc
    have hsum : r.sum = done.sum + (c + rest.sum) := by rw [hd]; simp
    have hrl := hsh.small.2 r (List.mem_of_getElem? hr)
    have hdl : done.length < r.length := by rw [hd]; simp
    refine Ok.rd x1 (Ok.rd x2 (Ok.rd2 (x3 _ _ _ _) (Ok.rd2 bin_lss (Ok.ct (by simp; omega) ?_))))
    refine Ok.rd2 bin_eql ?_
    refine Ok.ci (fun hi0 => ?_) (fun hi0 => ?_)
    · have hi0 : i = 0 := by simp at hi0; omega
      rw [if_pos hi0] at hcm
      refine Ok.rd2 min_ok ?_
      have hmin : (if (1 : Int) < (n : Int) then (1 : Int) else (n : Int)) = ((min n 1 : Nat) : Int) := by split <;> omega
      rw [hmin]
      refine Ok.rd x1 (Ok.rd x2 (Ok.rd z1 (Ok.rd z2 (Ok.rd2 bin_lss ?_))))
      have hx : decide ((c : Int) < ((min n 1 : Nat) : Int)) = false := by simp; omega
      refine f_ok hx rfl (f_ok hx rfl (f_ok hx (gr x1) (f_ok hx (gr x2) (f_ok hx rfl (f_ok hx (gr z1) (f_ok hx (gr z2) (f_ok hx (gr2 bin_gtr) ?_)))))))
      refine pk_f hx (Ok.cf (by simp; omega) ?_)
      refine Ok.rd x1 (Ok.rd x2 (Ok.rd z1 (Ok.rd z2 (Ok.rd2 (bin_addn (by omega)) ?_))))
      refine Ok.rd x1 (Ok.rd x2 (Ok.rd z1 (Ok.rd z2 (Ok.rd2 (bin_addn (by omega)) (Ok.rd2 (bin_add1 (by omega)) (Ok.rd2 (bin_add1 (by omega)) ?_))))))
      refine ih (done ++ [c]) _ (by rw [hd]; simp) ?_ ?_ ?_ ?_ ?_ ?_ ?_ hend
      · exact e0
      · exact e1
      · exact e6
      · rw [List.length_append]; rfl
      · rw [List.sum_append]; show int _ = int _; simp; omega
      · rw [List.sum_append, List.length_append]; show int _ = int _; simp; omega
      · exact e95
    · have hi0 : ¬ i = 0 := by simp at hi0; omega
      rw [if_neg hi0] at hcm
      refine Ok.rd x1 (Ok.rd x2 (Ok.rd z1 (Ok.rd z2 (Ok.rd2 bin_lss ?_))))
      have hx : decide ((c : Int) < 2) = false := by simp; omega
      refine f_ok hx rfl (f_ok hx rfl (f_ok hx (gr x1) (f_ok hx (gr x2) (f_ok hx rfl (f_ok hx (gr z1) (f_ok hx (gr z2) (f_ok hx (gr2 bin_gtr) ?_)))))))
      refine pk_f hx (Ok.cf (by simp; omega) ?_)
      refine Ok.rd x1 (Ok.rd x2 (Ok.rd z1 (Ok.rd z2 (Ok.rd2 (bin_addn (by omega)) ?_))))
      refine Ok.rd x1 (Ok.rd x2 (Ok.rd z1 (Ok.rd z2 (Ok.rd2 (bin_addn (by omega)) (Ok.rd2 (bin_add1 (by omega)) (Ok.rd2 (bin_add1 (by omega)) ?_))))))
      refine ih (done ++ [c]) _ (by rw [hd]; simp) ?_ ?_ ?_ ?_ ?_ ?_ ?_ hend
      · exact e0
      · exact e1
      · exact e6
      · rw [List.length_append]; rfl
      · rw [List.sum_append]; show int _ = int _; simp; omega
      · rw [List.sum_append, List.length_append]; show int _ = int _; simp; omega
      · exact e95

theorem sh_outer {v : Value} {rows : List (List Nat)} {n : Nat} (hf : RowsF w v rows) (hsh : Shp rows n) (hrl : rows.length ≤ 2 ^ 30) : ∀ (rest done : List (List Nat)) (e : Env), rows = done ++ rest →
    e 0 = v → e 1 = int n → e 6 = int done.length → e 5 = int (done.flatten.sum : Nat) → e 95 = undef →
    evalLoop (cx17 (Fn Pg) (Rnd Pg)) (cdA Go.Proofs.Try.f17 [1, 1, 1, 0, 1, 0, 0]) (K17_2 (Fn Pg) (Rnd Pg)) e w = some (.bool true, w) := by
  intro rest
  have main : ∀ (rest done : List (List Nat)) (e : Env), rows = done ++ rest → e 0 = v → e 1 = int n → e 6 = int done.length → e 5 = int (done.flatten.sum : Nat) → e 95 = undef →
      Ok (evalLoop (cx17 (Fn Pg) (Rnd Pg)) (cdA Go.Proofs.Try.f17 [1, 1, 1, 0, 1, 0, 0]) (K17_2 (Fn Pg) (Rnd Pg)) e w) fun x w' => x = .bool true ∧ w' = w := by
    intro rest
    induction rest with
    | nil =>
      intro done e hd e0 e1 e6 e5 e95
      rw [List.append_nil] at hd
      rw [S17_L1_eq]; unfold S17_L1
      rw [e0, e1, e6, e5]
      refine Ok.rd2 (hf.len _ _ _ _) (Ok.rd2 bin_lss (Ok.cf (by rw [hd]; simp) (Ok.rd2 bin_eql ?_)))
      rw [← hd, hsh.all, e95]
      exact ⟨_, _, rfl, by simp, rfl⟩
    | cons r rest ih =>
      intro done e hd e0 e1 e6 e5 e95
      rw [S17_L1_eq]; unfold S17_L1
      rw [e0, e6]
      have hr : rows[done.length]? = some r := by rw [hd]; simp
      have hle : done.flatten.sum + r.sum ≤ n := by rw [← hsh.all, hd]; simp
      have hn := hsh.small.1
      refine Ok.rd2 (hf.len _ _ _ _) (Ok.rd2 bin_lss (Ok.ct (by rw [hd]; simp; omega) ?_))
      refine sh_inner (all0 := done.flatten.sum) (n := n) hf hsh hr (by omega) (by rw [hd] at hrl; simp at hrl; omega) r [] _ rfl e0 e1 e6 rfl e5 rfl e95 ?_
      intro e' e0' e1' e6' e5' e95'
      exact ih (done ++ [r]) e' (by rw [hd]; simp) e0' e1' (by rw [e6', List.length_append]; rfl) (by rw [e5', List.flatten_append, List.sum_append]; simp) e95'
  intro done e hd e0 e1 e6 e5 e95
  obtain ⟨x, w', h1, rfl, rfl⟩ := main rest done e hd e0 e1 e6 e5 e95
  exact h1

theorem shaped_ok {v : Value} {rows : List (List Nat)} {n : Nat} (hf : RowsF w v rows) (hsh : Shp rows n) (hrl : rows.length ≤ 2 ^ 30) : Fn Pg 17 [v, int n] w = some (.bool true, w) := by
  have : Ok (Fn Pg 17 [v, int n] w) fun x w' => x = .bool true ∧ w' = w := by
    rw [F17]; unfold S17
    obtain ⟨c, hc⟩ := hsh.top
    obtain ⟨b, o, u, x1, x2, x3, x4⟩ := hf.row 0 _ hc
    have hpos : 0 < rows.length := (List.getElem?_eq_some_iff.1 hc).1
    refine Ok.rd2 (hf.len _ _ _ _) (Ok.rd2 bin_eql ?_)
    have hx : ((rows.length : Int) == 0) = false := by rw [beq_eq_false_iff_ne]; omega
    refine f_ok hx rfl (f_ok hx (gr x1) (f_ok hx (gr x2) (f_ok hx (gr2 (x3 _ _ _ _)) (f_ok hx (gr2 bin_neq) (pk_f hx (Ok.cf rfl ?_))))))
    exact ⟨_, _, sh_outer hf hsh hrl rows [] _ rfl rfl rfl rfl rfl rfl, rfl, rfl⟩
  obtain ⟨x, w', h1, rfl, rfl⟩ := this
  exact h1

end Go.Cb
