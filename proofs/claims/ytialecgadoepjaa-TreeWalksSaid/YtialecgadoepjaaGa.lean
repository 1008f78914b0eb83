/-
  few; grows.
-/
import Derived.Test.YtialecgadoepjaaPu
set_option linter.unusedVariables false
set_option linter.unusedSimpArgs false
namespace Go.Cb
variable {w : World} {F G : List HP} {Q : Value → World → Prop}

theorem T87 : SlT Pg 87 9 1 := slT_of (by kernel_rfl)

/-- the example's keys. -/
def k6 : List ByteArray := [⟨#[97]⟩, ⟨#[98]⟩, ⟨#[99]⟩, ⟨#[100]⟩, ⟨#[101]⟩, ⟨#[102]⟩]
def encS (s : ByteArray) : List Value := [.string s]
theorem enS : En encS 1 := ⟨fun _ => rfl, fun x v hv => by simp [encS] at hv; subst hv; rfl⟩
def e6 : List Ent := [(⟨#[97]⟩, vI 0), (⟨#[98]⟩, vI 1), (⟨#[99]⟩, vI 2), (⟨#[100]⟩, vI 3), (⟨#[101]⟩, vI 4), (⟨#[102]⟩, vI 5)]

theorem kl1 (a b : UInt8) : kl ⟨#[a]⟩ ⟨#[b]⟩ = decide (a < b) := by
  simp [kl, ByteArray.toList_eq, Op.bytesLess]
theorem e6_srt : Srt e6 := by
  simp only [Srt, e6, List.pairwise_cons, List.mem_cons, List.not_mem_nil, or_false, forall_eq_or_imp, forall_eq, kl1, decide_eq_true_iff]
  refine ⟨by decide, by decide, by decide, by decide, by decide, ?_, List.Pairwise.nil⟩
  intro a h; exact h.elim
theorem e6_put (i : Nat) (h : i < 6) : ∃ k, k6[i]? = some k ∧ (e6.take i) ++ [(k, vI i)] = e6.take (i + 1) ∧ bel (e6.take i) k := by
  match i, h with
  | 0, _ => exact ⟨_, rfl, rfl, by intro y hy; cases hy⟩
  | 1, _ => exact ⟨_, rfl, rfl, by simp only [bel, e6, List.take, List.mem_cons, List.not_mem_nil, or_false, forall_eq_or_imp, forall_eq, kl1]; decide⟩
  | 2, _ => exact ⟨_, rfl, rfl, by simp only [bel, e6, List.take, List.mem_cons, List.not_mem_nil, or_false, forall_eq_or_imp, forall_eq, kl1]; decide⟩
  | 3, _ => exact ⟨_, rfl, rfl, by simp only [bel, e6, List.take, List.mem_cons, List.not_mem_nil, or_false, forall_eq_or_imp, forall_eq, kl1]; decide⟩
  | 4, _ => exact ⟨_, rfl, rfl, by simp only [bel, e6, List.take, List.mem_cons, List.not_mem_nil, or_false, forall_eq_or_imp, forall_eq, kl1]; decide⟩
  | 5, _ => exact ⟨_, rfl, rfl, by simp only [bel, e6, List.take, List.mem_cons, List.not_mem_nil, or_false, forall_eq_or_imp, forall_eq, kl1]; decide⟩


def numb : Nat → List Value → List (Nat × Value)
  | _, [] => []
  | i, v :: r => (i, v) :: numb (i + 1) r

theorem fill_ones : ∀ (vs : List Value) (i : Nat) (l : List Value), (∀ v ∈ vs, one v = true) → i + vs.length = l.length → Instr.fill (fun j => some (j * 1, 1)) l.toArray (numb i vs) = some (l.take i ++ vs).toArray
  | [], i, l, _, h => by simp [numb, Instr.fill, List.take_of_length_le (show l.length ≤ i by simp at h; omega)]
  | v :: r, i, l, hv, h => by
    have hc := cells_one (hv v (by simp))
    have hi : i < l.length := by simp at h; omega
    unfold numb Instr.fill
    simp only [hc, Nat.mul_one]
    rw [if_neg (by simp; omega)]
    have e1 : (((#[v] : Array Value).zipIdx).foldl (fun (cs : Array Value) (x : Value × Nat) => cs.setIfInBounds (i + x.2) x.1) l.toArray) = (l.set i v).toArray := by simp
    have ih := fill_ones r (i + 1) (l.set i v) (fun x hx => hv x (by simp [hx])) (by simp at h ⊢; omega)
    simp only [Nat.mul_one] at ih
    rw [show (((#[v] : Array Value).zipIdx).foldl (fun (cs : Array Value) (x : Value × Nat) => match x with | (c, j) => cs.setIfInBounds (i + j) c) l.toArray) = (l.set i v).toArray from e1, ih]
    congr 2
    rw [List.take_set, List.take_succ_eq_append_getElem hi, List.set_append_right _ _ (by rw [List.length_take]; exact Nat.min_le_left _ _)]
    rw [List.length_take, Nat.min_eq_left (Nat.le_of_lt hi), Nat.sub_self]
    simp

theorem sliceN_ok {P : Program} {t e : TypeId} (hT : SlT P t e 1) {vs : List Value} (hv : ∀ v ∈ vs, one v = true) (h0 : 0 < vs.length) (hb : vs.length ≤ 2 ^ 20) {w : World} :
    rawV P (Instr.buildSlice t vs.length (numb 0 vs).toArray) w = some (sl w.heap.size 0 vs.length vs.length, { w with heap := w.heap.push (.cells vs.toArray e) }) := by
  obtain ⟨i, z, h1, h2, h3, _⟩ := hT.i
  simp only [rawV, Instr.buildSlice, Sem.run_bind, und_run hT.u, Result.andThen_ok, siz_run h1, h2, Nat.mul_one]
  rw [if_neg (by simpa using by omega), if_neg (by omega)]
  simp only [Sem.run_bind, zero_ok h1 h3, Result.andThen_ok, Sem.run_pure]
  have hf := fill_ones vs 0 ((Array.range vs.length).map (z.cells[· % z.cells.size]!)).toList hv (by simp)
  simp only [Array.toArray_toList, List.take_zero, List.nil_append, Nat.mul_one] at hf
  rw [hf]
  simp [newRow]


theorem str_at {kv : Value} {ks : List ByteArray} (hs : Sat w F) (k : Nat) (hk : F[k]? = some (slH 9 1 encS kv ks)) {i : Nat} {s : ByteArray} (hi : ks[i]? = some s) : ∃ b o, ixA Pg 87 kv (int i) = some (ptr b o) ∧ ldV Pg 9 (ptr b o) w = some (.string s) := by
  obtain ⟨hl, rfl⟩ := List.getElem?_eq_some_iff.1 hi
  obtain ⟨b, l, h1, h2, h3, h4⟩ := sl_ix T87 enS (hs.foc hk) hl
  refine ⟨b, _, h1, ?_⟩
  rw [ldV_sc a9, h2.cell]
  have := congrArg (·[0]?) h4
  simpa [encS, List.getElem?_take, List.getElem?_drop] using this

theorem bel_no {L : List Ent} {k : ByteArray} (h : bel L k) : ¬ hasL L k := by
  rintro ⟨e, he, rfl⟩
  exact kl_ne (h e he) rfl

theorem grows_loop {T : Nat} {kv : Value} : ∀ (j i : Nat) (e : Env) (w : World) (F : List HP) (r h : Nat) (t : BT h), i + j = 6 → wf h t → (h = 0 ∨ 1 ≤ (ents h t).length) → flat h t = e6.take i → (i ≤ 5 → h = 0) → (i = 6 → lvs h [t] = [[1], [2, 3]]) →
    Sat w (pt T [ptr r 0, int (flat h t).length] 57 :: tr h r t :: slH 9 1 encS kv k6 :: F) → e 1 = ptr T 0 → e 2 = kv → e 3 = int i → e 83 = undef →
    Ok (evalLoop (cx12 (Fn Pg) (Rnd Pg)) (cdA Go.Proofs.Try.f12 [1, 1, 1, 0, 1, 0, 0]) (K12_2 (Fn Pg) (Rnd Pg)) e w) fun v w' => v = .bool true ∧ Sat w' F ∧ Sm w w' := by
  intro j
  induction j with
  | zero =>
    intro i e w F r h t hij hw h0 hf hi5 hi6 hs e1 e2 e3 e83
    have hi : i = 6 := by omega
    subst hi
    have hf : flat h t = e6 := hf
    rw [S12_L1_eq]; unfold S12_L1
    rw [e1, e2, e3, e83]
    refine Ok.rd2 (sl_len T87 (hs.foc (k := 2) rfl) _) (Ok.rd2 bin_lss (Ok.cf rfl ?_))
    refine Ok.bind (levels_ok hw hs (by rw [hf]; decide) (by have := ht_le hw h0; rw [hf] at this; exact Nat.le_trans this (by decide))) ?_
    rintro v w1 ⟨h1, s1⟩
    rw [hi6 rfl] at h1
    have h2 : Sat w1 (tree T e6 :: rowsH v [[1], [2, 3]] :: slH 9 1 encS kv k6 :: F) := tree_mk hw h0 hf e6_srt rfl (by rw [← hf]; exact h1.re [1, 2, 0] (by decide))
    refine Ok.bind (get_ok (key := ⟨#[100]⟩) h2) ?_
    rintro x w2 ⟨rfl, h3, s2⟩
    have hg : getL e6 ⟨#[100]⟩ = some (vI 3) := get_some (e := (⟨#[100]⟩, vI 3)) e6_srt (by simp [e6])
    rw [hg]
    have hR := rows_facts (h3.sw)
    obtain ⟨b0, o0, u0, x1, x2, x3, x4⟩ := hR.row 0 [1] rfl
    obtain ⟨b1, o1, u1, y1, y2, y3, y4⟩ := hR.row 1 [2, 3] rfl
    obtain ⟨c0, d0, p1, p2⟩ := x4 0 1 rfl
    obtain ⟨c1, d1, q1, q2⟩ := y4 0 2 rfl
    obtain ⟨c2, d2, r1, r2⟩ := y4 1 3 rfl
    refine Ok.rd rfl (Ok.rd rfl (Ok.rd2 (hR.len _ _ _ _) (Ok.rd2 bin_eql ?_)))
    have tt : ∀ {n m : Nat}, n = m → ((n : Int) == (m : Int)) = true := fun h => by subst h; simp
    refine t_ok rfl rfl (t_ok rfl (gr x1) (t_ok rfl (gr x2) (t_ok rfl (gr2 (x3 _ _ _ _)) (t_ok rfl (gr2 bin_eql) (pk_t rfl ?_)))))
    refine t_ok rfl rfl (t_ok rfl (gr x1) (t_ok rfl (gr x2) (t_ok rfl (gr p1) (t_ok rfl (gr p2) (t_ok rfl (gr2 bin_eql) (pk_t rfl ?_))))))
    refine t_ok rfl rfl (t_ok rfl (gr y1) (t_ok rfl (gr y2) (t_ok rfl (gr2 (y3 _ _ _ _)) (t_ok rfl (gr2 bin_eql) (pk_t rfl ?_)))))
    refine t_ok rfl rfl (t_ok rfl (gr y1) (t_ok rfl (gr y2) (t_ok rfl (gr q1) (t_ok rfl (gr q2) (t_ok rfl (gr2 bin_eql) (pk_t rfl ?_))))))
    refine t_ok rfl rfl (t_ok rfl (gr y1) (t_ok rfl (gr y2) (t_ok rfl (gr r1) (t_ok rfl (gr r2) (t_ok rfl (gr2 bin_eql) (pk_t rfl ?_))))))
    refine t_ok rfl rfl (t_ok rfl (gr2 bin_eql) (pk_t rfl ?_))
    refine t_ok rfl rfl (pk_t rfl ?_)
    refine t_ok rfl rfl (t_ok rfl (gr2 (len_ok h3)) (t_ok rfl (gr2 bin_eql) (pk_t rfl ?_)))
    exact ⟨_, _, rfl, rfl, h3.drop.drop.drop, s1.trans s2⟩
  | succ j ih =>
    intro i e w F r h t hij hw h0 hf hi5 hi6 hs e1 e2 e3 e83
    have hi : i < 6 := by omega
    have hh := hi5 (by omega)
    obtain ⟨k, hk, hput, hbel⟩ := e6_put i hi
    rw [S12_L1_eq]; unfold S12_L1
    rw [e1, e2, e3]
    refine Ok.rd2 (sl_len T87 (hs.foc (k := 2) rfl) _) (Ok.rd2 bin_lss (Ok.ct (by simp [k6]; omega) ?_))
    obtain ⟨b, o, x1, x2⟩ := str_at hs 2 rfl hk
    refine Ok.rd x1 (Ok.rd x2 ?_)
    have hno : ¬ hasL (flat h t) k := by rw [hf]; exact bel_no hbel
    have hlen : (flat h t).length = i := by rw [hf, List.length_take]; simp [e6]; omega
    refine Ok.bind (putT_ok (y := vI i) hw h0 (by rw [hf]; exact e6_srt.sublist (List.take_sublist _ _)) hs (by omega) (bld40_i k i)) ?_
    rintro v w1 ⟨rfl, s1, r', h', t', g1, g2, g3, g4, g5⟩
    refine Ok.rd (un_not _) (Ok.cf (by simp [hno]) ?_)
    refine Ok.rd2 (bin_add1 (by omega)) ?_
    have hX := g5 hno
    have hfl : flat h' t' = e6.take (i + 1) := by
      rw [g3, hf, ← hput]
      have := put_one (B := []) (e := (k, vI i)) hbel (by intro y hy; cases hy)
      simpa using this
    refine Ok.mono (ih (i + 1) _ w1 F r' h' t' (by omega) g1 g2 hfl (fun h5 => hX.1 hh (by omega)) (fun h6 => hX.2 hh (by omega) (by rw [hf]; exact hbel)) g4 ?_ ?_ ?_ ?_) ?_
    · exact e1
    · exact e2
    · rfl
    · exact e83
    · rintro x w2 ⟨m1, m2, m3⟩
      exact ⟨m1, m2, s1.trans m3⟩

theorem grows_ok (hs : Sat w F) : Ok (Fn Pg 12 [] w) fun v w' => v = .bool true ∧ Sat w' F ∧ Sm w w' := by
  rw [F12]; unfold S12
  refine Ok.bind (new_ok hs) ?_
  rintro v w1 ⟨T, rfl, h1, s1⟩
  obtain ⟨r, h, t, g1, g2, g3, g4, h2⟩ := tree_open h1
  have hh : h = 0 := by
    rcases g2 with g2 | g2
    · exact g2
    · have := ents_le g1; rw [g3, List.length_nil] at this; omega
  refine Ok.rd2 (sliceN_ok (vs := k6.map .string) T87 (by intro v hv; obtain ⟨s, _, rfl⟩ := List.mem_map.1 hv; rfl) (by decide) (by decide)) ?_
  have hE := Ext.push (fun _ => False) w1 (.cells (k6.map .string).toArray 9)
  have h3 := h2.new (l' := k6.map .string) (T' := 9) hE (fun _ _ hf => hf) (At.new w1 _ 9) (Nat.le_refl _)
  have h4 : Sat _ (slH 9 1 encS (sl w1.heap.size 0 6 6) k6 :: _) := slH_mk (xs := k6) (l := k6.map .string) rfl rfl (by decide) rfl h3
  refine Ok.mono (grows_loop 6 0 _ _ F r h t rfl g1 g2 g3 (fun _ => hh) (fun hh => by omega) (by rw [g3]; exact h4.re [1, 2, 0] (by decide)) rfl rfl rfl rfl) ?_
  rintro x w2 ⟨m1, m2, m3⟩
  exact ⟨m1, m2, s1.trans (hE.sm.trans m3)⟩

end Go.Cb
