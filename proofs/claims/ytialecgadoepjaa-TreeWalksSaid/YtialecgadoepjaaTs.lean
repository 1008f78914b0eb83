/-
  The law TreeShape.
-/
import Derived.Test.YtialecgadoepjaaFw
set_option linter.unusedVariables false
set_option linter.unusedSimpArgs false
namespace Go.Cb
variable {w : World} {F G : List HP} {Q : Value → World → Prop}

theorem T22 : SlT Pg 22 28 3 := slT_of (by kernel_rfl)
def cellsA (a : Act) : List Value := [int a.1, .string a.2.1, int a.2.2]
theorem go_tmpA {a : Act} {κ : Value → Value → World → R} (h : Sat w F) (hκ : ∀ nb w', Sat w' (pt nb (cellsA a) 28 :: F) → Sm w w' → Ok (κ (ptr nb 0) undef w') Q) :
    Ok (rd2 (rawV Pg (Instr.alloc 28 true (.tuple #[])) w) fun x w' => rd2 (rawU Pg (Instr.storeAt 28 x (aggA a)) w') fun u w'' => κ x u w'') Q := by
  obtain ⟨i, z, h1, h2, h3, h4, _⟩ := T22.i
  refine Ok.rd2 (alloc_ok h1 h3) ?_
  have s1 := h.new (l' := z.cells.toList) (T' := 28) (Ext.push (fun _ => False) w (.cells z.cells 28)) (fun _ _ hf => hf) (by have := At.new w z.cells.toList 28; simpa using this) (Nat.le_refl _)
  obtain ⟨w', g1, g2, g3⟩ := storeAt_ok (P := Pg) h1 s1.hp (k := 0) rfl (o := 0) (v := aggA a) (by rw [h2]; rfl) (by rw [Array.length_toList, h4, h2]; decide) (fun x hx => by
    have : x = int a.1 ∨ x = .string a.2.1 ∨ x = int a.2.2 := by simpa [Value.cells] using hx
    rcases this with rfl | rfl | rfl <;> rfl)
  refine Ok.rd2 g1 (hκ _ _ ?_ ((Ext.push (fun _ => False) w _).sm.trans g3.sm))
  refine s1.put g3 (fun _ _ hd => hd) ?_ (.inl rfl)
  have := g2.get (k := 0) rfl
  have hl : lay z.cells.toList 0 (aggA a).cells.toList = cellsA a := by
    have hz2 : z.cells.toList.length = 3 := by rw [Array.length_toList, h4]
    rw [lay_eq _ _ _ (by rw [hz2]; exact Nat.le_refl 3)]
    rw [List.drop_eq_nil_of_le (by rw [hz2]; exact Nat.le_refl 3)]
    simp [cellsA, Value.cells]
  rw [hl] at this
  exact this
theorem ldA_0 {nb : Nat} {a : Act} (h : Sat w F) (k : Nat) (hk : F[k]? = some (pt nb (cellsA a) 28)) : ldV Pg 3 (ptr nb 0) w = some (int a.1) := (ldV_sc a3 _ _).trans ((h.foc hk).at.cell 0)
theorem ldA_1 {nb : Nat} {a : Act} (h : Sat w F) (k : Nat) (hk : F[k]? = some (pt nb (cellsA a) 28)) : ldV Pg 9 (ptr nb (0 + 1)) w = some (.string a.2.1) := (ldV_sc a9 _ _).trans ((h.foc hk).at.cell 1)
theorem ldA_2 {nb : Nat} {a : Act} (h : Sat w F) (k : Nat) (hk : F[k]? = some (pt nb (cellsA a) 28)) : ldV Pg 3 (ptr nb (0 + 2)) w = some (int a.2.2) := (ldV_sc a3 _ _).trans ((h.foc hk).at.cell 2)

/-- the rooms of a tree. -/
theorem room_loop {T : Nat} {L : List Ent} {lv : Value} {rows : List (List Nat)} (hr : RowsF w lv rows) (hs : Sat w (tree T L :: F)) (hpow : 3 ^ rows.length ≤ 2 ^ 40) (hm : rows.length ≤ 1 ∨ 2 * 3 ^ (rows.length - 1) ≤ L.length + 1) (hL : L.length ≤ 2 ^ 20) : ∀ (j k : Nat) (e : Env) (i : Nat), k + j = rows.length → 1 ≤ k → i ≤ 2 ^ 30 →
    e 3 = ptr T 0 → e 6 = lv → e 7 = int (3 ^ (k - 1) : Nat) → e 8 = int k → e 4 = int i → e 64 = undef →
    (∀ e', e' 0 = e 0 → e' 3 = ptr T 0 → e' 4 = int (i + 1 : Nat) → e' 64 = undef → Ok (evalLoop (cx3 (Fn Pg) (Rnd Pg)) (cdA Go.Proofs.Try.f3 [1, 1, 1, 0, 1, 0, 0]) (K3_2 (Fn Pg) (Rnd Pg)) e' w) Q) →
    Ok (evalLoop (cx3 (Fn Pg) (Rnd Pg)) (cdA Go.Proofs.Try.f3 [1, 1, 1, 0, 1, 0, 0, 1, 0, 0, 1, 1, 1, 1, 1, 0, 1, 0, 0]) (K3_7 (Fn Pg) (Rnd Pg)) e w) Q := by
  intro j
  induction j with
  | zero =>
    intro k e i hk h1 hi e3 e6 e7 e8 e4 e64 hend
    have hk : k = rows.length := by omega
    rw [S3_L2_eq]; unfold S3_L2
    rw [e3, e6, e7, e8, e4, e64]
    refine Ok.rd2 (hr.len _ _ _ _) (Ok.rd2 bin_lss (Ok.cf (by simp; omega) ?_))
    refine Ok.rd2 (hr.len _ _ _ _) (Ok.rd2 bin_gtr ?_)
    by_cases h2 : 1 < rows.length
    · have hx : decide ((1 : Int) < (rows.length : Int)) = true := by simp; omega
      have hm := hm.resolve_left (by omega)
      rw [← hk] at hm
      have hmul : binG false Pg .mul 3 (.const .nilFunc) (.tmp 0) (int 2) (int (3 ^ (k - 1) : Nat)) w = some (int (2 * 3 ^ (k - 1) : Nat), w) := by
        have := bin_mul (P := Pg) (st := false) (t := 3) (ox := .const .nilFunc) (oy := .tmp 0) (a := 2) (b := (3 ^ (k - 1) : Nat)) (w := w) (by omega) (by omega)
        rw [this]; simp
      have hp : 1 ≤ 3 ^ (k - 1) := Nat.pow_pos (by decide)
      refine t_ok hx rfl (t_ok hx (gr2 (len_ok hs)) (t_ok hx rfl (t_ok hx (gr2 hmul) (t_ok hx (gr2 (bin_sub1 (by omega) (by omega))) (t_ok hx (gr2 bin_lss) (pk_t hx ?_))))))
      refine Ok.cf (by simp; omega) ?_
      refine Ok.rd2 (bin_add1 (by omega)) ?_
      exact hend _ rfl e3 rfl e64
    · have hx : decide ((1 : Int) < (rows.length : Int)) = false := by simp; omega
      refine t_no hx (t_no hx (t_no hx (t_no hx (t_no hx (t_no hx (pk_f hx (Ok.cf rfl ?_)))))))
      refine Ok.rd2 (bin_add1 (by omega)) ?_
      exact hend _ rfl e3 rfl e64
  | succ j ih =>
    intro k e i hk h1 hi e3 e6 e7 e8 e4 e64 hend
    rw [S3_L2_eq]; unfold S3_L2
    rw [e6, e7, e8]
    have hle : 3 ^ k ≤ 3 ^ rows.length := Nat.pow_le_pow_right (by decide) (by omega)
    have hlt : rows.length < 3 ^ rows.length := Nat.lt_pow_self (by decide)
    have hk1 : 3 ^ k = 3 * 3 ^ (k - 1) := by
      obtain ⟨m, rfl⟩ : ∃ m, k = m + 1 := ⟨k - 1, by omega⟩
      rw [Nat.pow_succ, Nat.mul_comm]; simp
    have hmul : binG false Pg .mul 3 (.const .nilFunc) (.tmp 0) (int 3) (int (3 ^ (k - 1) : Nat)) w = some (int (3 ^ k : Nat), w) := by
      have := bin_mul (P := Pg) (st := false) (t := 3) (ox := .const .nilFunc) (oy := .tmp 0) (a := 3) (b := (3 ^ (k - 1) : Nat)) (w := w) (by omega) (by omega)
      rw [this, hk1]; simp
    refine Ok.rd2 (hr.len _ _ _ _) (Ok.rd2 bin_lss (Ok.ct (by simp; omega) ?_))
    refine Ok.rd2 hmul (Ok.rd2 (bin_add1 (by omega)) ?_)
    refine ih (k + 1) _ i (by omega) (by omega) hi ?_ ?_ ?_ ?_ ?_ ?_ ?_
    · exact e3
    · exact e6
    · rfl
    · rfl
    · exact e4
    · exact e64
    · exact hend


theorem put_le {L : List Ent} (hs : Srt L) (e : Ent) : (putL L e).length ≤ L.length + 1 := by
  by_cases h : hasL L e.1
  · rw [(put_len hs e).1 h]; omega
  · rw [(put_len hs e).2 h]; omega
theorem del_le (L : List Ent) (hs : Srt L) (k : ByteArray) : (delL L k).length ≤ L.length := by
  rcases srt_cases hs k with ⟨_, A, x, B, rfl, hx, hA, hB⟩ | ⟨_, A, B, rfl, hA, hB⟩
  · rw [del_one hA hB hx]; simp
  · have := del_mid (X := []) hA hB
    simp only [List.append_nil] at this
    rw [this]; simp [delL, lows, upps]

/-- levels, number and shape of a tree. -/
theorem look_ok {T : Nat} {L : List Ent} {κ : Value → World → R} (hs : Sat w (tree T L :: F)) (hb : L.length ≤ 2 ^ 20)
    (hκ : ∀ (lv : Value) (w' : World) (rows : List (List Nat)), Sat w' (tree T L :: rowsH lv rows :: F) → Sm w w' → Shp rows L.length → (rows.length ≤ 1 ∨ 2 * 3 ^ (rows.length - 1) ≤ L.length + 1) → rows.length ≤ 2 ^ 21 → Ok (κ lv w') Q) :
    Ok (rd2 (Fn Pg 16 [ptr T 0] w) κ) Q := by
  obtain ⟨r, h, t, h1, h2, h3, h4, hs⟩ := tree_open hs
  subst h3
  have hh := ht_le h1 h2
  refine Ok.bind (levels_ok h1 hs hb (by omega)) ?_
  rintro lv w1 ⟨g1, s1⟩
  refine hκ lv w1 (lvs h [t]) (tree_mk h1 h2 rfl h4 rfl (g1.re [1, 2, 0] (by decide))) s1 (shp_of h1 h2 hb) ?_ (by rw [lvs_len]; omega)
  rw [lvs_len]
  rcases many_root h1 h2 with rfl | hm
  · exact .inl (Nat.le_refl _)
  · exact .inr hm

theorem shape_loop {v : Value} {acts : List Act} {X : HP} (hX : ∀ {w : World} {F : List HP} (k : Nat), Sat w F → F[k]? = some X → ActsF v acts w) (h200 : acts.length ≤ 200) : ∀ (j i T : Nat) (L : List Ent) (e : Env) (w : World) (F : List HP), i + j = acts.length → L.length ≤ i → Sat w (tree T L :: X :: F) →
    e 0 = v → e 3 = ptr T 0 → e 4 = int i → e 64 = undef →
    Ok (evalLoop (cx3 (Fn Pg) (Rnd Pg)) (cdA Go.Proofs.Try.f3 [1, 1, 1, 0, 1, 0, 0]) (K3_2 (Fn Pg) (Rnd Pg)) e w) fun x w' => x = .bool true ∧ Sat w' (X :: F) ∧ Sm w w' := by
  intro j
  induction j with
  | zero =>
    intro i T L e w F hij hL hs e0 e3 e4 e64
    have hf := hX 1 hs rfl
    rw [S3_L1_eq]; unfold S3_L1
    rw [e0, e3, e4, e64]
    refine Ok.rd2 (hf.len _ _ _ _) (Ok.rd2 bin_lss (Ok.cf (by simp; omega) ?_))
    refine Ok.bind (grows_ok hs.drop) ?_
    rintro x w1 ⟨rfl, g1, g2⟩
    exact ⟨_, _, rfl, rfl, g1, g2⟩
  | succ j ih =>
    intro i T L e w F hij hL hs e0 e3 e4 e64
    have hf := hX 1 hs rfl
    rw [S3_L1_eq]; unfold S3_L1
    rw [e0, e3, e4]
    have hi : i < acts.length := by omega
    obtain ⟨p, x1, x2, _⟩ := hf.at_ i _ (List.getElem?_eq_getElem hi)
    refine Ok.rd2 (hf.len _ _ _ _) (Ok.rd2 bin_lss (Ok.ct (by simp; omega) ?_))
    refine Ok.rd x1 (Ok.rd x2 ?_)
    refine go_tmpA hs fun nb w1 h1 s1 => ?_
    refine Ok.rd (fld28_0 _ _) (Ok.rd (ldA_0 h1 0 rfl) (Ok.rd2 bin_leq ?_))
    have hsrt : Srt L := by obtain ⟨_, _, _, _, _, _, h4, _⟩ := tree_open h1.drop; exact h4
    have step : ∀ (L' : List Ent) (w2 : World), L'.length ≤ i + 1 → Sm w w2 → Sat w2 (tree T L' :: pt nb (cellsA acts[i]) 28 :: X :: F) → ∀ (e' : Value → Value → Value → Value → Env),
        (∀ a b c d, (e' a b c d) 0 = v ∧ (e' a b c d) 3 = ptr T 0 ∧ (e' a b c d) 4 = int i ∧ (e' a b c d) 64 = undef ∧ (e' a b c d) 6 = a ∧ (e' a b c d) 7 = int 1 ∧ (e' a b c d) 8 = int 1) →
        ∀ (κ' : World → R), Ok (rd2 (Fn Pg 16 [ptr T 0] w2) fun x121 w122 =>
          rd2 (Fn Pg 18 [ptr T 0] w122) fun x123 w124 =>
          rd2 (Fn Pg 17 [x121, x123] w124) fun x125 w126 =>
          rd (unV .not x125) fun x127 =>
          cnd x127 (fun _ => κ' w126) (fun _ => evalLoop (cx3 (Fn Pg) (Rnd Pg)) (cdA Go.Proofs.Try.f3 [1, 1, 1, 0, 1, 0, 0, 1, 0, 0, 1, 1, 1, 1, 1, 0, 1, 0, 0]) (K3_7 (Fn Pg) (Rnd Pg)) (e' x121 x123 x125 x127) w126))
          fun x w' => x = .bool true ∧ Sat w' (X :: F) ∧ Sm w w' := by
      intro L' w2 hL' s2 hs2 e' he' κ'
      refine look_ok hs2 (by omega) fun lv w3 rows hs3 s3 hsh hm hrl => ?_
      refine Ok.rd2 (len_ok hs3) ?_
      have hR := rows_facts (hs3.sw)
      refine Ok.rd2 (shaped_ok hR hsh (by omega)) (Ok.rd (un_not _) (Ok.cf rfl ?_))
      obtain ⟨c0, c3, c4, c64, c6, c7, c8⟩ := he' lv (int L'.length) (.bool true) (.bool !true)
      have hpos : 1 ≤ rows.length := by obtain ⟨c, hc⟩ := hsh.top; exact (List.getElem?_eq_some_iff.1 hc).1
      have hpow : 3 ^ rows.length ≤ 2 ^ 40 := by
        rcases hm with hm | hm
        · have : rows.length = 1 := by omega
          rw [this]; decide
        · obtain ⟨m, hm'⟩ : ∃ m, rows.length = m + 1 := ⟨rows.length - 1, by omega⟩
          rw [hm'] at hm ⊢
          rw [Nat.pow_succ]
          simp at hm; omega
      refine room_loop hR hs3 hpow hm (by omega) (rows.length - 1) 1 _ i (by omega) (Nat.le_refl _) (by omega) c3 c6 c7 c8 c4 c64 ?_
      intro e'' d0 d3 d4 d64
      refine Ok.mono (ih (i + 1) T L' e'' w3 F (by omega) hL' (by
        have := hs3.re [0, 3, 1, 2] (by decide)
        have h9 := (this.re [2, 3, 0, 1] (by decide)).drop.drop
        exact h9) (by rw [d0, c0]) d3 d4 d64) ?_
      rintro x w' ⟨m1, m2, m3⟩
      exact ⟨m1, m2, s2.trans (s3.trans m3)⟩
    refine Ok.ci (fun _ => ?_) (fun _ => ?_)
    · refine Ok.rd (fld28_1 _ _) (Ok.rd (ldA_1 h1 0 rfl) (Ok.rd (fld28_2 _ _) (Ok.rd (ldA_2 h1 0 rfl) ?_)))
      refine Ok.bind (put_ok (y := vI acts[i].2.2) h1.sw (by omega) (bld40_i _ _)) ?_
      rintro x w2 ⟨_, g1, s2⟩
      refine step _ w2 (Nat.le_trans (put_le hsrt _) (by omega)) (s1.trans s2) g1 _ ?_ _
      exact fun a b c d => ⟨e0, e3, e4, e64, rfl, rfl, rfl⟩
    · refine Ok.rd (fld28_1 _ _) (Ok.rd (ldA_1 h1 0 rfl) ?_)
      refine Ok.bind (delete_ok h1.sw (by omega)) ?_
      rintro x w2 ⟨_, g1, s2⟩
      refine step _ w2 (Nat.le_trans (del_le L hsrt _) (by omega)) (s1.trans s2) g1 _ ?_ _
      exact fun a b c d => ⟨e0, e3, e4, e64, rfl, rfl, rfl⟩

theorem shape_ok {v : Value} {acts : List Act} {X : HP} (hX : ∀ {w : World} {F : List HP} (k : Nat), Sat w F → F[k]? = some X → ActsF v acts w) (hs : Sat w (X :: F)) : Ok (Fn Pg 3 [v] w) fun x w' => x = .bool true ∧ Sat w' (X :: F) ∧ Sm w w' := by
  obtain ⟨b, hb, hlen⟩ := few_ok (hX 0 hs rfl)
  rw [F3]; unfold S3
  refine Ok.rd2 hb (Ok.rd (un_not _) ?_)
  cases b with
  | false =>
    refine Ok.ct rfl ?_
    refine Ok.bind (grows_ok hs) ?_
    rintro x w1 ⟨rfl, g1, g2⟩
    exact ⟨_, _, rfl, rfl, g1, g2⟩
  | true =>
    refine Ok.cf rfl ?_
    refine Ok.bind (new_ok hs) ?_
    rintro x w1 ⟨T, rfl, h1, s1⟩
    refine Ok.mono (shape_loop hX (hlen rfl).1 acts.length 0 T [] _ w1 F (by omega) (Nat.zero_le _) h1 rfl rfl rfl rfl) ?_
    rintro x w' ⟨m1, m2, m3⟩
    exact ⟨m1, m2, s1.trans m3⟩

end Go.Cb
