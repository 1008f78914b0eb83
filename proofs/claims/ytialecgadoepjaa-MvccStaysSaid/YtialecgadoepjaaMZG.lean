import Derived.Test.YtialecgadoepjaaMZF
/-
  A store that isn't there, or that nobody made.
-/
set_option linter.unusedVariables false
set_option linter.unusedSimpArgs false
namespace Go.Cb
open Classical
variable {w : World} {F : List HP} {Q Q' : Value → World → Prop} {s : Value} {A : HP}

/-- there is no store. -/
def NoS (s : Value) (A : HP) : Prop := ∀ (w : World) (F : List HP), Sat w (A :: F) → Fn Pg 62 [s] w = some (.bool true, w)
theorem noS_nil : NoS (.pointer none) emp := fun _ _ _ => snone_nil
theorem noS_zero (S : Nat) : NoS (ptr S 0) (pt S [.pointer none, u64 0] 95) := fun w F h => snone_ok h 0 rfl
theorem NoS.at {k : Nat} (hN : NoS s A) (hs : Sat w F) (hk : F[k]? = some A) : Fn Pg 62 [s] w = some (.bool true, w) := hN w _ (hs.foc hk)

theorem chain_no {key : ByteArray} (hN : NoS s A) (hs : Sat w (A :: F)) : Fn Pg 75 [s, .string key] w = some (.slice none 0 0, w) := by
  have : Ok (Fn Pg 75 [s, .string key] w) fun v w' => v = .slice none 0 0 ∧ w' = w := by
    rw [F75]; unfold S75
    exact Ok.rd2 (hN w F hs) (Ok.ct rfl ⟨_, _, rfl, rfl, rfl⟩)
  obtain ⟨v, w', h1, rfl, rfl⟩ := this
  exact h1
theorem right_nil : RightP [] := fun i a h => by simp at h
theorem at_nil (at' : Int) : atV [] at' = (zA, false) := by
  unfold atV
  rw [if_pos right_nil]; rfl
theorem read_no {K : Hl} {at' : Int} {key : ByteArray} (hN : NoS s A) (hs : Sat w (kn K :: A :: F)) :
    Ok (Fn Pg 41 [s, .string key, u64 at'] w) (VerQ K (zA, false) (A :: F) w) := by
  rw [F41]; unfold S41
  refine go_new z85 hs fun r w1 h1 s1 => ?_
  refine Ok.rd2 (chain_no hN (h1.re [2, 0, 1] (by decide))) ?_
  have h2 : Sat w1 (kn K :: A :: pt r [u64 0, .bool false, .slice none 0 0, u64 0, int 0] 85 :: F) := h1.re [1, 2, 0] (by decide)
  refine Ok.bind (at_ok (vs := []) (s := at') (fun a ha => by simp at ha) (Rc.nil none 0) (by simp) h2) ?_
  rintro y w3 ⟨K', x, hl, rfl, hx, h3, s3⟩
  rw [at_nil] at hx
  refine Ok.rd rfl (Ok.rd rfl ?_)
  obtain ⟨w4, m4, h4, s4⟩ := st_agg ty85 rfl (cs := #[u64 x.st, .bool x.dead, x.pv.1, u64 x.gen, int x.size]) rfl (ones_ver x) h3 2 rfl
  refine Ok.rd2 m4 ?_
  have h4 : Sat w4 (kn K' :: A :: pt r (encVer x) 85 :: F) := h4
  refine Ok.rd (ldv h4 2 rfl) ?_
  exact ⟨_, _, rfl, K', x, hl, by rw [at_nil]; rfl, hx, (h4.re [2, 0, 1] (by decide)).drop, s1.trans (s3.trans s4)⟩
theorem newest_no {K : Hl} {key : ByteArray} (hN : NoS s A) (hs : Sat w (kn K :: A :: F)) :
    Ok (Fn Pg 43 [s, .string key] w) (VerQ K (zA, false) (A :: F) w) := by
  rw [F43]; unfold S43
  refine go_new z85 hs fun r w1 h1 s1 => ?_
  refine Ok.rd2 (chain_no hN (h1.re [2, 0, 1] (by decide))) ?_
  have h2 : Sat w1 (kn K :: A :: pt r [u64 0, .bool false, .slice none 0 0, u64 0, int 0] 85 :: F) := h1.re [1, 2, 0] (by decide)
  refine Ok.rd2 (len_sl T76.u _ _ _ _) (Ok.rd2 bin_eql (Ok.ct rfl (Ok.rd bld85_0 ?_)))
  obtain ⟨w4, m4, h4, s4⟩ := st_agg ty85 rfl (cs := #[u64 zV.st, .bool zV.dead, zV.pv.1, u64 zV.gen, int zV.size]) rfl (ones_ver zV) h2 2 rfl
  refine Ok.rd2 m4 ?_
  have h4 : Sat w4 (kn K :: A :: pt r (encVer zV) 85 :: F) := h4
  refine Ok.rd (ldv h4 2 rfl) ?_
  exact ⟨_, _, rfl, K, zV, Le.refl K, rfl, zRv K, (h4.re [2, 0, 1] (by decide)).drop, s1.trans s4⟩
theorem last_no (hN : NoS s A) (hs : Sat w (A :: F)) : Fn Pg 37 [s] w = some (u64 0, w) := by
  have : Ok (Fn Pg 37 [s] w) fun v w' => v = u64 0 ∧ w' = w := by
    rw [F37]; unfold S37
    exact Ok.rd2 (hN w F hs) (Ok.ct rfl ⟨_, _, rfl, rfl, rfl⟩)
  obtain ⟨v, w', h1, rfl, rfl⟩ := this
  exact h1
theorem copy_no (hN : NoS s A) (hs : Sat w (A :: F)) : Fn Pg 40 [s] w = some (.pointer none, w) := by
  have : Ok (Fn Pg 40 [s] w) fun v w' => v = .pointer none ∧ w' = w := by
    rw [F40]; unfold S40
    exact Ok.rd2 (hN w F hs) (Ok.ct rfl ⟨_, _, rfl, rfl, rfl⟩)
  obtain ⟨v, w', h1, rfl, rfl⟩ := this
  exact h1
theorem vac_no {k sv : Value} (hN : NoS s A) (hs : Sat w (A :: F)) : Fn Pg 38 [s, k, sv] w = some (.tuple #[.string noB, .slice none 0 0, .bool true], w) := by
  have : Ok (Fn Pg 38 [s, k, sv] w) fun v w' => v = .tuple #[.string noB, .slice none 0 0, .bool true] ∧ w' = w := by
    rw [F38]; unfold S38
    exact Ok.rd2 (hN w F hs) (Ok.ct rfl ⟨_, _, rfl, rfl, rfl⟩)
  obtain ⟨v, w', h1, rfl, rfl⟩ := this
  exact h1
theorem apply_no {x y : Value} (hN : NoS s A) (hs : Sat w (A :: F)) : Ok (Fn Pg 32 [s, .agg #[x, y]] w) fun v w' => v = int 1 ∧ Sat w' (A :: F) ∧ Sm w w' := by
  rw [F32]; unfold S32
  refine go_box (l := [x, y]) rfl hs fun rb w1 h1 s1 => ?_
  exact Ok.rd2 (hN.at h1 (k := 1) rfl) (Ok.ct rfl ⟨_, _, rfl, rfl, h1.drop, s1⟩)
theorem rows_no {f t : ByteArray} {on : Value} (hN : NoS s A) (hs : Sat w (A :: F)) : Ok (Fn Pg 65 [s, .agg #[.string f, .string t], on] w) fun v w' => Sat w' (A :: F) ∧ Sm w w' := by
  rw [F65]; unfold S65
  refine go_box (l := spC f t) rfl hs fun rb w1 h1 s1 => ?_
  exact Ok.rd2 (hN.at h1 (k := 1) rfl) (Ok.ct rfl ⟨_, _, rfl, h1.drop, s1⟩)
theorem rows33_no (hN : NoS s A) (hs : Sat w (A :: F)) : Ok (Fn Pg 33 [s] w) fun v w' => v = .slice none 0 0 ∧ Sat w' (A :: F) ∧ Sm w w' := by
  rw [F33]; unfold S33
  refine go_new z71 hs fun b w1 h1 s1 => ?_
  refine Ok.rd bld36_0 ?_
  refine Ok.bind (rows_no hN h1.sw) ?_
  rintro y w2 ⟨h2, s2⟩
  exact Ok.rd (ld1 a71 h2 1 rfl) ⟨_, _, rfl, rfl, h2.sw.drop, s1.trans s2⟩
theorem scan_no {f t : ByteArray} {at' m : Int} (hN : NoS s A) (hs : Sat w (A :: F)) : Ok (Fn Pg 36 [s, .agg #[.string f, .string t], u64 at', int m] w) fun v w' => v = .slice none 0 0 ∧ Sat w' (A :: F) ∧ Sm w w' := by
  rw [F36]; unfold S36
  refine go_box (l := spC f t) rfl hs fun c4 w1 h1 s1 => ?_
  refine go_box (l := [u64 at']) rfl h1 fun ba w2 h2 s2 => ?_
  refine go_box (l := [int m]) rfl h2 fun bm w3 h3 s3 => ?_
  refine go_new z73 h3 fun b w4 h4 s4 => ?_
  refine Ok.rd (ldsp h4 3 rfl) ?_
  refine Ok.bind (rows_no hN (h4.re [4, 0, 1, 2, 3] (by decide))) ?_
  rintro y w5 ⟨h5, s5⟩
  have h5 : Sat w5 (A :: pt b [.slice none 0 0] 73 :: pt bm [int m] 3 :: pt ba [u64 at'] 64 :: pt c4 (spC f t) 36 :: F) := h5
  exact Ok.rd (ld1 a73 h5 1 rfl) ⟨_, _, rfl, rfl, (h5.re [1, 2, 3, 4, 0] (by decide)).drop.drop.drop.drop, s1.trans (s2.trans (s3.trans (s4.trans s5)))⟩
theorem versions_no {K : Hl} (hN : NoS s A) (hs : Sat w (kn K :: A :: F)) : Ok (Fn Pg 34 [s] w) fun v w' => v = int 0 ∧ Sat w' (kn K :: A :: F) ∧ Sm w w' := by
  rw [F34]; unfold S34
  refine Ok.bind (rows33_no hN hs.sw) ?_
  rintro v w1 ⟨rfl, h1, s1⟩
  refine Ok.bind (added_ok (ls := []) worth_n (RdS.nil none 0) Rks.nil (fun l hl => by simp at hl) (by simp) h1.sw) ?_
  rintro z w2 ⟨rfl, h2, s2⟩
  exact ⟨_, _, rfl, rfl, h2, s1.trans s2⟩
theorem live_no {K : Hl} (hN : NoS s A) (hs : Sat w (kn K :: A :: F)) : Ok (Fn Pg 35 [s] w) fun v w' => v = int 0 ∧ Sat w' (kn K :: A :: F) ∧ Sm w w' := by
  rw [F35]; unfold S35
  refine Ok.bind (rows33_no hN hs.sw) ?_
  rintro v w1 ⟨rfl, h1, s1⟩
  refine Ok.bind (added_ok (ls := []) worth_l (RdS.nil none 0) Rks.nil (fun l hl => by simp at hl) (by simp) h1.sw) ?_
  rintro z w2 ⟨rfl, h2, s2⟩
  exact ⟨_, _, rfl, rfl, h2, s1.trans s2⟩
end Go.Cb

/-
  Acts that come in; few.
-/
set_option linter.unusedVariables false
set_option linter.unusedSimpArgs false
namespace Go.Cb
open Classical
variable {w : World} {F : List HP} {Q Q' : Value → World → Prop}

theorem cellsAt_get : ∀ (k i : Nat) {w : World} {p : Addr} {l : List Value}, cellsAt w p i k = some l → ∀ j, j < k → w.cell? (p.add (i + j)) = l[j]?
  | 0, i, w, p, l, h, j, hj => absurd hj (Nat.not_lt_zero _)
  | k + 1, i, w, p, l, h, j, hj => by
    unfold cellsAt at h
    obtain ⟨x, hx, h⟩ := Option.bind_eq_some_iff.1 h
    obtain ⟨l', hl', rfl⟩ := Option.map_eq_some_iff.1 h
    cases j with
    | zero => simpa using hx
    | succ j =>
      have := cellsAt_get k (i + 1) hl' j (by omega)
      rw [show i + 1 + j = i + (j + 1) by omega] at this
      simpa using this

theorem fld116_0' (a : Addr) : fldA Pg 116 (.pointer (some a)) 0 = some (.pointer (some (a.add 0))) := by kernel_rfl
theorem fld116_2' (a : Addr) : fldA Pg 116 (.pointer (some a)) 2 = some (.pointer (some (a.add 2))) := by kernel_rfl
theorem fld83_0' (a : Addr) : fldA Pg 83 (.pointer (some a)) 0 = some (.pointer (some (a.add 0))) := by kernel_rfl

/-- few changes, and small ones. -/
def fewG (gs : List (ByteArray × AV)) : Prop := gs.length ≤ 30 ∧ ∀ a ∈ gs, a.2.places.length ≤ 402 ∧ a.1.size ≤ 100

theorem few60_loop {K : Hl} {rb : Nat} {s : Int} {y cv : Value} {cs : List Cg} {gs : List (ByteArray × AV)} (hr : RdS K 65 5 encCg cv cs) (hcs : Rcg K s cs gs) (hs : Sat w (pt rb [y, cv] 67 :: kn K :: F)) :
    ∀ (j i : Nat) (e : Env), i + j = 40 → (∀ (k : Nat) (a : ByteArray × AV), k < i → gs[k]? = some a → a.2.places.length ≤ 402 ∧ a.1.size ≤ 100) → e 3 = ptr rb 0 → e 5 = int i → e 62 = undef →
      Ok (evalLoop (cx60 (Fn Pg) (Rnd Pg)) (cdA Go.Proofs.Try.f60 [1, 0, 1, 0, 0]) (K60_2 (Fn Pg) (Rnd Pg)) e w) fun x w' => (∃ b, x = .bool b ∧ (b = true → fewG gs)) ∧ w' = w := by
  intro j
  induction j with
  | zero =>
    intro i e hij hsm e3 e5 e62
    have hi : i = 40 := by omega
    subst hi
    rw [S60_L1_eq]; unfold S60_L1
    rw [e3, e5, e62]
    refine Ok.rd (fld67_1 _ _) (Ok.rd (ldr_1 hs 0 rfl) (Ok.rd2 (hr.len T65 w) (Ok.rd2 bin_lss ?_)))
    rw [hcs.len]
    have fin : Ok (rd (fldA Pg 67 (ptr rb 0) 1) fun x211 => rd (ldV Pg 65 x211 w) fun x212 => rd2 (lenG false Pg .len #[65] 3 #[false] [x212] w) fun x213 w214 =>
        rd2 (binG false Pg .leq 3 (.tmp 0) (.const .nilFunc) x213 (.int .i64 30) w214) fun x215 w216 => shutK undef w216 fun w217 => some (x215, w217)) fun x w' => (∃ b, x = .bool b ∧ (b = true → fewG gs)) ∧ w' = w := by
      refine Ok.rd (fld67_1 _ _) (Ok.rd (ldr_1 hs 0 rfl) (Ok.rd2 (hr.len T65 w) (Ok.rd2 bin_leq ?_)))
      refine ⟨_, _, rfl, ⟨_, rfl, fun hb => ?_⟩, rfl⟩
      rw [hcs.len] at hb
      have hb : gs.length ≤ 30 := by simp at hb; omega
      refine ⟨hb, fun a ha => ?_⟩
      obtain ⟨k, hk⟩ := List.getElem?_of_mem ha
      have := (List.getElem?_eq_some_iff.1 hk).1
      exact hsm k a (by omega) hk
    cases hx : decide (((40 : Nat) : Int) < (gs.length : Int)) with
    | true => exact t_ok rfl rfl (t_ok rfl (gr2 bin_lss) (pk_t rfl (Ok.cf rfl fin)))
    | false => exact t_no rfl (t_no rfl (pk_f rfl (Ok.cf rfl fin)))
  | succ j ih =>
    intro i e hij hsm e3 e5 e62
    rw [S60_L1_eq]; unfold S60_L1
    rw [e3, e5, e62]
    refine Ok.rd (fld67_1 _ _) (Ok.rd (ldr_1 hs 0 rfl) (Ok.rd2 (hr.len T65 w) (Ok.rd2 bin_lss ?_)))
    rw [hcs.len]
    have bad : Ok (shutK undef w fun w208 => some ((.bool false), w208)) fun x w' => (∃ b, x = .bool b ∧ (b = true → fewG gs)) ∧ w' = w := ⟨_, _, rfl, ⟨false, rfl, fun h => by cases h⟩, rfl⟩
    by_cases hlt : i < gs.length
    · have hx : decide ((i : Int) < (gs.length : Int)) = true := by simp; omega
      refine t_ok hx rfl (t_ok hx (gr2 bin_lss) (pk_t hx (Ok.ct (by simp; omega) ?_)))
      obtain ⟨a, ha⟩ : ∃ a, gs[i]? = some a := ⟨_, List.getElem?_eq_getElem hlt⟩
      obtain ⟨x, hx'⟩ : ∃ x, cs[i]? = some x := ⟨_, List.getElem?_eq_getElem (by rw [hcs.len]; exact hlt)⟩
      obtain ⟨p, h1, h2⟩ := hr.ix i x hx'
      obtain ⟨hkey, hv⟩ := hcs.at_ i x a hx' ha
      have hcell := cellsAt_get 5 0 (h2 w (kn_on hs (j := 1) rfl))
      have c0 : w.cell? (p.add 0) = some (.string x.key) := hcell 0 (by decide)
      have c2 : w.cell? (p.add 2) = some x.pv.1 := hcell 2 (by decide)
      have l81 : ldV Pg 81 (.pointer (some ((p.add 2).add 0))) w = some x.pv.1 := (ldV_sc a81 _ _).trans c2
      have l9 : ldV Pg 9 (.pointer (some (p.add 0))) w = some (.string x.key) := (ldV_sc a9 _ _).trans c0
      have hpl : RdS K 81 1 encI x.pv.1 a.2.places := hv.pl
      refine Ok.rd (fld67_1 _ _) (Ok.rd (ldr_1 hs 0 rfl) (Ok.rd h1 (Ok.rd (fld116_2' _) (Ok.rd (fld83_0' _) (Ok.rd l81 (Ok.rd2 (hpl.len T81 w) (Ok.rd2 bin_gtr ?_)))))))
      cases hB : decide ((60 : Int) < (a.2.places.length : Int)) with
      | false =>
        refine t_no rfl (t_no rfl (t_no rfl (t_no rfl (t_no rfl (t_no rfl (t_no rfl (t_no rfl (t_no rfl (pk_f rfl ?_)))))))))
        refine f_ok rfl (gr (fld67_1 _ _)) (f_ok rfl (gr (ldr_1 hs 0 rfl)) (f_ok rfl rfl (f_ok rfl (gr h1) (f_ok rfl (gr (fld116_2' _)) (f_ok rfl (gr (fld83_0' _)) (f_ok rfl (gr l81) (f_ok rfl (gr2 (hpl.len T81 w)) (f_ok rfl (gr2 bin_gtr) (pk_f rfl ?_)))))))))
        cases hD : decide ((402 : Int) < (a.2.places.length : Int)) with
        | true => exact Ok.f0 (Ok.f0 (Ok.f0 (Ok.f0 (Ok.f0 (Ok.f0 (Ok.f0 (Ok.f0 (Ok.rd (pick_t _ _) (Ok.ct rfl bad)))))))))
        | false =>
          refine f_ok rfl (gr (fld67_1 _ _)) (f_ok rfl (gr (ldr_1 hs 0 rfl)) (f_ok rfl rfl (f_ok rfl (gr h1) (f_ok rfl (gr (fld116_0' _)) (f_ok rfl (gr l9) (f_ok rfl (gr2 (len_str u9s _ _)) (f_ok rfl (gr2 bin_gtr) (pk_f rfl ?_))))))))
          cases hE : decide ((100 : Int) < (x.key.size : Int)) with
          | true => exact Ok.ct rfl bad
          | false =>
            refine Ok.cf rfl (Ok.rd2 (bin_add1 (by omega)) ?_)
            refine ih (i + 1) _ (by omega) ?_ ?_ ?_ ?_
            · intro k b hk hb
              by_cases hki : k = i
              · subst hki
                rw [ha] at hb
                injection hb with hb
                subst hb
                have hD := of_decide_eq_false hD
                have hE := of_decide_eq_false hE
                rw [hkey] at hE
                exact ⟨by omega, by omega⟩
              · exact hsm k b (by omega) hb
            · exact e3
            · rfl
            · exact e62
      | true =>
        refine t_ok rfl (gr (fld67_1 _ _)) (t_ok rfl (gr (ldr_1 hs 0 rfl)) (t_ok rfl rfl (t_ok rfl (gr h1) (t_ok rfl (gr (fld116_2' _)) (t_ok rfl (gr (fld83_0' _)) (t_ok rfl (gr l81) (t_ok rfl (gr2 (hpl.len T81 w)) (t_ok rfl (gr2 bin_lss) (pk_t rfl ?_)))))))))
        cases hC : decide ((a.2.places.length : Int) < 400) with
        | false =>
          refine f_ok rfl (gr (fld67_1 _ _)) (f_ok rfl (gr (ldr_1 hs 0 rfl)) (f_ok rfl rfl (f_ok rfl (gr h1) (f_ok rfl (gr (fld116_2' _)) (f_ok rfl (gr (fld83_0' _)) (f_ok rfl (gr l81) (f_ok rfl (gr2 (hpl.len T81 w)) (f_ok rfl (gr2 bin_gtr) (pk_f rfl ?_)))))))))
          cases hD : decide ((402 : Int) < (a.2.places.length : Int)) with
          | true => exact Ok.f0 (Ok.f0 (Ok.f0 (Ok.f0 (Ok.f0 (Ok.f0 (Ok.f0 (Ok.f0 (Ok.rd (pick_t _ _) (Ok.ct rfl bad)))))))))
          | false =>
            refine f_ok rfl (gr (fld67_1 _ _)) (f_ok rfl (gr (ldr_1 hs 0 rfl)) (f_ok rfl rfl (f_ok rfl (gr h1) (f_ok rfl (gr (fld116_0' _)) (f_ok rfl (gr l9) (f_ok rfl (gr2 (len_str u9s _ _)) (f_ok rfl (gr2 bin_gtr) (pk_f rfl ?_))))))))
            cases hE : decide ((100 : Int) < (x.key.size : Int)) with
            | true => exact Ok.ct rfl bad
            | false =>
              refine Ok.cf rfl (Ok.rd2 (bin_add1 (by omega)) ?_)
              refine ih (i + 1) _ (by omega) ?_ ?_ ?_ ?_
              · intro k b hk hb
                by_cases hki : k = i
                · subst hki
                  rw [ha] at hb
                  injection hb with hb
                  subst hb
                  have hD := of_decide_eq_false hD
                  have hE := of_decide_eq_false hE
                  rw [hkey] at hE
                  exact ⟨by omega, by omega⟩
                · exact hsm k b (by omega) hb
              · exact e3
              · rfl
              · exact e62
        | true =>
          refine Ok.f0 (Ok.f0 (Ok.f0 (Ok.f0 (Ok.f0 (Ok.f0 (Ok.f0 (Ok.f0 (Ok.f0 (Ok.rd (pick_t _ _) ?_)))))))))
          exact Ok.f0 (Ok.f0 (Ok.f0 (Ok.f0 (Ok.f0 (Ok.f0 (Ok.f0 (Ok.f0 (Ok.rd (pick_t _ _) (Ok.ct rfl bad)))))))))
    · have hx : decide ((i : Int) < (gs.length : Int)) = false := by simp; omega
      refine t_no hx (t_no hx (pk_f hx (Ok.cf rfl ?_)))
      refine Ok.rd (fld67_1 _ _) (Ok.rd (ldr_1 hs 0 rfl) (Ok.rd2 (hr.len T65 w) (Ok.rd2 bin_leq ?_)))
      refine ⟨_, _, rfl, ⟨_, rfl, fun hb => ?_⟩, rfl⟩
      rw [hcs.len] at hb
      have hb : gs.length ≤ 30 := by simp at hb; omega
      refine ⟨hb, fun a ha => ?_⟩
      obtain ⟨k, hk⟩ := List.getElem?_of_mem ha
      have := (List.getElem?_eq_some_iff.1 hk).1
      exact hsm k a (by omega) hk
theorem few60_ok {K : Hl} {s : Int} {x y cv : Value} {cs : List Cg} {gs : List (ByteArray × AV)} (hr : RdS K 65 5 encCg cv cs) (hcs : Rcg K s cs gs) (hs : Sat w (kn K :: F)) :
    Ok (Fn Pg 60 [x, .agg #[y, cv]] w) fun v w' => (∃ b, v = .bool b ∧ (b = true → fewG gs)) ∧ Sat w' (kn K :: F) ∧ Sm w w' := by
  rw [F60]; unfold S60
  refine go_box (l := [y, cv]) rfl hs fun rb w1 h1 s1 => ?_
  refine Ok.mono (few60_loop hr hcs h1 40 0 _ rfl (fun k a hk => absurd hk (Nat.not_lt_zero _)) rfl rfl rfl) ?_
  rintro v w2 ⟨hb, rfl⟩
  exact ⟨hb, h1.drop, s1⟩

/-- an act. -/
structure MAct where
  kind : Int
  st : Int
  cv : V1
  key : ByteArray
  sv : V1
abbrev encAc (x : MAct) : List Value := [int x.kind, u64 x.st, x.cv.1, .string x.key, x.sv.1]
theorem enAc : En encAc 5 := ⟨fun _ => rfl, fun x v hv => by
  simp [encAc] at hv; rcases hv with rfl | rfl | rfl | rfl | rfl
  all_goals first | rfl | exact x.cv.2 | exact x.sv.2⟩
abbrev aggAc (x : MAct) : Value := .agg #[int x.kind, u64 x.st, x.cv.1, .string x.key, x.sv.1]
theorem T58 : SlT Pg 58 70 5 := slT_of (by kernel_rfl)
theorem a70 : aggT Pg 70 = some true := by kernel_rfl
theorem ty70 : tyB Pg 70 5 = true := by kernel_rfl
theorem i70 : ∃ i, Pg.info? 70 = some i ∧ i.size = 5 := sz_of (by kernel_rfl)
theorem i67 : ∃ i, Pg.info? 67 = some i ∧ i.size = 2 := sz_of (by kernel_rfl)
theorem a68 : aggT Pg 68 = some false := by kernel_rfl
theorem fld70_1' (a : Addr) : fldA Pg 70 (.pointer (some a)) 1 = some (.pointer (some (a.add 1))) := by kernel_rfl
theorem fld70_2' (a : Addr) : fldA Pg 70 (.pointer (some a)) 2 = some (.pointer (some (a.add 3))) := by kernel_rfl
theorem fld70_3' (a : Addr) : fldA Pg 70 (.pointer (some a)) 3 = some (.pointer (some (a.add 4))) := by kernel_rfl
/-- what an act says. -/
structure AAct where
  kind : Int
  st : Int
  gs : List (ByteArray × AV)
  key : ByteArray
  ss : List Int
structure Rac (K : Hl) (x : MAct) (a : AAct) : Prop where
  kind : x.kind = a.kind
  st : x.st = a.st
  key : x.key = a.key
  cs : ∃ cs, RdS K 65 5 encCg x.cv.1 cs ∧ Rcg K a.st cs a.gs
  ss : RdS K 68 1 encU x.sv.1 a.ss
theorem Rac.mono {K K' : Hl} {x : MAct} {a : AAct} (h : Rac K x a) (hl : Le K K') : Rac K' x a := ⟨h.kind, h.st, h.key, let ⟨cs, h1, h2⟩ := h.cs; ⟨cs, h1.mono hl, h2.mono hl⟩, h.ss.mono hl⟩
structure Racs (K : Hl) (xs : List MAct) (gs : List AAct) : Prop where
  len : xs.length = gs.length
  at_ : ∀ (i : Nat) (x : MAct) (a : AAct), xs[i]? = some x → gs[i]? = some a → Rac K x a
theorem Racs.mono {K K' : Hl} {xs : List MAct} {gs : List AAct} (h : Racs K xs gs) (hl : Le K K') : Racs K' xs gs := ⟨h.len, fun i x a hx ha => (h.at_ i x a hx ha).mono hl⟩
/-- a small act; few acts. -/
def fewAc (a : AAct) : Prop := fewG a.gs ∧ a.ss.length ≤ 20 ∧ a.key.size ≤ 60
def fewA (gs : List AAct) : Prop := gs.length ≤ 40 ∧ ∀ a ∈ gs, fewAc a

/-- what is read of an act. -/
theorem act_at {x : MAct} {p : Addr} (h : cellsAt w p 0 5 = some (encAc x)) :
    ldV Pg 70 (.pointer (some p)) w = some (aggAc x) ∧ ldV Pg 67 (.pointer (some (p.add 1))) w = some (.agg #[u64 x.st, x.cv.1]) ∧ ldV Pg 9 (.pointer (some (p.add 3))) w = some (.string x.key) ∧ ldV Pg 68 (.pointer (some (p.add 4))) w = some x.sv.1 := by
  have hcell := cellsAt_get 5 0 h
  obtain ⟨i, hi, hsz⟩ := i70
  obtain ⟨i', hi', hsz'⟩ := i67
  refine ⟨by rw [ldV_ag a70 hi, hsz, h]; rfl, ?_, (ldV_sc a9 _ _).trans (hcell 3 (by decide)), (ldV_sc a68 _ _).trans (hcell 4 (by decide))⟩
  rw [ldV_ag a67 hi', hsz']
  have c1 : w.cell? ((p.add 1).add 0) = some (u64 x.st) := hcell 1 (by decide)
  have c2 : w.cell? ((p.add 1).add 1) = some x.cv.1 := hcell 2 (by decide)
  simp only [cellsAt, Nat.zero_add]
  rw [c1, c2]
  rfl

theorem few29_loop {v : Value} {xs : List MAct} {gs : List AAct} {w0 : World} : ∀ (j i : Nat) (K : Hl) (e : Env) (w : World) (F : List HP), i + j = 60 → RdS K 58 5 encAc v xs → Racs K xs gs → (∀ (k : Nat) (a : AAct), k < i → gs[k]? = some a → fewAc a) → Sat w (kn K :: F) → e 0 = v → e 3 = int i → e 42 = undef →
      Ok (evalLoop (cx29 (Fn Pg) (Rnd Pg)) (cdA Go.Proofs.Try.f29 [1, 0, 1, 0, 0]) (K29_2 (Fn Pg) (Rnd Pg)) e w) fun x w' => (∃ b, x = .bool b ∧ (b = true → fewA gs)) ∧ Sat w' (kn K :: F) ∧ Sm w w' := by
  intro j
  induction j with
  | zero =>
    intro i K e w F hij hr hx hsm hs e0 e3 e42
    have hi : i = 60 := by omega
    subst hi
    rw [S29_L1_eq]; unfold S29_L1
    rw [e0, e3, e42]
    refine Ok.rd2 (hr.len T58 w) (Ok.rd2 bin_lss ?_)
    rw [hx.len]
    have fin : Ok (rd2 (lenG false Pg .len #[58] 3 #[false] [v] w) fun x165 w166 => rd2 (binG false Pg .leq 3 (.tmp 0) (.const .nilFunc) x165 (.int .i64 40) w166) fun x167 w168 => shutK undef w168 fun w169 => some (x167, w169))
        fun x w' => (∃ b, x = .bool b ∧ (b = true → fewA gs)) ∧ Sat w' (kn K :: F) ∧ Sm w w' := by
      refine Ok.rd2 (hr.len T58 w) (Ok.rd2 bin_leq ?_)
      refine ⟨_, _, rfl, ⟨_, rfl, fun hb => ?_⟩, hs, Sm.refl _⟩
      rw [hx.len] at hb
      have hb : gs.length ≤ 40 := by simp at hb; omega
      refine ⟨hb, fun a ha => ?_⟩
      obtain ⟨k, hk⟩ := List.getElem?_of_mem ha
      have := (List.getElem?_eq_some_iff.1 hk).1
      exact hsm k a (by omega) hk
    cases hh : decide (((60 : Nat) : Int) < (gs.length : Int)) with
    | true => exact t_ok rfl rfl (t_ok rfl (gr2 bin_lss) (pk_t rfl (Ok.cf rfl fin)))
    | false => exact t_no rfl (t_no rfl (pk_f rfl (Ok.cf rfl fin)))
  | succ j ih =>
    intro i K e w F hij hr hx hsm hs e0 e3 e42
    rw [S29_L1_eq]; unfold S29_L1
    rw [e0, e3, e42]
    refine Ok.rd2 (hr.len T58 w) (Ok.rd2 bin_lss ?_)
    rw [hx.len]
    have bad : ∀ w1, Sat w1 (kn K :: F) → Sm w w1 → Ok (shutK undef w1 fun w162 => some ((.bool false), w162)) fun x w' => (∃ b, x = .bool b ∧ (b = true → fewA gs)) ∧ Sat w' (kn K :: F) ∧ Sm w w' := fun w1 h1 s1 => ⟨_, _, rfl, ⟨false, rfl, fun h => by cases h⟩, h1, s1⟩
    by_cases hlt : i < gs.length
    · have hh : decide ((i : Int) < (gs.length : Int)) = true := by simp; omega
      refine t_ok hh rfl (t_ok hh (gr2 bin_lss) (pk_t hh (Ok.ct (by simp; omega) ?_)))
      obtain ⟨a, ha⟩ : ∃ a, gs[i]? = some a := ⟨_, List.getElem?_eq_getElem hlt⟩
      obtain ⟨x, hx'⟩ : ∃ x, xs[i]? = some x := ⟨_, List.getElem?_eq_getElem (by rw [hx.len]; exact hlt)⟩
      obtain ⟨p, h1, h2⟩ := hr.ix i x hx'
      have hra := hx.at_ i x a hx' ha
      obtain ⟨cs, hcs1, hcs2⟩ := hra.cs
      refine Ok.rd h1 (Ok.rd (fld70_1' _) (Ok.rd (act_at (h2 w (kn_on hs (j := 0) rfl))).2.1 ?_))
      refine Ok.bind (few60_ok hcs1 hcs2 hs) ?_
      rintro y w1 ⟨⟨b, rfl, hb⟩, t1, s1⟩
      obtain ⟨_, _, l9, l68⟩ := act_at (h2 w1 (kn_on t1 (j := 0) rfl))
      refine Ok.rd (un_not _) ?_
      cases b with
      | false => exact Ok.f0 (Ok.f0 (Ok.f0 (Ok.f0 (Ok.f0 (Ok.f0 (Ok.f0 (Ok.rd (pick_t _ _) (Ok.f0 (Ok.f0 (Ok.f0 (Ok.f0 (Ok.f0 (Ok.f0 (Ok.f0 (Ok.rd (pick_t _ _) (Ok.ct rfl (bad w1 t1 s1)))))))))))))))))
      | true =>
        refine f_ok rfl rfl (f_ok rfl rfl (f_ok rfl (gr h1) (f_ok rfl (gr (fld70_3' _)) (f_ok rfl (gr l68) (f_ok rfl (gr2 (hra.ss.len T68 w1)) (f_ok rfl (gr2 bin_gtr) (pk_f rfl ?_)))))))
        cases hD : decide ((20 : Int) < (a.ss.length : Int)) with
        | true => exact Ok.f0 (Ok.f0 (Ok.f0 (Ok.f0 (Ok.f0 (Ok.f0 (Ok.f0 (Ok.rd (pick_t _ _) (Ok.ct rfl (bad w1 t1 s1)))))))))
        | false =>
          refine f_ok rfl rfl (f_ok rfl rfl (f_ok rfl (gr h1) (f_ok rfl (gr (fld70_2' _)) (f_ok rfl (gr l9) (f_ok rfl (gr2 (len_str u9s _ _)) (f_ok rfl (gr2 bin_gtr) (pk_f rfl ?_)))))))
          cases hE : decide ((60 : Int) < (x.key.size : Int)) with
          | true => exact Ok.ct rfl (bad w1 t1 s1)
          | false =>
            refine Ok.cf rfl (Ok.rd2 (bin_add1 (by omega)) ?_)
            refine Ok.mono (ih (i + 1) K _ w1 F (by omega) hr hx ?_ t1 ?_ ?_ ?_) ?_
            · intro k b hk hb'
              by_cases hki : k = i
              · subst hki
                rw [ha] at hb'
                injection hb' with hb'
                subst hb'
                have hD := of_decide_eq_false hD
                have hE := of_decide_eq_false hE
                rw [hra.key] at hE
                exact ⟨hb rfl, by omega, by omega⟩
              · exact hsm k b (by omega) hb'
            · exact e0
            · rfl
            · exact e42
            · rintro z w6 ⟨m1, m2, m3⟩
              exact ⟨m1, m2, s1.trans m3⟩
    · have hh : decide ((i : Int) < (gs.length : Int)) = false := by simp; omega
      refine t_no hh (t_no hh (pk_f hh (Ok.cf rfl ?_)))
      refine Ok.rd2 (hr.len T58 w) (Ok.rd2 bin_leq ?_)
      refine ⟨_, _, rfl, ⟨_, rfl, fun hb => ?_⟩, hs, Sm.refl _⟩
      rw [hx.len] at hb
      have hb : gs.length ≤ 40 := by simp at hb; omega
      refine ⟨hb, fun a ha => ?_⟩
      obtain ⟨k, hk⟩ := List.getElem?_of_mem ha
      have := (List.getElem?_eq_some_iff.1 hk).1
      exact hsm k a (by omega) hk
theorem few29_ok {K : Hl} {v : Value} {xs : List MAct} {gs : List AAct} (hr : RdS K 58 5 encAc v xs) (hx : Racs K xs gs) (hs : Sat w (kn K :: F)) :
    Ok (Fn Pg 29 [v] w) fun x w' => (∃ b, x = .bool b ∧ (b = true → fewA gs)) ∧ Sat w' (kn K :: F) ∧ Sm w w' := by
  rw [F29]; unfold S29
  exact few29_loop (w0 := w) 60 0 K _ w F rfl hr hx (fun k a hk => absurd hk (Nat.not_lt_zero _)) hs rfl rfl rfl
end Go.Cb

/-
  What a store says, in plain words: chains, rows by keys.
-/
set_option linter.unusedVariables false
set_option linter.unusedSimpArgs false
namespace Go.Cb
open Classical
variable {w : World} {F : List HP} {Q Q' : Value → World → Prop}

theorem right_iff {vs : List AV} : RightP vs ↔ (∀ a ∈ vs, a.dead = true → bareA a = true) ∧ vs.Pairwise fun a b => b.st < a.st := by
  constructor
  · intro h
    refine ⟨fun a ha hd => ?_, ?_⟩
    · obtain ⟨i, hi⟩ := List.getElem?_of_mem ha
      exact (h i a hi).1 hd
    · rw [List.pairwise_iff_getElem]
      intro i j hi hj hij
      have := right_dec h (j - i - 1) i vs[i] vs[j] (List.getElem?_eq_getElem hi) (by rw [show i + (j - i - 1) + 1 = j by omega]; exact List.getElem?_eq_getElem hj)
      exact this
  · rintro ⟨h1, h2⟩ i a ha
    refine ⟨h1 a (List.mem_of_getElem? ha), fun b hpos hb => ?_⟩
    rw [List.pairwise_iff_getElem] at h2
    obtain ⟨hi, rfl⟩ := List.getElem?_eq_some_iff.1 ha
    obtain ⟨hj, rfl⟩ := List.getElem?_eq_some_iff.1 hb
    exact h2 (i - 1) i hj hi (by omega)
theorem kept_sub (vs : List AV) (p : Nat → Prop) : (keptL vs p).Sublist vs := by
  have h1 : (vs.zipIdx.filter fun x => decide (p x.2)).Sublist vs.zipIdx := List.filter_sublist
  have h2 := h1.map (·.1)
  have h3 : vs.zipIdx.map (·.1) = vs := List.zipIdx_map_fst 0 vs
  rw [h3] at h2
  exact h2
theorem right_sub {vs us : List AV} (h : RightP vs) (hs : us.Sublist vs) : RightP us := by
  rw [right_iff] at h ⊢
  exact ⟨fun a ha => h.1 a (hs.subset ha), h.2.sublist hs⟩
theorem kept_all {vs : List AV} {p : Nat → Prop} (h : ∀ i, i < vs.length → p i) : keptL vs p = vs := by
  unfold keptL
  rw [List.filter_eq_self.2, List.zipIdx_map_fst]
  rintro ⟨a, i⟩ hx
  have := List.mem_zipIdx hx
  exact decide_eq_true (h i (by omega))
/-- all versions are seen by somebody. -/
theorem allV_all {vs : List AV} (hR : RightP vs) (hp : ∀ a ∈ vs, 0 < a.st) : allV vs = vs := by
  refine kept_all fun i hi => .inr ⟨.inr ⟨vs[i].st, ?_, hi, ?_⟩, ?_⟩
  · exact List.mem_cons_of_mem _ (List.mem_map.2 ⟨_, List.getElem_mem hi, rfl⟩)
  · refine ⟨Nat.le_of_lt hi, fun k a hk ha => ?_, fun a ha => ?_⟩
    · have := right_dec hR (i - k - 1) k a vs[i] ha (by rw [show k + (i - k - 1) + 1 = i by omega]; exact List.getElem?_eq_getElem hi)
      omega
    · rw [List.getElem?_eq_getElem hi] at ha
      injection ha with ha
      subst ha
      exact Int.le_refl _
  · rintro ⟨a, h1, _, _, h4⟩
    exact h4 0 (by simp [everyS]) (hp a (List.mem_of_getElem? h1))

/-- chains as they should be. -/
structure Gd (c : ByteArray → List AV) (last : Int) : Prop where
  right : ∀ k, RightP (c k)
  st : ∀ k, ∀ a ∈ c k, 0 < a.st ∧ a.st ≤ last
  last : 0 ≤ last
  key : ∀ k, c k ≠ [] → keyR k
theorem Gd.new : Gd (fun _ => []) 0 := ⟨fun _ => right_nil, fun k a ha => by simp at ha, Int.le_refl _, fun k h => absurd rfl h⟩
theorem Gd.all {c : ByteArray → List AV} {last : Int} (h : Gd c last) (k : ByteArray) : allV (c k) = c k := allV_all (h.right k) fun a ha => (h.st k a ha).1

/-- rows, by keys. -/
def SrtK (X : List KC) : Prop := X.Pairwise fun a b => kl a.1 b.1 = true
theorem srtK_ext : ∀ {X Y : List KC}, SrtK X → SrtK Y → (∀ x, x ∈ X ↔ x ∈ Y) → X = Y
  | [], [], _, _, _ => rfl
  | [], b :: Y, _, _, h => absurd ((h b).2 (by simp)) (by simp)
  | a :: X, [], _, _, h => absurd ((h a).1 (by simp)) (by simp)
  | a :: X, b :: Y, hX, hY, h => by
    obtain ⟨h1, h2⟩ := List.pairwise_cons.1 hX
    obtain ⟨h3, h4⟩ := List.pairwise_cons.1 hY
    have hab : a = b := by
      rcases List.mem_cons.1 ((h a).1 (by simp)) with h5 | h5
      · exact h5
      · rcases List.mem_cons.1 ((h b).2 (by simp)) with h6 | h6
        · exact h6.symm
        · have h7 := h3 a h5
          have h8 := h1 b h6
          rw [kl_asym h7] at h8; cases h8
    subst hab
    congr 1
    refine srtK_ext h2 h4 fun x => ?_
    constructor
    · intro hx
      rcases List.mem_cons.1 ((h x).1 (List.mem_cons_of_mem _ hx)) with rfl | h5
      · have := h1 x hx
        rw [kl_irr] at this; cases this
      · exact h5
    · intro hx
      rcases List.mem_cons.1 ((h x).2 (List.mem_cons_of_mem _ hx)) with rfl | h5
      · have := h3 x hx
        rw [kl_irr] at this; cases this
      · exact h5
theorem kc_srt {c : ByteArray → List AV} {L : List Ent} (h : Srt L) : SrtK (kc c L) := List.pairwise_map.2 h
theorem kc_mem {K : Hl} {c : ByteArray → List AV} {L : List Ent} (hc : StoR K L c) (x : KC) : x ∈ kc c L ↔ c x.1 = x.2 ∧ x.2 ≠ [] := by
  unfold kc
  rw [List.mem_map]
  constructor
  · rintro ⟨e, he, rfl⟩
    exact ⟨rfl, (hc.at_ e he).2⟩
  · rintro ⟨h1, h2⟩
    by_cases hk : hasL L x.1
    · obtain ⟨e, he, hx⟩ := hk
      refine ⟨e, he, ?_⟩
      rw [hx, h1]
    · rw [hc.no x.1 hk] at h1
      exact absurd h1.symm h2
theorem kc_in (c : ByteArray → List AV) (L : List Ent) (f t : ByteArray) : kc c (inL L f t) = (kc c L).filter fun x => inB f t x.1 := by
  unfold kc inL
  rw [List.filter_map]; rfl
theorem allC_kc {c : ByteArray → List AV} {last : Int} (hg : Gd c last) (L : List Ent) : allC c L = kc c L := by
  unfold allC kc
  rw [List.map_map]
  refine List.map_congr_left fun e he => ?_
  show (e.1, allV (c e.1)) = (e.1, c e.1)
  rw [hg.all]
theorem sto_srt {S : Nat} {L : List Ent} {last : Int} {k : Nat} (hs : Sat w F) (hk : F[k]? = some (sto S L last)) : Srt L := by
  obtain ⟨T, h⟩ := sto_open (hs.foc hk)
  exact tree_srt h.sw
/-- the rows of these chains. -/
def RowsM (c : ByteArray → List AV) (X : List KC) : Prop := SrtK X ∧ ∀ x, x ∈ X ↔ c x.1 = x.2 ∧ x.2 ≠ []
theorem RowsM.eq {K : Hl} {c : ByteArray → List AV} {X : List KC} {L : List Ent} (h : RowsM c X) (hc : StoR K L c) (hL : Srt L) : kc c L = X :=
  srtK_ext (kc_srt hL) h.1 fun x => by rw [kc_mem hc, h.2]

/-- what a scan tells. -/
noncomputable def foundL (at' : Int) (X : List KC) : List (ByteArray × AV) := X.filterMap fun x => if (valV x.2 at').2 = true then some (x.1, (valV x.2 at').1) else none
theorem run_scan {m at' : Int} : ∀ (X : List KC) (s : List (ByteArray × AV)), runC (stepS m at') s X = s ++ (foundL at' X).take (m - s.length).toNat
  | [], s => by simp [runC, foundL]
  | x :: X, s => by
    show (if (stepS m at' s x).2 = true then runC (stepS m at') (stepS m at' s x).1 X else (stepS m at' s x).1) = _
    by_cases h : m ≤ (s.length : Int)
    · have : stepS m at' s x = (s, false) := if_pos h
      rw [this]
      have h0 : (m - s.length).toNat = 0 := by omega
      rw [h0]; simp
    · by_cases hv : (valV x.2 at').2 = true
      · have : stepS m at' s x = (s ++ [(x.1, (valV x.2 at').1)], true) := by unfold stepS; rw [if_neg h, if_pos hv]
        rw [this]
        simp only [if_true]
        rw [run_scan X]
        have hf : foundL at' (x :: X) = (x.1, (valV x.2 at').1) :: foundL at' X := by
          unfold foundL
          rw [List.filterMap_cons, if_pos hv]
        rw [hf]
        have h1 : (m - s.length).toNat = (m - (s ++ [(x.1, (valV x.2 at').1)]).length).toNat + 1 := by
          rw [List.length_append]
          simp only [List.length_cons, List.length_nil]
          omega
        rw [h1, List.take_succ_cons, List.append_assoc]; rfl
      · have : stepS m at' s x = (s, true) := by unfold stepS; rw [if_neg h, if_neg hv]
        rw [this]
        simp only [if_true]
        rw [run_scan X]
        have hf : foundL at' (x :: X) = foundL at' X := by
          unfold foundL
          rw [List.filterMap_cons, if_neg hv]
        rw [hf]
end Go.Cb

/-
  The page's example: holds.
-/
set_option linter.unusedVariables false
set_option linter.unusedSimpArgs false
namespace Go.Cb
open Classical
variable {w : World} {F : List HP} {Q Q' : Value → World → Prop}

abbrev kA : ByteArray := { data := #[97] }
theorem bld83_4 : bldV Pg 83 [(2, int 4)] = some (.agg #[.slice none 0 0, u64 0, int 4]) := by kernel_rfl
theorem bld116_a : bldV Pg 116 [(0, .string kA), (2, .agg #[.slice none 0 0, u64 0, int 4])] = some (.agg #[.string kA, .bool false, .slice none 0 0, u64 0, int 4]) := by kernel_rfl
theorem bld116_d : bldV Pg 116 [(0, .string kA), (1, .bool true)] = some (.agg #[.string kA, .bool true, .slice none 0 0, u64 0, int 0]) := by kernel_rfl
theorem bld67_2 (s : Int) (a : Option Addr) (n c : Nat) : bldV Pg 67 [(0, u64 s), (1, .slice a n c)] = some (.agg #[u64 s, .slice a n c]) := by kernel_rfl
theorem bld67_1 (s : Int) : bldV Pg 67 [(0, u64 s)] = some (.agg #[u64 s, .slice none 0 0]) := by kernel_rfl

def cg1 : Cg := ⟨kA, false, nilV1, 0, 4⟩
def cg2 : Cg := ⟨kA, true, nilV1, 0, 0⟩
def av1 : AV := ⟨1, false, [], 0, 4⟩
def av2 : AV := ⟨2, true, [], 0, 0⟩
theorem rcg1 (K : Hl) : Rcg K 1 [cg1] [(kA, av1)] := ⟨rfl, fun i x a hx ha => by
  cases i with
  | zero => simp at hx ha; subst hx ha; exact ⟨rfl, rfl, rfl, rfl, rfl, RdS.nil none 0⟩
  | succ i => simp at hx⟩
theorem rcg2 (K : Hl) : Rcg K 2 [cg2] [(kA, av2)] := ⟨rfl, fun i x a hx ha => by
  cases i with
  | zero => simp at hx ha; subst hx ha; exact ⟨rfl, rfl, rfl, rfl, rfl, RdS.nil none 0⟩
  | succ i => simp at hx⟩
theorem right1 : RightP [av1] := by
  rw [right_iff]; simp [av1]
theorem right2 : RightP [av2, av1] := by
  rw [right_iff]; simp [av1, av2, bareA]
theorem key_a : keyR kA := by unfold keyR; decide
theorem kl_a : kl noB kA = true := by
  unfold kl
  simp [ByteArray.toList, ByteArray.toList.loop, noB, kA, ByteArray.size, Op.bytesLess, ByteArray.get!]

/-- a slice of one, given away. -/
theorem one_cg1 {K : Hl} {x : Cg} {κ : Value → World → R} (hs : Sat w (kn K :: F)) (hκ : ∀ nb K' w', Le K K' → RdS K' 65 5 encCg (sl nb 0 1 1) [x] → Sat w' (kn K' :: F) → Sm w w' → Ok (κ (sl nb 0 1 1) w') Q) :
    Ok (rd2 (rawV Pg (Instr.buildSlice 65 1 #[(0, aggC x)]) w) κ) Q := by
  refine go_bs1 T65 enCg (by decide) (x := x) rfl hs fun nb w1 h1 _ s1 => ?_
  have h2 : Sat w1 (slH 116 5 encCg (sl nb 0 1 1) [x] :: kn K :: F) := slH_mk (l := encCg x) rfl rfl (by simp) (by simp [encCg]) h1
  obtain ⟨K', l1, hr, h3⟩ := share T65 enCg h2
  exact hκ nb K' w1 l1 hr h3 s1

theorem kn_emp (hs : Sat w F) : Sat w (kn (fun _ => none) :: F) := by
  have := Sat.emp.2 hs
  exact this.mono fun h hh => funext hh

theorem at1 : atV [av2, av1] 1 = (av1, true) := by
  unfold atV
  rw [if_pos right2]
  have : atA [av2, av1] 1 = some av1 := rfl
  rw [this]
theorem at2 : atV [av2, av1] 2 = (av2, true) := by
  unfold atV
  rw [if_pos right2]
  have : atA [av2, av1] 2 = some av2 := rfl
  rw [this]
theorem val1 : valV [av2, av1] 1 = (av1, true) := by
  unfold valV
  rw [at1, if_pos ⟨rfl, rfl⟩]
theorem val2 : valV [av2, av1] 2 = (zA, false) := by
  unfold valV
  rw [at2, if_neg]
  rintro ⟨_, h⟩
  cases h

noncomputable abbrev c1 : ByteArray → List AV := setC (fun _ => []) kA [av1]
noncomputable abbrev c2 : ByteArray → List AV := setC c1 kA (av2 :: c1 kA)
theorem c1_a : c1 kA = [av1] := if_pos rfl
theorem c2_a : c2 kA = [av2, av1] := by
  show (if kA = kA then _ else _) = _
  rw [if_pos rfl, c1_a]
theorem c2_k (k : ByteArray) : c2 k = [av2, av1] ∧ k = kA ∨ c2 k = [] ∧ k ≠ kA := by
  by_cases h : k = kA
  · subst h; exact .inl ⟨c2_a, rfl⟩
  · refine .inr ⟨?_, h⟩
    show (if k = kA then _ else if k = kA then _ else _) = _
    rw [if_neg h, if_neg h]
theorem rows2 : RowsM c2 [(kA, [av2, av1])] := by
  refine ⟨List.pairwise_singleton _ _, fun x => ?_⟩
  rw [List.mem_singleton]
  constructor
  · rintro rfl; exact ⟨c2_a, by simp⟩
  · rintro ⟨h1, h2⟩
    rcases c2_k x.1 with ⟨h3, h4⟩ | ⟨h3, h4⟩
    · rw [h3] at h1
      exact Prod.ext h4 h1.symm
    · rw [h3] at h1
      exact absurd h1.symm h2
theorem gd2 : Gd c2 2 := by
  refine ⟨fun k => ?_, fun k a ha => ?_, by decide, fun k h => ?_⟩
  · rcases c2_k k with ⟨h3, _⟩ | ⟨h3, _⟩
    · rw [h3]; exact right2
    · rw [h3]; exact right_nil
  · rcases c2_k k with ⟨h3, _⟩ | ⟨h3, _⟩
    · rw [h3] at ha
      simp at ha
      rcases ha with rfl | rfl <;> decide
    · rw [h3] at ha; simp at ha
  · rcases c2_k k with ⟨_, h4⟩ | ⟨h3, _⟩
    · rw [h4]; exact key_a
    · exact absurd h3 h
theorem bd2 : Bd c2 2 := by
  refine ⟨fun k a ha => ?_, fun k => ?_⟩
  · rcases c2_k k with ⟨h3, _⟩ | ⟨h3, _⟩
    · rw [h3] at ha
      simp at ha
      rcases ha with rfl | rfl <;> decide
    · rw [h3] at ha; simp at ha
  · rcases c2_k k with ⟨h3, _⟩ | ⟨h3, _⟩ <;> rw [h3] <;> simp
theorem c1_k (k : ByteArray) : c1 k = [av1] ∧ k = kA ∨ c1 k = [] ∧ k ≠ kA := by
  by_cases h : k = kA
  · subst h; exact .inl ⟨c1_a, rfl⟩
  · refine .inr ⟨?_, h⟩
    show (if k = kA then _ else _) = _
    rw [if_neg h]
theorem bd1 : Bd c1 2 := by
  refine ⟨fun k a ha => ?_, fun k => ?_⟩
  · rcases c1_k k with ⟨h3, _⟩ | ⟨h3, _⟩
    · rw [h3] at ha
      simp at ha
      subst ha; decide
    · rw [h3] at ha; simp at ha
  · rcases c1_k k with ⟨h3, _⟩ | ⟨h3, _⟩ <;> rw [h3] <;> simp
theorem bd0 : Bd (fun _ => []) 2 := ⟨fun k a ha => by simp at ha, fun k => by simp⟩

theorem holds_ok (hs : Sat w F) : Ok (Fn Pg 30 [] w) fun v w' => v = .bool true ∧ Sat w' F ∧ Sm w w' := by
  rw [F30]; unfold S30
  refine Ok.bind (snew_ok (kn_emp hs)) ?_
  rintro v w1 ⟨S, rfl, h1, s1⟩
  refine Ok.rd bld83_4 (Ok.rd bld116_a ?_)
  refine one_cg1 (x := cg1) h1.sw fun nb1 K1 w2 l1 hr1 h2 s2 => ?_
  refine Ok.rd (bld67_2 _ _ _ _) ?_
  refine Ok.bind (apply_ok (n := 2) (gs := [(kA, av1)]) bd0 (by decide) (by simp [av1]) (by simp) (by simp) (StoR.new K1) hr1 (rcg1 K1) h2) ?_
  rintro v w3 ⟨K3, l3, s3, hv⟩
  rcases hv with ⟨_, _, rfl, L1, hc1, hL1, h3⟩ | ⟨hno, _⟩
  rotate_left
  · exact absurd ⟨⟨right1, key_a, kl_a, trivial⟩, by decide⟩ hno
  have hc1 : StoR K3 L1 c1 := hc1
  refine Ok.rd bld116_d ?_
  refine one_cg1 (x := cg2) h3 fun nb2 K4 w4 l4 hr2 h4 s4 => ?_
  refine Ok.rd (bld67_2 _ _ _ _) ?_
  have hl1 : L1.length ≤ 1 := hL1
  refine Ok.bind (apply_ok (n := 2) (gs := [(kA, av2)]) bd1 (by decide) (by simp [av2]) (by simp) (by omega) (hc1.mono l4) hr2 (rcg2 K4) h4) ?_
  rintro v w5 ⟨K5, l5, s5, hv⟩
  rcases hv with ⟨_, _, rfl, L2, hc2, hL2, h5⟩ | ⟨hno, _⟩
  rotate_left
  · exact absurd ⟨⟨by rw [c1_a]; exact right2, key_a, kl_a, trivial⟩, by decide⟩ hno
  have hc2 : StoR K5 L2 c2 := hc2
  have hl2 : L2.length ≤ 2 := by have : L2.length ≤ L1.length + 1 := hL2; omega
  refine Ok.rd (bld67_1 _) ?_
  refine Ok.bind (apply_ok (n := 2) (gs := []) (cs := []) bd2 (by decide) (by simp) (by simp) (by omega) hc2 (RdS.nil none 0) ⟨rfl, fun i x a hx => by simp at hx⟩ h5) ?_
  rintro v w6 ⟨K6, l6, s6, hv⟩
  rcases hv with ⟨_, hlt, _⟩ | ⟨_, rfl, h6⟩
  · exact absurd hlt (by decide)
  have hc6 := hc2.mono l6
  have hL : Srt L2 := sto_srt (k := 1) h6 rfl
  have hrows : ∀ K, StoR K L2 c2 → kc c2 L2 = [(kA, [av2, av1])] := fun K h => rows2.eq h hL
  have hrw := hrows _ hc6
  have sA := s1.trans (s2.trans (s3.trans (s4.trans (s5.trans s6))))
  refine Ok.bind (read_ok (s := 1) (key := kA) hc6 bd2 (by decide) h6) ?_
  rintro v w7 ⟨K7, x, l7, rfl, hx, h7, s7⟩
  rw [c2_a, at1] at hx ⊢
  have hc7 := hc6.mono l7
  refine Ok.rd rfl (Ok.rd rfl ?_)
  refine go_tmpG ty85 rfl (ones_ver x) h7 fun nb w8 h8 s8 => ?_
  have h8 : Sat w8 (pt nb (encVer x) 85 :: kn K7 :: sto S L2 2 :: F) := h8
  refine Ok.rd2 bin_eql (t_ok rfl rfl (t_ok rfl (gr2 bin_eql) (pk_t rfl ?_)))
  refine t_ok rfl rfl (t_ok rfl (gr2 bin_eql) (pk_t rfl ?_))
  refine t_ok rfl rfl (pk_t rfl ?_)
  refine t_ok rfl (gr (fld85_2 _ _)) (t_ok rfl (gr (fld83_2 _ _)) (t_ok rfl (gr (ldv_4 h8 0 rfl)) (t_ok rfl (gr2 bin_eql) (pk_t rfl ?_))))
  rw [hx.size]
  have hall : allC c2 L2 = [(kA, [av2, av1])] := (allC_kc gd2 L2).trans hrw
  have hne : ∀ k, c2 k ≠ [] → allV (c2 k) ≠ [] := fun k h => by rw [gd2.all]; exact h
  refine t_ok rfl rfl (t_call rfl (live_ok (n := 2) (by decide) hc7 bd2 (by omega) hne (h8.re [1, 2, 0] (by decide))) ?_)
  rintro v w9 ⟨rfl, K9, l9, h9, s9⟩
  rw [hall]
  refine t_ok rfl (gr2 bin_eql) (pk_t rfl ?_)
  have hc9 := hc7.mono l9
  refine t_ok rfl rfl (t_call rfl (versions_ok (n := 2) (by decide) hc9 bd2 (by omega) hne h9) ?_)
  rintro v w10 ⟨rfl, K10, l10, h10, s10⟩
  rw [hall]
  refine t_ok rfl (gr2 bin_eql) (pk_t rfl ?_)
  have hc10 := hc9.mono l10
  refine t_ok rfl rfl (t_ok rfl (gr2 (slast_ok h10 1 rfl)) (t_ok rfl (gr2 bin_eq64) (pk_t rfl ?_)))
  refine t_ok rfl rfl (t_ok rfl (gr bld36_0) (t_call rfl (scan_ok (n := 2) (at' := 1) (m := 9) (f := noB) (t := noB) (by decide) hc10 bd2 (by omega) h10) ?_))
  rintro v w11 ⟨K11, xs, l11, hr11, hf11, h11, s11⟩
  rw [in_all, hrw, run_scan] at hf11
  have hx1 : xs.length = 1 := by
    rw [hf11.len]
    have : foundL 1 [(kA, [av2, av1])] = [(kA, av1)] := by
      unfold foundL
      rw [List.filterMap_cons]
      rw [val1]; rfl
    rw [this]; rfl
  refine t_ok rfl (gr2 (hr11.len T73 w11)) (t_ok rfl (gr2 bin_eql) ?_)
  rw [hx1]
  refine pk_t rfl ?_
  have hc11 := hc10.mono l11
  refine t_ok rfl rfl (t_ok rfl (gr bld36_0) (t_call rfl (scan_ok (n := 2) (at' := 2) (m := 9) (f := noB) (t := noB) (by decide) hc11 bd2 (by omega) h11) ?_))
  rintro v w12 ⟨K12, ys, l12, hr12, hf12, h12, s12⟩
  rw [in_all, hrw, run_scan] at hf12
  have hx2 : ys.length = 0 := by
    rw [hf12.len]
    have : foundL 2 [(kA, [av2, av1])] = [] := by
      unfold foundL
      rw [List.filterMap_cons]
      rw [val2]; rfl
    rw [this]; rfl
  refine t_ok rfl (gr2 (hr12.len T73 w12)) (t_ok rfl (gr2 bin_eql) ?_)
  rw [hx2]
  refine pk_t rfl ?_
  exact ⟨_, _, rfl, rfl, h12.drop.drop.drop, sA.trans (s7.trans (s8.trans (s9.trans (s10.trans (s11.trans s12)))))⟩
end Go.Cb

/-
  MvccNil, whole.
-/
set_option linter.unusedVariables false
set_option linter.unusedSimpArgs false
namespace Go.Cb
open Classical
variable {w : World} {F : List HP} {Q Q' : Value → World → Prop}

theorem fld70_1 (b o : Nat) : fldA Pg 70 (ptr b o) 1 = some (ptr b (o + 1)) := by kernel_rfl
theorem fld70_2 (b o : Nat) : fldA Pg 70 (ptr b o) 2 = some (ptr b (o + 3)) := by kernel_rfl
theorem fld70_3 (b o : Nat) : fldA Pg 70 (ptr b o) 3 = some (ptr b (o + 4)) := by kernel_rfl
theorem ldm {b : Nat} {x : MAct} (h : Sat w F) (k : Nat) (hk : F[k]? = some (pt b (encAc x) 70)) : ldV Pg 70 (ptr b 0) w = some (aggAc x) := ld_agg a70 ty70 rfl h k hk
theorem ldm_1 {b : Nat} {x : MAct} (h : Sat w F) (k : Nat) (hk : F[k]? = some (pt b (encAc x) 70)) : ldV Pg 67 (ptr b (0 + 1)) w = some (.agg #[u64 x.st, x.cv.1]) := by
  obtain ⟨i, z, h1, h2, _⟩ := ty_of ty67
  rw [at_load (h.foc hk).at (o := 0 + 1) (n := 2) (by simp [encAc]) a67 h1 h2]; rfl
theorem ldm_3 {b : Nat} {x : MAct} (h : Sat w F) (k : Nat) (hk : F[k]? = some (pt b (encAc x) 70)) : ldV Pg 9 (ptr b (0 + 3)) w = some (.string x.key) := (ldV_sc a9 _ _).trans ((h.foc hk).at.cell 3)
theorem ldm_4 {b : Nat} {x : MAct} (h : Sat w F) (k : Nat) (hk : F[k]? = some (pt b (encAc x) 70)) : ldV Pg 68 (ptr b (0 + 4)) w = some x.sv.1 := (ldV_sc a68 _ _).trans ((h.foc hk).at.cell 4)
theorem bin_sneq {st : Bool} {t : TypeId} {ox oy : Operand} {a b : ByteArray} {w : World} : binG st Pg .neq t ox oy (.string a) (.string b) w = some (.bool !(decide (a = b)), w) := by
  have : binG st Pg .neq t ox oy (.string a) (.string b) w = some (.bool !(a.toList == b.toList), w) := rfl
  rw [this, key_beq]
theorem bin_ne64 {st : Bool} {t : TypeId} {ox oy : Operand} {a b : Int} {w : World} : binG st Pg .neq t ox oy (u64 a) (u64 b) w = some (.bool !(a == b), w) := rfl
theorem same_nil : Fn Pg 44 [.slice none 0 0, .slice none 0 0] w = some (.bool true, w) := by
  have : Ok (Fn Pg 44 [.slice none 0 0, .slice none 0 0] w) fun v w' => v = .bool true ∧ w' = w := by
    rw [F44]; unfold S44
    refine Ok.rd2 (len_sl T68.u _ _ _ _) (Ok.rd2 (len_sl T68.u _ _ _ _) (Ok.rd2 bin_neq (Ok.cf rfl ?_)))
    rw [S44_L1_eq]; unfold S44_L1
    refine Ok.rd2 (len_sl T68.u _ _ _ _) (Ok.rd2 bin_lss (Ok.cf rfl ?_))
    exact ⟨_, _, rfl, rfl, rfl⟩
  obtain ⟨v, w', h1, rfl, rfl⟩ := this
  exact h1

set_option maxRecDepth 100000 in
theorem nil_round {s : Value} {A : HP} {K : Hl} {b i : Nat} {x : MAct} {e : Env} {Q : Value → World → Prop} (hN : NoS s A) (hi : i < 2) (hs : Sat w (kn K :: A :: pt b (encAc x) 70 :: F)) (e1 : e 1 = ptr b 0) (e3 : e 3 = s) (e4 : e 4 = int i) (e102 : e 102 = undef)
    (hκ : ∀ (K' : Hl) (S : Nat) (e' : Env) (w' : World), Le K K' → Sat w' (kn K' :: pt S [.pointer none, u64 0] 95 :: A :: pt b (encAc x) 70 :: F) → Sm w w' → e' 1 = ptr b 0 → e' 3 = ptr S 0 → e' 4 = int (i + 1 : Nat) → e' 102 = undef →
      Ok (evalLoop (cx10 (Fn Pg) (Rnd Pg)) (cdA Go.Proofs.Try.f10 [1, 1, 1, 0, 1, 0, 0]) (K10_2 (Fn Pg) (Rnd Pg)) e' w') Q) :
    Ok (evalLoop (cx10 (Fn Pg) (Rnd Pg)) (cdA Go.Proofs.Try.f10 [1, 1, 1, 0, 1, 0, 0]) (K10_2 (Fn Pg) (Rnd Pg)) e w) Q := by
  rw [S10_L1_eq]; unfold S10_L1
  rw [e1, e3, e4, e102]
  refine Ok.rd2 bin_lss (Ok.ct (by simp; omega) ?_)
  refine Ok.rd (fld70_2 _ _) (Ok.rd (ldm_3 hs 2 rfl) ?_)
  refine Ok.bind (read_no hN hs) ?_
  rintro v w1 ⟨K1, y1, l1, rfl, _, h1, s1⟩
  refine Ok.rd rfl (Ok.rd rfl ?_)
  refine go_tmpG ty85 rfl (ones_ver y1) h1 fun nb1 w2 h2 s2 => ?_
  have h2 : Sat w2 (kn K1 :: A :: pt b (encAc x) 70 :: F) := h2.drop
  refine Ok.rd (fld70_2 _ _) (Ok.rd (ldm_3 h2 2 rfl) ?_)
  refine Ok.bind (newest_no hN h2) ?_
  rintro v w3 ⟨K3, y3, l3, rfl, _, h3, s3⟩
  refine Ok.rd rfl (Ok.rd rfl ?_)
  refine go_tmpG ty85 rfl (ones_ver y3) h3 fun nb3 w4 h4 s4 => ?_
  have h4 : Sat w4 (kn K3 :: A :: pt b (encAc x) 70 :: F) := h4.drop
  refine Ok.rd (fld70_2 _ _) (Ok.rd (ldm_3 h4 2 rfl) (Ok.rd (fld70_3 _ _) (Ok.rd (ldm_4 h4 2 rfl) ?_)))
  refine Ok.rd2 (vac_no hN h4.sw) (Ok.rd rfl (Ok.rd rfl (Ok.rd rfl ?_)))
  refine Ok.rd (fld70_1 _ _) (Ok.rd (ldm_1 h4 2 rfl) ?_)
  refine Ok.bind (apply_no hN h4.sw) ?_
  rintro v w5 ⟨rfl, h5, s5⟩
  have sA := s1.trans (s2.trans (s3.trans (s4.trans s5)))
  refine Ok.rd2 bin_neq (f_ok rfl rfl (pk_f rfl (f_ok rfl rfl (pk_f rfl (f_ok rfl rfl (f_ok rfl (gr2 bin_sneq) (pk_f rfl ?_)))))))
  refine f_ok (by simp) rfl (f_ok (by simp) (gr2 (len_sl T76.u _ _ _ _)) (f_ok (by simp) (gr2 bin_neq) (pk_f (by simp) ?_)))
  refine f_ok rfl rfl (f_ok rfl (gr (un_not _)) (pk_f rfl ?_))
  refine f_ok rfl rfl (f_ok rfl (gr bld36_0) ?_)
  refine f_call rfl (scan_no hN h5) ?_
  rintro v w6 ⟨rfl, h6, s6⟩
  refine f_ok rfl (gr2 (len_sl T73.u _ _ _ _)) (f_ok rfl rfl ?_)
  refine f_call rfl (rows33_no hN h6) ?_
  rintro v w7 ⟨rfl, h7, s7⟩
  have h7 : Sat w7 (kn K3 :: A :: pt b (encAc x) 70 :: F) := h7.sw
  refine f_ok rfl (gr2 (len_sl T71.u _ _ _ _)) (f_ok rfl (gr2 (bin_addn (a := 0) (b := 0) (by omega))) (f_ok rfl rfl ?_))
  refine f_call rfl (versions_no hN h7) ?_
  rintro v w8 ⟨rfl, h8, s8⟩
  refine f_ok rfl (gr2 (bin_addn (a := 0) (b := 0) (by omega))) (f_ok rfl rfl ?_)
  refine f_call rfl (live_no hN h8) ?_
  rintro v w9 ⟨rfl, h9, s9⟩
  refine f_ok rfl (gr2 (bin_addn (a := 0) (b := 0) (by omega))) (f_ok rfl (gr2 bin_neq) (pk_f rfl ?_))
  refine f_ok rfl rfl (f_ok rfl (gr2 (last_no hN h9.sw)) (f_ok rfl (gr2 bin_ne64) (pk_f rfl ?_)))
  refine f_ok rfl rfl (f_ok rfl (gr2 (copy_no hN h9.sw)) (f_ok rfl (gr2 (neq_ptr u95)) (pk_f rfl (Ok.cf rfl ?_))))
  refine Ok.rd bld95_0 ?_
  refine go_box (l := [.pointer none, u64 0]) rfl h9 fun S w10 h10 s10 => ?_
  refine Ok.rd2 (bin_add1 (by omega)) ?_
  refine hκ K3 S _ w10 (l1.trans l3) h10.sw (sA.trans (s6.trans (s7.trans (s8.trans (s9.trans s10))))) ?_ ?_ ?_ ?_
  · exact e1
  · rfl
  · rfl
  · exact e102

theorem nil_end {s : Value} {A : HP} {K : Hl} {e : Env} (hs : Sat w (kn K :: F)) (e4 : e 4 = int 2) (e102 : e 102 = undef) :
    Ok (evalLoop (cx10 (Fn Pg) (Rnd Pg)) (cdA Go.Proofs.Try.f10 [1, 1, 1, 0, 1, 0, 0]) (K10_2 (Fn Pg) (Rnd Pg)) e w) fun v w' => v = .bool true ∧ Sat w' (kn K :: F) ∧ Sm w w' := by
  rw [S10_L1_eq]; unfold S10_L1
  rw [e4, e102]
  refine Ok.rd2 bin_lss (Ok.cf rfl ?_)
  refine Ok.rd2 same_nil ?_
  refine t_call rfl (holds_ok hs) ?_
  rintro v w1 ⟨rfl, h1, s1⟩
  exact pk_t rfl ⟨_, _, rfl, rfl, h1, s1⟩

theorem mnil_ok {K : Hl} {x : MAct} {a : AAct} (hx : Rac K x a) (hs : Sat w (kn K :: F)) : Ok (Fn Pg 10 [aggAc x] w) fun v w' => v = .bool true ∧ ∃ K', Le K K' ∧ Sat w' (kn K' :: F) ∧ Sm w w' := by
  rw [F10]; unfold S10
  refine go_box (l := encAc x) rfl hs fun b w1 h1 s1 => ?_
  refine Ok.rd (ldm h1 0 rfl) ?_
  refine go_bs1 T58 enAc (by decide) (x := x) rfl h1 fun nb w2 h2 _ s2 => ?_
  have h3 : Sat w2 (slH 70 5 encAc (sl nb 0 1 1) [x] :: pt b (encAc x) 70 :: kn K :: F) := slH_mk (l := encAc x) rfl rfl (by simp) (by simp [encAc]) h2
  have h3 : Sat w2 (slH 70 5 encAc (sl nb 0 1 1) [x] :: kn K :: pt b (encAc x) 70 :: F) := h3.re [0, 2, 1] (by decide)
  obtain ⟨K2, l2, hr, h4⟩ := share T58 enAc h3
  have hxs : Racs K2 [x] [a] := ⟨rfl, fun i y c hy hc => by
    cases i with
    | zero => simp at hy hc; subst hy hc; exact hx.mono l2
    | succ i => simp at hy⟩
  refine Ok.bind (few29_ok hr hxs h4) ?_
  rintro v w3 ⟨⟨fb, rfl, _⟩, h5, s3⟩
  have sA := s1.trans (s2.trans s3)
  refine Ok.rd (un_not _) ?_
  cases fb with
  | false =>
    refine Ok.ct rfl ?_
    refine Ok.bind (holds_ok h5) ?_
    rintro v w4 ⟨rfl, h6, s4⟩
    exact ⟨_, _, rfl, rfl, K2, l2, (h6.re [1, 0] (by decide)).drop, sA.trans s4⟩
  | true =>
    refine Ok.cf rfl ?_
    have h6 : Sat w3 (kn K2 :: emp :: pt b (encAc x) 70 :: F) := (Sat.emp.2 h5).sw
    refine nil_round noS_nil (by decide) h6 rfl rfl rfl rfl fun K3 S e' w4 l3 h7 s4 e1 e3 e4 e102 => ?_
    have h8 : Sat w4 (kn K3 :: pt S [.pointer none, u64 0] 95 :: pt b (encAc x) 70 :: emp :: F) := h7.re [0, 1, 3, 2] (by decide)
    refine nil_round (noS_zero S) (by decide) h8 e1 e3 e4 e102 fun K4 S2 e'' w5 l4 h9 s5 e1 e3 e4 e102 => ?_
    refine Ok.mono (nil_end (s := ptr S2 0) (A := emp) h9 e4 e102) ?_
    rintro v w6 ⟨rfl, h10, s6⟩
    exact ⟨rfl, K4, l2.trans (l3.trans l4), (h10.re [1, 2, 3, 4, 0] (by decide)).drop.drop.drop.drop, sA.trans (s4.trans (s5.trans s6))⟩
end Go.Cb
