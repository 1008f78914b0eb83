/-
  The law TreeApart.
-/
import Derived.Test.YtialecgadoepjaaPl
set_option linter.unusedVariables false
set_option linter.unusedSimpArgs false
namespace Go.Cb
open Classical
variable {w : World} {F : List HP} {Q Q' : Value → World → Prop}

theorem t_chk {p : Prop} {k : Unit → R} (h : p) (hk : Ok (k ()) Q) : Ok (chk p k) Q := Ok.chk h hk

/-- are levels shaped? -/
theorem shp_ok {T : Nat} {L : List Ent} {lv : Value} (hs : Sat w (pt T [lv] 49 :: F)) : ldV Pg 47 (ptr T 0) w = some lv := ldL hs 0 rfl

theorem apart_end {X : HP} {T U Xr Yr : Nat} {L M : List Ent} {w : World} (hI : Ints L) (hJ : Ints M) (hL : L.length ≤ 1000) (hM : M.length ≤ 1000) (hs : Sat w (tree T L :: rl Xr L :: tree U M :: rl Yr M :: X :: F))
    {κ : Value → World → R} (hκ : ∀ x w, κ x w = some (x, w)) :
    Ok (rd (bldV Pg 36 []) fun x186 => rd2 (Fn Pg 19 [ptr T 0, x186, (.int .i64 1000)] (drw w)) fun x187 w188 =>
  rd (nilV (ptr Xr 0)) fun x189 =>
  rd (fldA Pg 49 x189 0) fun x190 =>
  rd (ldV Pg 47 x190 w188) fun x191 =>
  chk (holdsAt Pg none 47 x190 x191 (drw w)) fun _ =>
  rd2 (Fn Pg 25 [x187, x191] w188) fun x192 w193 =>
  rd2 (gate x192 true (fun _ =>  some (ptr U 0, w193)) w193) fun x194 _ =>
  rd2 (gate x192 true (fun _ => rd (bldV Pg 36 []) fun x196 => some (x196, w193)) w193) fun x197 _ =>
  rd2 (gate x192 true (fun _ => rd2 (Fn Pg 19 [x194, x197, (.int .i64 1000)] w193) fun x199 w200 => some (x199, w200)) w193) fun x201 w202 =>
  rd2 (gate x192 true (fun _ =>  some (ptr Yr 0, w202)) w202) fun x203 _ =>
  rd2 (gate x192 true (fun _ => rd (nilV x203) fun x205 => some (x205, w202)) w202) fun x206 _ =>
  rd2 (gate x192 true (fun _ => rd (fldA Pg 49 x206 0) fun x208 => some (x208, w202)) w202) fun x209 _ =>
  rd2 (gate x192 true (fun _ => rd (ldV Pg 47 x209 w202) fun x211 => some (x211, w202)) w202) fun x212 _ =>
  chk (holdsAt Pg (some (x192, true)) 47 x209 x212 w193) fun _ =>
  rd2 (gate x192 true (fun _ => rd2 (Fn Pg 25 [x201, x212] w202) fun x214 w215 => some (x214, w215)) w202) fun x216 w217 =>
  rd (pickV x192 x216 (.bool false)) fun x218 =>
  rd2 (gate x218 true (fun _ =>  some (ptr T 0, w217)) w217) fun x219 _ =>
  rd2 (gate x218 true (fun _ => rd2 (Fn Pg 16 [x219] w217) fun x221 w222 => some (x221, w222)) w217) fun x223 w224 =>
  rd2 (gate x218 true (fun _ =>  some (ptr Xr 0, w224)) w224) fun x225 _ =>
  rd2 (gate x218 true (fun _ => rd (nilV x225) fun x227 => some (x227, w224)) w224) fun x228 _ =>
  rd2 (gate x218 true (fun _ => rd (fldA Pg 49 x228 0) fun x230 => some (x230, w224)) w224) fun x231 _ =>
  rd2 (gate x218 true (fun _ => rd (ldV Pg 47 x231 w224) fun x233 => some (x233, w224)) w224) fun x234 _ =>
  chk (holdsAt Pg (some (x218, true)) 47 x231 x234 w217) fun _ =>
  rd2 (gate x218 true (fun _ => rd2 (lenG true Pg .len #[47] 3 #[false] [x234] w224) fun x236 w237 => some (x236, w237)) w224) fun x238 _ =>
  rd2 (gate x218 true (fun _ => rd2 (Fn Pg 17 [x223, x238] w224) fun x240 w241 => some (x240, w241)) w224) fun x242 w243 =>
  rd (pickV x218 x242 (.bool false)) fun x244 =>
  rd2 (gate x244 true (fun _ =>  some (ptr U 0, w243)) w243) fun x245 _ =>
  rd2 (gate x244 true (fun _ => rd2 (Fn Pg 16 [x245] w243) fun x247 w248 => some (x247, w248)) w243) fun x249 w250 =>
  rd2 (gate x244 true (fun _ =>  some (ptr Yr 0, w250)) w250) fun x251 _ =>
  rd2 (gate x244 true (fun _ => rd (nilV x251) fun x253 => some (x253, w250)) w250) fun x254 _ =>
  rd2 (gate x244 true (fun _ => rd (fldA Pg 49 x254 0) fun x256 => some (x256, w250)) w250) fun x257 _ =>
  rd2 (gate x244 true (fun _ => rd (ldV Pg 47 x257 w250) fun x259 => some (x259, w250)) w250) fun x260 _ =>
  chk (holdsAt Pg (some (x244, true)) 47 x257 x260 w243) fun _ =>
  rd2 (gate x244 true (fun _ => rd2 (lenG true Pg .len #[47] 3 #[false] [x260] w250) fun x262 w263 => some (x262, w263)) w250) fun x264 _ =>
  rd2 (gate x244 true (fun _ => rd2 (Fn Pg 17 [x249, x264] w250) fun x266 w267 => some (x266, w267)) w250) fun x268 w269 =>
  rd (pickV x244 x268 (.bool false)) fun x270 =>
  rd2 (gate x270 true (fun _ => rd2 (Fn Pg 12 [] w269) fun x271 w272 => some (x271, w272)) w269) fun x273 w274 =>
  rd (pickV x270 x273 (.bool false)) fun x275 => κ x275 w274) fun x w' => x = .bool true ∧ Sat w' (X :: F) ∧ Sm w w' := by
  obtain ⟨lx, hs⟩ := rl_open hs.sw
  obtain ⟨ly, hs⟩ := rl_open (hs.re [4, 0, 1, 2, 3] (by decide))
  have hs : Sat w (pt Yr [ly] 49 :: slH 112 2 encE ly M :: pt Xr [lx] 49 :: slH 112 2 encE lx L :: tree T L :: tree U M :: X :: F) := hs
  have hd := hs.drw
  refine Ok.rd bld36_0 ?_
  refine Ok.bind (twalk_ok (f := noB) (t := noB) (m := 1000) (hd.re [4, 0, 1, 2, 3] (by decide)) (by omega)) ?_
  rintro av w1 ⟨h1, s1⟩
  rw [walk_whole hL] at h1
  have h1 : Sat w1 (slH 40 2 encE av L :: tree T L :: pt Yr [ly] 49 :: slH 112 2 encE ly M :: pt Xr [lx] 49 :: slH 112 2 encE lx L :: tree U M :: X :: F) := h1
  refine Ok.rd (nil_ptr _ _) (Ok.rd (fld49_0 _ _) (Ok.rd (ldL h1 4 rfl) (Ok.chk (show ldV Pg 47 (ptr Xr 0) (drw w) = some lx from ldL hd 2 rfl) ?_)))
  refine Ok.bind (same_ok hI (by omega) (p := 0) (q := 5) rfl rfl h1) ?_
  rintro x w2 ⟨rfl, h2, s2⟩
  refine t_ok rfl rfl (t_ok rfl (by rw [bld36_0]; rfl) ?_)
  refine t_call rfl (twalk_ok (f := noB) (t := noB) (m := 1000) (h2.drop.re [5, 0, 1, 2, 3, 4] (by decide)) (by omega)) ?_
  rintro bv w3 ⟨h3, s3⟩
  rw [walk_whole hM] at h3
  have h3 : Sat w3 (slH 40 2 encE bv M :: tree U M :: tree T L :: pt Yr [ly] 49 :: slH 112 2 encE ly M :: pt Xr [lx] 49 :: slH 112 2 encE lx L :: X :: F) := h3
  refine t_ok rfl rfl (t_ok rfl rfl (t_ok rfl (by rw [fld49_0]; rfl) (t_ok rfl (by rw [ldL h3 3 rfl]; rfl) ?_)))
  refine Ok.chk (fun _ => ldL h2 2 rfl) ?_
  refine t_call rfl (same_ok hJ (by omega) (p := 0) (q := 4) rfl rfl h3) ?_
  rintro x w4 ⟨rfl, h4, s4⟩
  have h4 : Sat w4 (slH 40 2 encE bv M :: tree U M :: tree T L :: pt Yr [ly] 49 :: slH 112 2 encE ly M :: pt Xr [lx] 49 :: slH 112 2 encE lx L :: X :: F) := h4
  refine pk_t rfl (t_ok rfl rfl ?_)
  have sh : ∀ {T : Nat} {L : List Ent} {w : World} {G : List HP}, Sat w (tree T L :: G) → L.length ≤ 1000 → Ok (Fn Pg 16 [ptr T 0] w) fun lv w' => ∃ rows, Sat w' (tree T L :: rowsH lv rows :: G) ∧ Sm w w' ∧ Shp rows L.length ∧ rows.length ≤ 2 ^ 21 := by
    intro T L w G hs hb
    obtain ⟨r, h, t, h1, h2, h3, h4, hs⟩ := tree_open hs
    subst h3
    have hh := ht_le h1 h2
    refine Ok.mono (levels_ok h1 hs (by omega) (by omega)) ?_
    rintro lv w1 ⟨g1, s1⟩
    exact ⟨lvs h [t], tree_mk h1 h2 rfl h4 rfl (g1.re [1, 2, 0] (by decide)), s1, shp_of h1 h2 (by omega), by rw [lvs_len]; omega⟩
  refine t_call rfl (sh (h4.re [2, 0, 1] (by decide)) hL) ?_
  rintro lv w5 ⟨rows, h5, s5, hsh, hrl⟩
  have h5 : Sat w5 (tree T L :: rowsH lv rows :: slH 40 2 encE bv M :: tree U M :: pt Yr [ly] 49 :: slH 112 2 encE ly M :: pt Xr [lx] 49 :: slH 112 2 encE lx L :: X :: F) := h5
  refine t_ok rfl rfl (t_ok rfl rfl (t_ok rfl (by rw [fld49_0]; rfl) (t_ok rfl (by rw [ldL h5 6 rfl]; rfl) ?_)))
  refine Ok.chk (fun _ => ldL h4 5 rfl) ?_
  refine t_ok rfl (gr2 (sl_len T47 (h5.foc (k := 7) rfl) w5)) ?_
  refine t_ok rfl (gr2 (shaped_ok (rows_facts h5.sw) hsh (by omega))) (pk_t rfl (t_ok rfl rfl ?_))
  refine t_call rfl (sh (h5.re [3, 0, 1, 2] (by decide)) hM) ?_
  rintro lv2 w6 ⟨rows2, h6, s6, hsh2, hrl2⟩
  have h6 : Sat w6 (tree U M :: rowsH lv2 rows2 :: tree T L :: rowsH lv rows :: slH 40 2 encE bv M :: pt Yr [ly] 49 :: slH 112 2 encE ly M :: pt Xr [lx] 49 :: slH 112 2 encE lx L :: X :: F) := h6
  refine t_ok rfl rfl (t_ok rfl rfl (t_ok rfl (by rw [fld49_0]; rfl) (t_ok rfl (by rw [ldL h6 5 rfl]; rfl) ?_)))
  refine Ok.chk (fun _ => ldL h5 4 rfl) ?_
  refine t_ok rfl (gr2 (sl_len T47 (h6.foc (k := 6) rfl) w6)) ?_
  refine t_ok rfl (gr2 (shaped_ok (rows_facts h6.sw) hsh2 (by omega))) (pk_t rfl ?_)
  refine t_call rfl (grows_ok h6) ?_
  rintro x w7 ⟨rfl, h7, s7⟩
  refine pk_t rfl ?_
  rw [hκ]
  exact ⟨_, _, rfl, rfl, h7.drop.drop.drop.drop.drop.drop.drop.drop.drop, s1.drw.trans (s2.trans (s3.trans (s4.trans (s5.trans (s6.trans s7)))))⟩

theorem half {T Xr i : Nat} {L : List Ent} {v : Value} {acts : List Act} {x : Bool} {G : List HP} {κ : Value → Value → Value → Value → Value → Value → Value → Value → World → R} (hx : x = decide ((i : Int) < (acts.length : Int))) (hf : ActsF v acts w) (hI : Ints L) (hb : L.length ≤ 2 ^ 28) (hs : Sat w (tree T L :: rl Xr L :: G))
    (hκ : ∀ y1 y2 y3 y4 y5 y6 y7 y8 w' L', pickV (.bool x) y8 (.bool false) = some (.bool false) → Sat w' (tree T L' :: rl Xr L' :: G) → Sm w w' → L'.length ≤ L.length + 1 → Ints L' → Ok (κ y1 y2 y3 y4 y5 y6 y7 y8 w') Q) :
    Ok (rd2 (gate (.bool x) true (fun _ => some (ptr T 0, w)) w) fun x1 w1 => rd2 (gate (.bool x) true (fun _ => some (ptr Xr 0, w1)) w1) fun x2 w2 =>
      rd2 (gate (.bool x) true (fun _ => some (v, w2)) w2) fun x3 w3 => rd2 (gate (.bool x) true (fun _ => some (int i, w3)) w3) fun x4 w4 =>
      rd2 (gate (.bool x) true (fun _ => rd (ixA Pg 22 x3 x4) fun y => some (y, w4)) w4) fun x5 w5 => rd2 (gate (.bool x) true (fun _ => rd (ldV Pg 28 x5 w5) fun y => some (y, w5)) w5) fun x6 w6 =>
      rd2 (gate (.bool x) true (fun _ => rd2 (Fn Pg 22 [x1, x2, x6] w6) fun y w => some (y, w)) w6) fun x7 w7 => rd2 (gate (.bool x) true (fun _ => rd (unV .not x7) fun y => some (y, w7)) w7) fun x8 w8 => κ x1 x2 x3 x4 x5 x6 x7 x8 w8) Q := by
  have hsrt : Srt L := by obtain ⟨_, _, _, _, _, _, h4, _⟩ := tree_open hs; exact h4
  cases x with
  | false =>
    refine t_no rfl (t_no rfl (t_no rfl (t_no rfl (t_no rfl (t_no rfl (t_no rfl (t_no rfl ?_)))))))
    exact hκ _ _ _ _ _ _ _ _ _ L rfl hs (Sm.refl _) (by omega) hI
  | true =>
    have hi : i < acts.length := by have := of_decide_eq_true hx.symm; omega
    obtain ⟨p, x1, x2, _⟩ := hf.at_ i _ (List.getElem?_eq_getElem hi)
    refine t_ok rfl rfl (t_ok rfl rfl (t_ok rfl rfl (t_ok rfl rfl (t_ok rfl (by rw [x1]; rfl) (t_ok rfl (by rw [x2]; rfl) ?_)))))
    refine t_call rfl (act_ok hs hb) ?_
    rintro x w1 ⟨rfl, h1, s1⟩
    refine t_ok rfl (by rw [un_not]; rfl) ?_
    exact hκ _ _ _ _ _ _ _ _ _ _ rfl h1 s1 (act_len hsrt _) (ints_act hI _)

theorem apart_loop2 {v1 v2 : Value} {am ao : List Act} {X : HP} {T U Xr Yr : Nat} (h1X : ∀ {w : World} {F : List HP} (k : Nat), Sat w F → F[k]? = some X → ActsF v1 am w) (h2X : ∀ {w : World} {F : List HP} (k : Nat), Sat w F → F[k]? = some X → ActsF v2 ao w) (hm : am.length ≤ 200) (ho : ao.length ≤ 200) :
    ∀ (j i : Nat) (L M : List Ent) (e : Env) (w : World) (F : List HP), i + j = max am.length ao.length → L.length ≤ 200 + i → M.length ≤ 200 + i → Ints L → Ints M → Sat w (tree T L :: rl Xr L :: tree U M :: rl Yr M :: X :: F) →
    e 1 = v1 → e 2 = v2 → e 7 = ptr T 0 → e 8 = ptr Xr 0 → e 10 = ptr U 0 → e 11 = ptr Yr 0 → e 12 = int i → e 131 = undef →
    Ok (evalLoop (cx5 (Fn Pg) (Rnd Pg)) (cdA Go.Proofs.Try.f5 [1, 1, 1, 1, 1, 0, 1, 0, 0]) (K5_4 (Fn Pg) (Rnd Pg)) e w) fun x w' => x = .bool true ∧ Sat w' (X :: F) ∧ Sm w w' := by
  intro j
  induction j with
  | zero =>
    intro i L M e w F hij hL hM hI hJ hs e1 e2 e7 e8 e10 e11 e12 e131
    have hf1 := h1X 4 hs rfl
    have hf2 := h2X 4 hs rfl
    rw [S5_L2_eq]; unfold S5_L2
    rw [e1, e2, e7, e8, e10, e11, e12, e131]
    have hx : decide ((i : Int) < (am.length : Int)) = false := by simp; omega
    refine Ok.rd2 (hf1.len _ _ _ _) (Ok.rd2 bin_lss ?_)
    rw [hx]
    refine f_ok rfl rfl (f_ok rfl rfl (f_ok rfl (gr2 (hf2.len _ _ _ _)) (f_ok rfl (gr2 bin_lss) (pk_f rfl ?_))))
    refine Ok.cf (by simp; omega) ?_
    exact apart_end hI hJ (by omega) (by omega) hs (κ := fun x w => some (x, w)) fun _ _ => rfl
  | succ j ih =>
    intro i L M e w F hij hL hM hI hJ hs e1 e2 e7 e8 e10 e11 e12 e131
    have hf1 := h1X 4 hs rfl
    have hf2 := h2X 4 hs rfl
    have sL : Srt L := by obtain ⟨_, _, _, _, _, _, h4, _⟩ := tree_open hs; exact h4
    have sM : Srt M := by obtain ⟨_, _, _, _, _, _, h4, _⟩ := tree_open (hs.re [2, 0, 1] (by decide)); exact h4
    rw [S5_L2_eq]; unfold S5_L2
    rw [e1, e2, e7, e8, e10, e11, e12, e131]
    refine Ok.rd2 (hf1.len _ _ _ _) (Ok.rd2 bin_lss ?_)
    have hpre : decide ((i : Int) < (am.length : Int)) = true ∨ (decide ((i : Int) < (am.length : Int)) = false ∧ decide ((i : Int) < (ao.length : Int)) = true) := by
      by_cases h1 : (i : Int) < (am.length : Int)
      · exact .inl (decide_eq_true h1)
      · exact .inr ⟨decide_eq_false h1, decide_eq_true (by omega)⟩
    rcases hpre with hx | ⟨hx, hy⟩
    case' inl =>
      rw [hx]
      refine Ok.f0 (Ok.f0 (Ok.f0 (Ok.f0 (Ok.rd (pick_t _ _) (Ok.ct rfl ?_)))))
    case' inr =>
      rw [hx]
      refine f_ok rfl rfl (f_ok rfl rfl (f_ok rfl (gr2 (hf2.len _ _ _ _)) (f_ok rfl (gr2 bin_lss) (pk_f rfl (Ok.ct hy ?_)))))
    all_goals
      refine Ok.rd2 (hf1.len _ _ _ _) (Ok.rd2 bin_lss ?_)
      refine half rfl hf1 hI (by omega) hs fun y1 y2 y3 y4 y5 y6 y7 y8 w1 L' hp1 h1 s1 hL' hI' => ?_
      refine Ok.rd hp1 ?_
      have g1 : Sat w1 (tree U M :: rl Yr M :: tree T L' :: rl Xr L' :: X :: F) := h1.re [2, 3, 0, 1] (by decide)
      have hf2' := h2X 4 g1 rfl
      refine f_ok rfl rfl (f_ok rfl rfl (f_ok rfl (gr2 (hf2'.len _ _ _ _)) (f_ok rfl (gr2 bin_lss) (f_ok rfl rfl ?_))))
      refine half rfl hf2' hJ (by omega) g1 fun z1 z2 z3 z4 z5 z6 z7 z8 w2 M' hp2 h2 s2 hM' hJ' => ?_
      refine f_ok rfl (by rw [hp2]; rfl) (pk_f rfl (Ok.cf rfl ?_))
      refine Ok.rd2 (bin_add1 (by omega)) ?_
      have g2 : Sat w2 (tree T L' :: rl Xr L' :: tree U M' :: rl Yr M' :: X :: F) := h2.re [2, 3, 0, 1] (by decide)
      refine Ok.mono (ih (i + 1) L' M' _ w2 F (by omega) (by omega) (by omega) hI' hJ' g2 ?_ ?_ ?_ ?_ ?_ ?_ ?_ ?_) ?_
      · exact e1
      · exact e2
      · exact e7
      · exact e8
      · exact e10
      · exact e11
      · rfl
      · exact e131
      · rintro x w' ⟨m1, m2, m3⟩
        exact ⟨m1, m2, s1.trans (s2.trans m3)⟩

theorem apart_loop1 {v0 v1 v2 : Value} {al am ao : List Act} {X : HP} {T Xr : Nat} (h0X : ∀ {w : World} {F : List HP} (k : Nat), Sat w F → F[k]? = some X → ActsF v0 al w) (h1X : ∀ {w : World} {F : List HP} (k : Nat), Sat w F → F[k]? = some X → ActsF v1 am w) (h2X : ∀ {w : World} {F : List HP} (k : Nat), Sat w F → F[k]? = some X → ActsF v2 ao w)
    (hl : al.length ≤ 200) (hm : am.length ≤ 200) (ho : ao.length ≤ 200) :
    ∀ (j i : Nat) (L : List Ent) (e : Env) (w : World) (F : List HP), i + j = al.length → L.length ≤ i → Ints L → Sat w (tree T L :: rl Xr L :: X :: F) →
    e 0 = v0 → e 1 = v1 → e 2 = v2 → e 7 = ptr T 0 → e 8 = ptr Xr 0 → e 9 = int i → e 131 = undef →
    Ok (evalLoop (cx5 (Fn Pg) (Rnd Pg)) (cdA Go.Proofs.Try.f5 [1, 1, 1, 0, 1, 0, 0]) (K5_2 (Fn Pg) (Rnd Pg)) e w) fun x w' => x = .bool true ∧ Sat w' (X :: F) ∧ Sm w w' := by
  intro j
  induction j with
  | zero =>
    intro i L e w F hij hL hI hs e0 e1 e2 e7 e8 e9 e131
    have hf := h0X 2 hs rfl
    rw [S5_L1_eq]; unfold S5_L1
    rw [e0, e7, e8, e9]
    refine Ok.rd2 (hf.len _ _ _ _) (Ok.rd2 bin_lss (Ok.cf (by simp; omega) ?_))
    refine Ok.bind (tcopy_ok hs) ?_
    rintro x w1 ⟨U, rfl, h1, s1⟩
    refine Ok.bind (rcopy_ok h1 (k := 2) rfl (by omega)) ?_
    rintro x w2 ⟨Yr, rfl, h2, s2⟩
    have g2 : Sat w2 (tree T L :: rl Xr L :: tree U L :: rl Yr L :: X :: F) := h2.re [2, 3, 1, 0] (by decide)
    refine Ok.mono (apart_loop2 h1X h2X hm ho (max am.length ao.length) 0 L L _ w2 F (by omega) (by omega) (by omega) hI hI g2 ?_ ?_ ?_ ?_ ?_ ?_ ?_ ?_) ?_
    · exact e1
    · exact e2
    · exact e7
    · exact e8
    · rfl
    · rfl
    · rfl
    · exact e131
    · rintro x w' ⟨m1, m2, m3⟩
      exact ⟨m1, m2, s1.trans (s2.trans m3)⟩
  | succ j ih =>
    intro i L e w F hij hL hI hs e0 e1 e2 e7 e8 e9 e131
    have hf := h0X 2 hs rfl
    have hi : i < al.length := by omega
    obtain ⟨p, x1, x2, _⟩ := hf.at_ i _ (List.getElem?_eq_getElem hi)
    have hsrt : Srt L := by obtain ⟨_, _, _, _, _, _, h4, _⟩ := tree_open hs; exact h4
    rw [S5_L1_eq]; unfold S5_L1
    rw [e0, e7, e8, e9, e131]
    refine Ok.rd2 (hf.len _ _ _ _) (Ok.rd2 bin_lss (Ok.ct (by simp; omega) ?_))
    refine Ok.rd x1 (Ok.rd x2 ?_)
    refine Ok.bind (act_ok hs (by omega)) ?_
    rintro x w1 ⟨rfl, h1, s1⟩
    have hl1 := act_len hsrt al[i]
    refine Ok.rd (un_not _) (Ok.cf rfl (Ok.rd2 (bin_add1 (by omega)) ?_))
    refine Ok.mono (ih (i + 1) _ _ w1 F (by omega) (by omega) (ints_act hI _) h1 ?_ ?_ ?_ ?_ ?_ ?_ ?_) ?_
    · exact e0
    · exact e1
    · exact e2
    · exact e7
    · exact e8
    · rfl
    · exact e131
    · rintro x w' ⟨m1, m2, m3⟩
      exact ⟨m1, m2, s1.trans m3⟩

theorem apart_ok {v0 v1 v2 : Value} {al am ao : List Act} {X : HP} (h0X : ∀ {w : World} {F : List HP} (k : Nat), Sat w F → F[k]? = some X → ActsF v0 al w) (h1X : ∀ {w : World} {F : List HP} (k : Nat), Sat w F → F[k]? = some X → ActsF v1 am w) (h2X : ∀ {w : World} {F : List HP} (k : Nat), Sat w F → F[k]? = some X → ActsF v2 ao w) (hs : Sat w (X :: F)) :
    Ok (Fn Pg 5 [v0, v1, v2] w) fun x w' => x = .bool true ∧ Sat w' (X :: F) ∧ Sm w w' := by
  rw [F5]; unfold S5
  obtain ⟨b0, hb0, hl0⟩ := few_ok (h0X 0 hs rfl)
  obtain ⟨b1, hb1, hl1⟩ := few_ok (h1X 0 hs rfl)
  obtain ⟨b2, hb2, hl2⟩ := few_ok (h2X 0 hs rfl)
  have fin : ∀ {κ : Value → World → R}, (∀ x w, κ x w = some (x, w)) → Ok (rd2 (Fn Pg 12 [] w) κ) fun x w' => x = .bool true ∧ Sat w' (X :: F) ∧ Sm w w' := by
    intro κ hκ
    refine Ok.bind (grows_ok hs) ?_
    rintro x w2 ⟨rfl, g1, g2⟩
    rw [hκ]
    exact ⟨_, _, rfl, rfl, g1, g2⟩
  refine Ok.rd2 hb0 (Ok.rd (un_not _) ?_)
  cases b0 with
  | false =>
    refine Ok.f0 (Ok.f0 (Ok.f0 (Ok.rd (pick_t _ _) (Ok.f0 (Ok.f0 (Ok.f0 (Ok.rd (pick_t _ _) (Ok.ct rfl ?_))))))))
    exact fin fun _ _ => rfl
  | true =>
    refine f_ok rfl rfl (f_ok rfl (gr2 hb1) (f_ok rfl (by rw [un_not]; rfl) (pk_f rfl ?_)))
    cases b1 with
    | false =>
      refine Ok.f0 (Ok.f0 (Ok.f0 (Ok.rd (pick_t _ _) (Ok.ct rfl ?_))))
      exact fin fun _ _ => rfl
    | true =>
      refine f_ok rfl rfl (f_ok rfl (gr2 hb2) (f_ok rfl (by rw [un_not]; rfl) (pk_f rfl ?_)))
      cases b2 with
      | false => exact Ok.ct rfl (fin fun _ _ => rfl)
      | true =>
        refine Ok.cf rfl ?_
        refine Ok.bind (new_ok hs) ?_
        rintro x w2 ⟨T, rfl, h2, s2⟩
        refine Ok.rd bld49_0 ?_
        refine go_box (l := [.slice none 0 0]) rfl h2 fun Xr w3 h3 s3 => ?_
        have h4 : Sat w3 (rl Xr [] :: tree T [] :: X :: F) := rl_mk (slH_nil none h3).sw
        refine Ok.mono (apart_loop1 h0X h1X h2X (hl0 rfl).1 (hl1 rfl).1 (hl2 rfl).1 al.length 0 [] _ w3 F (by omega) (Nat.zero_le _) (fun _ h => by simp at h) h4.sw rfl rfl rfl rfl rfl rfl rfl) ?_
        rintro x w' ⟨m1, m2, m3⟩
        exact ⟨m1, m2, s2.trans (s3.trans m3)⟩
end Go.Cb
