/-
  The document's list: Delete, Get, After, Walk, Copy.
-/
import Derived.Test.YtialecgadoepjaaRl
set_option linter.unusedVariables false
set_option linter.unusedSimpArgs false
namespace Go.Cb
open Classical
variable {w : World} {F : List HP} {Q Q' : Value → World → Prop}

theorem rdel_ok {X : Nat} {L : List Ent} {key : ByteArray} (hs : Sat w (rl X L :: F)) (hsr : Srt L) (hb : L.length ≤ 2 ^ 28) :
    Ok (Fn Pg 56 [ptr X 0, .string key] w) fun v w' => v = .bool (decide (hasL L key)) ∧ Sat w' (rl X (delL L key) :: F) ∧ Sm w w' := by
  rw [F56]; unfold S56
  refine Ok.bind (place_ok hs (k := 0) rfl (by omega)) ?_
  rintro v w1 ⟨l1, l2, b, hL, hf, rfl, h1, s1⟩
  obtain ⟨hb1, _, hp⟩ := putL_fits (y := vI 0) hL hf hsr
  refine Ok.rd rfl (Ok.rd rfl ?_)
  have hlen : l1.length ≤ L.length := by rw [hL]; simp
  cases b with
  | false =>
    refine Ok.cf rfl ⟨_, _, rfl, congrArg Value.bool hb1, ?_, s1⟩
    have : delL L key = L := by rw [hp, hL]; simp
    rw [this]; exact h1
  | true =>
    obtain ⟨e, r, rfl, _⟩ := (fits_has hf (by rw [← hL]; exact hsr)).1 rfl
    obtain ⟨lv, h1⟩ := rl_open h1
    refine Ok.ct rfl ?_
    have hd : Sat (drw w1) (pt X [lv] 49 :: slH 112 2 encE lv L :: F) := h1.drw
    refine go_bs0 T47 (enc := encE) hd fun a w2 h2 s2 => ?_
    refine Ok.rd (nil_ptr _ _) (Ok.rd (fld49_0 _ _) (Ok.rd (ldL h2 1 rfl) (Ok.chk (show ldV Pg 47 (ptr X 0) (drw w1) = some lv from ldL hd 0 rfl) ?_)))
    refine go_pre T47 enE h2 2 rfl hlen fun v3 hv3 => ?_
    have ht : L.take l1.length = l1 := by rw [hL]; simp
    rw [ht] at hv3
    refine go_app T47 enE h2 0 rfl hv3 (by simp; omega) fun a3 w3 h3 s3 => ?_
    refine Ok.rd (nil_ptr _ _) (Ok.rd (fld49_0 _ _) (Ok.rd (ldL h3 1 rfl) ?_))
    refine Ok.chk (show ldV Pg 47 (ptr X 0) w2 = some lv from ldL h2 1 rfl) (Ok.chk (show ldV Pg 47 (ptr X 0) (drw w1) = some lv from ldL hd 0 rfl) ?_)
    refine Ok.rd2 (bin_add1 (by omega)) ?_
    refine go_suf T47 enE h3 2 rfl (lo := l1.length + 1) (by rw [hL]; simp) fun v6 hv6 => ?_
    have hr : L.drop (l1.length + 1) = r := by rw [hL]; simp
    rw [hr] at hv6
    have hrl : r.length ≤ L.length := by rw [hL]; simp; omega
    refine go_app T47 enE h3 0 rfl hv6 (by simp; omega) fun a6 w6 h6 s6 => ?_
    refine Ok.rd (nil_ptr _ _) (Ok.rd (fld49_0 _ _) ?_)
    obtain ⟨w7, g7, h7, s7⟩ := stL h6 1 rfl (one_slH h6 0 rfl)
    refine Ok.rd2 g7 ?_
    have h7 : Sat w7 (slH 112 2 encE a6 ([] ++ l1 ++ r) :: pt X [a6] 49 :: slH 112 2 encE lv L :: F) := h7
    refine ⟨_, _, rfl, congrArg Value.bool hb1, rl_mk (lv := a6) ?_, s1.trans (s2.drw.trans (s3.trans (s6.trans s7)))⟩
    have : delL L key = [] ++ l1 ++ r := by rw [hp]; simp
    rw [this]
    exact (h7.re [2, 1, 0] (by decide)).drop

theorem getL_fits {L l1 l2 : List Ent} {key : ByteArray} {b : Bool} (hL : L = l1 ++ l2) (hf : Fits key l1 l2 b) (hs : Srt L) : (b = false → getL L key = none) ∧ (b = true → ∃ e r, l2 = e :: r ∧ getL L key = some e.2) := by
  subst hL
  obtain ⟨h1, h2⟩ := fits_has hf hs
  refine ⟨fun hb => get_none (h2 hb).1, fun hb => ?_⟩
  obtain ⟨e, r, rfl, he⟩ := h1 hb
  exact ⟨e, r, rfl, by rw [← he]; exact get_some hs (by simp)⟩

theorem rget_ok {X k : Nat} {L : List Ent} {key : ByteArray} (hs : Sat w F) (hk : F[k]? = some (rl X L)) (hsr : Srt L) (hb : L.length ≤ 2 ^ 28) :
    Ok (Fn Pg 26 [ptr X 0, .string key] w) fun v w' => v = (match getL L key with | some y => .tuple #[y.1, .bool true] | none => .tuple #[int 0, .bool false]) ∧ Sat w' F ∧ Sm w w' := by
  rw [F26]; unfold S26
  refine Ok.bind (place_ok hs hk (by omega)) ?_
  rintro v w1 ⟨l1, l2, b, hL, hf, rfl, h1, s1⟩
  obtain ⟨m1, m2⟩ := getL_fits hL hf hsr
  refine Ok.rd rfl (Ok.rd rfl (Ok.rd (un_not _) ?_))
  cases b with
  | false =>
    refine Ok.ct rfl ⟨_, _, rfl, ?_, h1, s1⟩
    rw [m1 rfl]
  | true =>
    obtain ⟨e, r, rfl, hg⟩ := m2 rfl
    refine Ok.cf rfl ?_
    obtain ⟨lv, f1, f2, f3⟩ := rl_facts h1 hk
    obtain ⟨b, o, g1, _, _, g2⟩ := f2 l1.length e (by rw [hL]; simp)
    refine Ok.rd (nil_ptr _ _) (Ok.rd (fld49_0 _ _) (Ok.rd f1 (Ok.rd g1 (Ok.rd (fld112_1 _ _) (Ok.rd g2 ?_)))))
    refine ⟨_, _, rfl, ?_, h1, s1⟩
    rw [hg]

theorem bin_sgtr {st : Bool} {t : TypeId} {ox oy : Operand} {a b : ByteArray} {w : World} : binG st Pg .gtr t ox oy (.string a) (.string b) w = some (.bool (kl b a), w) := by
  have h1 : binG st Pg .gtr t ox oy (.string a) (.string b) w = some (.bool !(kl a b || (a.toList == b.toList)), w) := rfl
  rw [h1, key_beq]
  congr 3
  cases h : kl b a with
  | true =>
    rw [kl_asym h]
    have : decide (a = b) = false := by rw [decide_eq_false_iff_not]; exact fun e => kl_ne h e.symm
    rw [this]; rfl
  | false =>
    cases h2 : kl a b with
    | true => rfl
    | false => rw [kl_tot h2 h]; simp

theorem raft_loop {X : Nat} {L : List Ent} {key : ByteArray} : ∀ (l2 l1 : List Ent) (e : Env) (w : World) (k : Nat) (F : List HP), F[k]? = some (rl X L) → Sat w F → L = l1 ++ l2 → (∀ x ∈ l1, kl key x.1 = false) → L.length ≤ 2 ^ 30 →
    e 0 = ptr X 0 → e 1 = .string key → e 6 = int l1.length → e 34 = undef →
    Ok (evalLoop (cx27 (Fn Pg) (Rnd Pg)) (cdA Go.Proofs.Try.f27 [1, 0, 1, 0, 0]) (K27_2 (Fn Pg) (Rnd Pg)) e w) fun v w' => v = aftV L key ∧ Sat w' F ∧ Sm w w' := by
  intro l2
  induction l2 with
  | nil =>
    intro l1 e w k F hk hs hl hb hlen e0 e1 e6 e34
    obtain ⟨lv, f1, f2, f3⟩ := rl_facts hs hk
    rw [S27_L1_eq]; unfold S27_L1
    rw [e0, e1, e6, e34]
    refine Ok.rd (nil_ptr _ _) (Ok.rd (fld49_0 _ _) (Ok.rd f1 (Ok.rd2 (f3 _ _ _ _) (Ok.rd2 bin_lss (Ok.cf (by rw [hl]; simp) ?_)))))
    refine ⟨_, _, rfl, ?_, hs, Sm.refl _⟩
    have : upps L key = [] := List.filter_eq_nil_iff.2 fun x hx => by rw [hl] at hx; simp at hx; rw [hb x hx]; simp
    unfold aftV
    rw [this]; rfl
  | cons y l2 ih =>
    intro l1 e w k F hk hs hl hb hlen e0 e1 e6 e34
    obtain ⟨lv, f1, f2, f3⟩ := rl_facts hs hk
    obtain ⟨b, o, g1, _, g2, _⟩ := f2 l1.length y (by rw [hl]; simp)
    rw [S27_L1_eq]; unfold S27_L1
    rw [e0, e1, e6, e34]
    refine Ok.rd (nil_ptr _ _) (Ok.rd (fld49_0 _ _) (Ok.rd f1 (Ok.rd2 (f3 _ _ _ _) (Ok.rd2 bin_lss (Ok.ct (by rw [hl]; simp; omega) ?_)))))
    refine Ok.rd (nil_ptr _ _) (Ok.rd (fld49_0 _ _) (Ok.rd f1 (Ok.rd g1 (Ok.rd (fld112_0 _ _) (Ok.rd g2 (Ok.rd2 bin_sgtr ?_))))))
    cases hy : kl key y.1 with
    | true =>
      refine Ok.ct rfl ?_
      refine Ok.rd (nil_ptr _ _) (Ok.rd (fld49_0 _ _) (Ok.rd f1 (Ok.rd g1 (Ok.rd (fld112_0 _ _) (Ok.rd g2 ?_)))))
      refine ⟨_, _, rfl, ?_, hs, Sm.refl _⟩
      have h1 : upps l1 key = [] := List.filter_eq_nil_iff.2 fun x hx => by rw [hb x hx]; simp
      have h2 : upps L key = y :: upps l2 key := by
        rw [hl, upps_app, h1, List.nil_append]
        show (y :: l2).filter _ = _
        rw [List.filter_cons_of_pos (by simpa using hy)]; rfl
      unfold aftV
      rw [h2]; rfl
    | false =>
      refine Ok.cf rfl (Ok.rd2 (bin_add1 (by rw [hl] at hlen; simp at hlen; omega)) ?_)
      refine ih (l1 ++ [y]) _ w k F hk hs (by rw [hl]; simp) ?_ hlen ?_ ?_ ?_ ?_
      · intro x hx
        rcases List.mem_append.1 hx with hx | hx
        · exact hb x hx
        · simp at hx; subst hx; exact hy
      · exact e0
      · exact e1
      · show int _ = int _; simp
      · exact e34
theorem raft_ok {X k : Nat} {L : List Ent} {key : ByteArray} (hs : Sat w F) (hk : F[k]? = some (rl X L)) (hl : L.length ≤ 2 ^ 30) :
    Ok (Fn Pg 27 [ptr X 0, .string key] w) fun v w' => v = aftV L key ∧ Sat w' F ∧ Sm w w' := by
  rw [F27]; unfold S27
  exact raft_loop L [] _ w k F hk hs rfl (by simp) hl rfl rfl rfl rfl

theorem rcopy_ok {X k : Nat} {L : List Ent} (hs : Sat w F) (hk : F[k]? = some (rl X L)) (hl : L.length ≤ 2 ^ 28) :
    Ok (Fn Pg 24 [ptr X 0] w) fun v w' => ∃ Y, v = ptr Y 0 ∧ Sat w' (rl Y L :: F) ∧ Sm w w' := by
  rw [F24]; unfold S24
  refine go_bs0 T47 (enc := encE) hs fun a w2 h2 s2 => ?_
  have hk2 : (slH 112 2 encE a ([] : List Ent) :: F)[k + 1]? = some (rl X L) := hk
  obtain ⟨lv, h3⟩ := rl_open (h2.foc hk2)
  refine Ok.rd (nil_ptr _ _) (Ok.rd (fld49_0 _ _) (Ok.rd (ldL h3 0 rfl) ?_))
  have hx := slH_src (h3.foc (k := 1) rfl)
  refine go_app T47 enE h2 0 rfl hx (by simp; omega) fun a3 w3 h4 s3 => ?_
  have h4 : Sat w3 (slH 112 2 encE a3 L :: F) := h4
  obtain ⟨p, c, rfl, _⟩ := slH_len h4
  refine Ok.rd (bld49_1 _ _ _) ?_
  refine go_box (l := [.slice p L.length c]) rfl h4 fun Y w5 h5 s5 => ?_
  exact ⟨_, _, rfl, Y, rfl, rl_mk h5, s2.trans (s3.trans s5)⟩

/-! ### Walk -/

theorem rin_ok {f t k : ByteArray} (hs : Sat w F) : Ok (Fn Pg 59 [.agg #[.string f, .string t], .string k] w) fun x w' => x = .bool (inB f t k) ∧ Sat w' F ∧ Sm w w' := by
  rw [F59]; unfold S59
  refine go_box (l := spC f t) rfl hs fun b w1 h1 s1 => ?_
  refine Ok.rd (fld36_0 _ _) (Ok.rd (ldsp0 h1 0 rfl) (Ok.rd2 bin_sgeq ?_))
  unfold inB
  cases hx : kl k f with
  | true =>
    refine t_no rfl (t_no rfl (t_no rfl (t_no rfl ?_)))
    refine Ok.rd2 (v := undef) (w := w1) rfl (Ok.rd2 (v := undef) (w := w1) rfl (Ok.rd2 (v := undef) (w := w1) rfl (Ok.rd2 (v := undef) (w := w1) rfl ?_)))
    refine t_no rfl (pk_f rfl ?_)
    exact ⟨_, _, rfl, rfl, h1.drop, s1⟩
  | false =>
    refine t_ok rfl (by rw [fld36_1]; rfl) (t_ok rfl (by rw [ldsp1 h1 0 rfl]; rfl) (t_ok rfl (gr2 bin_seql) (t_ok rfl rfl ?_)))
    have he : decide (t = noB) = decide (t = ByteArray.empty) := rfl
    rw [he]
    cases ht : decide (t = ByteArray.empty) with
    | true =>
      refine Ok.f0 (Ok.f0 (Ok.f0 (Ok.f0 ?_)))
      refine t_ok rfl (by rw [pick_t]; rfl) (pk_t rfl ?_)
      exact ⟨_, _, rfl, rfl, h1.drop, s1⟩
    | false =>
      refine f_ok rfl rfl (f_ok rfl (by rw [fld36_1]; rfl) (f_ok rfl (by rw [ldsp1 h1 0 rfl]; rfl) (f_ok rfl (gr2 bin_slss) ?_)))
      refine t_ok rfl (by rw [pick_f]; rfl) (pk_t rfl ?_)
      exact ⟨_, _, rfl, rfl, h1.drop, s1⟩

theorem rwalk_loop {X s4 : Nat} {L : List Ent} {f t : ByteArray} {m : Int} (hl : L.length ≤ 2 ^ 28) : ∀ (l2 l1 out : List Ent) (e : Env) (ov : Value) (w : World) (F : List HP), Sat w (slH 112 2 encE ov out :: pt s4 (spC f t) 36 :: rl X L :: F) → L = l1 ++ l2 → out = walkL l1 f t m →
    e 0 = ptr X 0 → e 2 = int m → e 4 = ptr s4 0 → e 7 = ov → e 8 = int l1.length → e 45 = undef →
    Ok (evalLoop (cx28 (Fn Pg) (Rnd Pg)) (cdA Go.Proofs.Try.f28 [1, 1, 0, 1, 0, 0]) (K28_2 (Fn Pg) (Rnd Pg)) e w) fun v w' => Sat w' (slH 112 2 encE v (walkL L f t m) :: rl X L :: F) ∧ Sm w w' := by
  intro l2
  induction l2 with
  | nil =>
    intro l1 out e ov w F hs hL ho e0 e2 e4 e7 e8 e45
    obtain ⟨lv, f1, f2, f3⟩ := rl_facts hs (k := 2) rfl
    rw [S28_L1_eq]; unfold S28_L1
    rw [e0, e2, e4, e7, e8, e45]
    refine Ok.rd (nil_ptr _ _) (Ok.rd (fld49_0 _ _) (Ok.rd f1 (Ok.rd2 (f3 _ _ _ _) (Ok.rd2 bin_lss ?_))))
    have hx : decide ((l1.length : Int) < (L.length : Int)) = false := by rw [hL]; simp
    refine t_no hx (t_no hx (t_no hx (t_no hx (pk_f hx (Ok.cf rfl ?_)))))
    refine ⟨_, _, rfl, ?_, Sm.refl _⟩
    have : walkL L f t m = out := by rw [ho, hL]; simp
    rw [this]
    exact (hs.re [1, 0, 2] (by decide)).drop
  | cons y l2 ih =>
    intro l1 out e ov w F hs hL ho e0 e2 e4 e7 e8 e45
    obtain ⟨lv, f1, f2, f3⟩ := rl_facts hs (k := 2) rfl
    have hll : l1.length < L.length := by rw [hL]; simp
    have hL' : L = (l1 ++ [y]) ++ l2 := by rw [hL]; simp
    rw [S28_L1_eq]; unfold S28_L1
    rw [e0, e2, e4, e7, e8, e45]
    refine Ok.rd (nil_ptr _ _) (Ok.rd (fld49_0 _ _) (Ok.rd f1 (Ok.rd2 (f3 _ _ _ _) (Ok.rd2 bin_lss ?_))))
    have hx : decide ((l1.length : Int) < (L.length : Int)) = true := by simp; omega
    refine t_ok hx rfl (t_ok hx (gr2 (sl_len T47 hs w)) (t_ok hx rfl (t_ok hx (gr2 bin_lss) (pk_t hx ?_))))
    have hol : out.length ≤ m.toNat := by rw [ho]; unfold walkL; rw [List.length_take]; omega
    have hwl : walkL L f t m = out ++ (((y :: l2).filter fun e => inB f t e.1).take (m.toNat - (l1.filter fun e => inB f t e.1).length)) := by
      rw [hL, ho]; unfold walkL
      rw [List.filter_append, List.take_append]
    by_cases hm : (out.length : Int) < m
    · refine Ok.ct (by simpa using hm) ?_
      have hd := hs.drw
      obtain ⟨lv', f1', f2', f3'⟩ := rl_facts hd (k := 2) rfl
      obtain ⟨b, o, g1, _, g2, _⟩ := f2' l1.length y (by rw [hL]; simp)
      refine Ok.rd (ldsp hd 1 rfl) ?_
      refine Ok.rd (nil_ptr _ _) (Ok.rd (fld49_0 _ _) (Ok.rd f1' (Ok.rd g1 (Ok.rd (fld112_0 _ _) (Ok.rd g2 ?_)))))
      refine Ok.bind (rin_ok hd) ?_
      rintro x w1 ⟨rfl, h1, s1⟩
      have hfull : out = l1.filter fun e => inB f t e.1 := by
        rw [ho]; unfold walkL
        rw [List.take_of_length_le]
        have h9 : out.length = min m.toNat (l1.filter fun e => inB f t e.1).length := by rw [ho]; unfold walkL; rw [List.length_take]
        omega
      cases hi : inB f t y.1 with
      | true =>
        refine Ok.ct rfl ?_
        obtain ⟨lv2, p1, p2, p3⟩ := rl_facts h1 (k := 2) rfl
        obtain ⟨b2, o2, q1, q2, _⟩ := p2 l1.length y (by rw [hL]; simp)
        refine Ok.rd (nil_ptr _ _) (Ok.rd (fld49_0 _ _) (Ok.rd p1 (Ok.rd q1 (Ok.rd q2 ?_))))
        refine go_bs1 T47 enE (by decide) (x := y) rfl h1 fun nb w2 h2 hv2 s2 => ?_
        have hob : out.length ≤ l1.length := by rw [hfull]; exact List.length_filter_le _ _
        refine go_app T47 enE h2 1 rfl hv2 (by simp; omega) fun a3 w3 h3 s3 => ?_
        refine Ok.rd2 (bin_add1 (by omega)) ?_
        have h3 : Sat w3 (pt nb (encE y) 112 :: slH 112 2 encE a3 (out ++ [y]) :: pt s4 (spC f t) 36 :: rl X L :: F) := h3
        refine Ok.mono (ih (l1 ++ [y]) (out ++ [y]) _ a3 w3 F h3.drop hL' ?_ ?_ ?_ ?_ ?_ ?_ ?_) ?_
        · unfold walkL
          rw [List.filter_append, List.filter_cons_of_pos (by simpa using hi), ← hfull]
          rw [List.take_of_length_le (by simp; omega)]; simp
        · exact e0
        · exact e2
        · exact e4
        · rfl
        · show int _ = int _; simp
        · exact e45
        · rintro v w4 ⟨m1, m2⟩
          exact ⟨m1, s1.drw.trans (s2.trans (s3.trans m2))⟩
      | false =>
        refine Ok.cf rfl (Ok.rd2 (bin_add1 (by omega)) ?_)
        refine Ok.mono (ih (l1 ++ [y]) out _ ov w1 F h1 hL' ?_ ?_ ?_ ?_ ?_ ?_ ?_) ?_
        · rw [ho]; unfold walkL
          rw [List.filter_append, List.filter_cons_of_neg (by simpa using hi)]; simp
        · exact e0
        · exact e2
        · exact e4
        · exact e7
        · show int _ = int _; simp
        · exact e45
        · rintro v w4 ⟨m1, m2⟩
          exact ⟨m1, s1.drw.trans m2⟩
    · refine Ok.cf (by simpa using hm) ?_
      refine ⟨_, _, rfl, ?_, Sm.refl _⟩
      have hz : m.toNat - (l1.filter fun e => inB f t e.1).length = 0 := by
        have h9 : out.length = min m.toNat (l1.filter fun e => inB f t e.1).length := by rw [ho]; unfold walkL; rw [List.length_take]
        omega
      rw [hwl, hz, List.take_zero, List.append_nil]
      exact (hs.re [1, 0, 2] (by decide)).drop

theorem rwalk_ok {X : Nat} {L : List Ent} {f t : ByteArray} {m : Int} (hs : Sat w (rl X L :: F)) (hl : L.length ≤ 2 ^ 28) :
    Ok (Fn Pg 28 [ptr X 0, .agg #[.string f, .string t], int m] w) fun v w' => Sat w' (slH 112 2 encE v (walkL L f t m) :: rl X L :: F) ∧ Sm w w' := by
  rw [F28]; unfold S28
  refine go_box (l := spC f t) rfl hs fun b w1 h1 s1 => ?_
  refine Ok.mono (rwalk_loop hl L [] [] _ (.slice none 0 0) w1 F (slH_nil none h1) rfl (by simp [walkL]) rfl rfl rfl rfl rfl rfl) ?_
  rintro v w' ⟨m1, m2⟩
  exact ⟨m1, s1.trans m2⟩
end Go.Cb
