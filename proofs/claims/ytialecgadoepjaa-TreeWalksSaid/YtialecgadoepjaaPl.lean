/-
  The law TreePlays.
-/
import Derived.Test.YtialecgadoepjaaAc
set_option linter.unusedVariables false
set_option linter.unusedSimpArgs false
namespace Go.Cb
open Classical
variable {w : World} {F : List HP} {Q Q' : Value → World → Prop}

theorem a28' : aggT Pg 28 = some true := by kernel_rfl
theorem ldA_all {nb : Nat} {a : Act} (h : Sat w F) (k : Nat) (hk : F[k]? = some (pt nb (cellsA a) 28)) : ldV Pg 28 (ptr nb 0) w = some (aggA a) := by
  obtain ⟨i', hi', hs⟩ : ∃ i', Pg.info? 28 = some i' ∧ i'.size = 3 := let ⟨i', _, a, b, _⟩ := T22.i; ⟨i', a, b⟩
  rw [at_load (h.foc hk).at (o := 0) (n := 3) (by simp [cellsA]) a28' hi' hs]; rfl
theorem get_shape {L : List Ent} {key : ByteArray} (hI : Ints L) : ∃ (n : Int) (b : Bool), (match getL L key with | some y => Value.tuple #[y.1, .bool true] | none => .tuple #[int 0, .bool false]) = .tuple #[int n, .bool b] := by
  cases h : getL L key with
  | none => exact ⟨0, false, rfl⟩
  | some y =>
    unfold getL at h
    obtain ⟨e, he, rfl⟩ := Option.map_eq_some_iff.1 h
    obtain ⟨n, hn⟩ := hI e (List.mem_of_find?_eq_some he)
    refine ⟨n, true, ?_⟩
    rw [hn]; rfl
theorem aft_shape {L : List Ent} {key : ByteArray} : ∃ (s : ByteArray) (b : Bool), aftV L key = .tuple #[.string s, .bool b] := by
  unfold aftV
  cases (upps L key).head? with
  | none => exact ⟨_, _, rfl⟩
  | some e => exact ⟨_, _, rfl⟩
theorem bld36_0 : bldV Pg 36 [] = some (.agg #[.string noB, .string noB]) := by kernel_rfl
theorem kl_no (k : ByteArray) : kl k noB = false := by
  unfold kl
  have : noB.toList = [] := by rw [ByteArray.toList_eq]
  rw [this]
  cases k.toList <;> rfl
theorem walk_whole {L : List Ent} (h : L.length ≤ 1000) : walkL L noB noB 1000 = L := by
  unfold walkL
  have : (fun e : Ent => inB noB noB e.1) = fun _ => true := by
    funext e
    have h0 : decide (noB = ByteArray.empty) = true := decide_eq_true rfl
    simp only [inB, kl_no, h0]; rfl
  rw [this, List.filter_eq_self.2 (fun _ _ => rfl)]
  exact List.take_of_length_le h

theorem plays_loop {v : Value} {acts : List Act} {X : HP} {f t : ByteArray} {m : Int} {s4 Xr : Nat} (hX : ∀ {w : World} {F : List HP} (k : Nat), Sat w F → F[k]? = some X → ActsF v acts w) (h200 : acts.length ≤ 200) (h60 : ∀ a ∈ acts, a.2.1.size ≤ 60) :
    ∀ (j i T : Nat) (L : List Ent) (e : Env) (w : World) (F : List HP), i + j = acts.length → L.length ≤ i → Ints L → Sat w (tree T L :: rl Xr L :: pt s4 (spC f t) 36 :: X :: F) →
    e 0 = v → e 2 = int m → e 4 = ptr s4 0 → e 7 = ptr T 0 → e 8 = ptr Xr 0 → e 9 = int i → e 136 = undef →
    Ok (evalLoop (cx6 (Fn Pg) (Rnd Pg)) (cdA Go.Proofs.Try.f6 [1, 1, 1, 0, 1, 0, 0]) (K6_2 (Fn Pg) (Rnd Pg)) e w) fun x w' => x = .bool true ∧ Sat w' (X :: F) ∧ Sm w w' := by
  intro j
  induction j with
  | zero =>
    intro i T L e w F hij hL hI hs e0 e2 e4 e7 e8 e9 e136
    have hf := hX 3 hs rfl
    rw [S6_L1_eq]; unfold S6_L1
    rw [e0, e2, e4, e7, e8, e9, e136]
    refine Ok.rd2 (hf.len _ _ _ _) (Ok.rd2 bin_lss (Ok.cf (by simp; omega) ?_))
    have hd := hs.drw
    refine Ok.rd (ldsp hd 2 rfl) ?_
    refine Ok.bind (twalk_ok hd (by omega)) ?_
    rintro av w1 ⟨h1, s1⟩
    refine Ok.rd (ldsp h1 3 rfl) (Ok.chk (show ldV Pg 36 (ptr s4 0) (drw w) = some (.agg #[.string f, .string t]) from ldsp hd 2 rfl) ?_)
    refine Ok.bind (rwalk_ok (h1.re [2, 0, 1] (by decide)) (by omega)) ?_
    rintro bv w2 ⟨h2, s2⟩
    refine Ok.bind (same_ok (ints_walk hI f t m) ?_ (p := 2) (q := 0) rfl rfl h2) ?_
    · unfold walkL
      have h9 := List.length_filter_le (fun e : Ent => inB f t e.1) L
      rw [List.length_take]; omega
    rintro x w3 ⟨rfl, h3, s3⟩
    obtain ⟨lv, h3⟩ := rl_open (h3.re [1, 0, 2, 3] (by decide))
    have h3 : Sat w3 (pt Xr [lv] 49 :: slH 112 2 encE lv L :: slH 112 2 encE bv (walkL L f t m) :: slH 40 2 encE av (walkL L f t m) :: tree T L :: pt s4 (spC f t) 36 :: X :: F) := h3
    refine t_ok rfl rfl (t_ok rfl (by rw [bld36_0]; rfl) ?_)
    refine t_call rfl (twalk_ok (f := noB) (t := noB) (m := 1000) (h3.re [4, 0, 1, 2, 3] (by decide)) (by omega)) ?_
    rintro cv w4 ⟨h4, s4'⟩
    rw [walk_whole (by omega)] at h4
    have h4 : Sat w4 (slH 40 2 encE cv L :: tree T L :: pt Xr [lv] 49 :: slH 112 2 encE lv L :: slH 112 2 encE bv (walkL L f t m) :: slH 40 2 encE av (walkL L f t m) :: pt s4 (spC f t) 36 :: X :: F) := h4
    refine t_ok rfl rfl (t_ok rfl rfl (t_ok rfl (by rw [fld49_0]; rfl) (t_ok rfl (by rw [ldL h4 2 rfl]; rfl) ?_)))
    refine Ok.chk (fun _ => ldL h3 0 rfl) ?_
    refine t_call rfl (same_ok hI (by omega) (p := 0) (q := 3) rfl rfl h4) ?_
    rintro x w5 ⟨rfl, h5, s5⟩
    refine pk_t rfl ?_
    refine t_call rfl (grows_ok h5) ?_
    rintro x w6 ⟨rfl, h6, s6⟩
    refine pk_t rfl ?_
    refine ⟨_, _, rfl, rfl, ?_, (s1.drw.trans (s2.trans (s3.trans (s4'.trans (s5.trans s6)))))⟩
    have h6 : Sat w6 (slH 40 2 encE cv L :: tree T L :: pt Xr [lv] 49 :: slH 112 2 encE lv L :: slH 112 2 encE bv (walkL L f t m) :: slH 40 2 encE av (walkL L f t m) :: pt s4 (spC f t) 36 :: X :: F) := h6
    exact h6.drop.drop.drop.drop.drop.drop.drop
  | succ j ih =>
    intro i T L e w F hij hL hI hs e0 e2 e4 e7 e8 e9 e136
    have hf := hX 3 hs rfl
    have hsrt : Srt L := by obtain ⟨_, _, _, _, _, _, h4, _⟩ := tree_open hs; exact h4
    have hi : i < acts.length := by omega
    obtain ⟨p, x1, x2, _⟩ := hf.at_ i _ (List.getElem?_eq_getElem hi)
    have hka := h60 acts[i] (List.getElem_mem hi)
    have hka : acts[i].2.1.size ≤ 2 ^ 62 := by omega
    generalize acts[i] = a at x2 hka
    rw [S6_L1_eq]; unfold S6_L1
    rw [e0, e2, e4, e7, e8, e9, e136]
    refine Ok.rd2 (hf.len _ _ _ _) (Ok.rd2 bin_lss (Ok.ct (by simp; omega) ?_))
    refine Ok.rd x1 (Ok.rd x2 ?_)
    refine go_tmpA hs fun nb w1 h1 s1 => ?_
    refine Ok.rd (fld28_0 _ _) (Ok.rd (ldA_0 h1 0 rfl) (Ok.rd2 bin_eql (Ok.ci (fun _ => ?_) (fun _ => ?_))))
    · refine Ok.bind (tcopy_ok h1.sw) ?_
      rintro x w2 ⟨U, rfl, h2, s2⟩
      have h2 := h2.re [0, 2, 3, 4, 5, 1] (by decide)
      have h2 : Sat w2 (tree U L :: pt nb (cellsA a) 28 :: rl Xr L :: pt s4 (spC f t) 36 :: X :: tree T L :: F) := h2

      refine Ok.rd (ldA_all h2 1 rfl) ?_
      refine Ok.bind (act_ok (h2.re [0, 2, 1] (by decide)) (by omega)) ?_
      rintro x w3 ⟨rfl, h3, s3⟩
      have hL' := act_len hsrt a
      have hI' := ints_act hI a
      have hsrt' := act_srt hsrt a
      generalize actL L a = L' at h3 hL' hI' hsrt'
      refine Ok.rd (un_not _) (Ok.cf rfl ?_)
      have h3 : Sat w3 (tree U L' :: rl Xr L' :: pt nb (cellsA a) 28 :: pt s4 (spC f t) 36 :: X :: (tree T L :: F)) := h3
      refine Ok.rd (fld28_1 _ _) (Ok.rd (ldA_1 h3 2 rfl) ?_)
      refine Ok.bind (get_ok h3) ?_
      rintro x w4 ⟨hx, h4, s4'⟩
      obtain ⟨gn, gb, hg⟩ := get_shape (key := a.2.1) hI'
      have hx := hx.trans hg; subst hx
      refine Ok.rd rfl (Ok.rd rfl (Ok.rd (fld28_1 _ _) (Ok.rd (ldA_1 h4 2 rfl) ?_)))
      refine Ok.bind (rget_ok h4 (k := 1) rfl hsrt' (by omega)) ?_
      rintro x w5 ⟨hx, h5, s5⟩
      have hx := hx.trans hg; subst hx
      refine Ok.rd rfl (Ok.rd rfl (Ok.rd (fld28_1 _ _) (Ok.rd (ldA_1 h5 2 rfl) ?_)))
      refine Ok.bind (after_ok hka h5) ?_
      rintro x w6 ⟨hx, h6, s6⟩
      obtain ⟨an, ab, ha⟩ := aft_shape (L := L') (key := a.2.1)
      have hx := hx.trans ha; subst hx
      refine Ok.rd rfl (Ok.rd rfl (Ok.rd (fld28_1 _ _) (Ok.rd (ldA_1 h6 2 rfl) ?_)))
      refine Ok.bind (raft_ok h6 (k := 1) rfl (by omega)) ?_
      rintro x w7 ⟨hx, h7, s7⟩
      have hx := hx.trans ha; subst hx
      refine Ok.rd rfl (Ok.rd rfl ?_)
      have hd := h7.drw
      obtain ⟨lv, p1, _, p3⟩ := rl_facts hd (k := 1) rfl
      have z1 : (gn != gn) = false := by simp
      have z2 : (gb != gb) = false := by simp
      have z3 : (!decide (an = an)) = false := by simp
      have z4 : (ab != ab) = false := by simp
      refine Ok.rd2 bin_neq (f_ok z1 rfl (f_ok z1 rfl (f_ok z1 (gr2 bin_bneq) (pk_f z1 ?_))))
      refine f_ok z2 rfl (f_ok z2 rfl (f_ok z2 (gr2 bin_sneq) (pk_f z2 ?_)))
      refine f_ok z3 rfl (f_ok z3 rfl (f_ok z3 (gr2 bin_bneq) (pk_f z3 ?_)))
      refine f_ok z4 rfl (f_ok z4 (gr2 (len_ok hd)) (f_ok z4 rfl (f_ok z4 rfl (f_ok z4 (by rw [fld49_0]; rfl) (f_ok z4 (by rw [p1]; rfl) ?_)))))
      refine Ok.chk (fun _ => p1) ?_
      refine f_ok z4 (gr2 (p3 _ _ _ _)) (f_ok z4 (gr2 bin_neq) (pk_f z4 ?_))
      refine Ok.cf (by simp) (Ok.rd2 (bin_add1 (by omega)) ?_)
      refine Ok.mono (ih (i + 1) U L' _ (drw w7) (tree T L :: F) (by omega) (by omega) hI' (hd.re [2, 0, 1] (by decide)).drop ?_ ?_ ?_ ?_ ?_ ?_ ?_) ?_
      · exact e0
      · exact e2
      · exact e4
      · rfl
      · exact e8
      · rfl
      · exact e136
      · rintro x w' ⟨m1, m2, m3⟩
        exact ⟨m1, (m2.re [1, 0] (by decide)).drop, (s1.trans s2).trans (s3.trans (s4'.trans (s5.trans (s6.trans (s7.trans m3.drw)))))⟩

    · skip

      refine Ok.rd (ldA_all h1 0 rfl) ?_
      refine Ok.bind (act_ok (h1.re [1, 2, 0] (by decide)) (by omega)) ?_
      rintro x w3 ⟨rfl, h3, s3⟩
      have hL' := act_len hsrt a
      have hI' := ints_act hI a
      have hsrt' := act_srt hsrt a
      generalize actL L a = L' at h3 hL' hI' hsrt'
      refine Ok.rd (un_not _) (Ok.cf rfl ?_)
      have h3 : Sat w3 (tree T L' :: rl Xr L' :: pt nb (cellsA a) 28 :: pt s4 (spC f t) 36 :: X :: F) := h3
      refine Ok.rd (fld28_1 _ _) (Ok.rd (ldA_1 h3 2 rfl) ?_)
      refine Ok.bind (get_ok h3) ?_
      rintro x w4 ⟨hx, h4, s4'⟩
      obtain ⟨gn, gb, hg⟩ := get_shape (key := a.2.1) hI'
      have hx := hx.trans hg; subst hx
      refine Ok.rd rfl (Ok.rd rfl (Ok.rd (fld28_1 _ _) (Ok.rd (ldA_1 h4 2 rfl) ?_)))
      refine Ok.bind (rget_ok h4 (k := 1) rfl hsrt' (by omega)) ?_
      rintro x w5 ⟨hx, h5, s5⟩
      have hx := hx.trans hg; subst hx
      refine Ok.rd rfl (Ok.rd rfl (Ok.rd (fld28_1 _ _) (Ok.rd (ldA_1 h5 2 rfl) ?_)))
      refine Ok.bind (after_ok hka h5) ?_
      rintro x w6 ⟨hx, h6, s6⟩
      obtain ⟨an, ab, ha⟩ := aft_shape (L := L') (key := a.2.1)
      have hx := hx.trans ha; subst hx
      refine Ok.rd rfl (Ok.rd rfl (Ok.rd (fld28_1 _ _) (Ok.rd (ldA_1 h6 2 rfl) ?_)))
      refine Ok.bind (raft_ok h6 (k := 1) rfl (by omega)) ?_
      rintro x w7 ⟨hx, h7, s7⟩
      have hx := hx.trans ha; subst hx
      refine Ok.rd rfl (Ok.rd rfl ?_)
      have hd := h7.drw
      obtain ⟨lv, p1, _, p3⟩ := rl_facts hd (k := 1) rfl
      have z1 : (gn != gn) = false := by simp
      have z2 : (gb != gb) = false := by simp
      have z3 : (!decide (an = an)) = false := by simp
      have z4 : (ab != ab) = false := by simp
      refine Ok.rd2 bin_neq (f_ok z1 rfl (f_ok z1 rfl (f_ok z1 (gr2 bin_bneq) (pk_f z1 ?_))))
      refine f_ok z2 rfl (f_ok z2 rfl (f_ok z2 (gr2 bin_sneq) (pk_f z2 ?_)))
      refine f_ok z3 rfl (f_ok z3 rfl (f_ok z3 (gr2 bin_bneq) (pk_f z3 ?_)))
      refine f_ok z4 rfl (f_ok z4 (gr2 (len_ok hd)) (f_ok z4 rfl (f_ok z4 rfl (f_ok z4 (by rw [fld49_0]; rfl) (f_ok z4 (by rw [p1]; rfl) ?_)))))
      refine Ok.chk (fun _ => p1) ?_
      refine f_ok z4 (gr2 (p3 _ _ _ _)) (f_ok z4 (gr2 bin_neq) (pk_f z4 ?_))
      refine Ok.cf (by simp) (Ok.rd2 (bin_add1 (by omega)) ?_)
      refine Ok.mono (ih (i + 1) T L' _ (drw w7) F (by omega) (by omega) hI' (hd.re [2, 0, 1] (by decide)).drop ?_ ?_ ?_ ?_ ?_ ?_ ?_) ?_
      · exact e0
      · exact e2
      · exact e4
      · exact e7
      · exact e8
      · rfl
      · exact e136
      · rintro x w' ⟨m1, m2, m3⟩
        exact ⟨m1, m2, s1.trans (s3.trans (s4'.trans (s5.trans (s6.trans (s7.trans m3.drw)))))⟩


theorem plays_ok {v : Value} {acts : List Act} {X : HP} {f t : ByteArray} {m : Int} (hX : ∀ {w : World} {F : List HP} (k : Nat), Sat w F → F[k]? = some X → ActsF v acts w) (hs : Sat w (X :: F)) :
    Ok (Fn Pg 6 [v, .agg #[.string f, .string t], int m] w) fun x w' => x = .bool true ∧ Sat w' (X :: F) ∧ Sm w w' := by
  rw [F6]; unfold S6
  refine go_box (l := spC f t) rfl hs fun s4 w1 h1 s1 => ?_
  obtain ⟨b, hb, hlen⟩ := few_ok (hX 1 h1 rfl)
  have fin : ∀ {κ : Value → World → R}, (∀ x w, κ x w = some (x, w)) → Ok (rd2 (Fn Pg 12 [] w1) κ) fun x w' => x = .bool true ∧ Sat w' (X :: F) ∧ Sm w w' := by
    intro κ hκ
    refine Ok.bind (grows_ok h1) ?_
    rintro x w2 ⟨rfl, g1, g2⟩
    rw [hκ]
    exact ⟨_, _, rfl, rfl, g1.drop, s1.trans g2⟩
  refine Ok.rd2 hb (Ok.rd (un_not _) ?_)
  cases b with
  | false =>
    refine Ok.f0 (Ok.f0 (Ok.f0 (Ok.f0 (Ok.rd (pick_t _ _) (Ok.f0 (Ok.f0 (Ok.f0 (Ok.f0 (Ok.rd (pick_t _ _) (Ok.ct rfl ?_))))))))))
    exact fin fun _ _ => rfl
  | true =>
    refine f_ok rfl (by rw [fld36_0]; rfl) (f_ok rfl (by rw [ldsp0 h1 0 rfl]; rfl) (f_ok rfl (gr2 (len_str u9 _ _)) (f_ok rfl (gr2 bin_gtr) (pk_f rfl ?_))))
    by_cases hf : (60 : Int) < (f.size : Int)
    · have hf' : decide ((60 : Int) < (f.size : Int)) = true := decide_eq_true hf
      rw [hf']
      refine Ok.f0 (Ok.f0 (Ok.f0 (Ok.f0 (Ok.rd (pick_t _ _) (Ok.ct rfl ?_)))))
      exact fin fun _ _ => rfl
    have hf' : decide ((60 : Int) < (f.size : Int)) = false := decide_eq_false hf
    rw [hf']
    refine f_ok rfl (by rw [fld36_1]; rfl) (f_ok rfl (by rw [ldsp1 h1 0 rfl]; rfl) (f_ok rfl (gr2 (len_str u9 _ _)) (f_ok rfl (gr2 bin_gtr) (pk_f rfl ?_))))
    by_cases ht : (60 : Int) < (t.size : Int)
    · exact Ok.ct (decide_eq_true ht) (fin fun _ _ => rfl)
    refine Ok.cf (decide_eq_false ht) ?_
    refine Ok.bind (new_ok h1) ?_
    rintro x w2 ⟨T, rfl, h2, s2⟩
    refine Ok.rd bld49_0 ?_
    refine go_box (l := [.slice none 0 0]) rfl h2 fun Xr w3 h3 s3 => ?_
    have h3 : Sat w3 (pt Xr [.slice none 0 0] 49 :: tree T [] :: pt s4 (spC f t) 36 :: X :: F) := h3
    have h4 : Sat w3 (rl Xr [] :: tree T [] :: pt s4 (spC f t) 36 :: X :: F) := rl_mk (slH_nil none h3).sw
    refine Ok.mono (plays_loop hX (hlen rfl).1 (hlen rfl).2 acts.length 0 T [] _ w3 F (by omega) (Nat.zero_le _) (fun _ h => by simp at h) h4.sw rfl rfl rfl rfl rfl rfl rfl) ?_
    rintro x w' ⟨m1, m2, m3⟩
    exact ⟨m1, m2, s1.trans (s2.trans (s3.trans m3))⟩
end Go.Cb
