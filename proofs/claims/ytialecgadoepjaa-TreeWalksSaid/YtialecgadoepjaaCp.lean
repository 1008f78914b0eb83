/-
  copied and Copy: a tree like one.
-/
import Derived.Test.YtialecgadoepjaaWk
set_option linter.unusedVariables false
set_option linter.unusedSimpArgs false
namespace Go.Cb
variable {w : World} {F : List HP} {Q Q' : Value → World → Prop}

theorem bld100_l (a : Option Addr) (n c : Nat) : bldV Pg 100 [(0, .slice a n c)] = some (.agg #[.slice a n c, .slice none 0 0]) := by kernel_rfl
theorem bld57_2 (r : Nat) (n : Int) : bldV Pg 57 [(0, ptr r 0), (1, int n)] = some (.agg #[ptr r 0, int n]) := by kernel_rfl

theorem cp_in {h : Nat} {X Y : List HP} {q1 q2 : List (Nat × BT h)} {q : Nat × BT h} : Sat w (X ++ (Y ++ (fo h (q1 ++ q :: q2) ++ F))) ↔ Sat w (tr h q.1 q.2 :: (X ++ (Y ++ (fo h (q1 ++ q2) ++ F)))) := by
  have hp : (X ++ (Y ++ (fo h (q1 ++ q :: q2) ++ F))).Perm (tr h q.1 q.2 :: (X ++ (Y ++ (fo h (q1 ++ q2) ++ F)))) := by
    rw [fo_app, fo_cons, fo_app, List.append_assoc, List.cons_append, List.append_assoc]
    rw [← List.append_assoc, ← List.append_assoc, ← List.append_assoc (bs := Y), ← List.append_assoc (bs := fo h q1)]
    exact List.perm_middle
  exact ⟨fun hs => hs.perm hp, fun hs => hs.perm hp.symm⟩
theorem cp_back {A : HP} {X Y Z : List HP} (hs : Sat w (A :: (X ++ (Y ++ Z)))) : Sat w (X ++ ((Y ++ [A]) ++ Z)) := by
  refine hs.perm ?_
  rw [List.append_assoc, ← List.append_assoc, ← List.append_assoc]
  exact List.perm_middle.symm

theorem copied_loop {h : Nat} {p c : Nat} {l : List Ent} {lv kv lv2 : Value} {qs : List (Nat × BT h)} (hb : qs.length ≤ 2 ^ 20)
    (ih : ∀ q ∈ qs, ∀ (w : World) (F : List HP), Sat w (tr h q.1 q.2 :: F) → Ok (Fn Pg 57 [ptr q.1 0] w) fun v w' => ∃ q', v = ptr q' 0 ∧ Sat w' (tr h q' q.2 :: tr h q.1 q.2 :: F) ∧ Sm w w') :
    ∀ (r1 r2 dq : List (Nat × BT h)) (kv2 : Value) (e : Env) (w : World) (F : List HP), qs = r1 ++ r2 → dq.map (·.2) = r1.map (·.2) →
    Sat w ([pt c [lv2, kv2] 100, slH 40 2 encE lv2 l, slH 55 1 encP kv2 (dq.map (·.1)), pt p [lv, kv] 100, slH 40 2 encE lv l, slH 55 1 encP kv (qs.map (·.1))] ++ (fo h dq ++ (fo h qs ++ F))) →
    e 3 = ptr c 0 → e 16 = kv → e 17 = int qs.length → e 18 = int r1.length → e 35 = undef →
    Ok (evalLoop (cx57 (Fn Pg) (Rnd Pg)) (cdA Go.Proofs.Try.f57 [1, 1, 0, 1, 0, 0]) (K57_2 (Fn Pg) (Rnd Pg)) e w) fun v w' => v = ptr c 0 ∧ Sm w w' ∧ ∃ (dq : List (Nat × BT h)) (kv2 : Value), dq.map (·.2) = qs.map (·.2) ∧
      Sat w' ([pt c [lv2, kv2] 100, slH 40 2 encE lv2 l, slH 55 1 encP kv2 (dq.map (·.1)), pt p [lv, kv] 100, slH 40 2 encE lv l, slH 55 1 encP kv (qs.map (·.1))] ++ (fo h dq ++ (fo h qs ++ F))) := by
  intro r1 r2
  induction r2 generalizing r1 with
  | nil =>
    intro dq kv2 e w F hq hd hs e3 e16 e17 e18 e35
    rw [S57_L1_eq]; unfold S57_L1
    rw [e3, e16, e17, e18, e35]
    refine Ok.rd2 bin_lss (Ok.cf (by rw [hq]; simp) ?_)
    exact ⟨_, _, rfl, rfl, Sm.refl _, dq, kv2, by rw [hd, hq]; simp, hs⟩
  | cons q r2 ihr =>
    intro dq kv2 e w F hq hd hs e3 e16 e17 e18 e35
    rw [S57_L1_eq]; unfold S57_L1
    rw [e3, e16, e17, e18, e35]
    refine Ok.rd2 bin_lss (Ok.ct (by rw [hq]; simp; omega) ?_)
    obtain ⟨b, o, g1, g2⟩ := ix_k hs 5 rfl (i := r1.length) (q := q.1) (by rw [hq]; simp)
    refine Ok.rd g1 (Ok.rd g2 ?_)
    have hdr := hs.drw
    refine Ok.rd (nil_ptr _ _) (Ok.rd (fld100_1 _ _) (Ok.rd (ld_k hdr 0 rfl) ?_))
    rw [hq] at hdr
    refine Ok.bind (ih q (by rw [hq]; simp) (drw w) _ (cp_in.1 hdr)) ?_
    rintro v w1 ⟨q', rfl, h1, s1⟩
    refine Ok.chk (show ldV Pg 98 (ptr c (0 + 1)) w1 = some kv2 from ld_k h1 2 rfl) ?_
    refine go_bs1 T98 enP (by decide) (x := q') rfl h1 fun nb w2 h2 hv2 s2 => ?_
    have hdl : dq.length = r1.length := by have := congrArg List.length hd; simpa using this
    have hrl : r1.length ≤ 2 ^ 20 := by rw [hq] at hb; simp at hb; omega
    refine go_app T98 enP h2 5 rfl hv2 (by simp; omega) fun a w3 h3 s3 => ?_
    refine Ok.rd (nil_ptr _ _) (Ok.rd (fld100_1 _ _) ?_)
    obtain ⟨w4, m4, h4, s4⟩ := st_k h3 3 rfl (one_slH h3 5 rfl)
    refine Ok.rd2 m4 (Ok.rd2 (bin_add1 (by omega)) ?_)
    have h4 : Sat w4 (pt nb (encP q') 55 :: tr h q' q.2 :: tr h q.1 q.2 :: ([pt c [lv2, a] 100, slH 40 2 encE lv2 l, slH 55 1 encP a (dq.map (·.1) ++ [q']), pt p [lv, kv] 100, slH 40 2 encE lv l, slH 55 1 encP kv ((r1 ++ q :: r2).map (·.1))] ++ (fo h dq ++ (fo h (r1 ++ r2) ++ F)))) := h4
    have h5 := (cp_in (X := tr h q' q.2 :: [pt c [lv2, a] 100, slH 40 2 encE lv2 l, slH 55 1 encP a (dq.map (·.1) ++ [q']), pt p [lv, kv] 100, slH 40 2 encE lv l, slH 55 1 encP kv ((r1 ++ q :: r2).map (·.1))])).2 h4.drop.sw
    have h6 := cp_back (X := [_, _, _, _, _, _]) h5
    have hm : dq.map (·.1) ++ [q'] = (dq ++ [(q', q.2)]).map (·.1) := by simp
    have hf : fo h dq ++ [tr h q' q.2] = fo h (dq ++ [(q', q.2)]) := by rw [fo_app]; rfl
    rw [hm, hf, ← hq] at h6
    refine Ok.mono (ihr (r1 ++ [q]) (dq ++ [(q', q.2)]) a _ w4 F (by rw [hq]; simp) (by simp [hd]) h6 ?_ ?_ ?_ ?_ ?_) ?_
    · exact e3
    · exact e16
    · exact e17
    · show int _ = int _; simp
    · exact e35
    · rintro v w5 ⟨m1, m2, m3⟩
      exact ⟨m1, (s1.drw.trans (s2.trans (s3.trans s4))).trans m2, m3⟩

theorem copied_ok : ∀ (h p : Nat) (t : BT h) (w : World) (F : List HP), wf h t → Sat w (tr h p t :: F) → Ok (Fn Pg 57 [ptr p 0] w) fun v w' => ∃ q, v = ptr q 0 ∧ Sat w' (tr h q t :: tr h p t :: F) ∧ Sm w w' := by
  intro h
  induction h with
  | zero =>
    intro p (t : List Ent) w F hw hs
    have hs : Sat w (nd p t [] :: F) := hs
    have hw : List.length t ≤ 5 := hw
    obtain ⟨lv, kv, hs⟩ := nd_open hs
    rw [F57]; unfold S57
    refine Ok.rd (nil_ptr _ _) (Ok.rd (fld100_0 _ _) (Ok.rd (ld_l hs 0 rfl) ?_))
    refine go_clonel hs (slH_src (hs.foc (k := 1) rfl)) (by omega) fun v w1 h1 s1 => ?_
    obtain ⟨pa, ca, rfl, _⟩ := slH_len h1
    refine Ok.rd (bld100_l _ _ _) ?_
    refine go_box100 rfl rfl h1 fun c w2 h2 s2 => ?_
    refine Ok.rd (nil_ptr _ _) (Ok.rd (fld100_1 _ _) (Ok.rd (ld_k h2 2 rfl) (Ok.rd2 (sl_len T98 (h2.foc (k := 4) rfl) w2) ?_)))
    have h3 := (slH_nil (T := 55) (k := 1) (enc := encP) none h2).re [1, 2, 0, 3, 4, 5] (by decide)
    refine Ok.mono (copied_loop (h := 0) (qs := []) (by simp) (fun q hq => by simp at hq) [] [] [] (.slice none 0 0) _ w2 F rfl rfl h3 rfl rfl rfl rfl rfl) ?_
    rintro v w3 ⟨rfl, s3, dq, kv2, hd, h4⟩
    have hd : dq = [] := by simpa using hd
    subst hd
    refine ⟨c, rfl, ?_, s1.trans (s2.trans s3)⟩
    have h5 : Sat w3 (nd c t [] :: pt p [lv, kv] 100 :: slH 40 2 encE lv t :: slH 55 1 encP kv ([] : List Nat) :: F) := nd_mk h4
    exact (nd_mk (h5.re [1, 2, 3, 0] (by decide))).sw
  | succ h ih =>
    intro p t w F hw hs
    obtain ⟨l, ks⟩ := t
    have hl5 : l.length ≤ 5 := hw.1
    have hkl : ks.length = l.length + 1 := hw.2.1
    obtain ⟨qs, hq, hs0⟩ := tr_open1 hs
    clear hs
    have hq : qs.map (·.2) = ks := hq
    have hqs : qs.length = l.length + 1 := by rw [← hkl, ← hq, List.length_map]
    subst hq
    have hkids : ∀ q ∈ qs, wf h q.2 ∧ 2 ≤ (ents h q.2).length := fun q hm => wf_kid hw (List.mem_map_of_mem hm)
    have hs0 : Sat w (nd p l (qs.map (·.1)) :: (fo h qs ++ F)) := hs0
    obtain ⟨lv, kv, hs⟩ := nd_open hs0
    rw [F57]; unfold S57
    refine Ok.rd (nil_ptr _ _) (Ok.rd (fld100_0 _ _) (Ok.rd (ld_l hs 0 rfl) ?_))
    refine go_clonel hs (slH_src (hs.foc (k := 1) rfl)) (by omega) fun v w1 h1 s1 => ?_
    obtain ⟨pa, ca, rfl, _⟩ := slH_len h1
    refine Ok.rd (bld100_l _ _ _) ?_
    refine go_box100 rfl rfl h1 fun c w2 h2 s2 => ?_
    refine Ok.rd (nil_ptr _ _) (Ok.rd (fld100_1 _ _) (Ok.rd (ld_k h2 2 rfl) (Ok.rd2 (sl_len T98 (h2.foc (k := 4) rfl) w2) ?_)))
    have h3 := (slH_nil (T := 55) (k := 1) (enc := encP) none h2).re [1, 2, 0, 3, 4, 5] (by decide)
    refine Ok.mono (copied_loop (h := h) (qs := qs) (by omega) (fun q hq w F hs => ih q.1 q.2 w F (hkids q hq).1 hs) [] qs [] (.slice none 0 0) _ w2 F rfl rfl h3 rfl rfl (by show int _ = int _; simp) rfl rfl) ?_
    rintro v w3 ⟨rfl, s3, dq, kv2, hd, h4⟩
    refine ⟨c, rfl, ?_, s1.trans (s2.trans s3)⟩
    have h5 : Sat w3 (nd c l (dq.map (·.1)) :: pt p [lv, kv] 100 :: slH 40 2 encE lv l :: slH 55 1 encP kv (qs.map (·.1)) :: (fo h dq ++ (fo h qs ++ F))) := nd_mk h4
    have h6 := nd_mk (h5.re [1, 2, 3, 0] (by decide))
    have h6 : Sat w3 (nd p l (qs.map (·.1)) :: nd c l (dq.map (·.1)) :: (fo h dq ++ (fo h qs ++ F))) := h6
    have h7 : Sat w3 (nd p l (qs.map (·.1)) :: (fo h qs ++ (nd c l (dq.map (·.1)) :: (fo h dq ++ F)))) := by
      refine h6.perm (List.Perm.cons _ ?_)
      refine (List.Perm.cons _ ?_).trans List.perm_middle.symm
      rw [← List.append_assoc, ← List.append_assoc]
      exact List.Perm.append_right _ List.perm_append_comm
    have h8 := tr_mk1 h7
    have h9 : Sat w3 (nd c l (dq.map (·.1)) :: (fo h dq ++ (tr (h + 1) p (l, qs.map (·.2)) :: F))) := by
      refine h8.perm ?_
      exact (List.perm_middle (l₁ := _ :: _) (l₂ := F)).symm
    have h10 := tr_mk1 h9
    rw [hd] at h10
    exact h10

theorem tcopy_ok {T : Nat} {L : List Ent} (hs : Sat w (tree T L :: F)) : Ok (Fn Pg 23 [ptr T 0] w) fun v w' => ∃ U, v = ptr U 0 ∧ Sat w' (tree U L :: tree T L :: F) ∧ Sm w w' := by
  obtain ⟨r, h, t, h1, h2, h3, h4, hs⟩ := tree_open hs
  rw [F23]; unfold S23
  refine Ok.rd2 (none_ok hs 0 rfl) (Ok.cf rfl ?_)
  have hd := hs.drw
  refine Ok.rd (nil_ptr _ _) (Ok.rd (fld57_0 _ _) (Ok.rd (ld_root hd 0 rfl) ?_))
  refine Ok.bind (copied_ok h r t (drw w) _ h1 hd.sw) ?_
  rintro v w1 ⟨q, rfl, g1, s1⟩
  refine Ok.rd (nil_ptr _ _) (Ok.rd (fld57_1 _ _) (Ok.rd (ld_num g1 2 rfl) ?_))
  refine Ok.chk (show ldV Pg 3 (ptr T (0 + 1)) (drw w) = some (int L.length) from ld_num hd 0 rfl) ?_
  refine Ok.rd (bld57_2 _ _) ?_
  refine go_box (l := [ptr q 0, int L.length]) rfl g1 fun U w2 g2 s2 => ?_
  refine ⟨_, _, rfl, U, rfl, ?_, s1.drw.trans s2⟩
  have g3 : Sat w2 (tree U L :: tr h r t :: pt T [ptr r 0, int L.length] 57 :: F) := tree_mk h1 h2 h3 h4 rfl g2
  exact (tree_mk h1 h2 h3 h4 rfl (g3.re [2, 1, 0] (by decide))).sw
end Go.Cb
