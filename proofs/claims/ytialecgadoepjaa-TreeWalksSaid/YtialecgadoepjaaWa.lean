/-
  walk: each entry from a key on is handed on, until one is refused.
-/
import Derived.Test.YtialecgadoepjaaRo
set_option linter.unusedVariables false
set_option linter.unusedSimpArgs false
namespace Go.Cb
variable {w : World} {F : List HP} {Q Q' : Value → World → Prop}

theorem t_call {o : R} {k : Value → World → R} {x : Bool} {w : World} (hx : x = true) (h : Ok o Q') (hk : ∀ v w', Q' v w' → Ok (k v w') Q) : Ok (rd2 (gate (.bool x) true (fun _ => rd2 o fun v w => some (v, w)) w) k) Q := by
  obtain ⟨v, w', h, q⟩ := h
  exact t_ok hx (gr2 h) (hk _ _ q)
theorem f_call {o : R} {k : Value → World → R} {x : Bool} {w : World} (hx : x = false) (h : Ok o Q') (hk : ∀ v w', Q' v w' → Ok (k v w') Q) : Ok (rd2 (gate (.bool x) false (fun _ => rd2 o fun v w => some (v, w)) w) k) Q := by
  obtain ⟨v, w', h, q⟩ := h
  exact f_ok hx (gr2 h) (hk _ _ q)

theorem wk_in {h : Nat} {N A : HP} {q1 q2 : List (Nat × BT h)} {q : Nat × BT h} : Sat w (N :: (fo h (q1 ++ q :: q2) ++ (A :: F))) ↔ Sat w (tr h q.1 q.2 :: A :: N :: (fo h (q1 ++ q2) ++ F)) := by
  have hp : (N :: (fo h (q1 ++ q :: q2) ++ (A :: F))).Perm (tr h q.1 q.2 :: A :: N :: (fo h (q1 ++ q2) ++ F)) := by
    rw [fo_app, fo_cons, fo_app, List.append_assoc, List.cons_append, List.append_assoc]
    have h1 : (fo h q1 ++ tr h q.1 q.2 :: (fo h q2 ++ A :: F)).Perm (tr h q.1 q.2 :: A :: (fo h q1 ++ (fo h q2 ++ F))) := by
      refine List.perm_middle.trans (List.Perm.cons _ ?_)
      rw [← List.append_assoc, ← List.append_assoc]
      exact List.perm_middle
    exact (h1.cons N).trans ((List.Perm.swap _ _ _).trans ((List.Perm.swap _ _ _).cons _))
  exact ⟨fun hs => hs.perm hp, fun hs => hs.perm hp.symm⟩
theorem ca_in {N A : HP} {X : List HP} : Sat w (N :: (X ++ (A :: F))) ↔ Sat w (A :: N :: (X ++ F)) := by
  have hp : (N :: (X ++ (A :: F))).Perm (A :: N :: (X ++ F)) := (List.perm_middle.cons N).trans (List.Perm.swap _ _ _)
  exact ⟨fun hs => hs.perm hp, fun hs => hs.perm hp.symm⟩

theorem sub_flat {p : Ent × List Ent} {L : List (Ent × List Ent)} (h : p ∈ L) : (p.1 :: p.2).Sublist (L.flatMap fun p => p.1 :: p.2) := by
  obtain ⟨A, B, rfl⟩ := List.append_of_mem h
  rw [List.flatMap_append, List.flatMap_cons]
  exact (List.sublist_append_left _ _).trans (List.sublist_append_right _ _)

variable {on : Value} {N : Nat} {stop : List Ent → Ent → Bool} {R : List Ent → HP} {D : List Ent → Ent → HP} {key : ByteArray}

theorem walk_leaf (hon : YOk on N stop R D) {p : Nat} : ∀ (l2 l1 s : List Ent) (e : Env) (w : World) (F : List HP), s.length + l2.length ≤ N → Sat w (nd p (l1 ++ l2) [] :: R s :: F) → (l1 ++ l2).length ≤ 5 → e 0 = ptr p 0 → e 1 = .string key → e 2 = on → e 7 = int l1.length → e 50 = undef →
    Ok (evalLoop (cx90 (Fn Pg) (Rnd Pg)) (cdA Go.Proofs.Try.f90 [1, 1, 0, 0]) (K90_1 (Fn Pg) (Rnd Pg)) e w) fun x w' => x = .bool (feed stop s l2).2.isNone ∧ Sat w' (nd p (l1 ++ l2) [] :: St R D (feed stop s l2) :: F) ∧ Sm w w' := by
  intro l2
  induction l2 with
  | nil =>
    intro l1 s e w F hN hs h5 e0 e1 e2 e7 e50
    obtain ⟨lv, kv, f1, f2, f3, f4, f5, _⟩ := nd_facts hs (k := 0) rfl
    rw [S90_L1_eq]; unfold S90_L1
    rw [e0, e1, e2, e7, e50]
    refine Ok.rd2 (leaf_eq hs 0 rfl) (Ok.rd (un_not _) ?_)
    refine t_no rfl (t_no rfl (t_no rfl (t_no rfl (t_no rfl (t_no rfl (t_no rfl (t_no rfl (t_no rfl (t_no rfl (t_no rfl (pk_f rfl (Ok.cf rfl ?_))))))))))))
    refine Ok.rd (nil_ptr _ _) (Ok.rd (fld100_0 _ _) (Ok.rd f1 (Ok.rd2 (f5 _ _ _ _) (Ok.rd2 bin_eql (Ok.ct (by simp) ?_)))))
    exact ⟨_, _, rfl, rfl, hs, Sm.refl _⟩
  | cons y l2 ih =>
    intro l1 s e w F hN hs h5 e0 e1 e2 e7 e50
    obtain ⟨lv, kv, f1, f2, f3, f4, f5, _⟩ := nd_facts hs (k := 0) rfl
    rw [S90_L1_eq]; unfold S90_L1
    rw [e0, e1, e2, e7, e50]
    refine Ok.rd2 (leaf_eq hs 0 rfl) (Ok.rd (un_not _) ?_)
    refine t_no rfl (t_no rfl (t_no rfl (t_no rfl (t_no rfl (t_no rfl (t_no rfl (t_no rfl (t_no rfl (t_no rfl (t_no rfl (pk_f rfl (Ok.cf rfl ?_))))))))))))
    refine Ok.rd (nil_ptr _ _) (Ok.rd (fld100_0 _ _) (Ok.rd f1 (Ok.rd2 (f5 _ _ _ _) (Ok.rd2 bin_eql (Ok.cf (by simp; omega) ?_)))))
    obtain ⟨b, o, g1, g2, _⟩ := f4 l1.length y (by simp)
    refine Ok.rd (nil_ptr _ _) (Ok.rd (fld100_0 _ _) (Ok.rd f1 (Ok.rd g1 (Ok.rd g2 ?_))))
    refine Ok.bind (hon s y w _ (by simp at hN; omega) hs.sw) ?_
    rintro x w1 ⟨rfl, h1, s1⟩
    refine Ok.rd (un_not _) ?_
    cases hst : stop s y with
    | true =>
      rw [hst] at h1
      refine Ok.ct rfl ?_
      refine ⟨_, _, rfl, ?_, ?_, s1⟩
      · simp [feed, hst]
      · simp only [feed, hst, cond_true]; exact h1.sw
    | false =>
      rw [hst] at h1
      refine Ok.cf rfl (Ok.rd2 (bin_add1 (by simp at h5; omega)) ?_)
      have hl : l1 ++ y :: l2 = (l1 ++ [y]) ++ l2 := by simp
      have h2 : Sat w1 (nd p ((l1 ++ [y]) ++ l2) [] :: R (s ++ [y]) :: F) := by rw [← hl]; exact h1.sw
      refine Ok.mono (ih (l1 ++ [y]) (s ++ [y]) _ w1 F (by simp at hN ⊢; omega) h2 (by rw [← hl]; exact h5) ?_ ?_ ?_ ?_ ?_) ?_
      · exact e0
      · exact e1
      · exact e2
      · show int _ = int _; simp
      · exact e50
      · rintro x w2 ⟨rfl, m1, m2⟩
        simp only [feed, hst, cond_false]
        exact ⟨trivial, by rw [hl]; exact m1, s1.trans m2⟩

theorem walk_node (hon : YOk on N stop R D) {h p : Nat} (ihh : ∀ (p : Nat) (t : BT h) (s : List Ent) (w : World) (F : List HP), s.length + (fromL (flat h t) key).length ≤ N → wf h t → Srt (flat h t) → Sat w (tr h p t :: R s :: F) →
      Ok (Fn Pg 90 [ptr p 0, .string key, on] w) fun x w' => x = .bool (feed stop s (fromL (flat h t) key)).2.isNone ∧ Sat w' (tr h p t :: St R D (feed stop s (fromL (flat h t) key)) :: F) ∧ Sm w w') :
    ∀ (l2 l1 : List Ent) (q1 q2 : List (Nat × BT h)) (q : Nat × BT h) (s : List Ent) (e : Env) (w : World) (F : List HP), s.length + (fromL (flat h q.2) key ++ rpart l2 (fk h q2)).length ≤ N → q1.length = l1.length → q2.length = l2.length → Sat w (nd p (l1 ++ l2) ((q1 ++ q :: q2).map (·.1)) :: (fo h (q1 ++ q :: q2) ++ (R s :: F))) → (l1 ++ l2).length ≤ 5 →
    (∀ q' ∈ q :: q2, wf h q'.2 ∧ Srt (flat h q'.2)) → (∀ x ∈ rpart l2 (fk h q2), kl x.1 key = false) → e 0 = ptr p 0 → e 1 = .string key → e 2 = on → e 7 = int l1.length → e 50 = undef →
    Ok (evalLoop (cx90 (Fn Pg) (Rnd Pg)) (cdA Go.Proofs.Try.f90 [1, 1, 0, 0]) (K90_1 (Fn Pg) (Rnd Pg)) e w) fun x w' => x = .bool (feed stop s (fromL (flat h q.2) key ++ rpart l2 (fk h q2))).2.isNone ∧
      Sat w' (nd p (l1 ++ l2) ((q1 ++ q :: q2).map (·.1)) :: (fo h (q1 ++ q :: q2) ++ (St R D (feed stop s (fromL (flat h q.2) key ++ rpart l2 (fk h q2))) :: F))) ∧ Sm w w' := by
  intro l2
  induction l2 with
  | nil =>
    intro l1 q1 q2 q s e w F hN hq1 hq2 hs h5 hw hge e0 e1 e2 e7 e50
    obtain ⟨lv, kv, f1, f2, f3, f4, f5, _⟩ := nd_facts hs (k := 0) rfl
    rw [S90_L1_eq]; unfold S90_L1
    rw [e0, e1, e2, e7, e50]
    have hx : (!decide (((q1 ++ q :: q2).map (·.1)).length = 0)) = true := by simp
    obtain ⟨b, o, g1, g2⟩ := f3 l1.length q.1 (by rw [← hq1]; simp)
    refine Ok.rd2 (leaf_eq hs 0 rfl) (Ok.rd (un_not _) ?_)
    refine t_ok hx rfl (t_ok hx rfl (t_ok hx (by rw [fld100_1]; rfl) (t_ok hx (by rw [f2]; rfl) (t_ok hx rfl (t_ok hx (by rw [g1]; rfl) (t_ok hx (by rw [g2]; rfl) (t_ok hx rfl (t_ok hx rfl ?_))))))))
    refine t_call hx (ihh q.1 q.2 s w _ (by rw [List.length_append] at hN; omega) (hw q (by simp)).1 (hw q (by simp)).2 (wk_in.1 hs)) ?_
    rintro x w1 ⟨rfl, h1, s1⟩
    refine t_ok hx (by rw [un_not]; rfl) (pk_t hx ?_)
    have hr : rpart [] (fk h q2) = [] := by simp [rpart]
    rw [hr, List.append_nil]
    cases hst : (feed stop s (fromL (flat h q.2) key)).2 with
    | some z =>
      refine Ok.ct rfl ?_
      exact ⟨_, _, rfl, rfl, wk_in.2 h1, s1⟩
    | none =>
      have h2 := wk_in.2 h1
      obtain ⟨lv, kv, f1, f2, f3, f4, f5, _⟩ := nd_facts h2 (k := 0) rfl
      refine Ok.cf rfl ?_
      refine Ok.rd (nil_ptr _ _) (Ok.rd (fld100_0 _ _) (Ok.rd f1 (Ok.rd2 (f5 _ _ _ _) (Ok.rd2 bin_eql (Ok.ct (by simp) ?_)))))
      exact ⟨_, _, rfl, rfl, h2, s1⟩
  | cons y l2 ih =>
    intro l1 q1 q2 q s e w F hN hq1 hq2 hs h5 hw hge e0 e1 e2 e7 e50
    obtain ⟨q', q2, rfl⟩ : ∃ a b, q2 = a :: b := by
      cases q2 with
      | nil => simp at hq2
      | cons a b => exact ⟨a, b, rfl⟩
    obtain ⟨lv, kv, f1, f2, f3, f4, f5, _⟩ := nd_facts hs (k := 0) rfl
    rw [S90_L1_eq]; unfold S90_L1
    rw [e0, e1, e2, e7, e50]
    have hx : (!decide (((q1 ++ q :: q' :: q2).map (·.1)).length = 0)) = true := by simp
    obtain ⟨b, o, g1, g2⟩ := f3 l1.length q.1 (by rw [← hq1]; simp)
    refine Ok.rd2 (leaf_eq hs 0 rfl) (Ok.rd (un_not _) ?_)
    refine t_ok hx rfl (t_ok hx rfl (t_ok hx (by rw [fld100_1]; rfl) (t_ok hx (by rw [f2]; rfl) (t_ok hx rfl (t_ok hx (by rw [g1]; rfl) (t_ok hx (by rw [g2]; rfl) (t_ok hx rfl (t_ok hx rfl ?_))))))))
    refine t_call hx (ihh q.1 q.2 s w _ (by rw [List.length_append] at hN; omega) (hw q (by simp)).1 (hw q (by simp)).2 (wk_in.1 hs)) ?_
    rintro x w1 ⟨rfl, h1, s1⟩
    refine t_ok hx (by rw [un_not]; rfl) (pk_t hx ?_)
    have hr : rpart (y :: l2) (fk h (q' :: q2)) = y :: (flat h q'.2 ++ rpart l2 (fk h q2)) := by
      show rpart (y :: l2) (flat h q'.2 :: fk h q2) = _
      rw [rpart_cons]; rfl
    rw [hr] at hge hN ⊢
    cases hst : (feed stop s (fromL (flat h q.2) key)).2 with
    | some z =>
      refine Ok.ct rfl ?_
      rw [feed_some hst]
      refine ⟨_, _, rfl, by rw [hst]; rfl, wk_in.2 h1, s1⟩
    | none =>
      have h2 := wk_in.2 h1
      rw [feed_none hst]
      obtain ⟨s', hs'⟩ : ∃ s', feed stop s (fromL (flat h q.2) key) = (s', none) := ⟨_, Prod.ext rfl hst⟩
      have hse := feed_end hst
      rw [hs'] at hse
      have hse : s' = s ++ fromL (flat h q.2) key := hse
      have hN' : s'.length + (y :: (flat h q'.2 ++ rpart l2 (fk h q2))).length ≤ N := by rw [hse, List.length_append]; rw [List.length_append] at hN; omega
      clear hse
      rw [hs'] at h2 ⊢
      have h2 : Sat w1 (nd p (l1 ++ y :: l2) ((q1 ++ q :: q' :: q2).map (·.1)) :: (fo h (q1 ++ q :: q' :: q2) ++ (R s' :: F))) := h2
      obtain ⟨lv, kv, f1, f2, f3, f4, f5, _⟩ := nd_facts h2 (k := 0) rfl
      refine Ok.cf rfl ?_
      refine Ok.rd (nil_ptr _ _) (Ok.rd (fld100_0 _ _) (Ok.rd f1 (Ok.rd2 (f5 _ _ _ _) (Ok.rd2 bin_eql (Ok.cf (by simp; omega) ?_)))))
      obtain ⟨b, o, g1, g2, _⟩ := f4 l1.length y (by simp)
      refine Ok.rd (nil_ptr _ _) (Ok.rd (fld100_0 _ _) (Ok.rd f1 (Ok.rd g1 (Ok.rd g2 ?_))))
      refine Ok.bind (hon s' y w1 _ (by simp at hN'; omega) (ca_in.1 h2)) ?_
      rintro x w2 ⟨rfl, h3, s3⟩
      refine Ok.rd (un_not _) ?_
      cases hsy : stop s' y with
      | true =>
        rw [hsy] at h3
        refine Ok.ct rfl ?_
        refine ⟨_, _, rfl, ?_, ?_, s1.trans s3⟩
        · simp [feed, hsy]
        · simp only [feed, hsy, cond_true]; exact ca_in.2 h3
      | false =>
        rw [hsy] at h3
        refine Ok.cf rfl (Ok.rd2 (bin_add1 (by simp at h5; omega)) ?_)
        have hl : l1 ++ y :: l2 = (l1 ++ [y]) ++ l2 := by simp
        have hqq : q1 ++ q :: q' :: q2 = (q1 ++ [q]) ++ q' :: q2 := by simp
        have h4 : Sat w2 (nd p ((l1 ++ [y]) ++ l2) (((q1 ++ [q]) ++ q' :: q2).map (·.1)) :: (fo h ((q1 ++ [q]) ++ q' :: q2) ++ (R (s' ++ [y]) :: F))) := by
          rw [← hl, ← hqq]; exact ca_in.2 h3
        have hid : fromL (flat h q'.2) key = flat h q'.2 := fromL_id fun x hx => hge x (by simp [hx])
        refine Ok.mono (ih (l1 ++ [y]) (q1 ++ [q]) q2 q' (s' ++ [y]) _ w2 F (by rw [hid]; simp at hN' ⊢; omega) (by simp [hq1]) (by simpa using hq2) h4 (by rw [← hl]; exact h5) (fun z hz => hw z (by simp at hz ⊢; exact .inr hz)) (fun x hx => hge x (by simp [hx])) ?_ ?_ ?_ ?_ ?_) ?_
        · exact e0
        · exact e1
        · exact e2
        · show int _ = int _; simp
        · exact e50
        · rintro x w3 ⟨rfl, m1, m2⟩
          rw [hid] at m1 ⊢
          simp only [feed, hsy, cond_false]
          refine ⟨trivial, ?_, s1.trans (s3.trans m2)⟩
          rw [hl, hqq]; exact m1

theorem walk_ok (hon : YOk on N stop R D) : ∀ (h p : Nat) (t : BT h) (s : List Ent) (w : World) (F : List HP), s.length + (fromL (flat h t) key).length ≤ N → wf h t → Srt (flat h t) → Sat w (tr h p t :: R s :: F) →
    Ok (Fn Pg 90 [ptr p 0, .string key, on] w) fun x w' => x = .bool (feed stop s (fromL (flat h t) key)).2.isNone ∧ Sat w' (tr h p t :: St R D (feed stop s (fromL (flat h t) key)) :: F) ∧ Sm w w' := by
  intro h
  induction h with
  | zero =>
    intro p (t : List Ent) s w F hN hw hsr hs
    have hs : Sat w (nd p t [] :: R s :: F) := hs
    have hw : List.length t ≤ 5 := hw
    rw [F90]; unfold S90
    refine Ok.bind (find_ok hs (k := 0) rfl (by omega)) ?_
    rintro v w1 ⟨l1, l2, b, rfl, hf, rfl, h2, s1⟩
    refine Ok.rd rfl (Ok.rd rfl ?_)
    have hsr' : Srt (l1 ++ l2) := hsr
    have hfr : fromL (flat 0 (l1 ++ l2)) key = l2 := by
      show fromL (l1 ++ l2) key = l2
      rw [fromL_app, fromL_bel hf.1]
      match l2, fits_head hf, (srt_app.1 hsr').2.1 with
      | [], _, _ => rfl
      | z :: r, hz, hr => exact fromL_id (head_from hr (hz z rfl))
    rw [hfr] at hN ⊢
    refine Ok.mono (walk_leaf hon (key := key) l2 l1 s _ w1 F hN h2 hw rfl rfl rfl rfl rfl) ?_
    rintro x w2 ⟨rfl, m1, m2⟩
    exact ⟨rfl, m1, s1.trans m2⟩
  | succ h ih =>
    intro p t s w F hN hw hsr hs
    obtain ⟨l, ks⟩ := t
    have hl5 : l.length ≤ 5 := hw.1
    have hkl : ks.length = l.length + 1 := hw.2.1
    obtain ⟨qs, hq, hs0⟩ := tr_open1 hs
    clear hs
    have hq : qs.map (·.2) = ks := hq
    have hqs : qs.length = l.length + 1 := by rw [← hkl, ← hq, List.length_map]
    subst hq
    have hkids : ∀ q ∈ qs, wf h q.2 ∧ 2 ≤ (ents h q.2).length := fun q hm => wf_kid hw (List.mem_map_of_mem hm)
    have hs0 : Sat w (nd p l (qs.map (·.1)) :: (fo h qs ++ (R s :: F))) := hs0
    rw [F90]; unfold S90
    refine Ok.bind (find_ok hs0 (k := 0) rfl (by omega)) ?_
    rintro v w1 ⟨l1, l2, b, rfl, hf, rfl, h2, s1⟩
    refine Ok.rd rfl (Ok.rd rfl ?_)
    obtain ⟨q1, q, q2, rfl, hq1⟩ := ex_at (xs := qs) (i := l1.length) (by rw [hqs]; simp; omega)
    have hq2 : q2.length = l2.length := by simp at hqs; omega
    have hfl := flat_at (p := q.1) (l2 := l2) (q2 := q2) (k := q.2) hq1
    have hfl : flat (h + 1) (l1 ++ l2, (q1 ++ q :: q2).map (·.2)) = lpart l1 (fk h q1) ++ flat h q.2 ++ rpart l2 (fk h q2) := hfl
    rw [hfl] at hsr hN ⊢
    obtain ⟨a1, a2, _⟩ := srt_app.1 hsr
    obtain ⟨a3, a4, _⟩ := srt_app.1 a1
    have hge := rpart_from a2 (fits_head hf)
    have hall : ∀ q' ∈ q2, Srt (flat h q'.2) := by
      intro q' hm
      obtain ⟨n, hn⟩ := List.getElem?_of_mem hm
      obtain ⟨hlt, rfl⟩ := List.getElem?_eq_some_iff.1 hn
      clear hfl hsr hkids hs0 h2 hqs hf hw hkl hl5
      have : (flat h q2[n].2).Sublist (rpart l2 (fk h q2)) := by
        unfold rpart
        have hz : (l2[n]'(by omega), flat h q2[n].2) ∈ l2.zip (fk h q2) := by
          refine List.mem_of_getElem? (i := n) ?_
          rw [List.getElem?_zip_eq_some]
          exact ⟨List.getElem?_eq_getElem _, by simp [fk, hlt]⟩
        exact (List.sublist_cons_self _ _).trans (sub_flat hz)
      exact List.Pairwise.sublist this a2
    have hfr : fromL (lpart l1 (fk h q1) ++ flat h q.2 ++ rpart l2 (fk h q2)) key = fromL (flat h q.2) key ++ rpart l2 (fk h q2) := by
      rw [fromL_app, fromL_app, fromL_bel (lpart_bel a3 hf.1), fromL_id hge]; rfl
    rw [hfr] at hN ⊢
    refine Ok.mono (walk_node hon ih l2 l1 q1 q2 q s _ w1 F hN hq1 hq2 h2 hl5 ?_ hge rfl rfl rfl rfl rfl) ?_
    · intro q' hm
      rcases List.mem_cons.1 hm with rfl | hm
      · exact ⟨(hkids _ (by simp)).1, a4⟩
      · exact ⟨(hkids _ (by simp [hm])).1, hall _ hm⟩
    · rintro x w2 ⟨rfl, m1, m2⟩
      exact ⟨rfl, tr_mk1 m1, s1.trans m2⟩
end Go.Cb
