/-
  merge and lend at trees; rich; edge.
-/
import Derived.Test.YtialecgadoepjaaIns
set_option linter.unusedVariables false
set_option linter.unusedSimpArgs false
namespace Go.Cb
variable {w : World} {F : List HP} {Q : Value → World → Prop}

theorem fo_perm {h : Nat} {qs qs' : List (Nat × BT h)} (hp : qs.Perm qs') : (fo h qs).Perm (fo h qs') := hp.map _

theorem tr_open2 {h a b : Nat} {ta tb : BT h} (hs : Sat w (tr h a ta :: tr h b tb :: F)) : ∃ qa qb : List (Nat × BT (h - 1)), qa.map (·.2) = subs h ta ∧ qb.map (·.2) = subs h tb ∧
    Sat w (nd a (ents h ta) (qa.map (·.1)) :: nd b (ents h tb) (qb.map (·.1)) :: (fo (h - 1) (qa ++ qb) ++ F)) := by
  obtain ⟨qa, h1, hs⟩ := tr_open hs
  obtain ⟨qb, h2, hs⟩ := tr_open ((hs.perm (List.perm_middle.cons _)).sw)
  refine ⟨qa, qb, h1, h2, ?_⟩
  have hp : (nd b (ents h tb) (qb.map (·.1)) :: (fo (h - 1) qb ++ nd a (ents h ta) (qa.map (·.1)) :: (fo (h - 1) qa ++ F))).Perm (nd a (ents h ta) (qa.map (·.1)) :: nd b (ents h tb) (qb.map (·.1)) :: (fo (h - 1) (qa ++ qb) ++ F)) := by
    refine (List.perm_middle.cons _).trans ((List.Perm.swap _ _ _).trans ((List.Perm.cons _ (List.Perm.cons _ ?_))))
    rw [fo_app, ← List.append_assoc]
    exact List.Perm.append_right _ List.perm_append_comm
  exact hs.perm hp
theorem tr_mk2 {h a b : Nat} {la lb : List Ent} {ka kb : List Nat} {qa qb qs : List (Nat × BT (h - 1))} (h0 : h = 0 → qs = []) (hp : qs.Perm (qa ++ qb)) (ha : ka = qa.map (·.1)) (hb : kb = qb.map (·.1))
    (hs : Sat w (nd a la ka :: nd b lb kb :: (fo (h - 1) qs ++ F))) : Sat w (tr h a (mkB h la (qa.map (·.2))) :: tr h b (mkB h lb (qb.map (·.2))) :: F) := by
  subst ha; subst hb
  have h1 : Sat w (nd a la (qa.map (·.1)) :: nd b lb (qb.map (·.1)) :: (fo (h - 1) (qa ++ qb) ++ F)) := hs.perm (((List.Perm.append_right _ (fo_perm hp)).cons _).cons _)
  have h00 : h = 0 → qa = [] ∧ qb = [] := fun hh => by
    have := hp.length_eq
    rw [h0 hh] at this
    simp at this
    exact ⟨List.length_eq_zero_iff.1 (by omega), List.length_eq_zero_iff.1 (by omega)⟩
  have h2 : Sat w (nd b lb (qb.map (·.1)) :: (fo (h - 1) qb ++ nd a la (qa.map (·.1)) :: (fo (h - 1) qa ++ F))) := by
    refine h1.perm ((List.Perm.swap _ _ _).trans (List.Perm.cons _ (List.Perm.trans (List.Perm.cons _ ?_) List.perm_middle.symm)))
    rw [fo_app, ← List.append_assoc]
    exact List.Perm.append_right _ List.perm_append_comm
  have h3 := tr_mk (fun hh => (h00 hh).2) h2
  exact tr_mk (fun hh => (h00 hh).1) (h3.perm ((List.Perm.swap _ _ _).trans (List.perm_middle.symm.cons _)))

/-- with the node above them at the head. -/
theorem tr_open3 {h a b : Nat} {N : HP} {ta tb : BT h} (hs : Sat w (N :: tr h a ta :: tr h b tb :: F)) : ∃ qa qb : List (Nat × BT (h - 1)), qa.map (·.2) = subs h ta ∧ qb.map (·.2) = subs h tb ∧
    Sat w (N :: nd a (ents h ta) (qa.map (·.1)) :: nd b (ents h tb) (qb.map (·.1)) :: (fo (h - 1) (qa ++ qb) ++ F)) := by
  obtain ⟨qa, qb, h1, h2, hs⟩ := tr_open2 hs.rot
  exact ⟨qa, qb, h1, h2, mid_out hs⟩
theorem tr_mk3 {h a b : Nat} {N : HP} {la lb : List Ent} {ka kb : List Nat} {qa qb qs : List (Nat × BT (h - 1))} (h0 : h = 0 → qs = []) (hp : qs.Perm (qa ++ qb)) (ha : ka = qa.map (·.1)) (hb : kb = qb.map (·.1))
    (hs : Sat w (N :: nd a la ka :: nd b lb kb :: (fo (h - 1) qs ++ F))) : Sat w (N :: tr h a (mkB h la (qa.map (·.2))) :: tr h b (mkB h lb (qb.map (·.2))) :: F) := by
  have h1 : Sat w (nd a la ka :: nd b lb kb :: (fo (h - 1) qs ++ N :: F)) := (hs.rot).perm ((List.perm_middle.symm.cons _).cons _)
  exact (tr_mk2 h0 hp ha hb h1).rot'

theorem subs_len {h : Nat} {t : BT h} (hw : wf h t) : (h = 0 → subs h t = []) ∧ (h = 0 ∨ (subs h t).length = (ents h t).length + 1) ∧ (subs h t).length ≤ 6 := by
  have := wf_ents hw
  rcases wf_subs hw with ⟨h1, h2⟩ | ⟨h1, h2⟩
  · exact ⟨fun _ => h2, .inl h1, by rw [h2]; simp⟩
  · exact ⟨fun hh => by omega, .inr h2, by omega⟩

theorem merge_tr {h n a b i : Nat} {l : List Ent} {ps : List Nat} {ta tb : BT h} {e : Ent} (hs : Sat w (nd n l ps :: tr h a ta :: tr h b tb :: F)) (ha : ps[i]? = some a) (hb : ps[i + 1]? = some b) (he : l[i]? = some e) (hwa : wf h ta) (hwb : wf h tb)
    (h2 : (ents h ta).length + (ents h tb).length ≤ 4) (b1 : l.length ≤ 90) (b2 : ps.length ≤ 90) :
    Ok (Fn Pg 87 [ptr n 0, int i] w) fun v w' => (∃ t' : BT h, Sat w' (nd n (l.eraseIdx i) (ps.eraseIdx (i + 1)) :: tr h a t' :: F) ∧ wf h t' ∧ (ents h t').length = (ents h ta).length + (ents h tb).length + 1 ∧ flat h t' = flat h ta ++ e :: flat h tb) ∧ Sm w w' := by
  obtain ⟨qa, qb, ea, eb, h1⟩ := tr_open3 hs
  obtain ⟨a1, a2, a3⟩ := subs_len hwa
  obtain ⟨c1, c2, c3⟩ := subs_len hwb
  have la : qa.length = (subs h ta).length := by rw [← ea, List.length_map]
  have lb : qb.length = (subs h tb).length := by rw [← eb, List.length_map]
  refine Ok.mono (merge_ok h1 ha hb he (by omega) (by omega) (by omega) (by omega) (by rw [List.length_map]; omega) (by rw [List.length_map]; omega)) ?_
  rintro v w' ⟨g1, g2⟩
  have g3 : Sat w' (nd a (ents h ta ++ e :: ents h tb) ((qa ++ qb).map (·.1)) :: (fo (h - 1) (qa ++ qb) ++ nd n (l.eraseIdx i) (ps.eraseIdx (i + 1)) :: F)) := by
    rw [List.map_append]
    exact (g1.sw).perm (List.perm_middle.symm.cons _)
  have h0 : h = 0 → qa ++ qb = [] := fun hh => by
    have e1 := a1 hh; have e2 := c1 hh
    rw [e1] at la; rw [e2] at lb
    rw [List.length_eq_zero_iff.1 la, List.length_eq_zero_iff.1 lb]; rfl
  have g4 := (tr_mk h0 g3).sw
  rw [List.map_append, ea, eb] at g4
  refine ⟨⟨_, g4, ?_, ?_, ?_⟩, g2⟩
  · refine wf_mk (by simp; omega) (by rcases a2 with a2 | a2; exact .inl a2; rcases c2 with c2 | c2; exact .inl c2; right; simp; omega) fun k hk => ?_
    rcases List.mem_append.1 hk with hk | hk
    · exact wf_kids hwa k hk
    · exact wf_kids hwb k hk
  · rw [ents_mk]; simp; omega
  · rw [join_flat (by rcases a2 with a2 | a2; exact .inl a2; rcases c2 with c2 | c2; exact .inl c2; right; omega), mkB_eta, mkB_eta]

theorem lendL_tr {h n t f i j : Nat} {l : List Ent} {ps : List Nat} {tt tf : BT h} {e : Ent} (hs : Sat w (nd n l ps :: tr h t tt :: tr h f tf :: F)) (hij : i = j + 1) (ht : ps[i]? = some t) (hf : ps[j]? = some f) (he : l[j]? = some e) (hwt : wf h tt) (hwf : wf h tf)
    (h3 : 3 ≤ (ents h tf).length) (h2 : (ents h tt).length ≤ 4) (b1 : l.length ≤ 90) (b2 : ps.length ≤ 90) :
    Ok (Fn Pg 115 [ptr n 0, int i, int j] w) fun v w' => (∃ (g : Ent) (tt' tf' : BT h), Sat w' (nd n (l.set j g) ps :: tr h t tt' :: tr h f tf' :: F) ∧ wf h tt' ∧ wf h tf' ∧ (ents h tt').length = (ents h tt).length + 1 ∧ (ents h tf').length + 1 = (ents h tf).length ∧
      flat h tf ++ e :: flat h tt = flat h tf' ++ g :: flat h tt' ∧ ∀ y ∈ flat h tt, y ∈ flat h tt') ∧ Sm w w' := by
  obtain ⟨qt, qf, et, ef, h1⟩ := tr_open3 hs
  obtain ⟨a1, a2, a3⟩ := subs_len hwt
  obtain ⟨c1, c2, c3⟩ := subs_len hwf
  have lt : qt.length = (subs h tt).length := by rw [← et, List.length_map]
  have lf : qf.length = (subs h tf).length := by rw [← ef, List.length_map]
  have wet := wf_ents hwt
  have wef := wf_ents hwf
  obtain ⟨m, hm⟩ : ∃ m, (ents h tf).length = m + 1 := ⟨(ents h tf).length - 1, by omega⟩
  obtain ⟨g, hg⟩ : ∃ g, (ents h tf)[m]? = some g := ⟨_, List.getElem?_eq_getElem (by omega)⟩
  refine Ok.mono (lendL_ok h1 hij ht hf he hm hg (by
    rcases c2 with c2 | c2
    · left; have := c1 c2; rw [this] at lf; rw [List.length_eq_zero_iff.1 lf]; rfl
    · right; rw [List.length_map]; omega) (by omega) (by omega) (by omega) (by omega) (by rw [List.length_map]; omega)) ?_
  rintro v w' ⟨g1, g2⟩
  have h0 : h = 0 → qt ++ qf = [] := fun hh => by
    have e1 := a1 hh; have e2 := c1 hh
    rw [e1] at lt; rw [e2] at lf
    rw [List.length_eq_zero_iff.1 lt, List.length_eq_zero_iff.1 lf]; rfl
  have g4 := tr_mk3 (qa := qf.drop (m + 1) ++ qt) (qb := qf.take (m + 1)) h0 (by
    have : qf.Perm (qf.drop (m + 1) ++ qf.take (m + 1)) := by
      conv => lhs; rw [← List.take_append_drop (m + 1) qf]
      exact List.perm_append_comm
    refine (List.perm_append_comm.trans ((List.Perm.append_right qt this))).trans ?_
    rw [List.append_assoc, List.append_assoc]
    exact List.Perm.append_left _ List.perm_append_comm) (by rw [List.map_append, List.map_drop]) (by rw [List.map_take]) g1
  rw [List.map_append, List.map_drop, List.map_take, et, ef] at g4
  have hcut := cut_flat hg (by rcases c2 with c2 | c2; exact .inl c2; right; omega)
  have hjoin : flat h (mkB h (e :: ents h tt) ((subs h tf).drop (m + 1) ++ subs h tt)) = flat h (mkB h [] ((subs h tf).drop (m + 1))) ++ e :: flat h tt := by
    have := join_flat (h := h) (la := []) (lb := ents h tt) (e := e) (ka := (subs h tf).drop (m + 1)) (kb := subs h tt) (by
      rcases c2 with c2 | c2
      · exact .inl c2
      · rcases a2 with a2 | a2
        · exact .inl a2
        · right; rw [List.length_drop]; simp; omega)
    rw [mkB_eta] at this
    exact this
  have hd0 : (ents h tf).drop (m + 1) = [] := List.drop_eq_nil_of_le (by omega)
  refine ⟨⟨g, _, _, g4, ?_, ?_, ?_, ?_, ?_, ?_⟩, g2⟩
  · refine wf_mk (by simp; omega) (by rcases c2 with c2 | c2; exact .inl c2; rcases a2 with a2 | a2; exact .inl a2; right; simp; omega) fun k hk => ?_
    rcases List.mem_append.1 hk with hk | hk
    · exact wf_kids hwf k (List.mem_of_mem_drop hk)
    · exact wf_kids hwt k hk
  · exact wf_mk (by simp; omega) (by rcases c2 with c2 | c2; exact .inl c2; right; simp; omega) fun k hk => wf_kids hwf k (List.mem_of_mem_take hk)
  · rw [ents_mk]; simp
  · rw [ents_mk]; simp; omega
  · rw [hcut, hjoin, hd0]; simp
  · intro y hy; rw [hjoin]; simp [hy]

theorem lendR_tr {h n t f i j : Nat} {l : List Ent} {ps : List Nat} {tt tf : BT h} {e : Ent} (hs : Sat w (nd n l ps :: tr h t tt :: tr h f tf :: F)) (hij : j = i + 1) (ht : ps[i]? = some t) (hf : ps[j]? = some f) (he : l[i]? = some e) (hwt : wf h tt) (hwf : wf h tf)
    (h3 : 3 ≤ (ents h tf).length) (h2 : (ents h tt).length ≤ 4) (b1 : l.length ≤ 90) (b2 : ps.length ≤ 90) :
    Ok (Fn Pg 115 [ptr n 0, int i, int j] w) fun v w' => (∃ (g : Ent) (tt' tf' : BT h), Sat w' (nd n (l.set i g) ps :: tr h t tt' :: tr h f tf' :: F) ∧ wf h tt' ∧ wf h tf' ∧ (ents h tt').length = (ents h tt).length + 1 ∧ (ents h tf').length + 1 = (ents h tf).length ∧
      flat h tt ++ e :: flat h tf = flat h tt' ++ g :: flat h tf' ∧ ∀ y ∈ flat h tt, y ∈ flat h tt') ∧ Sm w w' := by
  obtain ⟨qt, qf, et, ef, h1⟩ := tr_open3 hs
  obtain ⟨a1, a2, a3⟩ := subs_len hwt
  obtain ⟨c1, c2, c3⟩ := subs_len hwf
  have lt : qt.length = (subs h tt).length := by rw [← et, List.length_map]
  have lf : qf.length = (subs h tf).length := by rw [← ef, List.length_map]
  have wet := wf_ents hwt
  have wef := wf_ents hwf
  obtain ⟨g, hg⟩ : ∃ g, (ents h tf)[0]? = some g := ⟨_, List.getElem?_eq_getElem (by omega)⟩
  refine Ok.mono (lendR_ok h1 hij ht hf he hg (by omega) (by omega) (by omega) (by omega) (by rw [List.length_map]; omega) (by rw [List.length_map]; omega)) ?_
  rintro v w' ⟨g1, g2⟩
  have h0 : h = 0 → qt ++ qf = [] := fun hh => by
    have e1 := a1 hh; have e2 := c1 hh
    rw [e1] at lt; rw [e2] at lf
    rw [List.length_eq_zero_iff.1 lt, List.length_eq_zero_iff.1 lf]; rfl
  have g4 := tr_mk3 (qa := qt ++ qf.take 1) (qb := qf.drop 1) h0 (by rw [List.append_assoc, List.take_append_drop]) (by rw [List.map_append, List.map_take]) (by rw [List.map_drop]) g1
  rw [List.map_append, List.map_drop, List.map_take, et, ef] at g4
  have hcut := cut_flat hg (by rcases c2 with c2 | c2; exact .inl c2; right; omega)
  have hjoin : flat h (mkB h (ents h tt ++ [e]) (subs h tt ++ (subs h tf).take 1)) = flat h tt ++ e :: flat h (mkB h [] ((subs h tf).take 1)) := by
    have := join_flat (h := h) (la := ents h tt) (lb := []) (e := e) (ka := subs h tt) (kb := (subs h tf).take 1) (by
      rcases c2 with c2 | c2
      · exact .inl c2
      · rcases a2 with a2 | a2
        · exact .inl a2
        · right; rw [List.length_take]; omega)
    rw [mkB_eta] at this
    exact this
  refine ⟨⟨g, _, _, g4, ?_, ?_, ?_, ?_, ?_, ?_⟩, g2⟩
  · refine wf_mk (by simp; omega) (by rcases c2 with c2 | c2; exact .inl c2; rcases a2 with a2 | a2; exact .inl a2; right; simp; omega) fun k hk => ?_
    rcases List.mem_append.1 hk with hk | hk
    · exact wf_kids hwt k hk
    · exact wf_kids hwf k (List.mem_of_mem_take hk)
  · exact wf_mk (by simp; omega) (by rcases c2 with c2 | c2; exact .inl c2; right; simp; omega) fun k hk => wf_kids hwf k (List.mem_of_mem_drop hk)
  · rw [ents_mk]; simp
  · rw [ents_mk]; simp; omega
  · rw [hcut, hjoin]; simp
  · intro y hy; rw [hjoin]; simp [hy]

end Go.Cb
