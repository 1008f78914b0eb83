/-
  split, merge, lend at trees; insert.
-/
import Derived.Test.YtialecgadoepjaaTr
set_option linter.unusedVariables false
set_option linter.unusedSimpArgs false
namespace Go.Cb
variable {w : World} {F : List HP} {Q : Value → World → Prop}

theorem il_cut {l1 l2 : List Ent} {e : Ent} {k1 k2 : List (List Ent)} {b : List Ent} (h : k1.length = l1.length + 1) : il (l1 ++ e :: l2) (k1 ++ b :: k2) = il l1 k1 ++ e :: il l2 (b :: k2) := by
  obtain ⟨k, a, rfl⟩ : ∃ k a, k1 = k ++ [a] := ⟨k1.dropLast, k1.getLast (by intro h0; rw [h0] at h; simp at h), (List.dropLast_concat_getLast _).symm⟩
  have hk : k.length = l1.length := by simpa using h
  rw [List.append_assoc, List.singleton_append, il_app _ _ _ hk, rpart_cons]
  have := il_app [] a [] hk
  rw [List.append_nil] at this
  rw [this]
  simp [il, rpart]

theorem Sat.sw {A B : HP} (hs : Sat w (A :: B :: F)) : Sat w (B :: A :: F) := hs.perm (List.Perm.swap _ _ _)
theorem Sat.rot {A B C : HP} (hs : Sat w (A :: B :: C :: F)) : Sat w (B :: C :: A :: F) := hs.perm ((List.Perm.swap _ _ _).trans ((List.Perm.swap _ _ _).cons _))
theorem Sat.rot' {A B C : HP} (hs : Sat w (A :: B :: C :: F)) : Sat w (C :: A :: B :: F) := hs.perm (((List.Perm.swap _ _ _).cons _).trans (List.Perm.swap _ _ _))

theorem mem_kid {h : Nat} {t : BT (h + 1)} {qs : List (Nat × BT h)} (hq : qs.map (·.2) = t.2) {q : Nat × BT h} (hm : q ∈ qs) : q.2 ∈ t.2 := by rw [← hq]; exact List.mem_map_of_mem hm

theorem tr_split3 {h p : Nat} {l : List Ent} {qs : List (Nat × BT (h - 1))} (h0 : h = 0 → qs = []) : ∀ {k : Nat} {b : Nat} {lb : List Ent} {ka kb : List Nat}, ka = (qs.take k).map (·.1) → kb = (qs.drop k).map (·.1) →
    Sat w (nd p l ka :: nd b lb kb :: (fo (h - 1) qs ++ F)) → Sat w (tr h p (mkB h l ((qs.take k).map (·.2))) :: tr h b (mkB h lb ((qs.drop k).map (·.2))) :: F) := by
  intro k b lb ka kb ha hb hs
  subst ha; subst hb
  have hp : (nd p l ((qs.take k).map (·.1)) :: nd b lb ((qs.drop k).map (·.1)) :: (fo (h - 1) qs ++ F)).Perm
      (nd b lb ((qs.drop k).map (·.1)) :: (fo (h - 1) (qs.drop k) ++ (nd p l ((qs.take k).map (·.1)) :: (fo (h - 1) (qs.take k) ++ F)))) := by
    refine (List.Perm.swap _ _ _).trans (List.Perm.cons _ ?_)
    refine List.Perm.trans ?_ List.perm_middle.symm
    refine List.Perm.cons _ ?_
    have : fo (h - 1) qs = fo (h - 1) (qs.take k) ++ fo (h - 1) (qs.drop k) := by rw [← fo_app, List.take_append_drop]
    rw [this, ← List.append_assoc]
    exact List.Perm.append_right _ List.perm_append_comm
  have h1 := tr_mk (fun hh => by rw [h0 hh]; simp) (hs.perm hp)
  exact tr_mk (h := h) (qs := qs.take k) (fun hh => by rw [h0 hh]; simp) (h1.perm ((List.Perm.swap _ _ _).trans (List.perm_middle.symm.cons _)))


theorem fo_swap {A : HP} {h : Nat} {qs : List (Nat × BT h)} {G : List HP} : Sat w (A :: (fo h qs ++ G)) → Sat w (fo h qs ++ A :: G) := fun hs => hs.perm List.perm_middle.symm

theorem ents_mk : ∀ {h : Nat} {l : List Ent} {ks : List (BT (h - 1))}, ents h (mkB h l ks) = l
  | 0, _, _ => rfl
  | _ + 1, _, _ => rfl
theorem subs_mk : ∀ {h : Nat} {l : List Ent} {ks : List (BT (h - 1))}, (h = 0 → ks = []) → subs h (mkB h l ks) = ks
  | 0, _, _, h0 => (h0 rfl).symm
  | _ + 1, _, _, _ => rfl
theorem wf_mk : ∀ {h : Nat} {l : List Ent} {ks : List (BT (h - 1))}, l.length ≤ 5 → (h = 0 ∨ ks.length = l.length + 1) → (∀ k ∈ ks, wf (h - 1) k ∧ 2 ≤ (ents (h - 1) k).length) → wf h (mkB h l ks)
  | 0, _, _, h1, _, _ => h1
  | _ + 1, _, _, h1, h2, h3 => ⟨h1, h2.resolve_left (by omega), h3⟩
theorem wf_kids : ∀ {h : Nat} {t : BT h}, wf h t → ∀ k ∈ subs h t, wf (h - 1) k ∧ 2 ≤ (ents (h - 1) k).length
  | 0, _, _ => by intro k hk; cases hk
  | _ + 1, _, hw => hw.2.2
theorem join_flat : ∀ {h : Nat} {la lb : List Ent} {e : Ent} {ka kb : List (BT (h - 1))}, (h = 0 ∨ (ka.length = la.length + 1 ∧ 0 < kb.length)) → flat h (mkB h (la ++ e :: lb) (ka ++ kb)) = flat h (mkB h la ka) ++ e :: flat h (mkB h lb kb)
  | 0, _, _, _, _, _, _ => rfl
  | h + 1, la, lb, e, ka, kb, h0 => by
    have h0 := h0.resolve_left (by omega)
    cases kb with
    | nil => simp at h0
    | cons b kb =>
      show il (la ++ e :: lb) ((ka ++ b :: kb).map (flat h)) = il la (ka.map (flat h)) ++ e :: il lb ((b :: kb).map (flat h))
      rw [List.map_append, List.map_cons, il_cut (by rw [List.length_map]; exact h0.1)]
theorem cut_flat {h : Nat} {t : BT h} {m : Nat} {e : Ent} (he : (ents h t)[m]? = some e) (h0 : h = 0 ∨ m + 1 < (subs h t).length) :
    flat h t = flat h (mkB h ((ents h t).take m) ((subs h t).take (m + 1))) ++ e :: flat h (mkB h ((ents h t).drop (m + 1)) ((subs h t).drop (m + 1))) := by
  have e1 : (ents h t).take m ++ e :: (ents h t).drop (m + 1) = ents h t := by
    have : (ents h t).drop m = e :: (ents h t).drop (m + 1) := by
      rw [List.getElem?_eq_some_iff] at he
      obtain ⟨hl, rfl⟩ := he
      exact List.drop_eq_getElem_cons hl
    rw [← this, List.take_append_drop]
  have hl := (List.getElem?_eq_some_iff.1 he).1
  rw [← join_flat (by
    rcases h0 with h0 | h0
    · exact .inl h0
    · right; rw [List.length_take, List.length_take, List.length_drop]; omega), e1, List.take_append_drop, mkB_eta]

theorem split_tr {h n p i : Nat} {l : List Ent} {ps : List Nat} {t : BT h} (hs : Sat w (nd n l ps :: tr h p t :: F)) (hw : wf h t) (h5 : (ents h t).length = 5) (hp : ps[i]? = some p) (hi : i ≤ l.length) (b1 : l.length ≤ 90) (b2 : ps.length ≤ 90) :
    Ok (Fn Pg 48 [ptr n 0, int i] w) fun v w' => (∃ b e ta tb, Sat w' (nd n (l.take i ++ e :: l.drop i) (ps.take (i + 1) ++ b :: ps.drop (i + 1)) :: tr h p ta :: tr h b tb :: F) ∧ flat h t = flat h ta ++ e :: flat h tb ∧ wf h ta ∧ wf h tb ∧ (ents h ta).length = 2 ∧ (ents h tb).length = 2) ∧ Sm w w' := by
  obtain ⟨qs, hq, hs⟩ := tr_open (hs.re [1, 0] (by decide))
  obtain ⟨e, he⟩ : ∃ e, (ents h t)[2]? = some e := ⟨_, List.getElem?_eq_getElem (by omega)⟩
  have hlen : qs.length = (subs h t).length := by rw [← hq, List.length_map]
  have hkk : qs.map (·.1) = [] ∨ (qs.map (·.1)).length = 6 := by
    rcases wf_subs hw with ⟨_, h0⟩ | ⟨_, h0⟩
    · left; rw [h0] at hlen; rw [List.length_eq_zero_iff.1 hlen]; rfl
    · right; rw [List.length_map, hlen, h0, h5]
  have hs2 : Sat w (nd n l ps :: nd p (ents h t) (qs.map (·.1)) :: (fo (h - 1) qs ++ F)) := by
    exact (hs.perm ((List.perm_middle (l₁ := fo (h - 1) qs)).cons _)).perm (List.Perm.swap _ _ _)
  refine Ok.mono (split_ok hs2 hp hi h5 he hkk (by omega) (by omega)) ?_
  rintro v w' ⟨b, g1, g2⟩
  refine ⟨⟨b, e, mkB h ((ents h t).take 2) ((qs.take 3).map (·.2)), mkB h ((ents h t).drop 3) ((qs.drop 3).map (·.2)), ?_, ?_⟩, g2⟩
  · have h0 : h = 0 → qs = [] := by
      intro hh
      rcases wf_subs hw with ⟨_, h0⟩ | ⟨h1, _⟩
      · rw [h0] at hlen; exact List.length_eq_zero_iff.1 hlen
      · omega
    have g3 := g1.rot
    have g4 : Sat w' (nd p ((ents h t).take 2) ((qs.map (·.1)).take 3) :: nd b ((ents h t).drop 3) ((qs.map (·.1)).drop 3) :: (fo (h - 1) qs ++ nd n (l.take i ++ e :: l.drop i) (ps.take (i + 1) ++ b :: ps.drop (i + 1)) :: F)) :=
      g3.perm ((List.perm_middle.symm.cons _).cons _)
    exact (tr_split3 h0 (by rw [List.map_take]) (by rw [List.map_drop]) g4).rot'
  · rw [List.map_take, List.map_drop, hq]
    have h2k : h = 0 ∨ (subs h t).length = 6 := by
      rcases wf_subs hw with ⟨h0, _⟩ | ⟨_, h0⟩
      · exact .inl h0
      · right; omega
    have hk0 : h = 0 → subs h t = [] := by
      intro hh; rcases wf_subs hw with ⟨_, h0⟩ | ⟨h1, _⟩
      · exact h0
      · omega
    refine ⟨cut_flat he (by rcases h2k with h0 | h0; exact .inl h0; right; omega), ?_, ?_, ?_, ?_⟩
    · exact wf_mk (by rw [List.length_take]; omega) (by rcases h2k with h0 | h0; exact .inl h0; right; rw [List.length_take, List.length_take]; omega) fun k hk => wf_kids hw k (List.mem_of_mem_take hk)
    · exact wf_mk (by rw [List.length_drop]; omega) (by rcases h2k with h0 | h0; exact .inl h0; right; rw [List.length_drop, List.length_drop]; omega) fun k hk => wf_kids hw k (List.mem_of_mem_drop hk)
    · rw [ents_mk, List.length_take]; omega
    · rw [ents_mk, List.length_drop]; omega

theorem leaf_tr {h p : Nat} {t : BT h} (hs : Sat w F) (k : Nat) (hk : F[k]? = some (tr h p t)) (hw : wf h t) : Fn Pg 51 [ptr p 0] w = some (.bool (decide (h = 0)), w) := by
  obtain ⟨qs, hq, hs⟩ := tr_open (hs.foc hk)
  rw [leaf_eq hs 0 rfl]
  have hlen : qs.length = (subs h t).length := by rw [← hq, List.length_map]
  congr 3
  rw [Bool.eq_iff_iff, decide_eq_true_iff, decide_eq_true_iff, List.length_map, hlen]
  rcases wf_subs hw with ⟨h1, h2⟩ | ⟨h1, h2⟩
  · rw [h2, h1]; simp
  · rw [h2]; omega
theorem full_tr {h p : Nat} {t : BT h} (hs : Sat w F) (k : Nat) (hk : F[k]? = some (tr h p t)) : Fn Pg 47 [ptr p 0] w = some (.bool (decide ((ents h t).length = 5)), w) := by
  obtain ⟨qs, hq, hs⟩ := tr_open (hs.foc hk)
  exact full_eq hs 0 rfl

/-- to a kid of a node that is shut. -/
theorem go_nkid {p : Nat} {l : List Ent} {ks : List Nat} {κ : Value → Value → Value → Value → Value → R} (hs : Sat w F) (k : Nat) (hk : F[k]? = some (nd p l ks)) {i q : Nat} (hi : ks[i]? = some q)
    (hκ : ∀ z a, Ok (κ (ptr p 0) (ptr p (0 + 1)) z a (ptr q 0)) Q) :
    Ok (rd (nilV (ptr p 0)) fun x => rd (fldA Pg 100 x 1) fun y => rd (ldV Pg 98 y w) fun z => rd (ixA Pg 98 z (int i)) fun a => rd (ldV Pg 55 a w) fun u => κ x y z a u) Q := by
  obtain ⟨lv, kv, hs⟩ := nd_open (hs.foc hk)
  obtain ⟨b, o, h1, h2⟩ := ix_k hs 2 rfl hi
  exact Ok.rd (nil_ptr _ _) (Ok.rd (fld100_1 _ _) (Ok.rd (ld_k hs 0 rfl) (Ok.rd h1 (Ok.rd h2 (hκ _ _)))))
/-- to an entry's key. -/
theorem go_nkey {p : Nat} {l : List Ent} {ks : List Nat} {κ : Value → Value → Value → Value → Value → Value → R} (hs : Sat w F) (k : Nat) (hk : F[k]? = some (nd p l ks)) {i : Nat} {e : Ent} (hi : l[i]? = some e)
    (hκ : ∀ z a, Ok (κ (ptr p 0) (ptr p 0) z a a (.string e.1)) Q) :
    Ok (rd (nilV (ptr p 0)) fun x => rd (fldA Pg 100 x 0) fun y => rd (ldV Pg 37 y w) fun z => rd (ixA Pg 37 z (int i)) fun a => rd (fldA Pg 40 a 0) fun b => rd (ldV Pg 9 b w) fun u => κ x y z a b u) Q := by
  obtain ⟨lv, kv, hs⟩ := nd_open (hs.foc hk)
  obtain ⟨b, o, h1, _, h2, _⟩ := ix_l hs 1 rfl hi
  exact Ok.rd (nil_ptr _ _) (Ok.rd (fld100_0 _ _) (Ok.rd (ld_l hs 0 rfl) (Ok.rd h1 (Ok.rd (fld40_0 _ _) (Ok.rd h2 (hκ _ _))))))

end Go.Cb
