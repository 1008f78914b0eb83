import Derived.Test.YtialecgadoepjaaMZA
/-
  insert.
-/
set_option linter.unusedVariables false
set_option linter.unusedSimpArgs false
namespace Go.Cb
variable {w : World} {F : List HP} {Q : Value → World → Prop}

theorem ex_at {β : Type} {xs : List β} {i : Nat} (h : i < xs.length) : ∃ a x b, xs = a ++ x :: b ∧ a.length = i :=
  ⟨xs.take i, xs[i], xs.drop (i + 1), by rw [← List.drop_eq_getElem_cons h, List.take_append_drop], by rw [List.length_take]; omega⟩

theorem mid_out {A B C : HP} {X : List HP} (hs : Sat w (A :: B :: (X ++ C :: F))) : Sat w (C :: A :: B :: (X ++ F)) :=
  (hs.perm ((List.perm_middle.cons _).cons _)).rot'

theorem pull_perm {h : Nat} {q1 q2 : List (Nat × BT h)} {q : Nat × BT h} : (fo h (q1 ++ q :: q2) ++ F).Perm (tr h q.1 q.2 :: (fo h (q1 ++ q2) ++ F)) := by
  rw [fo_app, fo_cons, fo_app, List.append_assoc, List.cons_append, List.append_assoc]
  exact List.perm_middle
theorem pull_in {h : Nat} {A N : HP} {q1 q2 : List (Nat × BT h)} {q : Nat × BT h} (hs : Sat w (A :: N :: tr h q.1 q.2 :: (fo h (q1 ++ q2) ++ F))) : Sat w (A :: N :: (fo h (q1 ++ q :: q2) ++ F)) := hs.perm ((pull_perm.symm.cons _).cons _)

theorem put_kid {h n p : Nat} {l : List Ent} {ps : List Nat} {q1 q2 : List (Nat × BT h)} {k : BT h} (hps : ps = (q1 ++ (p, k) :: q2).map (·.1)) (hs : Sat w (tr h p k :: nd n l ps :: (fo h (q1 ++ q2) ++ F))) : Sat w (tr (h + 1) n (l, (q1 ++ (p, k) :: q2).map (·.2)) :: F) := by
  subst hps
  exact tr_mk1 (pull1 (q := (p, k)) |>.2 hs.sw)

def fk (h : Nat) (qs : List (Nat × BT h)) : List (List Ent) := qs.map fun q => flat h q.2
theorem flat_at {h p : Nat} {l1 l2 : List Ent} {q1 q2 : List (Nat × BT h)} {k : BT h} (hl : q1.length = l1.length) : flat (h + 1) (l1 ++ l2, (q1 ++ (p, k) :: q2).map (·.2)) = lpart l1 (fk h q1) ++ flat h k ++ rpart l2 (fk h q2) := by
  show il (l1 ++ l2) (((q1 ++ (p, k) :: q2).map (·.2)).map (flat h)) = _
  have : ((q1 ++ (p, k) :: q2).map (·.2)).map (flat h) = fk h q1 ++ flat h k :: fk h q2 := by simp [fk, Function.comp_def]
  rw [this, il_app _ _ _ (by simpa [fk] using hl)]

/-- the parts beside a kid, as a key stands to them. -/
theorem beside {h p : Nat} {l1 l2 : List Ent} {q1 q2 : List (Nat × BT h)} {k : BT h} {key : ByteArray} (hl : q1.length = l1.length) (hs : Srt (flat (h + 1) (l1 ++ l2, (q1 ++ (p, k) :: q2).map (·.2))))
    (h1 : ∀ e ∈ l1, kl e.1 key = true) (h2 : ∀ e, l2.head? = some e → kl key e.1 = true) : bel (lpart l1 (fk h q1)) key ∧ abv (rpart l2 (fk h q2)) key ∧ Srt (flat h k) := by
  rw [flat_at hl] at hs
  obtain ⟨g1, g2, _⟩ := srt_app.1 hs
  obtain ⟨g3, g4, _⟩ := srt_app.1 g1
  exact ⟨lpart_bel g3 h1, rpart_abv g2 h2, g4⟩

theorem ins_close {h n p : Nat} {l1 l2 : List Ent} {ps : List Nat} {q1 q2 : List (Nat × BT h)} {k k' : BT h} {x : Ent} (hq1 : q1.length = l1.length) (hps : ps = (q1 ++ (p, k') :: q2).map (·.1))
    (hs : Sat w (tr h p k' :: nd n (l1 ++ l2) ps :: (fo h (q1 ++ q2) ++ F))) (hl : (l1 ++ l2).length ≤ 5) (hlen : (q1 ++ (p, k) :: q2).length = (l1 ++ l2).length + 1) (hkids : ∀ q ∈ q1 ++ q2, wf h q.2 ∧ 2 ≤ (ents h q.2).length)
    (hk' : wf h k') (h2k : 2 ≤ (ents h k').length) (hA : bel (lpart l1 (fk h q1)) x.1) (hB : abv (rpart l2 (fk h q2)) x.1) (hf : flat h k' = putL (flat h k) x) :
    ∃ t' : BT (h + 1), Sat w (tr (h + 1) n t' :: F) ∧ wf (h + 1) t' ∧ flat (h + 1) t' = putL (lpart l1 (fk h q1) ++ flat h k ++ rpart l2 (fk h q2)) x ∧ t' = (l1 ++ l2, (q1 ++ (p, k') :: q2).map (·.2)) := by
  refine ⟨(l1 ++ l2, (q1 ++ (p, k') :: q2).map (·.2)), put_kid hps hs, ⟨hl, by simp at hlen ⊢; omega, ?_⟩, ?_, rfl⟩
  · intro q hm
    simp only [List.map_append, List.map_cons, List.mem_append, List.mem_cons, List.mem_map] at hm
    rcases hm with ⟨q, hm, rfl⟩ | rfl | ⟨q, hm, rfl⟩
    · exact hkids q (by simp [hm])
    · exact ⟨hk', h2k⟩
    · exact hkids q (by simp [hm])
  · rw [flat_at hq1, hf, put_mid hA hB]

/-- where no kid is full, one kid takes the entry. -/
def insX : (h : Nat) → BT h → Ent → BT h → Prop
  | 0, _, _, _ => True
  | h + 1, t, x, t' => (∀ k ∈ t.2, (ents h k).length ≤ 4) → ∃ l1 l2 k1 k2 k k', t.1 = l1 ++ l2 ∧ t.2 = k1 ++ k :: k2 ∧ k1.length = l1.length ∧ (∀ e ∈ l1, kl e.1 x.1 = true) ∧ (∀ e, l2.head? = some e → kl x.1 e.1 = true) ∧ t' = (l1 ++ l2, k1 ++ k' :: k2) ∧ flat h k' = putL (flat h k) x

theorem insert_loop : ∀ (h n : Nat) (t : BT h) (eb : Nat) (x : Ent) (e : Env) (w : World) (F : List HP), wf h t → (ents h t).length ≤ 4 → Srt (flat h t) → ¬ hasL (flat h t) x.1 → Sat w (pt eb (encE x) 160 :: tr h n t :: F) →
    e 0 = ptr n 0 → e 3 = ptr eb 0 → e 57 = undef →
    Ok (evalLoop (cx98 (Fn Pg) (Rnd Pg)) (cdA Go.Proofs.Try.f98 [1, 0, 0]) (K98_1 (Fn Pg) (Rnd Pg)) e w) fun v w' => (∃ t' : BT h, Sat w' (tr h n t' :: F) ∧ wf h t' ∧ flat h t' = putL (flat h t) x ∧ (ents h t).length ≤ (ents h t').length ∧ insX h t x t') ∧ Sm w w' := by
  intro h
  induction h with
  | zero =>
    intro n t eb x e w F hw h4 hsr hno hs e0 e3 e57
    have hs : Sat w (pt eb (encE x) 160 :: nd n t [] :: F) := hs
    have h4 : List.length t ≤ 4 := h4
    rw [S98_L1_eq]; unfold S98_L1
    rw [e0, e3, e57]
    refine Ok.rd (fld40_0 _ _) (Ok.rd (ld_key hs 0 rfl) ?_)
    refine Ok.bind (find_ok hs (k := 1) rfl (by omega)) ?_
    rintro v w1 ⟨l1, l2, b, hl, hf, rfl, h1, s1⟩
    refine Ok.rd rfl (Ok.rd rfl ?_)
    refine Ok.rd2 (leaf_eq h1 1 rfl) (Ok.ct rfl ?_)
    obtain ⟨lv, kv, h2⟩ := nd_open (h1.sw)
    refine go_l (ld_l h2.drw 0 rfl) ?_
    refine Ok.rd (ld_ent h2.drw 3 rfl) ?_
    refine go_bsl h2.drw fun nb w3 h3 s3 => ?_
    refine go_insl h3 1 rfl (by rw [hl]; simp) (by omega) fun v4 w4 h4' s4 => ?_
    refine go_stl h4' 0 rfl (slH_one h4' 1 rfl) fun w5 h5 s5 => ?_
    refine ⟨_, _, rfl, ⟨l1 ++ x :: l2, ?_, ?_, ?_, ?_, trivial⟩, s1.trans (s3.drw.trans (s4.trans s5))⟩
    · have h6 := nd_mk h5
      rw [hl, List.take_left, List.drop_left] at h6
      exact (h6.sw).drop
    · rw [hl] at h4
      show List.length (l1 ++ x :: l2) ≤ 5
      simp at h4 ⊢; omega
    · show l1 ++ x :: l2 = putL t x
      have hsr : Srt t := hsr
      have hno : ¬ hasL t x.1 := hno
      rw [hl] at hsr hno ⊢
      rw [put_one hf.1]
      rcases hf.2 with ⟨rfl, _⟩ | ⟨y, r, rfl, hy, _⟩
      · intro z hz; cases hz
      · have hne : y.1 ≠ x.1 := fun hh => hno ⟨y, by simp, hh⟩
        have hgt := kl_gt hy hne
        intro z hz
        rcases List.mem_cons.1 hz with rfl | hz
        · exact hgt
        · exact kl_tr hgt ((srt_mid hsr).2 z hz)
    · rw [hl]; show List.length (l1 ++ l2) ≤ List.length (l1 ++ x :: l2); simp
  | succ h ih =>
    intro n t eb x e w F hw h4 hsr hno hs e0 e3 e57
    obtain ⟨l, ks⟩ := t
    have hl4 : l.length ≤ 4 := h4
    clear h4
    have hkl : ks.length = l.length + 1 := hw.2.1
    obtain ⟨qs, hq, hs⟩ := tr_open1 hs.sw
    have hq : qs.map (·.2) = ks := hq
    have hqs : qs.length = l.length + 1 := by rw [← hkl, ← hq, List.length_map]
    have hs : Sat w (pt eb (encE x) 160 :: nd n l (qs.map (·.1)) :: (fo h qs ++ F)) := (hs.perm ((List.perm_middle.cons _))).sw
    rw [S98_L1_eq]; unfold S98_L1
    rw [e0, e3, e57]
    refine Ok.rd (fld40_0 _ _) (Ok.rd (ld_key hs 0 rfl) ?_)
    refine Ok.bind (find_ok hs (k := 1) rfl (by omega)) ?_
    rintro v w1 ⟨l1, l2, b, rfl, hf, rfl, h1, s1⟩
    refine Ok.rd rfl (Ok.rd rfl ?_)
    refine Ok.rd2 (leaf_eq h1 1 rfl) (Ok.cf (by rw [List.length_map, hqs]; simp) ?_)
    obtain ⟨q1, ⟨p, k⟩, q2, rfl, hq1⟩ := ex_at (xs := qs) (i := l1.length) (by rw [hqs]; simp; omega)
    subst hq
    have hp : ((q1 ++ (p, k) :: q2).map (·.1))[l1.length]? = some p := by
      rw [← hq1]; simp
    have h2 : Sat w1 (pt eb (encE x) 160 :: nd n (l1 ++ l2) ((q1 ++ (p, k) :: q2).map (·.1)) :: tr h p k :: (fo h (q1 ++ q2) ++ F)) := by
      have := pull1 (N := nd n (l1 ++ l2) ((q1 ++ (p, k) :: q2).map (·.1))) |>.1 ((h1.sw).perm (List.perm_middle.symm.cons _) : Sat w1 (_ :: (fo h (q1 ++ (p, k) :: q2) ++ pt eb (encE x) 160 :: F)))
      exact mid_out this
    have hkw := wf_kid hw (k := k) (by simp)
    refine go_nkid h2 1 rfl hp fun z a => ?_
    refine Ok.rd2 (full_tr h2 2 rfl) ?_
    have hhd : ∀ y, l2.head? = some y → kl x.1 y.1 = true := by
      intro y hy
      rcases hf.2 with ⟨rfl, _⟩ | ⟨y', r, rfl, hy', _⟩
      · cases hy
      · simp at hy; subst hy
        refine kl_gt hy' fun hh => hno ?_
        refine ⟨y', ?_, hh⟩
        rw [flat_at hq1]
        refine List.mem_append_right _ ?_
        cases q2 with
        | nil => simp at hqs; omega
        | cons q q2 => simp [fk, rpart]
    obtain ⟨hA, hB, hsk⟩ := beside hq1 hsr hf.1 hhd
    have hflat := flat_at (p := p) (l2 := l2) (q2 := q2) (k := k) hq1
    rw [hflat] at hno hsr ⊢
    have hnok : ¬ hasL (flat h k) x.1 := fun hh => hno ((has_mid hA hB).2 hh)
    refine Ok.ci (fun hfull => ?_) (fun hfull => ?_)
    · have hfull : (ents h k).length = 5 := by simpa using hfull
      refine Ok.bind (split_tr (h2.rot |>.re [0, 1] (by decide)) hkw.1 hfull hp (by simp) (by omega) (by rw [List.length_map, hqs]; omega)) ?_
      rintro v w2 ⟨⟨b', em, ta, tb, g1, gf, gwa, gwb, gla, glb⟩, s2⟩
      rw [List.take_left, List.drop_left] at g1
      have hps : ((q1 ++ (p, k) :: q2).map (·.1)).take (l1.length + 1) ++ b' :: ((q1 ++ (p, k) :: q2).map (·.1)).drop (l1.length + 1) = q1.map (·.1) ++ p :: b' :: q2.map (·.1) := by
        have : (q1 ++ (p, k) :: q2).map (·.1) = (q1.map (·.1) ++ [p]) ++ q2.map (·.1) := by simp
        rw [this, List.take_left' (by simp [hq1]), List.drop_left' (by simp [hq1])]; simp
      rw [hps] at g1
      have hem : (l1 ++ em :: l2)[l1.length]? = some em := by simp
      have g1e : Sat w2 (pt eb (encE x) 160 :: nd n (l1 ++ em :: l2) (q1.map (·.1) ++ p :: b' :: q2.map (·.1)) :: tr h p ta :: tr h b' tb :: (fo h (q1 ++ q2) ++ F)) := by
        have := g1.re [3, 0, 1, 2] (by decide)
        exact this
      have hemx : em.1 ≠ x.1 := fun hh => hnok ⟨em, by rw [gf]; simp, hh⟩
      rw [gf] at hsk
      obtain ⟨sk1, sk2⟩ := srt_mid hsk
      have hkids : ∀ q ∈ q1 ++ q2, wf h q.2 ∧ 2 ≤ (ents h q.2).length := fun q hm => wf_kid hw (by simp at hm ⊢; rcases hm with hm | hm; exact .inl ⟨_, hm⟩; exact .inr (.inr ⟨_, hm⟩))
      refine go_nkey g1e.drw 1 rfl hem fun z1 a1 => ?_
      refine Ok.rd (fld40_0 _ _) (Ok.rd (ld_key g1e.drw 0 rfl) (Ok.rd2 bin_slss ?_))
      refine Ok.ci (fun hlt => ?_) (fun hlt => ?_)
      · refine Ok.rd2 (bin_add1 (by simp at hl4; omega)) ?_
        refine go_nkid (q := b') (i := l1.length + 1) g1e.drw 1 rfl (by rw [← hq1]; simp) fun z' a' => ?_
        refine Ok.mono (ih b' tb eb x _ (drw w2) (nd n (l1 ++ em :: l2) (q1.map (·.1) ++ p :: b' :: q2.map (·.1)) :: tr h p ta :: (fo h (q1 ++ q2) ++ F)) gwb (by omega) (srt_cons.1 (srt_app.1 hsk).2.1).2 (fun hh => hnok (by rw [gf]; obtain ⟨y, hy, hk⟩ := hh; exact ⟨y, by simp [hy], hk⟩)) ?_ rfl ?_ ?_) ?_
        rotate_left
        · exact e3
        · exact e57
        rotate_left
        · exact g1e.re [0, 3, 1, 2] (by decide)
        · rintro v w' ⟨⟨k', m1, m2, m3, m4, _⟩, m5⟩
          have m6 : Sat w' (tr h b' k' :: nd n (l1 ++ em :: l2) (q1.map (·.1) ++ p :: b' :: q2.map (·.1)) :: (fo h (q1 ++ (p, ta) :: q2) ++ F)) := pull_in (q := (p, ta)) m1
          have e1 : l1 ++ em :: l2 = (l1 ++ [em]) ++ l2 := by simp
          have e2 : q1 ++ (p, ta) :: q2 = (q1 ++ [(p, ta)]) ++ q2 := by simp
          rw [e1, e2] at m6
          have e3' : lpart (l1 ++ [em]) (fk h (q1 ++ [(p, ta)])) = lpart l1 (fk h q1) ++ flat h ta ++ [em] := by
            rw [show fk h (q1 ++ [(p, ta)]) = fk h q1 ++ [flat h ta] from by simp [fk], lpart_snoc (by simpa [fk] using hq1)]
          obtain ⟨t', n1, n2, n3, n4⟩ := ins_close (l1 := l1 ++ [em]) (q1 := q1 ++ [(p, ta)]) (p := b') (k := tb) (k' := k') (x := x) (by simp [hq1]) (by simp) m6 (by simp at hl4 ⊢; omega) (by simp at hqs ⊢; omega)
            (fun q hm => by
              simp only [List.append_assoc, List.singleton_append, List.mem_append, List.mem_cons] at hm
              rcases hm with hm | rfl | hm
              · exact hkids q (by simp [hm])
              · exact ⟨gwa, Nat.le_of_eq gla.symm⟩
              · exact hkids q (by simp [hm])) m2 (by omega)
            (by
              rw [e3']
              intro y hy
              simp only [List.mem_append, List.mem_singleton] at hy
              rcases hy with (hy | hy) | rfl
              · exact hA y hy
              · exact kl_tr (sk1 y hy) hlt
              · exact hlt) hB m3
          refine ⟨⟨t', n1, n2, ?_, by rw [show ents (h + 1) t' = t'.1 from rfl, n4]; show List.length (l1 ++ l2) ≤ _; simp, fun hh => absurd (hh k (by simp)) (by omega)⟩, s1.trans (s2.trans m5.drw)⟩
          rw [n3, e3', gf]; congr 1; simp
      · have hgt := kl_gt hlt hemx
        refine go_nkid (q := p) (i := l1.length) g1e.drw 1 rfl (by rw [← hq1]; simp) fun z' a' => ?_
        refine Ok.mono (ih p ta eb x _ (drw w2) (nd n (l1 ++ em :: l2) (q1.map (·.1) ++ p :: b' :: q2.map (·.1)) :: tr h b' tb :: (fo h (q1 ++ q2) ++ F)) gwa (by omega) (srt_app.1 hsk).1 (fun hh => hnok (by rw [gf]; obtain ⟨y, hy, hk⟩ := hh; exact ⟨y, by simp [hy], hk⟩)) ?_ rfl ?_ ?_) ?_
        rotate_left
        · exact e3
        · exact e57
        rotate_left
        · exact g1e.re [0, 2, 1, 3] (by decide)
        · rintro v w' ⟨⟨k', m1, m2, m3, m4, _⟩, m5⟩
          have m6 : Sat w' (tr h p k' :: nd n (l1 ++ em :: l2) (q1.map (·.1) ++ p :: b' :: q2.map (·.1)) :: (fo h (q1 ++ (b', tb) :: q2) ++ F)) := pull_in (q := (b', tb)) m1
          have e3' : rpart (em :: l2) (fk h ((b', tb) :: q2)) = em :: flat h tb ++ rpart l2 (fk h q2) := by
            rw [show fk h ((b', tb) :: q2) = flat h tb :: fk h q2 from rfl, rpart_cons]
          obtain ⟨t', n1, n2, n3, n4⟩ := ins_close (l2 := em :: l2) (q2 := (b', tb) :: q2) (k := ta) (k' := k') (x := x) hq1 (by simp) m6 (by simp at hl4 ⊢; omega) (by simp at hqs ⊢; omega)
            (fun q hm => by
              simp only [List.mem_append, List.mem_cons] at hm
              rcases hm with hm | rfl | hm
              · exact hkids q (by simp [hm])
              · exact ⟨gwb, Nat.le_of_eq glb.symm⟩
              · exact hkids q (by simp [hm])) m2 (by omega) hA
            (by
              rw [e3']
              intro y hy
              simp only [List.cons_append, List.mem_append, List.mem_cons] at hy
              rcases hy with rfl | hy | hy
              · exact hgt
              · exact kl_tr hgt (sk2 y hy)
              · exact hB y hy) m3
          refine ⟨⟨t', n1, n2, ?_, by rw [show ents (h + 1) t' = t'.1 from rfl, n4]; show List.length (l1 ++ l2) ≤ _; simp, fun hh => absurd (hh k (by simp)) (by omega)⟩, s1.trans (s2.trans m5.drw)⟩
          rw [n3, e3', gf]; congr 1; simp
    · have hfull : (ents h k).length ≤ 4 := by have := wf_ents hkw.1; simp at hfull; omega
      refine go_nkid h2 1 rfl hp fun z' a' => ?_
      refine Ok.mono (ih p k eb x _ w1 (nd n (l1 ++ l2) ((q1 ++ (p, k) :: q2).map (·.1)) :: (fo h (q1 ++ q2) ++ F)) hkw.1 hfull hsk hnok ?_ rfl ?_ ?_) ?_
      rotate_left
      · exact e3
      · exact e57
      rotate_left
      · exact (h2.rot').sw
      · rintro v w' ⟨⟨k', g1, g2, g3, g4, _⟩, g5⟩
        obtain ⟨t', m1, m2, m3, m4⟩ := ins_close (k := k) (k' := k') (x := x) hq1 (by simp) g1 (by simp at hl4 ⊢; omega) (by simp at hqs ⊢; omega) (fun q hm => wf_kid hw (by simp at hm ⊢; rcases hm with hm | hm; exact .inl ⟨_, hm⟩; exact .inr (.inr ⟨_, hm⟩))) g2 (by have := hkw.2; omega) hA hB g3
        refine ⟨⟨t', m1, m2, by rw [m3], by rw [show ents (h + 1) t' = t'.1 from rfl, m4]; exact Nat.le_refl _, ?_⟩, s1.trans g5⟩
        intro _
        exact ⟨l1, l2, q1.map (·.2), q2.map (·.2), k, k', rfl, by simp, by simpa using hq1, hf.1, hhd, by rw [m4, List.map_append, List.map_cons], g3⟩


theorem insert_ok {h n : Nat} {t : BT h} {x : Ent} (hw : wf h t) (h4 : (ents h t).length ≤ 4) (hs : Srt (flat h t)) (hno : ¬ hasL (flat h t) x.1) (hsat : Sat w (tr h n t :: F)) :
    Ok (Fn Pg 98 [ptr n 0, aggE x] w) fun v w' => (∃ t' : BT h, Sat w' (tr h n t' :: F) ∧ wf h t' ∧ flat h t' = putL (flat h t) x ∧ (ents h t).length ≤ (ents h t').length ∧ insX h t x t') ∧ Sm w w' := by
  rw [F98]; unfold S98
  refine Ok.rd2 (box_ok (t := 160) (v := aggE x)) ?_
  have hE := Ext.push (fun _ => False) w (.cells (aggE x).cells 160)
  have h1 := hsat.new (l' := encE x) (T' := 160) hE (fun _ _ hf => hf) (At.new w (encE x) 160) (Nat.le_refl _)
  refine Ok.mono (insert_loop h n t _ x _ _ F hw h4 hs hno h1 rfl rfl rfl) ?_
  rintro v w' ⟨g1, g2⟩
  exact ⟨g1, hE.sm.trans g2⟩

end Go.Cb

/-
  merge and lend at trees; rich; edge.
-/
set_option linter.unusedVariables false
set_option linter.unusedSimpArgs false
namespace Go.Cb
variable {w : World} {F : List HP} {Q : Value → World → Prop}

theorem fo_perm {h : Nat} {qs qs' : List (Nat × BT h)} (hp : qs.Perm qs') : (fo h qs).Perm (fo h qs') := hp.map _

theorem tr_open2 {h a b : Nat} {ta tb : BT h} (hs : Sat w (tr h a ta :: tr h b tb :: F)) : ∃ qa qb : List (Nat × BT (h - 1)), qa.map (·.2) = subs h ta ∧ qb.map (·.2) = subs h tb ∧
    Sat w (nd a (ents h ta) (qa.map (·.1)) :: nd b (ents h tb) (qb.map (·.1)) :: (fo (h - 1) (qa ++ qb) ++ F)) := by
  obtain ⟨qa, h1, hs⟩ := tr_open hs
  obtain ⟨qb, h2, hs⟩ := tr_open ((hs.perm (List.perm_middle.cons _)).sw)
  refine ⟨qa, qb, h1, h2, ?_⟩
  have hp : (nd b (ents h tb) (qb.map (·.1)) :: (fo (h - 1) qb ++ nd a (ents h ta) (qa.map (·.1)) :: (fo (h - 1) qa ++ F))).Perm (nd a (ents h ta) (qa.map (·.1)) :: nd b (ents h tb) (qb.map (·.1)) :: (fo (h - 1) (qa ++ qb) ++ F)) := by
    refine (List.perm_middle.cons _).trans ((List.Perm.swap _ _ _).trans ((List.Perm.cons _ (List.Perm.cons _ ?_))))
    rw [fo_app, ← List.append_assoc]
    exact List.Perm.append_right _ List.perm_append_comm
  exact hs.perm hp
theorem tr_mk2 {h a b : Nat} {la lb : List Ent} {ka kb : List Nat} {qa qb qs : List (Nat × BT (h - 1))} (h0 : h = 0 → qs = []) (hp : qs.Perm (qa ++ qb)) (ha : ka = qa.map (·.1)) (hb : kb = qb.map (·.1))
    (hs : Sat w (nd a la ka :: nd b lb kb :: (fo (h - 1) qs ++ F))) : Sat w (tr h a (mkB h la (qa.map (·.2))) :: tr h b (mkB h lb (qb.map (·.2))) :: F) := by
  subst ha; subst hb
  have h1 : Sat w (nd a la (qa.map (·.1)) :: nd b lb (qb.map (·.1)) :: (fo (h - 1) (qa ++ qb) ++ F)) := hs.perm (((List.Perm.append_right _ (fo_perm hp)).cons _).cons _)
  have h00 : h = 0 → qa = [] ∧ qb = [] := fun hh => by
    have := hp.length_eq
    rw [h0 hh] at this
    simp at this
    exact ⟨List.length_eq_zero_iff.1 (by omega), List.length_eq_zero_iff.1 (by omega)⟩
  have h2 : Sat w (nd b lb (qb.map (·.1)) :: (fo (h - 1) qb ++ nd a la (qa.map (·.1)) :: (fo (h - 1) qa ++ F))) := by
    refine h1.perm ((List.Perm.swap _ _ _).trans (List.Perm.cons _ (List.Perm.trans (List.Perm.cons _ ?_) List.perm_middle.symm)))
    rw [fo_app, ← List.append_assoc]
    exact List.Perm.append_right _ List.perm_append_comm
  have h3 := tr_mk (fun hh => (h00 hh).2) h2
  exact tr_mk (fun hh => (h00 hh).1) (h3.perm ((List.Perm.swap _ _ _).trans (List.perm_middle.symm.cons _)))

/-- with the node above them at the head. -/
theorem tr_open3 {h a b : Nat} {N : HP} {ta tb : BT h} (hs : Sat w (N :: tr h a ta :: tr h b tb :: F)) : ∃ qa qb : List (Nat × BT (h - 1)), qa.map (·.2) = subs h ta ∧ qb.map (·.2) = subs h tb ∧
    Sat w (N :: nd a (ents h ta) (qa.map (·.1)) :: nd b (ents h tb) (qb.map (·.1)) :: (fo (h - 1) (qa ++ qb) ++ F)) := by
  obtain ⟨qa, qb, h1, h2, hs⟩ := tr_open2 hs.rot
  exact ⟨qa, qb, h1, h2, mid_out hs⟩
theorem tr_mk3 {h a b : Nat} {N : HP} {la lb : List Ent} {ka kb : List Nat} {qa qb qs : List (Nat × BT (h - 1))} (h0 : h = 0 → qs = []) (hp : qs.Perm (qa ++ qb)) (ha : ka = qa.map (·.1)) (hb : kb = qb.map (·.1))
    (hs : Sat w (N :: nd a la ka :: nd b lb kb :: (fo (h - 1) qs ++ F))) : Sat w (N :: tr h a (mkB h la (qa.map (·.2))) :: tr h b (mkB h lb (qb.map (·.2))) :: F) := by
  have h1 : Sat w (nd a la ka :: nd b lb kb :: (fo (h - 1) qs ++ N :: F)) := (hs.rot).perm ((List.perm_middle.symm.cons _).cons _)
  exact (tr_mk2 h0 hp ha hb h1).rot'

theorem subs_len {h : Nat} {t : BT h} (hw : wf h t) : (h = 0 → subs h t = []) ∧ (h = 0 ∨ (subs h t).length = (ents h t).length + 1) ∧ (subs h t).length ≤ 6 := by
  have := wf_ents hw
  rcases wf_subs hw with ⟨h1, h2⟩ | ⟨h1, h2⟩
  · exact ⟨fun _ => h2, .inl h1, by rw [h2]; simp⟩
  · exact ⟨fun hh => by omega, .inr h2, by omega⟩

theorem merge_tr {h n a b i : Nat} {l : List Ent} {ps : List Nat} {ta tb : BT h} {e : Ent} (hs : Sat w (nd n l ps :: tr h a ta :: tr h b tb :: F)) (ha : ps[i]? = some a) (hb : ps[i + 1]? = some b) (he : l[i]? = some e) (hwa : wf h ta) (hwb : wf h tb)
    (h2 : (ents h ta).length + (ents h tb).length ≤ 4) (b1 : l.length ≤ 90) (b2 : ps.length ≤ 90) :
    Ok (Fn Pg 128 [ptr n 0, int i] w) fun v w' => (∃ t' : BT h, Sat w' (nd n (l.eraseIdx i) (ps.eraseIdx (i + 1)) :: tr h a t' :: F) ∧ wf h t' ∧ (ents h t').length = (ents h ta).length + (ents h tb).length + 1 ∧ flat h t' = flat h ta ++ e :: flat h tb) ∧ Sm w w' := by
  obtain ⟨qa, qb, ea, eb, h1⟩ := tr_open3 hs
  obtain ⟨a1, a2, a3⟩ := subs_len hwa
  obtain ⟨c1, c2, c3⟩ := subs_len hwb
  have la : qa.length = (subs h ta).length := by rw [← ea, List.length_map]
  have lb : qb.length = (subs h tb).length := by rw [← eb, List.length_map]
  refine Ok.mono (merge_ok h1 ha hb he (by omega) (by omega) (by omega) (by omega) (by rw [List.length_map]; omega) (by rw [List.length_map]; omega)) ?_
  rintro v w' ⟨g1, g2⟩
  have g3 : Sat w' (nd a (ents h ta ++ e :: ents h tb) ((qa ++ qb).map (·.1)) :: (fo (h - 1) (qa ++ qb) ++ nd n (l.eraseIdx i) (ps.eraseIdx (i + 1)) :: F)) := by
    rw [List.map_append]
    exact (g1.sw).perm (List.perm_middle.symm.cons _)
  have h0 : h = 0 → qa ++ qb = [] := fun hh => by
    have e1 := a1 hh; have e2 := c1 hh
    rw [e1] at la; rw [e2] at lb
    rw [List.length_eq_zero_iff.1 la, List.length_eq_zero_iff.1 lb]; rfl
  have g4 := (tr_mk h0 g3).sw
  rw [List.map_append, ea, eb] at g4
  refine ⟨⟨_, g4, ?_, ?_, ?_⟩, g2⟩
  · refine wf_mk (by simp; omega) (by rcases a2 with a2 | a2; exact .inl a2; rcases c2 with c2 | c2; exact .inl c2; right; simp; omega) fun k hk => ?_
    rcases List.mem_append.1 hk with hk | hk
    · exact wf_kids hwa k hk
    · exact wf_kids hwb k hk
  · rw [ents_mk]; simp; omega
  · rw [join_flat (by rcases a2 with a2 | a2; exact .inl a2; rcases c2 with c2 | c2; exact .inl c2; right; omega), mkB_eta, mkB_eta]

theorem lendL_tr {h n t f i j : Nat} {l : List Ent} {ps : List Nat} {tt tf : BT h} {e : Ent} (hs : Sat w (nd n l ps :: tr h t tt :: tr h f tf :: F)) (hij : i = j + 1) (ht : ps[i]? = some t) (hf : ps[j]? = some f) (he : l[j]? = some e) (hwt : wf h tt) (hwf : wf h tf)
    (h3 : 3 ≤ (ents h tf).length) (h2 : (ents h tt).length ≤ 4) (b1 : l.length ≤ 90) (b2 : ps.length ≤ 90) :
    Ok (Fn Pg 137 [ptr n 0, int i, int j] w) fun v w' => (∃ (g : Ent) (tt' tf' : BT h), Sat w' (nd n (l.set j g) ps :: tr h t tt' :: tr h f tf' :: F) ∧ wf h tt' ∧ wf h tf' ∧ (ents h tt').length = (ents h tt).length + 1 ∧ (ents h tf').length + 1 = (ents h tf).length ∧
      flat h tf ++ e :: flat h tt = flat h tf' ++ g :: flat h tt' ∧ ∀ y ∈ flat h tt, y ∈ flat h tt') ∧ Sm w w' := by
  obtain ⟨qt, qf, et, ef, h1⟩ := tr_open3 hs
  obtain ⟨a1, a2, a3⟩ := subs_len hwt
  obtain ⟨c1, c2, c3⟩ := subs_len hwf
  have lt : qt.length = (subs h tt).length := by rw [← et, List.length_map]
  have lf : qf.length = (subs h tf).length := by rw [← ef, List.length_map]
  have wet := wf_ents hwt
  have wef := wf_ents hwf
  obtain ⟨m, hm⟩ : ∃ m, (ents h tf).length = m + 1 := ⟨(ents h tf).length - 1, by omega⟩
  obtain ⟨g, hg⟩ : ∃ g, (ents h tf)[m]? = some g := ⟨_, List.getElem?_eq_getElem (by omega)⟩
  refine Ok.mono (lendL_ok h1 hij ht hf he hm hg (by
    rcases c2 with c2 | c2
    · left; have := c1 c2; rw [this] at lf; rw [List.length_eq_zero_iff.1 lf]; rfl
    · right; rw [List.length_map]; omega) (by omega) (by omega) (by omega) (by omega) (by rw [List.length_map]; omega)) ?_
  rintro v w' ⟨g1, g2⟩
  have h0 : h = 0 → qt ++ qf = [] := fun hh => by
    have e1 := a1 hh; have e2 := c1 hh
    rw [e1] at lt; rw [e2] at lf
    rw [List.length_eq_zero_iff.1 lt, List.length_eq_zero_iff.1 lf]; rfl
  have g4 := tr_mk3 (qa := qf.drop (m + 1) ++ qt) (qb := qf.take (m + 1)) h0 (by
    have : qf.Perm (qf.drop (m + 1) ++ qf.take (m + 1)) := by
      conv => lhs; rw [← List.take_append_drop (m + 1) qf]
      exact List.perm_append_comm
    refine (List.perm_append_comm.trans ((List.Perm.append_right qt this))).trans ?_
    rw [List.append_assoc, List.append_assoc]
    exact List.Perm.append_left _ List.perm_append_comm) (by rw [List.map_append, List.map_drop]) (by rw [List.map_take]) g1
  rw [List.map_append, List.map_drop, List.map_take, et, ef] at g4
  have hcut := cut_flat hg (by rcases c2 with c2 | c2; exact .inl c2; right; omega)
  have hjoin : flat h (mkB h (e :: ents h tt) ((subs h tf).drop (m + 1) ++ subs h tt)) = flat h (mkB h [] ((subs h tf).drop (m + 1))) ++ e :: flat h tt := by
    have := join_flat (h := h) (la := []) (lb := ents h tt) (e := e) (ka := (subs h tf).drop (m + 1)) (kb := subs h tt) (by
      rcases c2 with c2 | c2
      · exact .inl c2
      · rcases a2 with a2 | a2
        · exact .inl a2
        · right; rw [List.length_drop]; simp; omega)
    rw [mkB_eta] at this
    exact this
  have hd0 : (ents h tf).drop (m + 1) = [] := List.drop_eq_nil_of_le (by omega)
  refine ⟨⟨g, _, _, g4, ?_, ?_, ?_, ?_, ?_, ?_⟩, g2⟩
  · refine wf_mk (by simp; omega) (by rcases c2 with c2 | c2; exact .inl c2; rcases a2 with a2 | a2; exact .inl a2; right; simp; omega) fun k hk => ?_
    rcases List.mem_append.1 hk with hk | hk
    · exact wf_kids hwf k (List.mem_of_mem_drop hk)
    · exact wf_kids hwt k hk
  · exact wf_mk (by simp; omega) (by rcases c2 with c2 | c2; exact .inl c2; right; simp; omega) fun k hk => wf_kids hwf k (List.mem_of_mem_take hk)
  · rw [ents_mk]; simp
  · rw [ents_mk]; simp; omega
  · rw [hcut, hjoin, hd0]; simp
  · intro y hy; rw [hjoin]; simp [hy]

theorem lendR_tr {h n t f i j : Nat} {l : List Ent} {ps : List Nat} {tt tf : BT h} {e : Ent} (hs : Sat w (nd n l ps :: tr h t tt :: tr h f tf :: F)) (hij : j = i + 1) (ht : ps[i]? = some t) (hf : ps[j]? = some f) (he : l[i]? = some e) (hwt : wf h tt) (hwf : wf h tf)
    (h3 : 3 ≤ (ents h tf).length) (h2 : (ents h tt).length ≤ 4) (b1 : l.length ≤ 90) (b2 : ps.length ≤ 90) :
    Ok (Fn Pg 137 [ptr n 0, int i, int j] w) fun v w' => (∃ (g : Ent) (tt' tf' : BT h), Sat w' (nd n (l.set i g) ps :: tr h t tt' :: tr h f tf' :: F) ∧ wf h tt' ∧ wf h tf' ∧ (ents h tt').length = (ents h tt).length + 1 ∧ (ents h tf').length + 1 = (ents h tf).length ∧
      flat h tt ++ e :: flat h tf = flat h tt' ++ g :: flat h tf' ∧ ∀ y ∈ flat h tt, y ∈ flat h tt') ∧ Sm w w' := by
  obtain ⟨qt, qf, et, ef, h1⟩ := tr_open3 hs
  obtain ⟨a1, a2, a3⟩ := subs_len hwt
  obtain ⟨c1, c2, c3⟩ := subs_len hwf
  have lt : qt.length = (subs h tt).length := by rw [← et, List.length_map]
  have lf : qf.length = (subs h tf).length := by rw [← ef, List.length_map]
  have wet := wf_ents hwt
  have wef := wf_ents hwf
  obtain ⟨g, hg⟩ : ∃ g, (ents h tf)[0]? = some g := ⟨_, List.getElem?_eq_getElem (by omega)⟩
  refine Ok.mono (lendR_ok h1 hij ht hf he hg (by omega) (by omega) (by omega) (by omega) (by rw [List.length_map]; omega) (by rw [List.length_map]; omega)) ?_
  rintro v w' ⟨g1, g2⟩
  have h0 : h = 0 → qt ++ qf = [] := fun hh => by
    have e1 := a1 hh; have e2 := c1 hh
    rw [e1] at lt; rw [e2] at lf
    rw [List.length_eq_zero_iff.1 lt, List.length_eq_zero_iff.1 lf]; rfl
  have g4 := tr_mk3 (qa := qt ++ qf.take 1) (qb := qf.drop 1) h0 (by rw [List.append_assoc, List.take_append_drop]) (by rw [List.map_append, List.map_take]) (by rw [List.map_drop]) g1
  rw [List.map_append, List.map_drop, List.map_take, et, ef] at g4
  have hcut := cut_flat hg (by rcases c2 with c2 | c2; exact .inl c2; right; omega)
  have hjoin : flat h (mkB h (ents h tt ++ [e]) (subs h tt ++ (subs h tf).take 1)) = flat h tt ++ e :: flat h (mkB h [] ((subs h tf).take 1)) := by
    have := join_flat (h := h) (la := ents h tt) (lb := []) (e := e) (ka := subs h tt) (kb := (subs h tf).take 1) (by
      rcases c2 with c2 | c2
      · exact .inl c2
      · rcases a2 with a2 | a2
        · exact .inl a2
        · right; rw [List.length_take]; omega)
    rw [mkB_eta] at this
    exact this
  refine ⟨⟨g, _, _, g4, ?_, ?_, ?_, ?_, ?_, ?_⟩, g2⟩
  · refine wf_mk (by simp; omega) (by rcases c2 with c2 | c2; exact .inl c2; rcases a2 with a2 | a2; exact .inl a2; right; simp; omega) fun k hk => ?_
    rcases List.mem_append.1 hk with hk | hk
    · exact wf_kids hwt k hk
    · exact wf_kids hwf k (List.mem_of_mem_take hk)
  · exact wf_mk (by simp; omega) (by rcases c2 with c2 | c2; exact .inl c2; right; simp; omega) fun k hk => wf_kids hwf k (List.mem_of_mem_drop hk)
  · rw [ents_mk]; simp
  · rw [ents_mk]; simp; omega
  · rw [hcut, hjoin]; simp
  · intro y hy; rw [hjoin]; simp [hy]

end Go.Cb

/-
  rich; edge.
-/
set_option linter.unusedVariables false
set_option linter.unusedSimpArgs false
namespace Go.Cb
variable {w : World} {F : List HP} {Q : Value → World → Prop}

theorem Ok.g1 {r : Unit → R} {k : Value → World → R} {v : Value} {w w' : World} (h : r () = some (v, w')) (hk : Ok (k v w') Q) : Ok (Cb.rd2 (gate (.bool true) true r w) k) Q := by
  show Ok (Cb.rd2 (r ()) k) Q
  rw [h]; exact hk
theorem Ok.g0 {r : Unit → R} {k : Value → World → R} {w : World} (hk : Ok (k undef w) Q) : Ok (Cb.rd2 (gate (.bool false) true r w) k) Q := hk
theorem gr {o : Option Value} {a : Value} {w : World} (h : o = some a) : (rd o fun v => some (v, w)) = some (a, w) := by rw [h]; rfl
theorem gr2 {o : R} {a : Value} {w' : World} (h : o = some (a, w')) : (rd2 o fun v w => some (v, w)) = some (a, w') := by rw [h]; rfl

theorem nd_facts {p k : Nat} {l : List Ent} {ks : List Nat} (hs : Sat w F) (hk : F[k]? = some (nd p l ks)) : ∃ lv kv, ldV Pg 149 (ptr p 0) w = some lv ∧ ldV Pg 150 (ptr p (0 + 1)) w = some kv ∧
    (∀ i q : Nat, ks[i]? = some q → ∃ b o, ixA Pg 150 kv (int i) = some (ptr b o) ∧ ldV Pg 148 (ptr b o) w = some (ptr q 0)) ∧
    (∀ (i : Nat) (e : Ent), l[i]? = some e → ∃ b o, ixA Pg 149 lv (int i) = some (ptr b o) ∧ ldV Pg 160 (ptr b o) w = some (aggE e) ∧ ldV Pg 9 (ptr b o) w = some (.string e.1) ∧ ldV Pg 76 (ptr b (o + 1)) w = some e.2.1) ∧
    (∀ (st : Bool) (rt : TypeId) (cs : Array Bool) (w' : World), lenG st Pg .len #[149] rt cs [lv] w' = some (int l.length, w')) ∧
    (∀ (st : Bool) (rt : TypeId) (cs : Array Bool) (w' : World), lenG st Pg .len #[150] rt cs [kv] w' = some (int ks.length, w')) := by
  obtain ⟨lv, kv, h⟩ := nd_open (hs.foc hk)
  refine ⟨lv, kv, ld_l h 0 rfl, ld_k h 0 rfl, fun i q hi => ix_k h 2 rfl hi, fun i e hi => ix_l h 1 rfl hi, fun st rt cs w' => sl_len T37 (h.foc (k := 1) rfl) w', fun st rt cs w' => sl_len T98 (h.foc (k := 2) rfl) w'⟩
theorem tr_len {h p k : Nat} {t : BT h} (hs : Sat w F) (hk : F[k]? = some (tr h p t)) : ∃ lv, ldV Pg 149 (ptr p 0) w = some lv ∧ ∀ (st : Bool) (rt : TypeId) (cs : Array Bool) (w' : World), lenG st Pg .len #[149] rt cs [lv] w' = some (int (ents h t).length, w') := by
  obtain ⟨qs, _, hs⟩ := tr_open (hs.foc hk)
  obtain ⟨lv, kv, h1, _, _, _, h2, _⟩ := nd_facts hs (k := 0) rfl
  exact ⟨lv, h1, h2⟩

/-- what is there behind rich. -/
def RichQ (h n : Nat) (F : List HP) (w0 : World) (l1 l2 : List Ent) (q1 q2 : List (Nat × BT h)) (k : BT h) (v : Value) (w' : World) : Prop :=
  ∃ (l1' l2' : List Ent) (q1' q2' : List (Nat × BT h)) (p' : Nat) (k' : BT h), v = int l1'.length ∧ q1'.length = l1'.length ∧ q2'.length = l2'.length ∧
    Sat w' (nd n (l1' ++ l2') ((q1' ++ (p', k') :: q2').map (·.1)) :: (fo h (q1' ++ (p', k') :: q2') ++ F)) ∧ (∀ q ∈ q1' ++ q2', wf h q.2 ∧ 2 ≤ (ents h q.2).length) ∧ wf h k' ∧ 3 ≤ (ents h k').length ∧
    (l1 ++ l2).length ≤ (l1' ++ l2').length + 1 ∧ (l1' ++ l2').length ≤ (l1 ++ l2).length ∧
    lpart l1' (fk h q1') ++ flat h k' ++ rpart l2' (fk h q2') = lpart l1 (fk h q1) ++ flat h k ++ rpart l2 (fk h q2) ∧ (∀ y ∈ flat h k, y ∈ flat h k') ∧ Sm w0 w'

theorem er_mid {β : Type} (A B : List β) (x : β) : (A ++ x :: B).eraseIdx A.length = A ++ B := by
  induction A with
  | nil => rfl
  | cons a A ih => simp [ih]
theorem er_mid1 {β : Type} (A B : List β) (x y : β) : (A ++ x :: y :: B).eraseIdx (A.length + 1) = A ++ x :: B := by
  induction A with
  | nil => rfl
  | cons a A ih => simp [ih]

theorem snoc_of {β : Type} {l : List β} (h : 0 < l.length) : ∃ r x, l = r ++ [x] := ⟨l.dropLast, l.getLast (by intro h0; rw [h0] at h; simp at h), (List.dropLast_concat_getLast _).symm⟩

theorem fk_snoc {h p : Nat} {q : List (Nat × BT h)} {k : BT h} : fk h (q ++ [(p, k)]) = fk h q ++ [flat h k] := by simp [fk]
theorem fk_len {h : Nat} {q : List (Nat × BT h)} : (fk h q).length = q.length := by simp [fk]

theorem rich_ok {h n p : Nat} {l1 l2 : List Ent} {q1 q2 : List (Nat × BT h)} {k : BT h} (hs : Sat w (nd n (l1 ++ l2) ((q1 ++ (p, k) :: q2).map (·.1)) :: (fo h (q1 ++ (p, k) :: q2) ++ F))) (e1 : q1.length = l1.length) (e2 : q2.length = l2.length)
    (hk : ∀ q ∈ q1 ++ (p, k) :: q2, wf h q.2 ∧ 2 ≤ (ents h q.2).length) (h5 : (l1 ++ l2).length ≤ 5) (h1 : 1 ≤ (l1 ++ l2).length) :
    Ok (Fn Pg 129 [ptr n 0, int l1.length] w) (RichQ h n F w l1 l2 q1 q2 k) := by
  obtain ⟨lv, kv, fl, fk', fi, fe, fn, fm⟩ := nd_facts hs (k := 0) rfl
  have hlen : (q1 ++ (p, k) :: q2).length = (l1 ++ l2).length + 1 := by simp; omega
  have hpl : ((q1 ++ (p, k) :: q2).map (·.1)).length ≤ 6 := by rw [List.length_map]; omega
  have hp : ((q1 ++ (p, k) :: q2).map (·.1))[l1.length]? = some p := by rw [← e1]; simp
  obtain ⟨b0, o0, x1, x2⟩ := fi _ _ hp
  have hs1 : Sat w (nd n (l1 ++ l2) ((q1 ++ (p, k) :: q2).map (·.1)) :: tr h p k :: (fo h (q1 ++ q2) ++ F)) := pull1 (q := (p, k)) |>.1 hs
  obtain ⟨klv, y1, y2⟩ := tr_len hs1 (k := 1) rfl
  have hwk : wf h k ∧ 2 ≤ (ents h k).length := hk (p, k) (by simp)
  have hl1 : l1.length ≤ 5 := by simp at h5; omega
  rw [F129]; unfold S129
  refine Ok.rd (nil_ptr _ _) (Ok.rd (fld100_1 _ _) (Ok.rd fk' (Ok.rd x1 (Ok.rd x2 ?_))))
  refine Ok.rd (nil_ptr _ _) (Ok.rd (fld100_0 _ _) (Ok.rd y1 (Ok.rd2 (y2 _ _ _ _) (Ok.rd2 bin_gtr ?_))))
  refine Ok.ci (fun hg => ?_) (fun hg => ?_)
  · have hg : 3 ≤ (ents h k).length := by simp at hg; omega
    refine ⟨_, _, rfl, l1, l2, q1, q2, p, k, rfl, e1, e2, hs, fun q hm => hk q (by simp at hm ⊢; rcases hm with hm | hm; exact .inl hm; exact .inr (.inr hm)), hwk.1, hg, by omega, Nat.le_refl _, rfl, fun y hy => hy, Sm.refl w⟩
  have hk2 : (ents h k).length = 2 := by have := hwk.2; simp at hg; omega
  -- the rest, without the left one
  have rest : (l1 = [] ∨ ∃ l1' e q1' f tf, l1 = l1' ++ [e] ∧ q1 = q1' ++ [(f, tf)] ∧ (ents h tf).length = 2) → Ok (rd (nilV (ptr n 0)) fun x62 =>
  rd (fldA Pg 152 x62 0) fun x63 =>
  rd (ldV Pg 149 x63 w) fun x64 =>
  rd2 (lenG false Pg .len #[149] 3 #[false] [x64] w) fun x65 w66 =>
  rd2 (binG false Pg .lss 3 (.tmp 0) (.tmp 0) (int l1.length) x65 w66) fun x67 w68 =>
  rd2 (gate x67 true (fun _ =>  some (ptr n 0, w68)) w68) fun x69 w70 =>
  rd2 (gate x67 true (fun _ => rd (nilV x69) fun x71 => some (x71, w70)) w70) fun x72 w73 =>
  rd2 (gate x67 true (fun _ => rd (fldA Pg 152 x72 1) fun x74 => some (x74, w73)) w73) fun x75 w76 =>
  rd2 (gate x67 true (fun _ => rd (ldV Pg 150 x75 w76) fun x77 => some (x77, w76)) w76) fun x78 w79 =>
  rd2 (gate x67 true (fun _ =>  some (int l1.length, w79)) w79) fun x80 w81 =>
  rd2 (gate x67 true (fun _ => rd2 (binG false Pg .add 3 (.tmp 0) (.const .nilFunc) x80 (.int .i64 1) w81) fun x82 w83 => some (x82, w83)) w81) fun x84 w85 =>
  rd2 (gate x67 true (fun _ => rd (ixA Pg 150 x78 x84) fun x86 => some (x86, w85)) w85) fun x87 w88 =>
  rd2 (gate x67 true (fun _ => rd (ldV Pg 148 x87 w88) fun x89 => some (x89, w88)) w88) fun x90 w91 =>
  rd2 (gate x67 true (fun _ => rd (nilV x90) fun x92 => some (x92, w91)) w91) fun x93 w94 =>
  rd2 (gate x67 true (fun _ => rd (fldA Pg 152 x93 0) fun x95 => some (x95, w94)) w94) fun x96 w97 =>
  rd2 (gate x67 true (fun _ => rd (ldV Pg 149 x96 w97) fun x98 => some (x98, w97)) w97) fun x99 w100 =>
  rd2 (gate x67 true (fun _ => rd2 (lenG false Pg .len #[149] 3 #[false] [x99] w100) fun x101 w102 => some (x101, w102)) w100) fun x103 w104 =>
  rd2 (gate x67 true (fun _ => rd2 (binG false Pg .gtr 3 (.tmp 0) (.const .nilFunc) x103 (.int .i64 2) w104) fun x105 w106 => some (x105, w106)) w104) fun x107 w108 =>
  rd (pickV x67 x107 (.bool false)) fun x109 =>
  cnd x109 (fun _ => rd2 (binG false Pg .add 3 (.tmp 0) (.const .nilFunc) (int l1.length) (.int .i64 1) w108) fun x110 w111 =>
  rd2 (Fn Pg 137 [ptr n 0, int l1.length, x110] w111) fun x112 w113 =>
  some (int l1.length, w113)) (fun _ => rd (nilV (ptr n 0)) fun x114 =>
  rd (fldA Pg 152 x114 0) fun x115 =>
  rd (ldV Pg 149 x115 w108) fun x116 =>
  rd2 (lenG false Pg .len #[149] 3 #[false] [x116] w108) fun x117 w118 =>
  rd2 (binG false Pg .lss 3 (.tmp 0) (.tmp 0) (int l1.length) x117 w118) fun x119 w120 =>
  cnd x119 (fun _ => rd2 (Fn Pg 128 [ptr n 0, int l1.length] w120) fun x121 w122 =>
  some (int l1.length, w122)) (fun _ => rd2 (binG false Pg .sub 3 (.tmp 0) (.const .nilFunc) (int l1.length) (.int .i64 1) w120) fun x123 w124 =>
  rd2 (Fn Pg 128 [ptr n 0, x123] w124) fun x125 w126 =>
  rd2 (binG false Pg .sub 3 (.tmp 0) (.const .nilFunc) (int l1.length) (.int .i64 1) w126) fun x127 w128 =>
  some (x127, w128)))) (RichQ h n F w l1 l2 q1 q2 k) := by
    intro hleft
    refine Ok.rd (nil_ptr _ _) (Ok.rd (fld100_0 _ _) (Ok.rd fl (Ok.rd2 (fn _ _ _ _) (Ok.rd2 bin_lss ?_))))
    cases l2 with
    | nil =>
      rw [show decide (((l1.length : Nat) : Int) < (((l1 ++ ([] : List Ent)).length : Nat) : Int)) = false from by simp]
      refine Ok.g0 (Ok.g0 (Ok.g0 (Ok.g0 (Ok.g0 (Ok.g0 (Ok.g0 (Ok.g0 (Ok.g0 (Ok.g0 (Ok.g0 (Ok.g0 (Ok.g0 ?_))))))))))))
      refine Ok.rd (pick_f _ _) (Ok.cf rfl ?_)
      refine Ok.rd (nil_ptr _ _) (Ok.rd (fld100_0 _ _) (Ok.rd fl (Ok.rd2 (fn _ _ _ _) (Ok.rd2 bin_lss ?_))))
      refine Ok.cf (by simp) ?_
      rcases hleft with rfl | ⟨l1', e, q1', f, tf, rfl, rfl, htf⟩
      · simp at h1
      have hq2 : q2 = [] := by simpa using e2
      subst hq2
      have e1' : q1'.length = l1'.length := by simpa using e1
      have hm : l1'.length + 1 - 1 = l1'.length := by omega
      have hL : (l1' ++ [e]).length ≤ 2 ^ 62 := by omega
      refine Ok.rd2 (bin_sub1 (by simp) hL) ?_
      rw [List.length_append, List.length_singleton, hm]
      have hs2 : Sat w (nd n ((l1' ++ [e]) ++ []) ((q1' ++ [(f, tf)] ++ [(p, k)]).map (·.1)) :: tr h f tf :: tr h p k :: (fo h (q1' ++ []) ++ F)) := by
        refine pull2 (q1 := q1') (q2 := []) (a := (f, tf)) (b := (p, k)) |>.1 ?_
        rw [show q1' ++ [(f, tf), (p, k)] = q1' ++ [(f, tf)] ++ [(p, k)] from by simp]
        exact hs
      have hwf : wf h tf ∧ 2 ≤ (ents h tf).length := hk (f, tf) (by simp)
      refine Ok.bind (merge_tr hs2 (i := l1'.length) (by rw [← e1']; simp) (by rw [← e1']; simp) (e := e) (by simp) hwf.1 hwk.1 (by omega) (by omega) (by omega)) ?_
      rintro v w2 ⟨⟨t', g1, g2, g3, g4⟩, g5⟩
      refine Ok.rd2 (bin_sub1 (by simp) (by simpa using hL)) ?_
      refine ⟨_, _, rfl, l1', [], q1', [], f, t', by simp, e1', rfl, ?_, ?_, g2, by omega, by simp, by simp, ?_, ?_, g5⟩
      · have hl' : ((l1' ++ [e]) ++ ([] : List Ent)).eraseIdx l1'.length = l1' ++ [] := by rw [List.append_nil]; exact er_mid _ _ _
        have hp' : ((q1' ++ [(f, tf)] ++ [(p, k)]).map (·.1)).eraseIdx (l1'.length + 1) = (q1' ++ [(f, t')]).map (·.1) := by
          have := er_mid1 (q1'.map (·.1)) [] f p
          rw [List.length_map, e1'] at this
          simpa using this
        rw [hl', hp'] at g1
        exact pull1 (q1 := q1') (q2 := []) (q := (f, t')) |>.2 g1
      · intro q hm
        exact hk q (by simp at hm; simp [hm])
      · rw [g4, fk_snoc, lpart_snoc (by rw [fk_len]; exact e1')]
        simp
      · intro y hy; rw [g4]; simp [hy]
    | cons e l2' =>
      rw [show decide (((l1.length : Nat) : Int) < (((l1 ++ e :: l2').length : Nat) : Int)) = true from by simp; omega]
      obtain ⟨⟨f, tf⟩, q2', rfl⟩ : ∃ q r, q2 = q :: r := by
        cases q2 with
        | nil => simp at e2
        | cons q r => exact ⟨q, r, rfl⟩
      have e2' : q2'.length = l2'.length := by simpa using e2
      have hpf : ((q1 ++ (p, k) :: (f, tf) :: q2').map (·.1))[l1.length + 1]? = some f := by rw [← e1]; simp
      obtain ⟨b1, o1, z1, z2⟩ := fi _ _ hpf
      have hs2 : Sat w (nd n (l1 ++ e :: l2') ((q1 ++ (p, k) :: (f, tf) :: q2').map (·.1)) :: tr h p k :: tr h f tf :: (fo h (q1 ++ q2') ++ F)) := pull2 (a := (p, k)) (b := (f, tf)) |>.1 hs
      obtain ⟨flv, u1, u2⟩ := tr_len hs2 (k := 2) rfl
      have hwf : wf h tf ∧ 2 ≤ (ents h tf).length := hk (f, tf) (by simp)
      refine Ok.g1 rfl (Ok.g1 (gr (nil_ptr _ _)) (Ok.g1 (gr (fld100_1 _ _)) (Ok.g1 (gr fk') (Ok.g1 rfl (Ok.g1 (gr2 (bin_add1 (by omega))) ?_)))))
      refine Ok.g1 (gr z1) (Ok.g1 (gr z2) (Ok.g1 (gr (nil_ptr _ _)) (Ok.g1 (gr (fld100_0 _ _)) (Ok.g1 (gr u1) (Ok.g1 (gr2 (u2 _ _ _ _)) (Ok.g1 (gr2 bin_gtr) ?_))))))
      refine Ok.rd (pick_t _ _) ?_
      refine Ok.ci (fun hg2 => ?_) (fun hg2 => ?_)
      · have hg2 : 3 ≤ (ents h tf).length := by simp at hg2; omega
        refine Ok.rd2 (bin_add1 (by omega)) ?_
        refine Ok.bind (lendR_tr hs2 rfl hp hpf (e := e) (by simp) hwk.1 hwf.1 hg2 (by omega) (by omega) (by omega)) ?_
        rintro v w2 ⟨⟨g, k', tf', g1, g2, g3, g4, g5, g6, g7⟩, g8⟩
        refine ⟨_, _, rfl, l1, g :: l2', q1, (f, tf') :: q2', p, k', rfl, e1, by simpa using e2', ?_, ?_, g2, by omega, by simp, by simp, ?_, g7, g8⟩
        · have hl' : (l1 ++ e :: l2').set l1.length g = l1 ++ g :: l2' := by simp
          have hp' : (q1 ++ (p, k) :: (f, tf) :: q2').map (·.1) = (q1 ++ (p, k') :: (f, tf') :: q2').map (·.1) := by simp
          rw [hl', hp'] at g1
          exact pull2 (a := (p, k')) (b := (f, tf')) |>.2 g1
        · intro q hm
          simp only [List.mem_append, List.mem_cons] at hm
          rcases hm with hm | rfl | hm
          · exact hk q (by simp [hm])
          · exact ⟨g3, Nat.le_of_succ_le_succ (Nat.le_trans hg2 (Nat.le_of_eq g5.symm))⟩
          · exact hk q (by simp [hm])
        · rw [show fk h ((f, tf') :: q2') = flat h tf' :: fk h q2' from rfl, show fk h ((f, tf) :: q2') = flat h tf :: fk h q2' from rfl, rpart_cons, rpart_cons]
          have := congrArg (fun z => lpart l1 (fk h q1) ++ z ++ rpart l2' (fk h q2')) g6
          simpa [List.append_assoc] using this.symm
      · have hg2 : (ents h tf).length = 2 := by have := hwf.2; simp at hg2; omega
        refine Ok.rd (nil_ptr _ _) (Ok.rd (fld100_0 _ _) (Ok.rd fl (Ok.rd2 (fn _ _ _ _) (Ok.rd2 bin_lss ?_))))
        refine Ok.ct (by simp; omega) ?_
        refine Ok.bind (merge_tr hs2 hp hpf (e := e) (by simp) hwk.1 hwf.1 (by omega) (by omega) (by omega)) ?_
        rintro v w2 ⟨⟨t', g1, g2, g3, g4⟩, g5⟩
        refine ⟨_, _, rfl, l1, l2', q1, q2', p, t', rfl, e1, e2', ?_, ?_, g2, by omega, by simp; omega, by simp, ?_, ?_, g5⟩
        · have hl' : (l1 ++ e :: l2').eraseIdx l1.length = l1 ++ l2' := er_mid _ _ _
          have hp' : ((q1 ++ (p, k) :: (f, tf) :: q2').map (·.1)).eraseIdx (l1.length + 1) = (q1 ++ (p, t') :: q2').map (·.1) := by
            have := er_mid1 (q1.map (·.1)) (q2'.map (·.1)) p f
            rw [List.length_map, e1] at this
            simpa using this
          rw [hl', hp'] at g1
          exact pull1 (q := (p, t')) |>.2 g1
        · intro q hm
          simp only [List.mem_append] at hm
          rcases hm with hm | hm
          · exact hk q (by simp [hm])
          · exact hk q (by simp [hm])
        · rw [g4, show fk h ((f, tf) :: q2') = flat h tf :: fk h q2' from rfl, rpart_cons]
          simp
        · intro y hy; rw [g4]; simp [hy]
  refine Ok.rd2 bin_gtr ?_
  by_cases h0 : l1 = []
  · rw [show decide ((0 : Int) < ((l1.length : Nat) : Int)) = false from by rw [h0]; rfl]
    refine Ok.g0 (Ok.g0 (Ok.g0 (Ok.g0 (Ok.g0 (Ok.g0 (Ok.g0 (Ok.g0 (Ok.g0 (Ok.g0 (Ok.g0 (Ok.g0 (Ok.g0 ?_))))))))))))
    refine Ok.rd (pick_f _ _) (Ok.cf rfl ?_)
    exact rest (.inl h0)
  · have hpos : 0 < l1.length := List.length_pos_iff.2 h0
    rw [show decide ((0 : Int) < ((l1.length : Nat) : Int)) = true from by simp; omega]
    obtain ⟨l1', e, rfl⟩ := snoc_of hpos
    obtain ⟨q1', ⟨f, tf⟩, rfl⟩ := snoc_of (l := q1) (by omega)
    have e1' : q1'.length = l1'.length := by simpa using e1
    have hm : (l1' ++ [e]).length - 1 = l1'.length := by simp
    have hpf : ((q1' ++ [(f, tf)] ++ (p, k) :: q2).map (·.1))[l1'.length]? = some f := by rw [← e1']; simp
    obtain ⟨b1, o1, z1, z2⟩ := fi _ _ hpf
    have hs2 : Sat w (nd n (l1' ++ [e] ++ l2) ((q1' ++ [(f, tf)] ++ (p, k) :: q2).map (·.1)) :: tr h f tf :: tr h p k :: (fo h (q1' ++ q2) ++ F)) := by
      refine pull2 (a := (f, tf)) (b := (p, k)) |>.1 ?_
      rw [show q1' ++ (f, tf) :: (p, k) :: q2 = q1' ++ [(f, tf)] ++ (p, k) :: q2 from by simp]
      exact hs
    obtain ⟨flv, u1, u2⟩ := tr_len hs2 (k := 1) rfl
    have hwf : wf h tf ∧ 2 ≤ (ents h tf).length := hk (f, tf) (by simp)
    have hsub := bin_sub1 (P := Pg) (st := false) (t := 3) (ox := .tmp 0) (oy := .const .nilFunc) (a := (l1' ++ [e]).length) (w := w) (by simp) (by simp; omega)
    rw [hm] at hsub
    refine Ok.g1 rfl (Ok.g1 (gr (nil_ptr _ _)) (Ok.g1 (gr (fld100_1 _ _)) (Ok.g1 (gr fk') (Ok.g1 rfl (Ok.g1 (gr2 hsub) ?_)))))
    refine Ok.g1 (gr z1) (Ok.g1 (gr z2) (Ok.g1 (gr (nil_ptr _ _)) (Ok.g1 (gr (fld100_0 _ _)) (Ok.g1 (gr u1) (Ok.g1 (gr2 (u2 _ _ _ _)) (Ok.g1 (gr2 bin_gtr) ?_))))))
    refine Ok.rd (pick_t _ _) ?_
    refine Ok.ci (fun hg2 => ?_) (fun hg2 => ?_)
    · have hg2 : 3 ≤ (ents h tf).length := by simp at hg2; omega
      refine Ok.rd2 hsub ?_
      have hs3 := hs2.re [0, 2, 1] (by decide)
      refine Ok.bind (lendL_tr (i := (l1' ++ [e]).length) (j := l1'.length) hs3 (by simp) hp hpf (e := e) (by simp) hwk.1 hwf.1 hg2 (by omega) (by omega) (by omega)) ?_
      rintro v w2 ⟨⟨g, k', tf', g1, g2, g3, g4, g5, g6, g7⟩, g8⟩
      refine ⟨_, _, rfl, l1' ++ [g], l2, q1' ++ [(f, tf')], q2, p, k', by simp, by simpa using e1', e2, ?_, ?_, g2, by omega, by simp, by simp, ?_, g7, g8⟩
      · have hl' : (l1' ++ [e] ++ l2).set l1'.length g = l1' ++ [g] ++ l2 := by simp
        have hp' : (q1' ++ [(f, tf)] ++ (p, k) :: q2).map (·.1) = (q1' ++ [(f, tf')] ++ (p, k') :: q2).map (·.1) := by simp
        rw [hl', hp'] at g1
        have := pull2 (q1 := q1') (q2 := q2) (a := (f, tf')) (b := (p, k')) |>.2 (g1.re [0, 2, 1] (by decide))
        rw [show q1' ++ (f, tf') :: (p, k') :: q2 = q1' ++ [(f, tf')] ++ (p, k') :: q2 from by simp] at this
        exact this
      · intro q hm
        simp only [List.mem_append, List.mem_singleton] at hm
        rcases hm with (hm | rfl) | hm
        · exact hk q (by simp [hm])
        · exact ⟨g3, Nat.le_of_succ_le_succ (Nat.le_trans hg2 (Nat.le_of_eq g5.symm))⟩
        · exact hk q (by simp [hm])
      · rw [fk_snoc, fk_snoc, lpart_snoc (by rw [fk_len]; exact e1'), lpart_snoc (by rw [fk_len]; exact e1')]
        have := congrArg (fun z => lpart l1' (fk h q1') ++ z ++ rpart l2 (fk h q2)) g6
        simpa [List.append_assoc] using this.symm
    · have hg2 : (ents h tf).length = 2 := by have := hwf.2; simp at hg2; omega
      exact rest (.inr ⟨l1', e, q1', f, tf, rfl, rfl, hg2⟩)

end Go.Cb

/-
  edge; remove.
-/
set_option linter.unusedVariables false
set_option linter.unusedSimpArgs false
namespace Go.Cb
variable {w : World} {F : List HP} {Q : Value → World → Prop}

theorem st_ent {rb : Nat} {c : List Value} {e : Ent} (hs : Sat w F) (k : Nat) (hk : F[k]? = some (pt rb c 160)) (hc : c.length = 2) : ∃ w', rawU Pg (Instr.storeAt 160 (ptr rb 0) (aggE e)) w = some (undef, w') ∧ Sat w' (F.set k (pt rb (encE e) 160)) ∧ Sm w w' := by
  obtain ⟨i, z, h1, h2, _⟩ := T37.i
  obtain ⟨w', g1, g2, g3⟩ := storeAt_ok (P := Pg) h1 (hs.foc hk).hp (k := 0) rfl (o := 0) (v := aggE e) (by rw [h2]; rfl) (by rw [h2, hc]; decide) (fun x hx => enE.one e x (by simpa [encE, Value.cells] using hx))
  refine ⟨w', g1, Sat.unf hk ((hs.foc hk).put g3 (fun _ _ hd => hd) ?_ (.inl rfl)), g3.sm⟩
  have := g2.get (k := 0) rfl
  have hl : lay c 0 (aggE e).cells.toList = encE e := by
    rw [lay_eq _ _ _ (by rw [hc]; exact Nat.le_refl 2), List.drop_eq_nil_of_le (by rw [hc]; exact Nat.le_refl 2)]
    simp [encE, Value.cells]
  rw [hl] at this
  exact this

def EdgeQ (h p : Nat) (t : BT h) (F : List HP) (w0 : World) (b : Bool) (v : Value) (w' : World) : Prop :=
  ∃ e, v = aggE e ∧ (b = true → ∃ A, flat h t = A ++ [e]) ∧ (b = false → ∃ B, flat h t = e :: B) ∧ Sat w' (tr h p t :: F) ∧ Sm w0 w'

theorem edge_loop : ∀ (h p : Nat) (t : BT h) (rb : Nat) (c : List Value) (b : Bool) (e : Env) (w : World) (F : List HP), wf h t → 1 ≤ (ents h t).length → c.length = 2 → Sat w (pt rb c 160 :: tr h p t :: F) →
    e 0 = ptr p 0 → e 1 = .bool b → e 4 = ptr rb 0 → e 45 = undef →
    Ok (evalLoop (cx127 (Fn Pg) (Rnd Pg)) (cdA Go.Proofs.Try.f127 [1, 0, 0, 0]) (K127_2 (Fn Pg) (Rnd Pg)) e w) (EdgeQ h p t F w b) := by
  intro h
  induction h with
  | zero =>
    intro p t rb c b e w F hw h1 hc hs e0 e1 e4 e45
    have h1 : 1 ≤ List.length t := h1
    have hs : Sat w (pt rb c 160 :: nd p t [] :: F) := hs
    rw [S127_L1_eq]; unfold S127_L1
    rw [e0, e1, e4, e45]
    refine Ok.rd2 (leaf_eq hs 1 rfl) (Ok.rd (un_not _) (Ok.cf rfl ?_))
    cases b with
    | true =>
      obtain ⟨lv, kv, fl, fkv, fi, fe, fn, fm⟩ := nd_facts hs.drw (k := 1) rfl
      refine Ok.ct rfl ?_
      obtain ⟨A, x, rfl⟩ := snoc_of (show 0 < List.length t by omega)
      have hx : (A ++ [x])[A.length]? = some x := by simp
      obtain ⟨b1, o1, y1, y2, _⟩ := fe _ _ hx
      have hA : A.length ≤ 5 := by have : List.length (A ++ [x]) ≤ 5 := hw; simp at this; omega
      have hsub := bin_sub1 (P := Pg) (st := true) (t := 3) (ox := .tmp 0) (oy := .const .nilFunc) (a := (A ++ [x]).length) (w := drw w) (by simp) (by simp; omega)
      rw [show (A ++ [x]).length - 1 = A.length from by simp] at hsub
      refine Ok.rd (nil_ptr _ _) (Ok.rd (fld100_0 _ _) (Ok.rd fl (Ok.rd (nil_ptr _ _) (Ok.rd (fld100_0 _ _) (Ok.rd fl (Ok.rd2 (fn _ _ _ _) (Ok.rd2 hsub (Ok.rd y1 (Ok.rd y2 ?_)))))))))
      obtain ⟨w2, g1, g2, g3⟩ := st_ent (e := x) hs.drw 0 rfl hc
      refine Ok.rd2 g1 ?_
      show Ok (rd (ldV Pg 160 (ptr rb 0) w2) fun x134 => some (x134, w2)) _
      refine Ok.rd (ld_ent g2 0 rfl) ?_
      exact ⟨_, _, rfl, x, rfl, fun _ => ⟨A, rfl⟩, (fun hh => by cases hh), g2.drop, g3.drw⟩
    | false =>
      obtain ⟨lv, kv, fl, fkv, fi, fe, fn, fm⟩ := nd_facts hs (k := 1) rfl
      refine Ok.cf rfl ?_
      obtain ⟨x, B, rfl⟩ : ∃ x B, t = (x :: B : List Ent) := by
        cases t with
        | nil => simp at h1
        | cons x B => exact ⟨x, B, rfl⟩
      obtain ⟨b1, o1, y1, y2, _⟩ := fe 0 x rfl
      refine Ok.rd (nil_ptr _ _) (Ok.rd (fld100_0 _ _) (Ok.rd fl (Ok.rd y1 (Ok.rd y2 ?_))))
      obtain ⟨w2, g1, g2, g3⟩ := st_ent (e := x) hs 0 rfl hc
      refine Ok.rd2 g1 ?_
      show Ok (rd (ldV Pg 160 (ptr rb 0) w2) fun x134 => some (x134, w2)) _
      refine Ok.rd (ld_ent g2 0 rfl) ?_
      exact ⟨_, _, rfl, x, rfl, (fun hh => by cases hh), fun _ => ⟨B, rfl⟩, g2.drop, g3⟩
  | succ h ih =>
    intro p t rb c b e w F hw h1 hc hs e0 e1 e4 e45
    obtain ⟨l, ks⟩ := t
    have hl5 : l.length ≤ 5 := hw.1
    have hkl : ks.length = l.length + 1 := hw.2.1
    obtain ⟨qs, hq, hs0⟩ := tr_open1 hs.sw
    clear hs
    have hq : qs.map (·.2) = ks := hq
    have hqs : qs.length = l.length + 1 := by rw [← hkl, ← hq, List.length_map]
    have hs : Sat w (pt rb c 160 :: nd p l (qs.map (·.1)) :: (fo h qs ++ F)) := (hs0.perm ((List.perm_middle.cons _))).sw
    clear hs0
    subst hq
    rw [S127_L1_eq]; unfold S127_L1
    rw [e0, e1, e4, e45]
    refine Ok.rd2 (leaf_eq hs 1 rfl) (Ok.rd (un_not _) (Ok.ct (by rw [List.length_map, hqs]; simp) ?_))
    have key : ∀ (q1 q2 : List (Nat × BT h)) (f : Nat) (k : BT h), qs = q1 ++ (f, k) :: q2 → ∀ (e' : Env) (w1 : World), Sm w w1 → Sat w1 (pt rb c 160 :: nd p l (qs.map (·.1)) :: (fo h qs ++ F)) → (b = true → q2 = []) → (b = false → q1 = []) → e' 0 = ptr f 0 → e' 1 = .bool b → e' 4 = ptr rb 0 → e' 45 = undef →
        Ok (evalLoop (cx127 (Fn Pg) (Rnd Pg)) (cdA Go.Proofs.Try.f127 [1, 0, 0, 0]) (K127_2 (Fn Pg) (Rnd Pg)) e' w1) (EdgeQ (h + 1) p (l, qs.map (·.2)) F w b) := by
      rintro q1 q2 f k rfl e' w1 s1 hs1 hb1 hb2 e0' e1' e4' e45'
      have hkw : wf h k ∧ 2 ≤ (ents h k).length := wf_kid hw (by simp)
      have hs2 : Sat w1 (pt rb c 160 :: tr h f k :: nd p l ((q1 ++ (f, k) :: q2).map (·.1)) :: (fo h (q1 ++ q2) ++ F)) := by
        have := hs1.perm ((pull_perm.cons _).cons _)
        exact this.re [0, 2, 1] (by decide)
      refine Ok.mono (ih f k rb c b e' w1 (nd p l ((q1 ++ (f, k) :: q2).map (·.1)) :: (fo h (q1 ++ q2) ++ F)) hkw.1 (by omega) hc hs2 e0' e1' e4' e45') ?_
      rintro v w2 ⟨x, hv, ht, hf, g1, g2⟩
      refine ⟨x, hv, fun hb => ?_, fun hb => ?_, put_kid rfl g1, s1.trans g2⟩
      · obtain ⟨A, hA⟩ := ht hb
        have := hb1 hb
        subst this
        have hl : q1.length = l.length := by simp at hqs; omega
        have := flat_at (p := f) (l2 := []) (q2 := []) (k := k) hl
        rw [List.append_nil] at this
        rw [this, hA]
        exact ⟨lpart l (fk h q1) ++ A, by simp [rpart, fk]⟩
      · obtain ⟨B, hB⟩ := hf hb
        have := hb2 hb
        subst this
        have := flat_at (p := f) (l1 := []) (l2 := l) (q1 := []) (q2 := q2) (k := k) rfl
        rw [List.nil_append, List.nil_append] at this
        rw [List.nil_append, this, hB]
        exact ⟨B ++ rpart l (fk h q2), by simp [lpart, fk]⟩
    cases b with
    | true =>
      obtain ⟨lv, kv, fl, fkv, fi, fe, fn, fm⟩ := nd_facts hs.drw (k := 1) rfl
      refine Ok.ct rfl ?_
      obtain ⟨q1, ⟨f, k⟩, hqe⟩ := snoc_of (l := qs) (by omega)
      have hq1 : q1.length = l.length := by rw [hqe] at hqs; simp at hqs; omega
      have hp : (qs.map (·.1))[l.length]? = some f := by rw [hqe, ← hq1]; simp
      obtain ⟨b1, o1, y1, y2⟩ := fi _ _ hp
      refine Ok.rd (nil_ptr _ _) (Ok.rd (fld100_1 _ _) (Ok.rd fkv (Ok.rd (nil_ptr _ _) (Ok.rd (fld100_0 _ _) (Ok.rd fl (Ok.rd2 (fn _ _ _ _) (Ok.rd y1 (Ok.rd y2 ?_))))))))
      exact key q1 [] f k hqe _ _ ⟨rfl, rfl, rfl, fun _ => rfl⟩ hs.drw (fun _ => rfl) (fun hh => by cases hh) rfl e1 e4 e45
    | false =>
      obtain ⟨lv, kv, fl, fkv, fi, fe, fn, fm⟩ := nd_facts hs (k := 1) rfl
      refine Ok.cf rfl ?_
      obtain ⟨⟨f, k⟩, q2, hqe⟩ : ∃ q r, qs = q :: r := by
        cases qs with
        | nil => simp at hqs
        | cons q r => exact ⟨q, r, rfl⟩
      have hp : (qs.map (·.1))[0]? = some f := by rw [hqe]; simp
      obtain ⟨b1, o1, y1, y2⟩ := fi _ _ hp
      refine Ok.rd (nil_ptr _ _) (Ok.rd (fld100_1 _ _) (Ok.rd fkv (Ok.rd y1 (Ok.rd y2 ?_))))
      exact key [] q2 f k hqe _ _ (Sm.refl w) hs (fun hh => by cases hh) (fun _ => rfl) rfl e1 e4 e45

theorem edge_ok {h p : Nat} {t : BT h} {b : Bool} (hw : wf h t) (h1 : 1 ≤ (ents h t).length) (hs : Sat w (tr h p t :: F)) : Ok (Fn Pg 127 [ptr p 0, .bool b] w) (EdgeQ h p t F w b) := by
  rw [F127]; unfold S127
  obtain ⟨i, z, g1, g2, g3, g4, _⟩ := T37.i
  refine Ok.rd2 (alloc_ok g1 g3) ?_
  have s1 := hs.new (l' := z.cells.toList) (T' := 160) (Ext.push (fun _ => False) w (.cells z.cells 160)) (fun _ _ hf => hf) (by have := At.new w z.cells.toList 160; simpa using this) (Nat.le_refl _)
  refine Ok.mono (edge_loop h p t _ _ b _ _ F hw h1 (by rw [Array.length_toList, g4]) s1 rfl rfl rfl rfl) ?_
  rintro v w' ⟨x, a1, a2, a3, a4, a5⟩
  exact ⟨x, a1, a2, a3, a4, (Ext.push (fun _ => False) w _).sm.trans a5⟩

end Go.Cb

/-
  remove.
-/
set_option linter.unusedVariables false
set_option linter.unusedSimpArgs false
namespace Go.Cb
variable {w : World} {F : List HP} {Q : Value → World → Prop}

theorem fits_has {key : ByteArray} {l1 l2 : List Ent} {b : Bool} (hf : Fits key l1 l2 b) (hs : Srt (l1 ++ l2)) : (b = true → ∃ e r, l2 = e :: r ∧ e.1 = key) ∧ (b = false → ¬ hasL (l1 ++ l2) key ∧ ∀ e, l2.head? = some e → kl key e.1 = true) := by
  obtain ⟨h1, h2⟩ := hf
  rcases h2 with ⟨rfl, rfl⟩ | ⟨e, r, rfl, he, hb⟩
  · refine ⟨fun h => (by cases h), fun _ => ⟨?_, fun e he => (by cases he)⟩⟩
    rintro ⟨y, hy, rfl⟩
    rw [List.append_nil] at hy
    exact kl_ne (h1 y hy) rfl
  · refine ⟨fun h => ⟨e, r, rfl, by rw [hb] at h; simpa using h⟩, fun h => ?_⟩
    have hne : e.1 ≠ key := by rw [hb] at h; simpa using h
    have hgt := kl_gt he hne
    refine ⟨?_, fun y hy => by simp at hy; subst hy; exact hgt⟩
    rintro ⟨y, hy, rfl⟩
    rcases List.mem_append.1 hy with hy | hy
    · exact kl_ne (h1 y hy) rfl
    · rcases List.mem_cons.1 hy with rfl | hy
      · exact hne rfl
      · have := kl_tr hgt ((srt_mid hs).2 y hy)
        rw [kl_irr] at this; cases this

theorem srt_in {A X B : List Ent} (hs : Srt (A ++ X ++ B)) {key : ByteArray} (hk : hasL X key) : bel A key ∧ abv B key ∧ Srt X := by
  obtain ⟨g1, g2, g3⟩ := srt_app.1 hs
  obtain ⟨g4, g5, g6⟩ := srt_app.1 g1
  obtain ⟨x, hx, rfl⟩ := hk
  exact ⟨fun a ha => g6 a ha x hx, fun b hb => g3 x (by simp [hx]) b hb, g5⟩

theorem rem_close {h n p : Nat} {l1 l2 : List Ent} {ps : List Nat} {q1 q2 : List (Nat × BT h)} {k k' : BT h} (e1 : q1.length = l1.length) (e2 : q2.length = l2.length) (hps : ps = (q1 ++ (p, k) :: q2).map (·.1))
    (hs : Sat w (tr h p k' :: nd n (l1 ++ l2) ps :: (fo h (q1 ++ q2) ++ F))) (h5 : (l1 ++ l2).length ≤ 5) (hk : ∀ q ∈ q1 ++ q2, wf h q.2 ∧ 2 ≤ (ents h q.2).length) (hk' : wf h k') (hk2 : 2 ≤ (ents h k').length) :
    ∃ t' : BT (h + 1), Sat w (tr (h + 1) n t' :: F) ∧ wf (h + 1) t' ∧ flat (h + 1) t' = lpart l1 (fk h q1) ++ flat h k' ++ rpart l2 (fk h q2) ∧ t'.1 = l1 ++ l2 := by
  refine ⟨(l1 ++ l2, (q1 ++ (p, k') :: q2).map (·.2)), put_kid (by rw [hps]; simp) hs, ⟨h5, by simp; omega, ?_⟩, flat_at e1, rfl⟩
  intro q hm
  simp only [List.map_append, List.map_cons, List.mem_append, List.mem_cons, List.mem_map] at hm
  rcases hm with ⟨q, hm, rfl⟩ | rfl | ⟨q, hm, rfl⟩
  · exact hk q (by simp [hm])
  · exact ⟨hk', hk2⟩
  · exact hk q (by simp [hm])

theorem remove_ok : ∀ (h n : Nat) (t : BT h) (key : ByteArray) (w : World) (F : List HP), wf h t → (h = 0 ∨ 1 ≤ (ents h t).length) → Srt (flat h t) → hasL (flat h t) key → Sat w (tr h n t :: F) →
    Ok (Fn Pg 107 [ptr n 0, .string key] w) fun v w' => (∃ t' : BT h, Sat w' (tr h n t' :: F) ∧ wf h t' ∧ flat h t' = delL (flat h t) key ∧ (ents h t).length ≤ (ents h t').length + 1) ∧ Sm w w' := by
  intro h
  induction h with
  | zero =>
    intro n t key w F hw h1 hsr hk hs
    have hs : Sat w (nd n t [] :: F) := hs
    have hsr : Srt (t : List Ent) := hsr
    have hk : hasL (t : List Ent) key := hk
    have hw : List.length t ≤ 5 := hw
    rw [F107]; unfold S107
    refine Ok.bind (find_ok hs (k := 0) rfl (by omega)) ?_
    rintro v w1 ⟨l1, l2, b, hl, hf, rfl, h2, s1⟩
    have hf2 := fits_has hf (hl ▸ hsr)
    cases b with
    | false => exact absurd (hl ▸ hk) (hf2.2 rfl).1
    | true =>
      obtain ⟨e, r, rfl, rfl⟩ := hf2.1 rfl
      refine Ok.rd rfl (Ok.rd rfl ?_)
      refine Ok.g1 rfl (Ok.g1 (gr2 (leaf_eq h2 0 rfl)) ?_)
      refine Ok.rd (pick_t _ _) (Ok.ct rfl ?_)
      obtain ⟨lv, kv, h3⟩ := nd_open h2
      have hl1 : l1.length ≤ 5 := by have := congrArg List.length hl; simp at this; omega
      refine go_l (ld_l h3 0 rfl) ?_
      refine Ok.rd2 (bin_add1 (by omega)) ?_
      refine go_dell h3 1 rfl (by rw [hl]; simp) (by omega) fun v4 w4 h4 s4 => ?_
      refine go_stl h4 0 rfl (slH_one h4 1 rfl) fun w5 h5 s5 => ?_
      have e1 : List.eraseIdx t l1.length = l1 ++ r := by rw [hl]; exact er_mid _ _ _
      refine ⟨_, _, rfl, ⟨l1 ++ r, ?_, ?_, ?_, ?_⟩, s1.trans (s4.trans s5)⟩
      · have h6 := nd_mk h5
        rw [e1] at h6
        exact h6
      · show List.length (l1 ++ r) ≤ 5
        rw [hl] at hw; simp at hw ⊢; omega
      · show l1 ++ r = delL t e.1
        rw [hl] at hsr ⊢
        obtain ⟨m1, m2⟩ := srt_mid hsr
        rw [del_one m1 m2 rfl]
      · rw [hl]; show List.length (l1 ++ e :: r) ≤ List.length (l1 ++ r) + 1; simp; omega
  | succ h ih =>
    intro n t key w F hw h1 hsr hk hs
    obtain ⟨l, ks⟩ := t
    have hl1x : 1 ≤ l.length := h1.resolve_left (by omega)
    clear h1
    have hl5 : l.length ≤ 5 := hw.1
    have hkl : ks.length = l.length + 1 := hw.2.1
    obtain ⟨qs, hq, hs0⟩ := tr_open1 hs
    clear hs
    have hq : qs.map (·.2) = ks := hq
    have hqs : qs.length = l.length + 1 := by rw [← hkl, ← hq, List.length_map]
    subst hq
    have hkids : ∀ q ∈ qs, wf h q.2 ∧ 2 ≤ (ents h q.2).length := fun q hm => wf_kid hw (List.mem_map_of_mem hm)
    rw [F107]; unfold S107
    have hs0 : Sat w (nd n l (qs.map (·.1)) :: (fo h qs ++ F)) := hs0
    have hl30 : l.length ≤ 2 ^ 30 := by omega
    refine Ok.bind (find_ok hs0 (k := 0) rfl hl30) ?_
    rintro v w1 ⟨l1, l2, b, rfl, hf, rfl, h2, s1⟩
    clear hs0
    refine Ok.rd rfl (Ok.rd rfl ?_)
    have hl1 : l1.length ≤ 5 := by simp at hl5; omega
    obtain ⟨q1, ⟨p, k⟩, q2, rfl, e1⟩ := ex_at (xs := qs) (i := l1.length) (by rw [hqs]; simp; omega)
    have e2 : q2.length = l2.length := by simp at hqs; omega
    have hfl := flat_at (p := p) (l2 := l2) (q2 := q2) (k := k) e1
    have hkw : wf h k ∧ 2 ≤ (ents h k).length := hkids (p, k) (by simp)
    have hkids' : ∀ q ∈ q1 ++ q2, wf h q.2 ∧ 2 ≤ (ents h q.2).length := fun q hm => hkids q (by simp at hm ⊢; rcases hm with hm | hm; exact .inl hm; exact .inr (.inr hm))
    rw [hfl] at hsr hk ⊢
    have hpl : ((q1 ++ (p, k) :: q2).map (·.1)).length ≤ 6 := by rw [List.length_map]; omega
    have hp : ((q1 ++ (p, k) :: q2).map (·.1))[l1.length]? = some p := by rw [← e1]; simp
    cases b with
    | false =>
      refine Ok.g0 (Ok.g0 (Ok.rd (pick_f _ _) (Ok.cf rfl ?_)))
      refine Ok.g0 (Ok.g0 (Ok.g0 (Ok.g0 (Ok.g0 (Ok.g0 (Ok.g0 (Ok.g0 (Ok.g0 (Ok.g0 (Ok.g0 (Ok.g0 (Ok.rd (pick_f _ _) (Ok.cf rfl ?_)))))))))))))
      refine Ok.g0 (Ok.g0 (Ok.g0 (Ok.g0 (Ok.g0 (Ok.g0 (Ok.g0 (Ok.g0 (Ok.g0 (Ok.g0 (Ok.g0 (Ok.g0 (Ok.g0 (Ok.rd (pick_f _ _) (Ok.cf rfl (Ok.cf rfl ?_)))))))))))))))
      refine Ok.bind (rich_ok h2 e1 e2 hkids hl5 hl1x) ?_
      rintro v w2 ⟨l1', l2', q1', q2', p', k', rfl, f1, f2, g1, g2, g3, g4, g5, g6, g7, g8, g9⟩
      have hl1' : l1'.length ≤ 5 := by simp at g6 hl5; omega
      have hp' : ((q1' ++ (p', k') :: q2').map (·.1))[l1'.length]? = some p' := by rw [← f1]; simp
      -- the key is in the kid
      have hkk : hasL (flat h k) key := by
        have hs2 := hsr
        obtain ⟨hA, hB⟩ : bel (lpart l1 (fk h q1)) key ∧ abv (rpart l2 (fk h q2)) key := by
          have hx := hf.2
          obtain ⟨m1, m2, _⟩ := srt_app.1 hsr
          obtain ⟨m3, m4, _⟩ := srt_app.1 m1
          refine ⟨lpart_bel m3 hf.1, rpart_abv m2 ?_⟩
          intro y hy
          rcases hf.2 with ⟨rfl, _⟩ | ⟨y', r, rfl, hy', hb⟩
          · cases hy
          · simp at hy; subst hy
            exact kl_gt hy' (by simpa using hb)
        exact (has_mid hA hB).1 hk
      have hkk' : hasL (flat h k') key := let ⟨y, hy, hyk⟩ := hkk; ⟨y, g8 y hy, hyk⟩
      have hsr' := hsr
      rw [← g7] at hsr'
      obtain ⟨nA, nB, nS⟩ := srt_in hsr' hkk'
      refine go_nkid g1 0 rfl hp' fun z a => ?_
      have g1' := pull1 (q := (p', k')) |>.1 g1
      refine Ok.bind (ih p' k' key w2 _ g3 (.inr (by omega)) nS hkk' g1'.sw) ?_
      rintro v w3 ⟨⟨k2, m1, m2, m3, m4⟩, m5⟩
      obtain ⟨t', t1, t2, t3, t4⟩ := rem_close (k := k') f1 f2 rfl m1 (by omega) g2 m2 (by omega)
      refine ⟨_, _, rfl, ⟨t', t1, t2, ?_, ?_⟩, s1.trans (g9.trans m5)⟩
      · rw [t3, m3, ← g7, del_mid nA nB]
      · show (l1 ++ l2).length ≤ t'.1.length + 1
        rw [t4]; exact g5
    | true =>
      obtain ⟨e, l2', rfl, rfl⟩ : ∃ e r, l2 = e :: r ∧ e.1 = key := by
        rcases hf.2 with ⟨_, hh⟩ | ⟨y', r, rfl, hy', hb⟩
        · cases hh
        · exact ⟨y', r, rfl, by simpa using hb⟩
      obtain ⟨⟨f, tf⟩, q2', rfl⟩ : ∃ q r, q2 = q :: r := by
        cases q2 with
        | nil => simp at e2
        | cons q r => exact ⟨q, r, rfl⟩
      have e2' : q2'.length = l2'.length := by simpa using e2
      have hfw : wf h tf ∧ 2 ≤ (ents h tf).length := hkids (f, tf) (by simp)
      have hpf : ((q1 ++ (p, k) :: (f, tf) :: q2').map (·.1))[l1.length + 1]? = some f := by rw [← e1]; simp
      have hle : (l1 ++ e :: l2')[l1.length]? = some e := by simp
      have h3 : Sat w1 (nd n (l1 ++ e :: l2') ((q1 ++ (p, k) :: (f, tf) :: q2').map (·.1)) :: tr h p k :: tr h f tf :: (fo h (q1 ++ q2') ++ F)) := pull2 (a := (p, k)) (b := (f, tf)) |>.1 h2
      clear h2
      obtain ⟨lv, kv, fl, fkv, fi, fe, fn, fm⟩ := nd_facts h3 (k := 0) rfl
      obtain ⟨b0, o0, x1, x2⟩ := fi _ _ hp
      obtain ⟨b1, o1, z1, z2⟩ := fi _ _ hpf
      obtain ⟨klv, y1, y2⟩ := tr_len h3 (k := 1) rfl
      obtain ⟨flv, u1, u2⟩ := tr_len h3 (k := 2) rfl
      have erp : rpart (e :: l2') (fk h ((f, tf) :: q2')) = e :: flat h tf ++ rpart l2' (fk h q2') := by
        rw [show fk h ((f, tf) :: q2') = flat h tf :: fk h q2' from rfl, rpart_cons]
      rw [erp] at hsr hk ⊢
      have hdel : delL (lpart l1 (fk h q1) ++ flat h k ++ (e :: flat h tf ++ rpart l2' (fk h q2'))) e.1 = lpart l1 (fk h q1) ++ flat h k ++ (flat h tf ++ rpart l2' (fk h q2')) := by
        rw [List.cons_append] at hsr ⊢
        obtain ⟨m1, m2⟩ := srt_mid hsr
        exact del_one m1 m2 rfl
      rw [hdel]
      refine Ok.g1 rfl (Ok.g1 (gr2 (leaf_eq h3 0 rfl)) ?_)
      rw [show decide (((q1 ++ (p, k) :: (f, tf) :: q2').map (·.1)).length = 0) = false from by simp]
      refine Ok.rd (pick_t _ _) (Ok.cf rfl ?_)
      refine Ok.g1 rfl (Ok.g1 (gr (nil_ptr _ _)) (Ok.g1 (gr (fld100_1 _ _)) (Ok.g1 (gr fkv) (Ok.g1 rfl ?_))))
      refine Ok.g1 (gr x1) (Ok.g1 (gr x2) (Ok.g1 (gr (nil_ptr _ _)) (Ok.g1 (gr (fld100_0 _ _)) (Ok.g1 (gr y1) (Ok.g1 (gr2 (y2 _ _ _ _)) (Ok.g1 (gr2 bin_gtr) ?_))))))
      refine Ok.rd (pick_t _ _) ?_
      refine Ok.ci (fun hg => ?_) (fun hg => ?_)
      · have hg : 3 ≤ (ents h k).length := by simp at hg; omega
        obtain ⟨lv, kv, h4⟩ := nd_open h3
        refine Ok.rd (nil_ptr _ _) (Ok.rd (fld100_0 _ _) (Ok.rd (ld_l h4.drw 0 rfl) ?_))
        refine go_k (ld_k h4.drw 0 rfl) (go_kid h4.drw 2 rfl hp ?_)
        refine Ok.bind (edge_ok (b := true) hkw.1 (by omega) (Sat.foc h4.drw (k := 3) rfl)) ?_
        rintro v w2 ⟨e', rfl, ht, _, g1, g2⟩
        obtain ⟨A, hA⟩ := ht rfl
        refine Ok.chk (show ldV Pg 149 (ptr n 0) w2 = some lv from ld_l g1 1 rfl) ?_
        refine go_set (i := l1.length) g1 2 rfl (by simp) fun w3 g3 s3 => ?_
        have hset : (l1 ++ e :: l2').set l1.length e' = l1 ++ e' :: l2' := by simp
        have g4 : Sat w3 (nd n (l1 ++ e' :: l2') ((q1 ++ (p, k) :: (f, tf) :: q2').map (·.1)) :: tr h p k :: tr h f tf :: (fo h (q1 ++ q2') ++ F)) := by
          have := g3.re [1, 2, 3, 0] (by decide)
          rw [← hset]
          exact nd_mk this
        refine go_nkid g4.drw 0 rfl hp fun z a => go_nkey g4.drw 0 rfl (e := e') (by simp) fun z a => ?_
        have hsk : Srt (flat h k) := (srt_app.1 (srt_app.1 hsr).1).2.1
        have hdk : delL (flat h k) e'.1 = A := by
          rw [hA] at hsk ⊢
          have := del_one (B := []) (srt_mid hsk).1 (srt_mid hsk).2 (rfl : e'.1 = e'.1)
          rw [List.append_nil] at this
          exact this
        refine Ok.bind (ih p k e'.1 (drw w3) _ hkw.1 (.inr (by omega)) hsk ⟨e', by rw [hA]; simp, rfl⟩ g4.drw.sw) ?_
        rintro v w4 ⟨⟨k', m1, m2, m3, m4⟩, m5⟩
        obtain ⟨t', t1, t2, t3, t4⟩ := rem_close (k := k) (l2 := e' :: l2') (q2 := (f, tf) :: q2') e1 (by simpa using e2') rfl (pull_in (q := (f, tf)) m1) (by simp at hl5 ⊢; omega) hkids' m2 (by omega)
        refine ⟨_, _, rfl, ⟨t', t1, t2, ?_, ?_⟩, s1.trans (g2.drw.trans (s3.trans m5.drw))⟩
        · rw [t3, m3, hdk, hA, show fk h ((f, tf) :: q2') = flat h tf :: fk h q2' from rfl, rpart_cons]; simp
        · show (l1 ++ e :: l2').length ≤ t'.1.length + 1
          rw [t4]; simp
      · have hk2 : (ents h k).length = 2 := by have := hkw.2; simp at hg; omega
        refine Ok.g1 rfl (Ok.g1 (gr (nil_ptr _ _)) (Ok.g1 (gr (fld100_1 _ _)) (Ok.g1 (gr fkv) (Ok.g1 rfl (Ok.g1 (gr2 (bin_add1 (by omega))) ?_)))))
        refine Ok.g1 (gr z1) (Ok.g1 (gr z2) (Ok.g1 (gr (nil_ptr _ _)) (Ok.g1 (gr (fld100_0 _ _)) (Ok.g1 (gr u1) (Ok.g1 (gr2 (u2 _ _ _ _)) (Ok.g1 (gr2 bin_gtr) ?_))))))
        refine Ok.rd (pick_t _ _) ?_
        refine Ok.ci (fun hg2 => ?_) (fun hg2 => ?_)
        · have hg2 : 3 ≤ (ents h tf).length := by simp at hg2; omega
          obtain ⟨lv, kv, h4⟩ := nd_open h3
          refine Ok.rd (nil_ptr _ _) (Ok.rd (fld100_0 _ _) (Ok.rd (ld_l h4.drw 0 rfl) ?_))
          refine go_k (ld_k h4.drw 0 rfl) ?_
          refine Ok.rd2 (bin_add1 (by omega)) ?_
          refine go_kid h4.drw 2 rfl hpf ?_
          refine Ok.bind (edge_ok (b := false) hfw.1 (by omega) (Sat.foc h4.drw (k := 4) rfl)) ?_
          rintro v w2 ⟨e', rfl, _, ht, g1, g2⟩
          obtain ⟨B, hB⟩ := ht rfl
          refine Ok.chk (show ldV Pg 149 (ptr n 0) w2 = some lv from ld_l g1 1 rfl) ?_
          refine go_set (i := l1.length) g1 2 rfl (by simp) fun w3 g3 s3 => ?_
          have hset : (l1 ++ e :: l2').set l1.length e' = l1 ++ e' :: l2' := by simp
          have g4 : Sat w3 (nd n (l1 ++ e' :: l2') ((q1 ++ (p, k) :: (f, tf) :: q2').map (·.1)) :: tr h f tf :: tr h p k :: (fo h (q1 ++ q2') ++ F)) := by
            have := g3.re [1, 2, 3, 0] (by decide)
            rw [← hset]
            exact nd_mk this
          refine Ok.rd (nil_ptr _ _) (Ok.rd (fld100_1 _ _) ?_)
          obtain ⟨lv2, kv2, fl2, fkv2, fi2, fe2, _, _⟩ := nd_facts g4.drw (k := 0) rfl
          obtain ⟨b3, o3, i1, i2⟩ := fi2 _ _ hpf
          obtain ⟨b4, o4, j1, _, j2, _⟩ := fe2 l1.length e' (by simp)
          refine Ok.rd fkv2 (Ok.rd2 (bin_add1 (by omega)) (Ok.rd i1 (Ok.rd i2 ?_)))
          refine Ok.rd (nil_ptr _ _) (Ok.rd (fld100_0 _ _) (Ok.rd fl2 (Ok.rd j1 (Ok.rd (fld40_0 _ _) (Ok.rd j2 ?_)))))
          have hst : Srt (flat h tf) := by
            have := (srt_app.1 hsr).2.1
            exact (srt_cons.1 (srt_app.1 this).1).2
          have hdk : delL (flat h tf) e'.1 = B := by
            rw [hB] at hst ⊢
            exact del_one (A := []) (by intro y hy; cases hy) (srt_cons.1 hst).1 (rfl : e'.1 = e'.1)
          refine Ok.bind (ih f tf e'.1 (drw w3) _ hfw.1 (.inr (by omega)) hst ⟨e', by rw [hB]; simp, rfl⟩ g4.drw.sw) ?_
          rintro v w4 ⟨⟨k', m1, m2, m3, m4⟩, m5⟩
          have m6 : Sat w4 (tr h f k' :: nd n ((l1 ++ [e']) ++ l2') ((q1 ++ (p, k) :: (f, tf) :: q2').map (·.1)) :: (fo h ((q1 ++ [(p, k)]) ++ q2') ++ F)) := by
            have := pull_in (q := (p, k)) m1
            simpa using this
          obtain ⟨t', t1, t2, t3, t4⟩ := rem_close (k := tf) (l1 := l1 ++ [e']) (q1 := q1 ++ [(p, k)]) (by simp [e1]) e2' (by simp) m6 (by simp at hl5 ⊢; omega) (fun q hm => by
            simp only [List.append_assoc, List.singleton_append, List.mem_append, List.mem_cons] at hm
            rcases hm with hm | rfl | hm
            · exact hkids q (by simp [hm])
            · exact hkw
            · exact hkids q (by simp [hm])) m2 (by omega)
          refine ⟨_, _, rfl, ⟨t', t1, t2, ?_, ?_⟩, s1.trans (g2.drw.trans (s3.trans m5.drw))⟩
          · rw [t3, m3, hdk, hB, fk_snoc, lpart_snoc (by rw [fk_len]; exact e1)]; simp
          · show (l1 ++ e :: l2').length ≤ t'.1.length + 1
            rw [t4]; simp
        · have hg2 : (ents h tf).length = 2 := by have := hfw.2; simp at hg2; omega
          refine Ok.ct rfl ?_
          refine Ok.bind (merge_tr h3 hp hpf hle hkw.1 hfw.1 (by omega) (by omega) (by omega)) ?_
          rintro v w2 ⟨⟨tm, g1, g2, g3, g4⟩, g5⟩
          have hl' : (l1 ++ e :: l2').eraseIdx l1.length = l1 ++ l2' := er_mid _ _ _
          have hp' : ((q1 ++ (p, k) :: (f, tf) :: q2').map (·.1)).eraseIdx (l1.length + 1) = (q1 ++ (p, tm) :: q2').map (·.1) := by
            have := er_mid1 (q1.map (·.1)) (q2'.map (·.1)) p f
            rw [List.length_map, e1] at this
            simpa using this
          rw [hl', hp'] at g1
          refine go_nkid (i := l1.length) (q := p) g1 0 rfl (by rw [← e1]; simp) fun z a => ?_
          have hsm : Srt (flat h tm) := by
            rw [g4]
            have : Srt (lpart l1 (fk h q1) ++ (flat h k ++ e :: flat h tf) ++ rpart l2' (fk h q2')) := by simpa [List.append_assoc] using hsr
            exact (srt_app.1 (srt_app.1 this).1).2.1
          refine Ok.bind (ih p tm e.1 w2 _ g2 (.inr (by omega)) hsm ⟨e, by rw [g4]; simp, rfl⟩ g1.sw) ?_
          rintro v w4 ⟨⟨k', m1, m2, m3, m4⟩, m5⟩
          obtain ⟨t', t1, t2, t3, t4⟩ := rem_close (k := tm) e1 e2' rfl m1 (by simp at hl5 ⊢; omega) (fun q hm => by
            simp only [List.mem_append] at hm
            rcases hm with hm | hm
            · exact hkids q (by simp [hm])
            · exact hkids q (by simp [hm])) m2 (by omega)
          refine ⟨_, _, rfl, ⟨t', t1, t2, ?_, ?_⟩, s1.trans (g5.trans m5)⟩
          · rw [t3, m3, g4]
            rw [g4] at hsm
            rw [del_one (srt_mid hsm).1 (srt_mid hsm).2 rfl]; simp
          · show (l1 ++ e :: l2').length ≤ t'.1.length + 1
            rw [t4]; simp; omega

end Go.Cb

/-
  seek.
-/
set_option linter.unusedVariables false
set_option linter.unusedSimpArgs false
namespace Go.Cb
variable {w : World} {F : List HP} {Q : Value → World → Prop}

theorem bin_raw {P : Program} {op : BinOp} {t : TypeId} {ox oy : Operand} {x y : Value} {w : World} {v : Value} (h1 : binV op x y = none) (h0 : cmpV P op t x y = none) (h2 : (eqGuard op t ox oy x y).run P w = .ok () w) (h3 : (binOp op t x y).run P w = .ok v w) : binG false P op t ox oy x y w = some (v, w) := by
  unfold binG
  rw [h1, h0]
  simp only [cond_false, rawV]
  rw [Sem.run_bind, h2]
  simp only [Result.andThen_ok, h3]

theorem eq_ptr_nil {P : Program} {t e : TypeId} (hu : P.underlying t = some (.pointer e)) (a : Option Addr) (w : World) (d : Nat) : (Op.equalIn (d + 1) t (.pointer a) (.pointer none)).run P w = .ok a.isNone w := by
  cases a <;> simp [Op.equalIn, und_run hu]
theorem eql_ptr {P : Program} {t e : TypeId} {ox oy : Operand} (hu : P.underlying t = some (.pointer e)) {a : Option Addr} {w : World} : binG false P .eql t ox oy (.pointer a) (.pointer none) w = some (.bool a.isNone, w) := by
  refine bin_raw rfl rfl rfl ?_
  have h4 : (Op.equal t (.pointer a) (.pointer none)).run P w = .ok a.isNone w := eq_ptr_nil hu a w 9999
  simp only [binOp]
  simp [h4]
theorem neq_ptr {P : Program} {t e : TypeId} {ox oy : Operand} (hu : P.underlying t = some (.pointer e)) {a : Option Addr} {w : World} : binG false P .neq t ox oy (.pointer a) (.pointer none) w = some (.bool (!a.isNone), w) := by
  refine bin_raw rfl rfl rfl ?_
  have h4 : (Op.equal t (.pointer a) (.pointer none)).run P w = .ok a.isNone w := eq_ptr_nil hu a w 9999
  simp only [binOp]
  simp [h4]
theorem up101 : Pg.underlying 157 = some (.pointer 160) := by kernel_rfl
theorem up25 : Pg.underlying 93 = some (.pointer 154) := by kernel_rfl
theorem up55 : Pg.underlying 148 = some (.pointer 152) := by kernel_rfl

theorem flat_setv (key : ByteArray) (y : V1) : ∀ (xs : List Ent) (i : Nat) (h : i < xs.length), xs[i].1 = key → (xs.flatMap encE).set (i * 2 + 1) y.1 = (xs.set i (key, y)).flatMap encE
  | x :: r, 0, _, hk => by
    simp at hk
    simp [encE, hk]
  | x :: r, i + 1, h, hk => by
    have := flat_setv key y r i (by simpa using h) (by simpa using hk)
    simp only [List.flatMap_cons, List.set_cons_succ, ← this]
    rw [List.set_append_right _ _ (by simp [encE]; omega)]
    congr 2
    simp [encE]; omega

/-- a value turned in its place. -/
theorem sl_setv {v : Value} {xs : List Ent} {i : Nat} {key : ByteArray} {y : V1} {b o : Nat} (h : Sat w (slH 160 2 encE v xs :: F)) (hi : i < xs.length) (hk : xs[i].1 = key) (hb : ixA Pg 149 v (int i) = some (ptr b o)) :
    ∃ w', rawU Pg (Instr.storeAt 76 (ptr b (o + 1)) y.1) w = some (undef, w') ∧ Sat w' (slH 160 2 encE v (xs.set i (key, y)) :: F) ∧ Sm w w' := by
  obtain ⟨i', z, hi', hk', _⟩ := T37.i
  rcases slH_cases h with ⟨a, rfl, rfl, h'⟩ | ⟨b', c, l, rfl, h1, h2, h3, h'⟩
  · simp at hi
  · rw [ix_sl T37.u hi' hi, hk', Nat.zero_add] at hb
    simp only [Option.some.injEq, Value.pointer.injEq, Addr.mk.injEq, and_true] at hb
    obtain ⟨rfl, rfl⟩ := hb
    obtain ⟨w', g1, g2, g3⟩ := st_one (P := Pg) (t := 76) (sz_of (by kernel_rfl)) h' 0 rfl (o := i * 2 + 1) (by omega) y.2
    refine ⟨w', g1, ?_, g3⟩
    refine slH_mk (by simp) (by rw [List.length_set]; exact h1) (by simpa using h2) ?_ g2
    rw [List.length_set, List.take_set, h3, flat_setv key y xs i hi hk]

theorem nd_setv {p k : Nat} {l : List Ent} {ks : List Nat} {i : Nat} {key : ByteArray} (hs : Sat w (nd p l ks :: F)) (hi : i < l.length) (hk : l[i].1 = key) :
    ∃ lv b o, ldV Pg 149 (ptr p 0) w = some lv ∧ ixA Pg 149 lv (int i) = some (ptr b o) ∧ ldV Pg 76 (ptr b (o + 1)) w = some l[i].2.1 ∧
      ∀ y : V1, ∃ w', rawU Pg (Instr.storeAt 76 (ptr b (o + 1)) y.1) w = some (undef, w') ∧ Sat w' (nd p (l.set i (key, y)) ks :: F) ∧ Sm w w' := by
  obtain ⟨lv, kv, h⟩ := nd_open hs
  obtain ⟨b, o, h1, _, _, h2⟩ := ix_l h 1 rfl (List.getElem?_eq_getElem hi)
  refine ⟨lv, b, o, ld_l h 0 rfl, h1, h2, fun y => ?_⟩
  obtain ⟨w', g1, g2, g3⟩ := sl_setv (y := y) (h.foc (k := 1) rfl) hi hk h1
  exact ⟨w', g1, nd_mk (g2.sw), g3⟩

def SeekQ (h p : Nat) (t : BT h) (F : List HP) (key : ByteArray) (w0 : World) (v : Value) (w' : World) : Prop :=
  ((v = .pointer none ∧ ¬ hasL (flat h t) key) ∨ ∃ b o e, v = ptr b o ∧ e ∈ flat h t ∧ e.1 = key ∧ ldV Pg 76 (ptr b (o + 1)) w' = some e.2.1 ∧
    ∀ y : V1, ∃ w'', rawU Pg (Instr.storeAt 76 (ptr b (o + 1)) y.1) w' = some (undef, w'') ∧ (∃ t' : BT h, Sat w'' (tr h p t' :: F) ∧ wf h t' ∧ flat h t' = putL (flat h t) (key, y) ∧ (ents h t').length = (ents h t).length) ∧ Sm w' w'') ∧
  Sat w' (tr h p t :: F) ∧ Sm w0 w'

theorem seek_loop : ∀ (h p : Nat) (t : BT h) (key : ByteArray) (e : Env) (w : World) (F : List HP), wf h t → Srt (flat h t) → Sat w (tr h p t :: F) → e 5 = ptr p 0 → e 1 = .string key → e 36 = undef →
    Ok (evalLoop (cx95 (Fn Pg) (Rnd Pg)) (cdA Go.Proofs.Try.f95 [1, 1, 0, 0]) (K95_1 (Fn Pg) (Rnd Pg)) e w) (SeekQ h p t F key w) := by
  intro h
  induction h with
  | zero =>
    intro p (t : List Ent) key e w F hw hsr hs e5 e1 e36
    have hs : Sat w (nd p t [] :: F) := hs
    have hw : List.length t ≤ 5 := hw
    rw [S95_L1_eq]; unfold S95_L1
    rw [e5, e1, e36]
    refine Ok.bind (find_ok hs (k := 0) rfl (by omega)) ?_
    rintro v w1 ⟨l1, l2, b, hl, hf, rfl, h2, s1⟩
    have hsr' : Srt (l1 ++ l2) := by rw [← hl]; exact hsr
    have hf2 := fits_has hf hsr'
    refine Ok.rd rfl (Ok.rd rfl ?_)
    cases b with
    | false =>
      refine Ok.cf rfl (Ok.rd2 (leaf_eq h2 0 rfl) (Ok.ct rfl ?_))
      refine ⟨_, _, rfl, .inl ⟨rfl, ?_⟩, h2, s1⟩
      have := (hf2.2 rfl).1
      rw [← hl] at this
      exact this
    | true =>
      obtain ⟨x, r, rfl, rfl⟩ := hf2.1 rfl
      have hi : l1.length < List.length t := by rw [hl]; simp
      have hx : t[l1.length]'hi = x := by
        have : t[l1.length]? = some x := by rw [hl]; simp
        rw [List.getElem?_eq_getElem hi] at this
        exact Option.some.inj this
      refine Ok.ct rfl ?_
      obtain ⟨lv, b, o, g1, g2, g3, g4⟩ := nd_setv (k := 0) (key := x.1) h2 hi (by rw [hx])
      refine Ok.rd (nil_ptr _ _) (Ok.rd (fld100_0 _ _) (Ok.rd g1 (Ok.rd g2 ?_)))
      refine ⟨_, _, rfl, .inr ⟨b, o, x, rfl, ?_, rfl, ?_, fun y => ?_⟩, h2, s1⟩
      · show x ∈ t; rw [hl]; simp
      · rw [g3, hx]
      · obtain ⟨w'', m1, m2, m3⟩ := g4 y
        refine ⟨w'', m1, ⟨List.set t l1.length (x.1, y), m2, ?_, ?_, ?_⟩, m3⟩
        · show List.length (List.set t _ _) ≤ 5; rw [List.length_set]; exact hw
        · show List.set t _ _ = putL t (x.1, y)
          rw [hl, put_set (x := x) (e := (x.1, y)) (srt_mid hsr').1 (srt_mid hsr').2 rfl]; simp
        · show List.length (List.set t _ _) = List.length t; rw [List.length_set]
  | succ h ih =>
    intro p t key e w F hw hsr hs e5 e1 e36
    obtain ⟨l, ks⟩ := t
    have hl5 : l.length ≤ 5 := hw.1
    have hkl : ks.length = l.length + 1 := hw.2.1
    obtain ⟨qs, hq, hs0⟩ := tr_open1 hs
    clear hs
    have hq : qs.map (·.2) = ks := hq
    have hqs : qs.length = l.length + 1 := by rw [← hkl, ← hq, List.length_map]
    subst hq
    have hkids : ∀ q ∈ qs, wf h q.2 ∧ 2 ≤ (ents h q.2).length := fun q hm => wf_kid hw (List.mem_map_of_mem hm)
    have hs0 : Sat w (nd p l (qs.map (·.1)) :: (fo h qs ++ F)) := hs0
    have hl30 : l.length ≤ 2 ^ 30 := by omega
    rw [S95_L1_eq]; unfold S95_L1
    rw [e5, e1, e36]
    refine Ok.bind (find_ok hs0 (k := 0) rfl hl30) ?_
    rintro v w1 ⟨l1, l2, b, rfl, hf, rfl, h2, s1⟩
    clear hs0
    refine Ok.rd rfl (Ok.rd rfl ?_)
    obtain ⟨q1, ⟨f, k⟩, q2, rfl, e1'⟩ := ex_at (xs := qs) (i := l1.length) (by rw [hqs]; simp; omega)
    have e2' : q2.length = l2.length := by simp at hqs; omega
    have hfl := flat_at (p := f) (l2 := l2) (q2 := q2) (k := k) e1'
    have hkw : wf h k ∧ 2 ≤ (ents h k).length := hkids (f, k) (by simp)
    have hp : ((q1 ++ (f, k) :: q2).map (·.1))[l1.length]? = some f := by rw [← e1']; simp
    cases b with
    | false =>
      refine Ok.cf rfl (Ok.rd2 (leaf_eq h2 0 rfl) (Ok.cf (by simp) ?_))
      have hhd : ∀ y, l2.head? = some y → kl key y.1 = true := by
        intro y hy
        rcases hf.2 with ⟨rfl, _⟩ | ⟨y', r, rfl, hy', hb⟩
        · cases hy
        · simp at hy; subst hy
          exact kl_gt hy' (by simpa using hb)
      obtain ⟨hA, hB, hsk⟩ := beside e1' hsr hf.1 hhd
      refine go_nkid h2 0 rfl hp fun z a => ?_
      have h3 := pull1 (q := (f, k)) |>.1 h2
      refine Ok.mono (ih f k key _ w1 _ hkw.1 hsk h3.sw rfl e1 e36) ?_
      rintro v w2 ⟨g1, g2, g3⟩
      refine ⟨?_, put_kid rfl g2, s1.trans g3⟩
      rw [hfl]
      rcases g1 with ⟨rfl, g1⟩ | ⟨b, o, x, rfl, m1, m2, m3, m4⟩
      · exact .inl ⟨rfl, fun hh => g1 ((has_mid hA hB).1 hh)⟩
      · refine .inr ⟨b, o, x, rfl, by simp [m1], m2, m3, fun y => ?_⟩
        obtain ⟨w'', n1, ⟨k', n2, n3, n4, n5⟩, n6⟩ := m4 y
        obtain ⟨t', t1, t2, t3, t4⟩ := rem_close (k := k) e1' e2' rfl n2 hl5 (fun q hm => hkids q (by simp at hm ⊢; rcases hm with hm | hm; exact .inl hm; exact .inr (.inr hm))) n3 (by omega)
        refine ⟨w'', n1, ⟨t', t1, t2, ?_, ?_⟩, n6⟩
        · rw [t3, n4, put_mid (e := (key, y)) hA hB]
        · show t'.1.length = (l1 ++ l2).length
          rw [t4]
    | true =>
      obtain ⟨x, r, rfl, rfl⟩ : ∃ e r, l2 = e :: r ∧ e.1 = key := by
        rcases hf.2 with ⟨_, hh⟩ | ⟨y', r, rfl, hy', hb⟩
        · cases hh
        · exact ⟨y', r, rfl, by simpa using hb⟩
      refine Ok.ct rfl ?_
      have hi : l1.length < (l1 ++ x :: r).length := by simp
      have hx : (l1 ++ x :: r)[l1.length]'hi = x := by simp
      obtain ⟨lv, b, o, g1, g2, g3, g4⟩ := nd_setv (k := 0) (key := x.1) h2 hi (by rw [hx])
      refine Ok.rd (nil_ptr _ _) (Ok.rd (fld100_0 _ _) (Ok.rd g1 (Ok.rd g2 ?_)))
      have h3 := tr_mk1 h2
      obtain ⟨⟨f2, k2⟩, q2', rfl⟩ : ∃ q r, q2 = q :: r := by
        cases q2 with
        | nil => simp at e2'
        | cons q r => exact ⟨q, r, rfl⟩
      refine ⟨_, _, rfl, .inr ⟨b, o, x, rfl, ?_, rfl, ?_, fun y => ?_⟩, h3, s1⟩
      · rw [hfl, show fk h ((f2, k2) :: q2') = flat h k2 :: fk h q2' from rfl, rpart_cons]; simp
      · rw [g3, hx]
      · obtain ⟨w'', m1, m2, m3⟩ := g4 y
        have hset : (l1 ++ x :: r).set l1.length (x.1, y) = l1 ++ (x.1, y) :: r := by simp
        rw [hset] at m2
        refine ⟨w'', m1, ⟨_, tr_mk1 m2, ⟨by simp at hl5 ⊢; omega, by simp at hqs ⊢; omega, hw.2.2⟩, ?_, ?_⟩, m3⟩
        · have hfl2 := flat_at (p := f) (l2 := (x.1, y) :: r) (q2 := (f2, k2) :: q2') (k := k) e1'
          rw [hfl, show fk h ((f2, k2) :: q2') = flat h k2 :: fk h q2' from rfl, rpart_cons] at hsr
          rw [hfl2, hfl, show fk h ((f2, k2) :: q2') = flat h k2 :: fk h q2' from rfl, rpart_cons, rpart_cons]
          rw [List.cons_append] at hsr
          simp only [List.cons_append]
          rw [put_set (x := x) (e := (x.1, y)) (srt_mid hsr).1 (srt_mid hsr).2 rfl]
        · show (l1 ++ (x.1, y) :: r).length = (l1 ++ x :: r).length
          simp

end Go.Cb

/-
  The tree as its users see it: New, Len, Get, Put, Delete.
-/
set_option linter.unusedVariables false
set_option linter.unusedSimpArgs false
namespace Go.Cb
variable {w : World} {F : List HP} {Q : Value → World → Prop}

theorem fld57_0 (b o : Nat) : fldA Pg 154 (ptr b o) 0 = some (ptr b o) := by kernel_rfl
theorem fld57_1 (b o : Nat) : fldA Pg 154 (ptr b o) 1 = some (ptr b (o + 1)) := by kernel_rfl
theorem bld100_0 : bldV Pg 152 [] = some (.agg #[.slice none 0 0, .slice none 0 0]) := by kernel_rfl
theorem bld100_k (a : Option Addr) (n c : Nat) : bldV Pg 152 [(1, .slice a n c)] = some (.agg #[.slice none 0 0, .slice a n c]) := by kernel_rfl
theorem bld57_0 (r : Nat) : bldV Pg 154 [(0, ptr r 0)] = some (.agg #[ptr r 0, int 0]) := by kernel_rfl
theorem bld40_i (s : ByteArray) (a : Option Addr) (n c : Nat) : bldV Pg 160 [(0, .string s), (1, .slice a n c)] = some (.agg #[.string s, .slice a n c]) := by kernel_rfl
def vI (n : Int) : V1 := ⟨int n, rfl⟩

def tree (T : Nat) (L : List Ent) : HP := fun x => ∃ r h t, (wf h t ∧ (h = 0 ∨ 1 ≤ (ents h t).length) ∧ flat h t = L ∧ Srt L) ∧ stars [pt T [ptr r 0, int L.length] 154, tr h r t] x

theorem tree_open {T : Nat} {L : List Ent} (hs : Sat w (tree T L :: F)) : ∃ r h, ∃ t : BT h, wf h t ∧ (h = 0 ∨ 1 ≤ (ents h t).length) ∧ flat h t = L ∧ Srt L ∧ Sat w (pt T [ptr r 0, int L.length] 154 :: tr h r t :: F) := by
  obtain ⟨r, hs⟩ := Sat.ex.1 hs
  obtain ⟨h, hs⟩ := Sat.ex.1 hs
  obtain ⟨t, hs⟩ := Sat.ex.1 hs
  obtain ⟨⟨h1, h2, h3, h4⟩, hs⟩ := Sat.and.1 hs
  exact ⟨r, h, t, h1, h2, h3, h4, Sat.flat.1 hs⟩
theorem tree_mk {T r h : Nat} {L : List Ent} {t : BT h} {n : Int} (h1 : wf h t) (h2 : h = 0 ∨ 1 ≤ (ents h t).length) (h3 : flat h t = L) (h4 : Srt L) (hn : n = L.length) (hs : Sat w (pt T [ptr r 0, int n] 154 :: tr h r t :: F)) : Sat w (tree T L :: F) := by
  subst hn
  exact Sat.ex.2 ⟨r, Sat.ex.2 ⟨h, Sat.ex.2 ⟨t, Sat.and.2 ⟨⟨h1, h2, h3, h4⟩, Sat.flat.2 hs⟩⟩⟩⟩

/-- of a tree: its root, its number. -/
theorem ld_root {T : Nat} {a b : Value} (hs : Sat w F) (k : Nat) (hk : F[k]? = some (pt T [a, b] 154)) : ldV Pg 148 (ptr T 0) w = some a := (ldV_sc a55 _ _).trans ((hs.foc hk).at.cell 0)
theorem ld_num {T : Nat} {a b : Value} (hs : Sat w F) (k : Nat) (hk : F[k]? = some (pt T [a, b] 154)) : ldV Pg 3 (ptr T (0 + 1)) w = some b := (ldV_sc a3 _ _).trans ((hs.foc hk).at.cell 1)
theorem st_root {T : Nat} {a b v : Value} (hs : Sat w F) (k : Nat) (hk : F[k]? = some (pt T [a, b] 154)) (hv : one v = true) : ∃ w', rawU Pg (Instr.storeAt 148 (ptr T 0) v) w = some (undef, w') ∧ Sat w' (F.set k (pt T [v, b] 154)) ∧ Sm w w' :=
  st_one (sz_of (by kernel_rfl)) hs k hk (Nat.zero_lt_succ _) hv
theorem st_num {T : Nat} {a b v : Value} (hs : Sat w F) (k : Nat) (hk : F[k]? = some (pt T [a, b] 154)) (hv : one v = true) : ∃ w', rawU Pg (Instr.storeAt 3 (ptr T (0 + 1)) v) w = some (undef, w') ∧ Sat w' (F.set k (pt T [a, v] 154)) ∧ Sm w w' :=
  st_one (sz_of (by kernel_rfl)) hs k hk (Nat.lt_succ_self 1) hv

theorem Ok.f0 {r : Unit → R} {k : Value → World → R} {w : World} (hk : Ok (k undef w) Q) : Ok (Cb.rd2 (gate (.bool true) false r w) k) Q := hk
theorem Ok.f1 {r : Unit → R} {k : Value → World → R} {v : Value} {w w' : World} (h : r () = some (v, w')) (hk : Ok (k v w') Q) : Ok (Cb.rd2 (gate (.bool false) false r w) k) Q := by
  show Ok (Cb.rd2 (r ()) k) Q
  rw [h]; exact hk

/-- is there no tree? -/
theorem none_ok {T : Nat} {a : Option Addr} {b : Value} (hs : Sat w F) (k : Nat) (hk : F[k]? = some (pt T [.pointer a, b] 154)) : Fn Pg 94 [ptr T 0] w = some (.bool a.isNone, w) := by
  have : Ok (Fn Pg 94 [ptr T 0] w) fun v w' => v = .bool a.isNone ∧ w' = w := by
    rw [F94]; unfold S94
    refine Ok.rd2 (eql_ptr up25) ?_
    refine Ok.f1 rfl (Ok.f1 (gr (nil_ptr _ _)) (Ok.f1 (gr (fld57_0 _ _)) (Ok.f1 (gr (ld_root hs k hk)) (Ok.f1 (gr2 (eql_ptr up55)) ?_))))
    refine Ok.rd (pick_f _ _) (Ok.ret ⟨rfl, rfl⟩)
  obtain ⟨v, w', h1, rfl, rfl⟩ := this
  exact h1
theorem none_nil : Fn Pg 94 [.pointer none] w = some (.bool true, w) := by
  have : Ok (Fn Pg 94 [.pointer none] w) fun v w' => v = .bool true ∧ w' = w := by
    rw [F94]; unfold S94
    refine Ok.rd2 (eql_ptr up25) ?_
    refine Ok.f0 (Ok.f0 (Ok.f0 (Ok.f0 (Ok.f0 ?_))))
    refine Ok.rd (pick_t _ _) (Ok.ret ⟨rfl, rfl⟩)
  obtain ⟨v, w', h1, rfl, rfl⟩ := this
  exact h1

theorem new_ok (hs : Sat w F) : Ok (Fn Pg 61 [] w) fun v w' => ∃ T, v = ptr T 0 ∧ Sat w' (tree T [] :: F) ∧ Sm w w' := by
  rw [F61]; unfold S61
  refine Ok.rd bld100_0 ?_
  refine go_box100 rfl rfl hs fun r w1 h1 s1 => ?_
  refine Ok.rd (bld57_0 r) (Ok.rd2 box_ok ?_)
  have hE := Ext.push (fun _ => False) w1 (.cells #[ptr r 0, int 0] 154)
  have h2 := h1.new (l' := [ptr r 0, int 0]) (T' := 154) hE (fun _ _ hf => hf) (At.new w1 [ptr r 0, int 0] 154) (Nat.le_refl _)
  refine ⟨_, _, rfl, _, rfl, ?_, s1.trans hE.sm⟩
  have h3 : Sat _ (slH 148 1 encP (.slice none 0 0) [] :: _) := slH_nil none h2
  have h4 : Sat _ (slH 160 2 encE (.slice none 0 0) [] :: _) := slH_nil none h3
  have h5 := nd_mk (h4.re [3, 0, 1, 2] (by decide))
  exact tree_mk (h := 0) (t := ([] : List Ent)) (by show List.length [] ≤ 5; simp) (.inl rfl) rfl List.Pairwise.nil rfl (h5.sw)

theorem len_ok {T : Nat} {L : List Ent} (hs : Sat w (tree T L :: F)) : Fn Pg 100 [ptr T 0] w = some (int L.length, w) := by
  obtain ⟨r, h, t, _, _, _, _, hs⟩ := tree_open hs
  have : Ok (Fn Pg 100 [ptr T 0] w) fun v w' => v = int L.length ∧ w' = w := by
    rw [F100]; unfold S100
    refine Ok.rd2 (none_ok hs 0 rfl) (Ok.cf rfl ?_)
    exact Ok.rd (nil_ptr _ _) (Ok.rd (fld57_1 _ _) (Ok.rd (ld_num hs 0 rfl) (Ok.ret ⟨rfl, rfl⟩)))
  obtain ⟨v, w', h1, rfl, rfl⟩ := this
  exact h1

theorem seek_ok {T r h : Nat} {t : BT h} {key : ByteArray} {b : Value} (hw : wf h t) (hsr : Srt (flat h t)) (hs : Sat w (pt T [ptr r 0, b] 154 :: tr h r t :: F)) : Ok (Fn Pg 95 [ptr T 0, .string key] w) (SeekQ h r t (pt T [ptr r 0, b] 154 :: F) key w) := by
  rw [F95]; unfold S95
  refine Ok.rd (nil_ptr _ _) (Ok.rd (fld57_0 _ _) (Ok.rd (ld_root hs 0 rfl) ?_))
  exact seek_loop h r t key _ w _ hw hsr hs.sw rfl rfl rfl

/-- the value at a key. -/
def getL (L : List Ent) (k : ByteArray) : Option V1 := (L.find? fun e => decide (e.1 = k)).map (·.2)
theorem get_none {L : List Ent} {k : ByteArray} (h : ¬ hasL L k) : getL L k = none := by
  have : L.find? (fun e => decide (e.1 = k)) = none := by
    rw [List.find?_eq_none]
    intro e he hk
    exact h ⟨e, he, by simpa using hk⟩
  simp [getL, this]
theorem get_some {L : List Ent} (hs : Srt L) {e : Ent} (he : e ∈ L) : getL L e.1 = some e.2 := by
  obtain ⟨A, B, rfl⟩ := List.append_of_mem he
  have hA := (srt_mid hs).1
  have : (A ++ e :: B).find? (fun x => decide (x.1 = e.1)) = some e := by
    rw [List.find?_append]
    have h0 : A.find? (fun x => decide (x.1 = e.1)) = none := by
      rw [List.find?_eq_none]
      intro x hx hk
      exact kl_ne (hA x hx) (by simpa using hk)
    rw [h0]; simp
  simp [getL, this]

theorem get_ok {T : Nat} {L : List Ent} {key : ByteArray} (hs : Sat w (tree T L :: F)) : Ok (Fn Pg 106 [ptr T 0, .string key] w) fun v w' =>
    v = (match getL L key with | some y => .tuple #[y.1, .bool true] | none => .tuple #[.slice none 0 0, .bool false]) ∧ Sat w' (tree T L :: F) ∧ Sm w w' := by
  obtain ⟨r, h, t, h1, h2, h3, h4, hs⟩ := tree_open hs
  subst h3
  rw [F106]; unfold S106
  refine Ok.rd2 (none_ok hs 0 rfl) (Ok.cf rfl ?_)
  refine Ok.bind (seek_ok h1 h4 hs) ?_
  rintro v w1 ⟨hv, g1, g2⟩
  have hback : Sat w1 (tree T (flat h t) :: F) := tree_mk h1 h2 rfl h4 rfl g1.sw
  rcases hv with ⟨rfl, hv⟩ | ⟨b, o, e, rfl, m1, rfl, m3, m4⟩
  · refine Ok.rd2 (eql_ptr up101) (Ok.ct rfl (Ok.ret ⟨?_, hback, g2⟩))
    rw [get_none hv]
  · refine Ok.rd2 (eql_ptr up101) (Ok.cf rfl ?_)
    refine Ok.rd (nil_ptr _ _) (Ok.rd (fld40_1 _ _) (Ok.rd m3 (Ok.ret ⟨?_, hback, g2⟩)))
    rw [get_some h4 m1]

theorem put_len {L : List Ent} (hs : Srt L) (e : Ent) : (hasL L e.1 → (putL L e).length = L.length) ∧ (¬ hasL L e.1 → (putL L e).length = L.length + 1) := by
  rcases srt_cases hs e.1 with ⟨h, A, x, B, rfl, hx, hA, hB⟩ | ⟨h, A, B, rfl, hA, hB⟩
  · exact ⟨fun _ => by rw [put_set hA hB hx]; simp, fun hh => absurd h hh⟩
  · exact ⟨fun hh => absurd hh h, fun _ => by rw [put_one hA hB]; simp; omega⟩
theorem del_len {L : List Ent} (hs : Srt L) {k : ByteArray} (h : hasL L k) : (delL L k).length + 1 = L.length := by
  rcases srt_cases hs k with ⟨_, A, x, B, rfl, hx, hA, hB⟩ | ⟨h', _⟩
  · rw [del_one hA hB hx]; simp; omega
  · exact absurd h h'

/-! the levels -/

def lvs : (h : Nat) → List (BT h) → List (List Nat)
  | 0, ts => [ts.map fun t => (ents 0 t).length]
  | h + 1, ts => (ts.map fun t => (ents (h + 1) t).length) :: lvs h (ts.flatMap fun t => t.2)

/-- what the page's example needs to know of Put. -/
def PutX (h : Nat) (t : BT h) (x : Ent) (h' : Nat) (t' : BT h') : Prop :=
  (h = 0 → (flat h t).length ≤ 4 → h' = 0) ∧ (h = 0 → (flat h t).length = 5 → (∀ y ∈ flat h t, kl y.1 x.1 = true) → lvs h' [t'] = [[1], [2, 3]])

theorem putX_room {h : Nat} {t t' : BT h} {x : Ent} (h4 : (ents h t).length ≤ 4) : PutX h t x h t' :=
  ⟨fun hh _ => hh, fun hh h5 _ => by subst hh; exact absurd (show (ents 0 t).length = 5 from h5) (by omega)⟩

theorem putX_full {h : Nat} {t ta tb : BT h} {em x : Ent} {t' : BT (h + 1)} (hsr : Srt (flat h t)) (h5 : (ents h t).length = 5) (hf : flat h t = flat h ta ++ em :: flat h tb) (la : (ents h ta).length = 2) (lb : (ents h tb).length = 2) (hX : insX (h + 1) (([em], [ta, tb]) : BT (h + 1)) x t') : PutX h t x (h + 1) t' := by
  refine ⟨fun hh h4 => by subst hh; exact absurd (show (ents 0 t).length ≤ 4 from h4) (by omega), fun hh _ hall => ?_⟩
  subst hh
  obtain ⟨l1, l2, k1, k2, k, k', e1, e2, e3, e4, e5, rfl, e7⟩ := hX (fun k hk => by
    have hk : k ∈ [ta, tb] := hk
    simp at hk
    rcases hk with rfl | rfl
    · exact Nat.le_trans (Nat.le_of_eq la) (by decide)
    · exact Nat.le_trans (Nat.le_of_eq lb) (by decide))
  have e1 : [em] = l1 ++ l2 := e1
  have e2 : [ta, tb] = k1 ++ k :: k2 := e2
  have hem : kl em.1 x.1 = true := hall em (by rw [hf]; simp)
  cases l1 with
  | nil =>
    have e1 : l2 = [em] := by simpa using e1.symm
    have := e5 em (by rw [e1]; rfl)
    rw [kl_asym hem] at this; cases this
  | cons a l1 =>
    have hl1 : l1 = [] ∧ l2 = [] ∧ a = em := by
      have h1 : 1 = (a :: l1).length + l2.length := by rw [← List.length_append, ← e1]; rfl
      rw [List.length_cons] at h1
      have h2 : l1 = [] := List.length_eq_zero_iff.1 (by omega)
      have h3 : l2 = [] := List.length_eq_zero_iff.1 (by omega)
      subst h2; subst h3
      simp at e1
      exact ⟨rfl, rfl, e1.symm⟩
    obtain ⟨rfl, rfl, rfl⟩ := hl1
    cases k1 with
    | nil => simp at e3
    | cons b k1 =>
      have hk1 : k1 = [] := List.length_eq_zero_iff.1 (by simpa using e3)
      subst hk1
      simp at e2
      obtain ⟨rfl, rfl, rfl⟩ := e2
      have hno : ¬ hasL (flat 0 tb) x.1 := by
        rintro ⟨z, hz, hzx⟩
        have := hall z (by rw [hf]; simp [hz])
        rw [hzx, kl_irr] at this; cases this
      have hsb : Srt (flat 0 tb) := by rw [hf] at hsr; exact (srt_cons.1 (srt_app.1 hsr).2.1).2
      have hk' : (ents 0 k').length = 3 := by
        have := (put_len hsb x).2 hno
        rw [← e7] at this
        exact this.trans (by rw [show (flat 0 tb).length = 2 from lb])
      show [[[a].length], [ta, k'].map fun t => (ents 0 t).length] = _
      simp [la, hk']

open Classical in
theorem putT_ok {T r h : Nat} {t : BT h} {key : ByteArray} {y : V1} (h1 : wf h t) (h2 : h = 0 ∨ 1 ≤ (ents h t).length) (h4 : Srt (flat h t)) (hs : Sat w (pt T [ptr r 0, int (flat h t).length] 154 :: tr h r t :: F)) (hb : (flat h t).length ≤ 2 ^ 30) (hbl : bldV Pg 160 [(0, .string key), (1, y.1)] = some (aggE (key, y))) :
    Ok (Fn Pg 64 [ptr T 0, .string key, y.1] w) fun v w' => v = .bool (decide (¬ hasL (flat h t) key)) ∧ Sm w w' ∧ ∃ (r' h' : Nat) (t' : BT h'), wf h' t' ∧ (h' = 0 ∨ 1 ≤ (ents h' t').length) ∧ flat h' t' = putL (flat h t) (key, y) ∧
      Sat w' (pt T [ptr r' 0, int (flat h' t').length] 154 :: tr h' r' t' :: F) ∧ (¬ hasL (flat h t) key → PutX h t (key, y) h' t') := by
  rw [F64]; unfold S64
  refine Ok.rd2 (none_ok hs 0 rfl) (Ok.cf rfl ?_)
  refine Ok.bind (seek_ok h1 h4 hs) ?_
  rintro v w1 ⟨hv, g1, g2⟩
  rcases hv with ⟨rfl, hv⟩ | ⟨b, o, e, rfl, m1, rfl, m3, m4⟩
  · refine Ok.rd2 (neq_ptr up101) (Ok.cf rfl ?_)
    have h1' := g1.sw
    refine Ok.rd (nil_ptr _ _) (Ok.rd (fld57_0 _ _) (Ok.rd (ld_root h1' 0 rfl) ?_))
    refine Ok.rd2 (full_tr h1' 1 rfl) ?_
    have fin : ∀ (w2 : World) (r' h' : Nat) (t' : BT h'), Sm w w2 → Sat w2 (pt T [ptr r' 0, int (flat h t).length] 154 :: tr h' r' t' :: F) → wf h' t' → (h' = 0 ∨ 1 ≤ (ents h' t').length) → flat h' t' = putL (flat h t) (key, y) → PutX h t (key, y) h' t' →
        Ok (rd (nilV (ptr T 0)) fun x57 =>
  rd (fldA Pg 154 x57 1) fun x58 =>
  rd (ldV Pg 3 x58 w2) fun x59 =>
  rd2 (binG false Pg .add 3 (.tmp 0) (.const .nilFunc) x59 (.int .i64 1) w2) fun x60 w61 =>
  rd (nilV (ptr T 0)) fun x62 =>
  rd (fldA Pg 154 x62 1) fun x63 =>
  rd2 (rawU Pg (Instr.storeAt 3 x63 x60) w61) fun x65 w64 =>
  some ((.bool true), w64)) fun v w' => v = .bool (decide (¬ hasL (flat h t) key)) ∧ Sm w w' ∧ ∃ (r' h' : Nat) (t' : BT h'), wf h' t' ∧ (h' = 0 ∨ 1 ≤ (ents h' t').length) ∧ flat h' t' = putL (flat h t) (key, y) ∧
      Sat w' (pt T [ptr r' 0, int (flat h' t').length] 154 :: tr h' r' t' :: F) ∧ (¬ hasL (flat h t) key → PutX h t (key, y) h' t') := by
      intro w2 r' h' t' s2 hs2 k1 k2 k3 k4
      refine Ok.rd (nil_ptr _ _) (Ok.rd (fld57_1 _ _) (Ok.rd (ld_num hs2 0 rfl) (Ok.rd2 (bin_add1 (by omega)) ?_)))
      obtain ⟨w3, n1, n2, n3⟩ := st_num (v := int ((flat h t).length + 1 : Nat)) hs2 0 rfl rfl
      refine Ok.rd (nil_ptr _ _) (Ok.rd (fld57_1 _ _) (Ok.rd2 n1 (Ok.ret ⟨?_, s2.trans n3, r', h', t', k1, k2, k3, ?_, fun _ => k4⟩)))
      · rw [decide_eq_true hv]
      · rw [k3, (put_len h4 (key, y)).2 hv]; exact n2
    refine Ok.ci (fun hfull => ?_) (fun hfull => ?_)
    · have hfull : (ents h t).length = 5 := by simpa using hfull
      refine Ok.rd (nil_ptr _ _) (Ok.rd (fld57_0 _ _) (Ok.rd (ld_root h1' 0 rfl) ?_))
      refine go_bsk h1' fun nb w2 h2' s2 => ?_
      refine Ok.rd (bld100_k _ _ _) ?_
      refine go_box100 rfl rfl h2' fun nr w3 h3' s3 => ?_
      obtain ⟨w4, n1, n2, n3⟩ := st_root (v := ptr nr 0) h3' 2 rfl rfl
      refine Ok.rd (nil_ptr _ _) (Ok.rd (fld57_0 _ _) (Ok.rd2 n1 ?_))
      refine Ok.rd (nil_ptr _ _) (Ok.rd (fld57_0 _ _) (Ok.rd (ld_root n2 2 rfl) ?_))
      have q1 : Sat w4 (slH 148 1 encP (sl nb 0 1 1) [r] :: pt nr [.slice none 0 0, sl nb 0 1 1] 152 :: pt T [ptr nr 0, int (flat h t).length] 154 :: tr h r t :: F) :=
        slH_mk (l := encP r) rfl rfl (by simp) (by simp [encP]) (n2.re [1, 0, 2, 3] (by decide))
      have q2 : Sat w4 (slH 160 2 encE (.slice none 0 0) [] :: _) := slH_nil none q1
      have q3 := nd_mk (q2.re [2, 0, 1, 3, 4] (by decide))
      have q4 : Sat w4 (nd nr [] [r] :: tr h r t :: pt T [ptr nr 0, int (flat h t).length] 154 :: F) := q3.re [0, 2, 1] (by decide)
      refine Ok.bind (split_tr (i := 0) q4 h1 hfull rfl (Nat.le_refl _) (by simp) (by simp)) ?_
      rintro v w5 ⟨⟨b', em, ta, tb, d1, d2, d3, d4, d5, d6⟩, s5⟩
      have d7 : Sat w5 (nd nr [em] ([(r, ta), (b', tb)].map (·.1)) :: (fo h [(r, ta), (b', tb)] ++ (pt T [ptr nr 0, int (flat h t).length] 154 :: F))) := d1
      have d8 := (tr_mk1 d7).sw
      refine Ok.rd (nil_ptr _ _) (Ok.rd (fld57_0 _ _) (Ok.rd (ld_root d8 0 rfl) ?_))
      refine Ok.rd hbl ?_
      have hfl : flat (h + 1) ([em], [(r, ta), (b', tb)].map (·.2)) = flat h t := by
        show il [em] [flat h ta, flat h tb] = _
        rw [d2]; simp [il, rpart]
      refine Ok.bind (insert_ok (h := h + 1) (x := (key, y)) (t := (([em], [(r, ta), (b', tb)].map (·.2)) : BT (h + 1))) ⟨by simp, by simp, fun q hq => by
        simp at hq
        rcases hq with rfl | rfl
        · exact ⟨d3, by omega⟩
        · exact ⟨d4, by omega⟩⟩ (by show List.length [em] ≤ 4; simp) (by rw [hfl]; exact h4) (by rw [hfl]; exact hv) d8.sw) ?_
      rintro v w6 ⟨⟨t', c1, c2, c3, c4, c5⟩, s6⟩
      rw [hfl] at c3
      exact fin w6 nr (h + 1) t' (g2.trans (s2.trans (s3.trans (n3.trans (s5.trans s6))))) c1.sw c2 (.inr (by have : 1 ≤ (ents (h + 1) t').length := c4; exact this)) c3 (putX_full h4 hfull d2 d5 d6 c5)
    · have hfull : (ents h t).length ≤ 4 := by have := wf_ents h1; simp at hfull; omega
      refine Ok.rd (nil_ptr _ _) (Ok.rd (fld57_0 _ _) (Ok.rd (ld_root h1' 0 rfl) ?_))
      refine Ok.rd hbl ?_
      refine Ok.bind (insert_ok (x := (key, y)) h1 hfull h4 hv h1'.sw) ?_
      rintro v w6 ⟨⟨t', c1, c2, c3, c4, c5⟩, s6⟩
      exact fin w6 r h t' (g2.trans s6) c1.sw c2 (h2.imp id fun hh => Nat.le_trans hh c4) c3 (putX_room hfull)
  · refine Ok.rd2 (neq_ptr up101) (Ok.ct rfl ?_)
    obtain ⟨w2, n1, ⟨t', n2, n3, n4, n5⟩, n6⟩ := m4 y
    refine Ok.rd (nil_ptr _ _) (Ok.rd (fld40_1 _ _) (Ok.rd2 n1 (Ok.ret ⟨?_, g2.trans n6, r, h, t', n3, (h2.imp id fun hh => by rw [n5]; exact hh), n4, ?_, fun hn => absurd ⟨e, m1, rfl⟩ hn⟩)))
    · have hh : hasL (flat h t) e.1 := ⟨e, m1, rfl⟩
      rw [decide_eq_false (fun hn => hn hh)]
    · rw [n4, (put_len h4 (e.1, y)).1 ⟨e, m1, rfl⟩]; exact n2.sw

open Classical in
theorem put_ok {T : Nat} {L : List Ent} {key : ByteArray} {y : V1} (hs : Sat w (tree T L :: F)) (hb : L.length ≤ 2 ^ 30) (hbl : bldV Pg 160 [(0, .string key), (1, y.1)] = some (aggE (key, y))) :
    Ok (Fn Pg 64 [ptr T 0, .string key, y.1] w) fun v w' => v = .bool (decide (¬ hasL L key)) ∧ Sat w' (tree T (putL L (key, y)) :: F) ∧ Sm w w' := by
  obtain ⟨r, h, t, h1, h2, h3, h4, hs⟩ := tree_open hs
  subst h3
  refine Ok.mono (putT_ok h1 h2 h4 hs hb hbl) ?_
  rintro v w' ⟨rfl, g1, r', h', t', g2, g3, g4, g5, _⟩
  exact ⟨rfl, tree_mk g2 g3 g4 (put_srt h4 _) (by rw [g4]) g5, g1⟩

open Classical in
theorem delete_ok {T : Nat} {L : List Ent} {key : ByteArray} (hs : Sat w (tree T L :: F)) (hb : L.length ≤ 2 ^ 30) :
    Ok (Fn Pg 76 [ptr T 0, .string key] w) fun v w' => v = .bool (decide (hasL L key)) ∧ Sat w' (tree T (delL L key) :: F) ∧ Sm w w' := by
  obtain ⟨r, h, t, h1, h2, h3, h4, hs⟩ := tree_open hs
  subst h3
  rw [F76]; unfold S76
  refine Ok.rd2 (none_ok hs 0 rfl) ?_
  obtain ⟨v, w1, hv0, hv, g1, g2⟩ := seek_ok (key := key) h1 h4 hs
  refine Ok.f1 rfl (Ok.f1 rfl (Ok.f1 (gr2 hv0) ?_))
  rcases hv with ⟨rfl, hv⟩ | ⟨b, o, e, rfl, m1, rfl, m3, m4⟩
  · refine Ok.f1 (gr2 (eql_ptr up101)) (Ok.rd (pick_f _ _) (Ok.ct rfl (Ok.ret ⟨?_, ?_, g2⟩)))
    · rw [decide_eq_false hv]
    · have hd : delL (flat h t) key = flat h t := by
        rcases srt_cases h4 key with ⟨h', _⟩ | ⟨_, A, B, he, hA, hB⟩
        · exact absurd h' hv
        · rw [he]
          have := del_mid (X := []) hA hB
          simpa [delL, lows, upps] using this
      rw [hd]
      exact tree_mk h1 h2 rfl h4 rfl g1.sw
  · have hh : hasL (flat h t) e.1 := ⟨e, m1, rfl⟩
    have hpos : 1 ≤ (flat h t).length := List.length_pos_of_mem m1
    refine Ok.f1 (gr2 (eql_ptr up101)) (Ok.rd (pick_f _ _) (Ok.cf rfl ?_))
    have h1' := g1.sw
    refine Ok.rd (nil_ptr _ _) (Ok.rd (fld57_0 _ _) (Ok.rd (ld_root h1' 0 rfl) ?_))
    refine Ok.bind (remove_ok h r t e.1 w1 _ h1 h2 h4 hh g1) ?_
    rintro v w2 ⟨⟨t', c1, c2, c3, c4⟩, s2⟩
    have hs2 := c1.sw
    have fin : ∀ (w3 : World) (r' h' : Nat) (t'' : BT h'), Sm w w3 → Sat w3 (pt T [ptr r' 0, int (flat h t).length] 154 :: tr h' r' t'' :: F) → wf h' t'' → (h' = 0 ∨ 1 ≤ (ents h' t'').length) → flat h' t'' = delL (flat h t) e.1 →
        Ok (rd (nilV (ptr T 0)) fun x73 =>
  rd (fldA Pg 154 x73 1) fun x74 =>
  rd (ldV Pg 3 x74 w3) fun x75 =>
  rd2 (binG false Pg .sub 3 (.tmp 0) (.const .nilFunc) x75 (.int .i64 1) w3) fun x76 w77 =>
  rd (nilV (ptr T 0)) fun x78 =>
  rd (fldA Pg 154 x78 1) fun x79 =>
  rd2 (rawU Pg (Instr.storeAt 3 x79 x76) w77) fun x81 w80 =>
  some ((.bool true), w80)) fun v w' => v = .bool (decide (hasL (flat h t) e.1)) ∧ Sat w' (tree T (delL (flat h t) e.1) :: F) ∧ Sm w w' := by
      intro w3 r' h' t'' s3 hs3 k1 k2 k3
      refine Ok.rd (nil_ptr _ _) (Ok.rd (fld57_1 _ _) (Ok.rd (ld_num hs3 0 rfl) (Ok.rd2 (bin_sub1 hpos (by omega)) ?_)))
      obtain ⟨w4, n1, n2, n3⟩ := st_num (v := int ((flat h t).length - 1 : Nat)) hs3 0 rfl rfl
      refine Ok.rd (nil_ptr _ _) (Ok.rd (fld57_1 _ _) (Ok.rd2 n1 (Ok.ret ⟨?_, ?_, s3.trans n3⟩)))
      · rw [decide_eq_true hh]
      · exact tree_mk k1 k2 k3 (del_srt h4 _) (by have := del_len h4 hh; omega) n2
    refine Ok.rd (nil_ptr _ _) (Ok.rd (fld57_0 _ _) (Ok.rd (ld_root hs2 0 rfl) ?_))
    obtain ⟨lv, y1, y2⟩ := tr_len hs2 (k := 1) rfl
    refine Ok.rd (nil_ptr _ _) (Ok.rd (fld100_0 _ _) (Ok.rd y1 (Ok.rd2 (y2 _ _ _ _) (Ok.rd2 bin_eql ?_))))
    by_cases h0 : (ents h t').length = 0
    · rw [show (((ents h t').length : Nat) : Int) == 0 from by rw [h0]; rfl]
      refine Ok.g1 rfl (Ok.g1 (gr (nil_ptr _ _)) (Ok.g1 (gr (fld57_0 _ _)) (Ok.g1 (gr (ld_root hs2 0 rfl)) (Ok.g1 (gr2 (leaf_tr hs2 1 rfl c2)) (Ok.g1 (gr (un_not _)) ?_)))))
      refine Ok.rd (pick_t _ _) ?_
      refine Ok.ci (fun hl => ?_) (fun hl => ?_)
      · cases h with
        | zero => simp at hl
        | succ h =>
          obtain ⟨l', ks'⟩ := t'
          have hl0 : l' = [] := List.length_eq_zero_iff.1 h0
          subst hl0
          obtain ⟨qs, hq, hs3⟩ := tr_open1 c1
          have hq : qs.map (·.2) = ks' := hq
          have hlen : ks'.length = 1 := c2.2.1
          obtain ⟨⟨f, k⟩, rfl⟩ : ∃ q, qs = [q] := by
            have : qs.length = 1 := by rw [← hlen, ← hq, List.length_map]
            exact List.length_eq_one_iff.1 this
          subst hq
          have hkw := wf_kid c2 (k := k) (by simp)
          have hs4 : Sat w2 (nd r [] [f] :: tr h f k :: pt T [ptr r 0, int (flat (h + 1) t).length] 154 :: F) := hs3
          refine Ok.rd (nil_ptr _ _) (Ok.rd (fld57_0 _ _) (Ok.rd (ld_root hs2 0 rfl) ?_))
          refine go_nkid (i := 0) (q := f) hs4 0 rfl rfl fun z a => ?_
          obtain ⟨w3, n1, n2, n3⟩ := st_root (v := ptr f 0) hs4 2 rfl rfl
          refine Ok.rd (nil_ptr _ _) (Ok.rd (fld57_0 _ _) (Ok.rd2 n1 ?_))
          refine fin w3 f h k (g2.trans (s2.trans n3)) (n2.drop.sw) hkw.1 (.inr (by omega)) ?_
          rw [← c3]
          show _ = il [] [flat h k]
          simp [il, rpart]
      · have hl : h = 0 := by simpa using hl
        exact fin w2 r h t' (g2.trans s2) hs2 c2 (.inl hl) c3
    · rw [show ((((ents h t').length : Nat) : Int) == 0) = false from by rw [beq_eq_false_iff_ne]; omega]
      refine Ok.g0 (Ok.g0 (Ok.g0 (Ok.g0 (Ok.g0 (Ok.g0 (Ok.rd (pick_f _ _) (Ok.cf rfl ?_)))))))
      exact fin w2 r h t' (g2.trans s2) hs2 c2 (.inr (by omega)) c3

end Go.Cb

/-
  Gates, and slices, as steps.
-/
set_option linter.unusedVariables false
set_option linter.unusedSimpArgs false
namespace Go.Cb
variable {w : World} {F : List HP} {Q Q' : Value → World → Prop}

theorem f_ok {r : Unit → R} {k : Value → World → R} {x : Bool} {v : Value} {w w' : World} (hx : x = false) (h : r () = some (v, w')) (hk : Ok (k v w') Q) : Ok (Cb.rd2 (gate (.bool x) false r w) k) Q := by
  subst hx; exact Ok.f1 h hk
theorem t_ok {r : Unit → R} {k : Value → World → R} {x : Bool} {v : Value} {w w' : World} (hx : x = true) (h : r () = some (v, w')) (hk : Ok (k v w') Q) : Ok (Cb.rd2 (gate (.bool x) true r w) k) Q := by
  subst hx; exact Ok.g1 h hk
theorem t_no {r : Unit → R} {k : Value → World → R} {x : Bool} {w : World} (hx : x = false) (hk : Ok (k undef w) Q) : Ok (Cb.rd2 (gate (.bool x) true r w) k) Q := by
  subst hx; exact Ok.g0 hk
theorem pk_f {x : Bool} {a b : Value} {κ : Value → R} (hx : x = false) (hk : Ok (κ b) Q) : Ok (rd (pickV (.bool x) a b) κ) Q := by subst hx; exact Ok.rd (pick_f _ _) hk
theorem pk_t {x : Bool} {a b : Value} {κ : Value → R} (hx : x = true) (hk : Ok (κ a) Q) : Ok (rd (pickV (.bool x) a b) κ) Q := by subst hx; exact Ok.rd (pick_t _ _) hk

/-! ### Slices, as steps -/

theorem go_app {t e k : Nat} {α : Type} {enc : α → List Value} (hT : SlT Pg t e k) (hE : En enc k) {v x : Value} {xs ys : List α} {rt : TypeId} {cs : Array Bool} {κ : Value → World → R} (h : Sat w F) (j : Nat) (hj : F[j]? = some (slH e k enc v xs)) (hx : Src w x ys.length k (ys.flatMap enc)) (hb : xs.length + ys.length ≤ 2 ^ 30)
    (hκ : ∀ v w', Sat w' (F.set j (slH e k enc v (xs ++ ys))) → Sm w w' → Ok (κ v w') Q) : Ok (rd2 (lenG false Pg .append #[t, t] rt cs [v, x] w) κ) Q :=
  Ok.bind (sl_append' hT hE (h.foc hj) hx hb) fun v w' hq => hκ v w' (Sat.unf hj hq.1) hq.2
theorem go_bs1 {t e k : Nat} {α : Type} {enc : α → List Value} (hT : SlT Pg t e k) (hE : En enc k) (hk : k ≤ 1000) {x : α} {v : Value} (hv : v.cells.toList = enc x) (h : Sat w F) {κ : Value → World → R} (hκ : ∀ nb w', Sat w' (pt nb (enc x) e :: F) → Src w' (sl nb 0 1 1) [x].length k ([x].flatMap enc) → Sm w w' → Ok (κ (sl nb 0 1 1) w') Q) :
    Ok (rd2 (rawV Pg (Instr.buildSlice t 1 #[(0, v)]) w) κ) Q := by
  obtain ⟨i, z, h1, h2, h3, _⟩ := hT.i
  have hl : v.cells.size = k := by rw [← Array.length_toList, hv, hE.len]
  refine Ok.rd2 (slice1_ok (v := v) hT.u h1 h3 (by rw [hl, h2]) (by rw [h2]; exact hT.k0) (by rw [h2]; exact hk)) ?_
  have hs := h.new (l' := enc x) (T' := e) (Ext.push (fun _ => False) w (.cells v.cells e)) (fun _ _ hf => hf) (by have := At.new w v.cells.toList e; rw [hv] at this; simpa [← hv] using this) (Nat.le_refl _)
  refine hκ _ _ hs ?_ (Ext.push (fun _ => False) w _).sm
  have := src_at (o := 0) (n := 1) (k := k) (c := 1) hs.at (by rw [hE.len]; omega)
  rw [List.drop_zero, Nat.one_mul, List.take_of_length_le (by rw [hE.len]; exact Nat.le_refl _)] at this
  simpa using this
theorem go_bs0 {t e k : Nat} {α : Type} {enc : α → List Value} (hT : SlT Pg t e k) (h : Sat w F) {κ : Value → World → R} (hκ : ∀ v w', Sat w' (slH e k enc v ([] : List α) :: F) → Sm w w' → Ok (κ v w') Q) :
    Ok (rd2 (rawV Pg (Instr.buildSlice t 0 #[]) w) κ) Q := by
  obtain ⟨i, z, h1, h2, h3, _⟩ := hT.i
  refine Ok.rd2 (slice0_ok hT.u h1) ?_
  exact hκ _ _ (slH_nil _ (h.ext (Ext.push (fun _ => False) w (.cells #[] e)) (fun _ _ hf => hf))) (Ext.push (fun _ => False) w _).sm
theorem go_pre {t e k : Nat} {α : Type} {enc : α → List Value} (hT : SlT Pg t e k) (hE : En enc k) {v : Value} {xs : List α} {κ : Value → R} (h : Sat w F) (j : Nat) (hj : F[j]? = some (slH e k enc v xs)) {hi : Nat} (hh : hi ≤ xs.length) (hκ : ∀ v', Src w v' (xs.take hi).length k ((xs.take hi).flatMap enc) → Ok (κ v') Q) :
    Ok (rd (slV Pg t v none (some (int hi)) none) κ) Q := by
  obtain ⟨v', h1, h2⟩ := sl_pre hT hE (h.foc hj) hh
  exact Ok.rd h1 (hκ v' (slH_src h2))
theorem go_suf {t e k : Nat} {α : Type} {enc : α → List Value} (hT : SlT Pg t e k) (hE : En enc k) {v : Value} {xs : List α} {κ : Value → R} (h : Sat w F) (j : Nat) (hj : F[j]? = some (slH e k enc v xs)) {lo : Nat} (hh : lo ≤ xs.length) (hκ : ∀ v', Src w v' (xs.drop lo).length k ((xs.drop lo).flatMap enc) → Ok (κ v') Q) :
    Ok (rd (slV Pg t v (some (int lo)) none none) κ) Q := by
  obtain ⟨v', h1, h2⟩ := sl_suf hT hE (h.foc hj) hh
  exact Ok.rd h1 (hκ v' h2)
theorem one_slH {e k : Nat} {α : Type} {enc : α → List Value} {v : Value} {xs : List α} (h : Sat w F) (j : Nat) (hj : F[j]? = some (slH e k enc v xs)) : one v = true := by
  obtain ⟨a, c, rfl, _⟩ := slH_len (h.foc hj)
  rfl
end Go.Cb
