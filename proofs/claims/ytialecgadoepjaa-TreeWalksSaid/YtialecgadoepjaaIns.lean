/-
  insert.
-/
import Derived.Test.YtialecgadoepjaaIt
set_option linter.unusedVariables false
set_option linter.unusedSimpArgs false
namespace Go.Cb
variable {w : World} {F : List HP} {Q : Value → World → Prop}

theorem ex_at {β : Type} {xs : List β} {i : Nat} (h : i < xs.length) : ∃ a x b, xs = a ++ x :: b ∧ a.length = i :=
  ⟨xs.take i, xs[i], xs.drop (i + 1), by rw [← List.drop_eq_getElem_cons h, List.take_append_drop], by rw [List.length_take]; omega⟩

theorem mid_out {A B C : HP} {X : List HP} (hs : Sat w (A :: B :: (X ++ C :: F))) : Sat w (C :: A :: B :: (X ++ F)) :=
  (hs.perm ((List.perm_middle.cons _).cons _)).rot'

theorem pull_perm {h : Nat} {q1 q2 : List (Nat × BT h)} {q : Nat × BT h} : (fo h (q1 ++ q :: q2) ++ F).Perm (tr h q.1 q.2 :: (fo h (q1 ++ q2) ++ F)) := by
  rw [fo_app, fo_cons, fo_app, List.append_assoc, List.cons_append, List.append_assoc]
  exact List.perm_middle
theorem pull_in {h : Nat} {A N : HP} {q1 q2 : List (Nat × BT h)} {q : Nat × BT h} (hs : Sat w (A :: N :: tr h q.1 q.2 :: (fo h (q1 ++ q2) ++ F))) : Sat w (A :: N :: (fo h (q1 ++ q :: q2) ++ F)) := hs.perm ((pull_perm.symm.cons _).cons _)

theorem put_kid {h n p : Nat} {l : List Ent} {ps : List Nat} {q1 q2 : List (Nat × BT h)} {k : BT h} (hps : ps = (q1 ++ (p, k) :: q2).map (·.1)) (hs : Sat w (tr h p k :: nd n l ps :: (fo h (q1 ++ q2) ++ F))) : Sat w (tr (h + 1) n (l, (q1 ++ (p, k) :: q2).map (·.2)) :: F) := by
  subst hps
  exact tr_mk1 (pull1 (q := (p, k)) |>.2 hs.sw)

def fk (h : Nat) (qs : List (Nat × BT h)) : List (List Ent) := qs.map fun q => flat h q.2
theorem flat_at {h p : Nat} {l1 l2 : List Ent} {q1 q2 : List (Nat × BT h)} {k : BT h} (hl : q1.length = l1.length) : flat (h + 1) (l1 ++ l2, (q1 ++ (p, k) :: q2).map (·.2)) = lpart l1 (fk h q1) ++ flat h k ++ rpart l2 (fk h q2) := by
  show il (l1 ++ l2) (((q1 ++ (p, k) :: q2).map (·.2)).map (flat h)) = _
  have : ((q1 ++ (p, k) :: q2).map (·.2)).map (flat h) = fk h q1 ++ flat h k :: fk h q2 := by simp [fk, Function.comp_def]
  rw [this, il_app _ _ _ (by simpa [fk] using hl)]

/-- the parts beside a kid, as a key stands to them. -/
theorem beside {h p : Nat} {l1 l2 : List Ent} {q1 q2 : List (Nat × BT h)} {k : BT h} {key : ByteArray} (hl : q1.length = l1.length) (hs : Srt (flat (h + 1) (l1 ++ l2, (q1 ++ (p, k) :: q2).map (·.2))))
    (h1 : ∀ e ∈ l1, kl e.1 key = true) (h2 : ∀ e, l2.head? = some e → kl key e.1 = true) : bel (lpart l1 (fk h q1)) key ∧ abv (rpart l2 (fk h q2)) key ∧ Srt (flat h k) := by
  rw [flat_at hl] at hs
  obtain ⟨g1, g2, _⟩ := srt_app.1 hs
  obtain ⟨g3, g4, _⟩ := srt_app.1 g1
  exact ⟨lpart_bel g3 h1, rpart_abv g2 h2, g4⟩

theorem ins_close {h n p : Nat} {l1 l2 : List Ent} {ps : List Nat} {q1 q2 : List (Nat × BT h)} {k k' : BT h} {x : Ent} (hq1 : q1.length = l1.length) (hps : ps = (q1 ++ (p, k') :: q2).map (·.1))
    (hs : Sat w (tr h p k' :: nd n (l1 ++ l2) ps :: (fo h (q1 ++ q2) ++ F))) (hl : (l1 ++ l2).length ≤ 5) (hlen : (q1 ++ (p, k) :: q2).length = (l1 ++ l2).length + 1) (hkids : ∀ q ∈ q1 ++ q2, wf h q.2 ∧ 2 ≤ (ents h q.2).length)
    (hk' : wf h k') (h2k : 2 ≤ (ents h k').length) (hA : bel (lpart l1 (fk h q1)) x.1) (hB : abv (rpart l2 (fk h q2)) x.1) (hf : flat h k' = putL (flat h k) x) :
    ∃ t' : BT (h + 1), Sat w (tr (h + 1) n t' :: F) ∧ wf (h + 1) t' ∧ flat (h + 1) t' = putL (lpart l1 (fk h q1) ++ flat h k ++ rpart l2 (fk h q2)) x ∧ t' = (l1 ++ l2, (q1 ++ (p, k') :: q2).map (·.2)) := by
  refine ⟨(l1 ++ l2, (q1 ++ (p, k') :: q2).map (·.2)), put_kid hps hs, ⟨hl, by simp at hlen ⊢; omega, ?_⟩, ?_, rfl⟩
  · intro q hm
    simp only [List.map_append, List.map_cons, List.mem_append, List.mem_cons, List.mem_map] at hm
    rcases hm with ⟨q, hm, rfl⟩ | rfl | ⟨q, hm, rfl⟩
    · exact hkids q (by simp [hm])
    · exact ⟨hk', h2k⟩
    · exact hkids q (by simp [hm])
  · rw [flat_at hq1, hf, put_mid hA hB]

/-- where no kid is full, one kid takes the entry. -/
def insX : (h : Nat) → BT h → Ent → BT h → Prop
  | 0, _, _, _ => True
  | h + 1, t, x, t' => (∀ k ∈ t.2, (ents h k).length ≤ 4) → ∃ l1 l2 k1 k2 k k', t.1 = l1 ++ l2 ∧ t.2 = k1 ++ k :: k2 ∧ k1.length = l1.length ∧ (∀ e ∈ l1, kl e.1 x.1 = true) ∧ (∀ e, l2.head? = some e → kl x.1 e.1 = true) ∧ t' = (l1 ++ l2, k1 ++ k' :: k2) ∧ flat h k' = putL (flat h k) x

theorem insert_loop : ∀ (h n : Nat) (t : BT h) (eb : Nat) (x : Ent) (e : Env) (w : World) (F : List HP), wf h t → (ents h t).length ≤ 4 → Srt (flat h t) → ¬ hasL (flat h t) x.1 → Sat w (pt eb (encE x) 40 :: tr h n t :: F) →
    e 0 = ptr n 0 → e 3 = ptr eb 0 → e 57 = undef →
    Ok (evalLoop (cx49 (Fn Pg) (Rnd Pg)) (cdA Go.Proofs.Try.f49 [1, 0, 0]) (K49_1 (Fn Pg) (Rnd Pg)) e w) fun v w' => (∃ t' : BT h, Sat w' (tr h n t' :: F) ∧ wf h t' ∧ flat h t' = putL (flat h t) x ∧ (ents h t).length ≤ (ents h t').length ∧ insX h t x t') ∧ Sm w w' := by
  intro h
  induction h with
  | zero =>
    intro n t eb x e w F hw h4 hsr hno hs e0 e3 e57
    have hs : Sat w (pt eb (encE x) 40 :: nd n t [] :: F) := hs
    have h4 : List.length t ≤ 4 := h4
    rw [S49_L1_eq]; unfold S49_L1
    rw [e0, e3, e57]
    refine Ok.rd (fld40_0 _ _) (Ok.rd (ld_key hs 0 rfl) ?_)
    refine Ok.bind (find_ok hs (k := 1) rfl (by omega)) ?_
    rintro v w1 ⟨l1, l2, b, hl, hf, rfl, h1, s1⟩
    refine Ok.rd rfl (Ok.rd rfl ?_)
    refine Ok.rd2 (leaf_eq h1 1 rfl) (Ok.ct rfl ?_)
    obtain ⟨lv, kv, h2⟩ := nd_open (h1.sw)
    refine go_l (ld_l h2.drw 0 rfl) ?_
    refine Ok.rd (ld_ent h2.drw 3 rfl) ?_
    refine go_bsl h2.drw fun nb w3 h3 s3 => ?_
    refine go_insl h3 1 rfl (by rw [hl]; simp) (by omega) fun v4 w4 h4' s4 => ?_
    refine go_stl h4' 0 rfl (slH_one h4' 1 rfl) fun w5 h5 s5 => ?_
    refine ⟨_, _, rfl, ⟨l1 ++ x :: l2, ?_, ?_, ?_, ?_, trivial⟩, s1.trans (s3.drw.trans (s4.trans s5))⟩
    · have h6 := nd_mk h5
      rw [hl, List.take_left, List.drop_left] at h6
      exact (h6.sw).drop
    · rw [hl] at h4
      show List.length (l1 ++ x :: l2) ≤ 5
      simp at h4 ⊢; omega
    · show l1 ++ x :: l2 = putL t x
      have hsr : Srt t := hsr
      have hno : ¬ hasL t x.1 := hno
      rw [hl] at hsr hno ⊢
      rw [put_one hf.1]
      rcases hf.2 with ⟨rfl, _⟩ | ⟨y, r, rfl, hy, _⟩
      · intro z hz; cases hz
      · have hne : y.1 ≠ x.1 := fun hh => hno ⟨y, by simp, hh⟩
        have hgt := kl_gt hy hne
        intro z hz
        rcases List.mem_cons.1 hz with rfl | hz
        · exact hgt
        · exact kl_tr hgt ((srt_mid hsr).2 z hz)
    · rw [hl]; show List.length (l1 ++ l2) ≤ List.length (l1 ++ x :: l2); simp
  | succ h ih =>
    intro n t eb x e w F hw h4 hsr hno hs e0 e3 e57
    obtain ⟨l, ks⟩ := t
    have hl4 : l.length ≤ 4 := h4
    clear h4
    have hkl : ks.length = l.length + 1 := hw.2.1
    obtain ⟨qs, hq, hs⟩ := tr_open1 hs.sw
    have hq : qs.map (·.2) = ks := hq
    have hqs : qs.length = l.length + 1 := by rw [← hkl, ← hq, List.length_map]
    have hs : Sat w (pt eb (encE x) 40 :: nd n l (qs.map (·.1)) :: (fo h qs ++ F)) := (hs.perm ((List.perm_middle.cons _))).sw
    rw [S49_L1_eq]; unfold S49_L1
    rw [e0, e3, e57]
    refine Ok.rd (fld40_0 _ _) (Ok.rd (ld_key hs 0 rfl) ?_)
    refine Ok.bind (find_ok hs (k := 1) rfl (by omega)) ?_
    rintro v w1 ⟨l1, l2, b, rfl, hf, rfl, h1, s1⟩
    refine Ok.rd rfl (Ok.rd rfl ?_)
    refine Ok.rd2 (leaf_eq h1 1 rfl) (Ok.cf (by rw [List.length_map, hqs]; simp) ?_)
    obtain ⟨q1, ⟨p, k⟩, q2, rfl, hq1⟩ := ex_at (xs := qs) (i := l1.length) (by rw [hqs]; simp; omega)
    subst hq
    have hp : ((q1 ++ (p, k) :: q2).map (·.1))[l1.length]? = some p := by
      rw [← hq1]; simp
    have h2 : Sat w1 (pt eb (encE x) 40 :: nd n (l1 ++ l2) ((q1 ++ (p, k) :: q2).map (·.1)) :: tr h p k :: (fo h (q1 ++ q2) ++ F)) := by
      have := pull1 (N := nd n (l1 ++ l2) ((q1 ++ (p, k) :: q2).map (·.1))) |>.1 ((h1.sw).perm (List.perm_middle.symm.cons _) : Sat w1 (_ :: (fo h (q1 ++ (p, k) :: q2) ++ pt eb (encE x) 40 :: F)))
      exact mid_out this
    have hkw := wf_kid hw (k := k) (by simp)
    refine go_nkid h2 1 rfl hp fun z a => ?_
    refine Ok.rd2 (full_tr h2 2 rfl) ?_
    have hhd : ∀ y, l2.head? = some y → kl x.1 y.1 = true := by
      intro y hy
      rcases hf.2 with ⟨rfl, _⟩ | ⟨y', r, rfl, hy', _⟩
      · cases hy
      · simp at hy; subst hy
        refine kl_gt hy' fun hh => hno ?_
        refine ⟨y', ?_, hh⟩
        rw [flat_at hq1]
        refine List.mem_append_right _ ?_
        cases q2 with
        | nil => simp at hqs; omega
        | cons q q2 => simp [fk, rpart]
    obtain ⟨hA, hB, hsk⟩ := beside hq1 hsr hf.1 hhd
    have hflat := flat_at (p := p) (l2 := l2) (q2 := q2) (k := k) hq1
    rw [hflat] at hno hsr ⊢
    have hnok : ¬ hasL (flat h k) x.1 := fun hh => hno ((has_mid hA hB).2 hh)
    refine Ok.ci (fun hfull => ?_) (fun hfull => ?_)
    · have hfull : (ents h k).length = 5 := by simpa using hfull
      refine Ok.bind (split_tr (h2.rot |>.re [0, 1] (by decide)) hkw.1 hfull hp (by simp) (by omega) (by rw [List.length_map, hqs]; omega)) ?_
      rintro v w2 ⟨⟨b', em, ta, tb, g1, gf, gwa, gwb, gla, glb⟩, s2⟩
      rw [List.take_left, List.drop_left] at g1
      have hps : ((q1 ++ (p, k) :: q2).map (·.1)).take (l1.length + 1) ++ b' :: ((q1 ++ (p, k) :: q2).map (·.1)).drop (l1.length + 1) = q1.map (·.1) ++ p :: b' :: q2.map (·.1) := by
        have : (q1 ++ (p, k) :: q2).map (·.1) = (q1.map (·.1) ++ [p]) ++ q2.map (·.1) := by simp
        rw [this, List.take_left' (by simp [hq1]), List.drop_left' (by simp [hq1])]; simp
      rw [hps] at g1
      have hem : (l1 ++ em :: l2)[l1.length]? = some em := by simp
      have g1e : Sat w2 (pt eb (encE x) 40 :: nd n (l1 ++ em :: l2) (q1.map (·.1) ++ p :: b' :: q2.map (·.1)) :: tr h p ta :: tr h b' tb :: (fo h (q1 ++ q2) ++ F)) := by
        have := g1.re [3, 0, 1, 2] (by decide)
        exact this
      have hemx : em.1 ≠ x.1 := fun hh => hnok ⟨em, by rw [gf]; simp, hh⟩
      rw [gf] at hsk
      obtain ⟨sk1, sk2⟩ := srt_mid hsk
      have hkids : ∀ q ∈ q1 ++ q2, wf h q.2 ∧ 2 ≤ (ents h q.2).length := fun q hm => wf_kid hw (by simp at hm ⊢; rcases hm with hm | hm; exact .inl ⟨_, hm⟩; exact .inr (.inr ⟨_, hm⟩))
      refine go_nkey g1e.drw 1 rfl hem fun z1 a1 => ?_
      refine Ok.rd (fld40_0 _ _) (Ok.rd (ld_key g1e.drw 0 rfl) (Ok.rd2 bin_slss ?_))
      refine Ok.ci (fun hlt => ?_) (fun hlt => ?_)
      · refine Ok.rd2 (bin_add1 (by simp at hl4; omega)) ?_
        refine go_nkid (q := b') (i := l1.length + 1) g1e.drw 1 rfl (by rw [← hq1]; simp) fun z' a' => ?_
        refine Ok.mono (ih b' tb eb x _ (drw w2) (nd n (l1 ++ em :: l2) (q1.map (·.1) ++ p :: b' :: q2.map (·.1)) :: tr h p ta :: (fo h (q1 ++ q2) ++ F)) gwb (by omega) (srt_cons.1 (srt_app.1 hsk).2.1).2 (fun hh => hnok (by rw [gf]; obtain ⟨y, hy, hk⟩ := hh; exact ⟨y, by simp [hy], hk⟩)) ?_ rfl ?_ ?_) ?_
        rotate_left
        · exact e3
        · exact e57
        rotate_left
        · exact g1e.re [0, 3, 1, 2] (by decide)
        · rintro v w' ⟨⟨k', m1, m2, m3, m4, _⟩, m5⟩
          have m6 : Sat w' (tr h b' k' :: nd n (l1 ++ em :: l2) (q1.map (·.1) ++ p :: b' :: q2.map (·.1)) :: (fo h (q1 ++ (p, ta) :: q2) ++ F)) := pull_in (q := (p, ta)) m1
          have e1 : l1 ++ em :: l2 = (l1 ++ [em]) ++ l2 := by simp
          have e2 : q1 ++ (p, ta) :: q2 = (q1 ++ [(p, ta)]) ++ q2 := by simp
          rw [e1, e2] at m6
          have e3' : lpart (l1 ++ [em]) (fk h (q1 ++ [(p, ta)])) = lpart l1 (fk h q1) ++ flat h ta ++ [em] := by
            rw [show fk h (q1 ++ [(p, ta)]) = fk h q1 ++ [flat h ta] from by simp [fk], lpart_snoc (by simpa [fk] using hq1)]
          obtain ⟨t', n1, n2, n3, n4⟩ := ins_close (l1 := l1 ++ [em]) (q1 := q1 ++ [(p, ta)]) (p := b') (k := tb) (k' := k') (x := x) (by simp [hq1]) (by simp) m6 (by simp at hl4 ⊢; omega) (by simp at hqs ⊢; omega)
            (fun q hm => by
              simp only [List.append_assoc, List.singleton_append, List.mem_append, List.mem_cons] at hm
              rcases hm with hm | rfl | hm
              · exact hkids q (by simp [hm])
              · exact ⟨gwa, Nat.le_of_eq gla.symm⟩
              · exact hkids q (by simp [hm])) m2 (by omega)
            (by
              rw [e3']
              intro y hy
              simp only [List.mem_append, List.mem_singleton] at hy
              rcases hy with (hy | hy) | rfl
              · exact hA y hy
              · exact kl_tr (sk1 y hy) hlt
              · exact hlt) hB m3
          refine ⟨⟨t', n1, n2, ?_, by rw [show ents (h + 1) t' = t'.1 from rfl, n4]; show List.length (l1 ++ l2) ≤ _; simp, fun hh => absurd (hh k (by simp)) (by omega)⟩, s1.trans (s2.trans m5.drw)⟩
          rw [n3, e3', gf]; congr 1; simp
      · have hgt := kl_gt hlt hemx
        refine go_nkid (q := p) (i := l1.length) g1e.drw 1 rfl (by rw [← hq1]; simp) fun z' a' => ?_
        refine Ok.mono (ih p ta eb x _ (drw w2) (nd n (l1 ++ em :: l2) (q1.map (·.1) ++ p :: b' :: q2.map (·.1)) :: tr h b' tb :: (fo h (q1 ++ q2) ++ F)) gwa (by omega) (srt_app.1 hsk).1 (fun hh => hnok (by rw [gf]; obtain ⟨y, hy, hk⟩ := hh; exact ⟨y, by simp [hy], hk⟩)) ?_ rfl ?_ ?_) ?_
        rotate_left
        · exact e3
        · exact e57
        rotate_left
        · exact g1e.re [0, 2, 1, 3] (by decide)
        · rintro v w' ⟨⟨k', m1, m2, m3, m4, _⟩, m5⟩
          have m6 : Sat w' (tr h p k' :: nd n (l1 ++ em :: l2) (q1.map (·.1) ++ p :: b' :: q2.map (·.1)) :: (fo h (q1 ++ (b', tb) :: q2) ++ F)) := pull_in (q := (b', tb)) m1
          have e3' : rpart (em :: l2) (fk h ((b', tb) :: q2)) = em :: flat h tb ++ rpart l2 (fk h q2) := by
            rw [show fk h ((b', tb) :: q2) = flat h tb :: fk h q2 from rfl, rpart_cons]
          obtain ⟨t', n1, n2, n3, n4⟩ := ins_close (l2 := em :: l2) (q2 := (b', tb) :: q2) (k := ta) (k' := k') (x := x) hq1 (by simp) m6 (by simp at hl4 ⊢; omega) (by simp at hqs ⊢; omega)
            (fun q hm => by
              simp only [List.mem_append, List.mem_cons] at hm
              rcases hm with hm | rfl | hm
              · exact hkids q (by simp [hm])
              · exact ⟨gwb, Nat.le_of_eq glb.symm⟩
              · exact hkids q (by simp [hm])) m2 (by omega) hA
            (by
              rw [e3']
              intro y hy
              simp only [List.cons_append, List.mem_append, List.mem_cons] at hy
              rcases hy with rfl | hy | hy
              · exact hgt
              · exact kl_tr hgt (sk2 y hy)
              · exact hB y hy) m3
          refine ⟨⟨t', n1, n2, ?_, by rw [show ents (h + 1) t' = t'.1 from rfl, n4]; show List.length (l1 ++ l2) ≤ _; simp, fun hh => absurd (hh k (by simp)) (by omega)⟩, s1.trans (s2.trans m5.drw)⟩
          rw [n3, e3', gf]; congr 1; simp
    · have hfull : (ents h k).length ≤ 4 := by have := wf_ents hkw.1; simp at hfull; omega
      refine go_nkid h2 1 rfl hp fun z' a' => ?_
      refine Ok.mono (ih p k eb x _ w1 (nd n (l1 ++ l2) ((q1 ++ (p, k) :: q2).map (·.1)) :: (fo h (q1 ++ q2) ++ F)) hkw.1 hfull hsk hnok ?_ rfl ?_ ?_) ?_
      rotate_left
      · exact e3
      · exact e57
      rotate_left
      · exact (h2.rot').sw
      · rintro v w' ⟨⟨k', g1, g2, g3, g4, _⟩, g5⟩
        obtain ⟨t', m1, m2, m3, m4⟩ := ins_close (k := k) (k' := k') (x := x) hq1 (by simp) g1 (by simp at hl4 ⊢; omega) (by simp at hqs ⊢; omega) (fun q hm => wf_kid hw (by simp at hm ⊢; rcases hm with hm | hm; exact .inl ⟨_, hm⟩; exact .inr (.inr ⟨_, hm⟩))) g2 (by have := hkw.2; omega) hA hB g3
        refine ⟨⟨t', m1, m2, by rw [m3], by rw [show ents (h + 1) t' = t'.1 from rfl, m4]; exact Nat.le_refl _, ?_⟩, s1.trans g5⟩
        intro _
        exact ⟨l1, l2, q1.map (·.2), q2.map (·.2), k, k', rfl, by simp, by simpa using hq1, hf.1, hhd, by rw [m4, List.map_append, List.map_cons], g3⟩


theorem insert_ok {h n : Nat} {t : BT h} {x : Ent} (hw : wf h t) (h4 : (ents h t).length ≤ 4) (hs : Srt (flat h t)) (hno : ¬ hasL (flat h t) x.1) (hsat : Sat w (tr h n t :: F)) :
    Ok (Fn Pg 49 [ptr n 0, aggE x] w) fun v w' => (∃ t' : BT h, Sat w' (tr h n t' :: F) ∧ wf h t' ∧ flat h t' = putL (flat h t) x ∧ (ents h t).length ≤ (ents h t').length ∧ insX h t x t') ∧ Sm w w' := by
  rw [F49]; unfold S49
  refine Ok.rd2 (box_ok (t := 40) (v := aggE x)) ?_
  have hE := Ext.push (fun _ => False) w (.cells (aggE x).cells 40)
  have h1 := hsat.new (l' := encE x) (T' := 40) hE (fun _ _ hf => hf) (At.new w (encE x) 40) (Nat.le_refl _)
  refine Ok.mono (insert_loop h n t _ x _ _ F hw h4 hs hno h1 rfl rfl rfl) ?_
  rintro v w' ⟨g1, g2⟩
  exact ⟨g1, hE.sm.trans g2⟩

end Go.Cb
