/-
  remove.
-/
import Derived.Test.YtialecgadoepjaaRm
set_option linter.unusedVariables false
set_option linter.unusedSimpArgs false
namespace Go.Cb
variable {w : World} {F : List HP} {Q : Value → World → Prop}

theorem fits_has {key : ByteArray} {l1 l2 : List Ent} {b : Bool} (hf : Fits key l1 l2 b) (hs : Srt (l1 ++ l2)) : (b = true → ∃ e r, l2 = e :: r ∧ e.1 = key) ∧ (b = false → ¬ hasL (l1 ++ l2) key ∧ ∀ e, l2.head? = some e → kl key e.1 = true) := by
  obtain ⟨h1, h2⟩ := hf
  rcases h2 with ⟨rfl, rfl⟩ | ⟨e, r, rfl, he, hb⟩
  · refine ⟨fun h => (by cases h), fun _ => ⟨?_, fun e he => (by cases he)⟩⟩
    rintro ⟨y, hy, rfl⟩
    rw [List.append_nil] at hy
    exact kl_ne (h1 y hy) rfl
  · refine ⟨fun h => ⟨e, r, rfl, by rw [hb] at h; simpa using h⟩, fun h => ?_⟩
    have hne : e.1 ≠ key := by rw [hb] at h; simpa using h
    have hgt := kl_gt he hne
    refine ⟨?_, fun y hy => by simp at hy; subst hy; exact hgt⟩
    rintro ⟨y, hy, rfl⟩
    rcases List.mem_append.1 hy with hy | hy
    · exact kl_ne (h1 y hy) rfl
    · rcases List.mem_cons.1 hy with rfl | hy
      · exact hne rfl
      · have := kl_tr hgt ((srt_mid hs).2 y hy)
        rw [kl_irr] at this; cases this

theorem srt_in {A X B : List Ent} (hs : Srt (A ++ X ++ B)) {key : ByteArray} (hk : hasL X key) : bel A key ∧ abv B key ∧ Srt X := by
  obtain ⟨g1, g2, g3⟩ := srt_app.1 hs
  obtain ⟨g4, g5, g6⟩ := srt_app.1 g1
  obtain ⟨x, hx, rfl⟩ := hk
  exact ⟨fun a ha => g6 a ha x hx, fun b hb => g3 x (by simp [hx]) b hb, g5⟩

theorem rem_close {h n p : Nat} {l1 l2 : List Ent} {ps : List Nat} {q1 q2 : List (Nat × BT h)} {k k' : BT h} (e1 : q1.length = l1.length) (e2 : q2.length = l2.length) (hps : ps = (q1 ++ (p, k) :: q2).map (·.1))
    (hs : Sat w (tr h p k' :: nd n (l1 ++ l2) ps :: (fo h (q1 ++ q2) ++ F))) (h5 : (l1 ++ l2).length ≤ 5) (hk : ∀ q ∈ q1 ++ q2, wf h q.2 ∧ 2 ≤ (ents h q.2).length) (hk' : wf h k') (hk2 : 2 ≤ (ents h k').length) :
    ∃ t' : BT (h + 1), Sat w (tr (h + 1) n t' :: F) ∧ wf (h + 1) t' ∧ flat (h + 1) t' = lpart l1 (fk h q1) ++ flat h k' ++ rpart l2 (fk h q2) ∧ t'.1 = l1 ++ l2 := by
  refine ⟨(l1 ++ l2, (q1 ++ (p, k') :: q2).map (·.2)), put_kid (by rw [hps]; simp) hs, ⟨h5, by simp; omega, ?_⟩, flat_at e1, rfl⟩
  intro q hm
  simp only [List.map_append, List.map_cons, List.mem_append, List.mem_cons, List.mem_map] at hm
  rcases hm with ⟨q, hm, rfl⟩ | rfl | ⟨q, hm, rfl⟩
  · exact hk q (by simp [hm])
  · exact ⟨hk', hk2⟩
  · exact hk q (by simp [hm])

theorem remove_ok : ∀ (h n : Nat) (t : BT h) (key : ByteArray) (w : World) (F : List HP), wf h t → (h = 0 ∨ 1 ≤ (ents h t).length) → Srt (flat h t) → hasL (flat h t) key → Sat w (tr h n t :: F) →
    Ok (Fn Pg 50 [ptr n 0, .string key] w) fun v w' => (∃ t' : BT h, Sat w' (tr h n t' :: F) ∧ wf h t' ∧ flat h t' = delL (flat h t) key ∧ (ents h t).length ≤ (ents h t').length + 1) ∧ Sm w w' := by
  intro h
  induction h with
  | zero =>
    intro n t key w F hw h1 hsr hk hs
    have hs : Sat w (nd n t [] :: F) := hs
    have hsr : Srt (t : List Ent) := hsr
    have hk : hasL (t : List Ent) key := hk
    have hw : List.length t ≤ 5 := hw
    rw [F50]; unfold S50
    refine Ok.bind (find_ok hs (k := 0) rfl (by omega)) ?_
    rintro v w1 ⟨l1, l2, b, hl, hf, rfl, h2, s1⟩
    have hf2 := fits_has hf (hl ▸ hsr)
    cases b with
    | false => exact absurd (hl ▸ hk) (hf2.2 rfl).1
    | true =>
      obtain ⟨e, r, rfl, rfl⟩ := hf2.1 rfl
      refine Ok.rd rfl (Ok.rd rfl ?_)
      refine Ok.g1 rfl (Ok.g1 (gr2 (leaf_eq h2 0 rfl)) ?_)
      refine Ok.rd (pick_t _ _) (Ok.ct rfl ?_)
      obtain ⟨lv, kv, h3⟩ := nd_open h2
      have hl1 : l1.length ≤ 5 := by have := congrArg List.length hl; simp at this; omega
      refine go_l (ld_l h3 0 rfl) ?_
      refine Ok.rd2 (bin_add1 (by omega)) ?_
      refine go_dell h3 1 rfl (by rw [hl]; simp) (by omega) fun v4 w4 h4 s4 => ?_
      refine go_stl h4 0 rfl (slH_one h4 1 rfl) fun w5 h5 s5 => ?_
      have e1 : List.eraseIdx t l1.length = l1 ++ r := by rw [hl]; exact er_mid _ _ _
      refine ⟨_, _, rfl, ⟨l1 ++ r, ?_, ?_, ?_, ?_⟩, s1.trans (s4.trans s5)⟩
      · have h6 := nd_mk h5
        rw [e1] at h6
        exact h6
      · show List.length (l1 ++ r) ≤ 5
        rw [hl] at hw; simp at hw ⊢; omega
      · show l1 ++ r = delL t e.1
        rw [hl] at hsr ⊢
        obtain ⟨m1, m2⟩ := srt_mid hsr
        rw [del_one m1 m2 rfl]
      · rw [hl]; show List.length (l1 ++ e :: r) ≤ List.length (l1 ++ r) + 1; simp; omega
  | succ h ih =>
    intro n t key w F hw h1 hsr hk hs
    obtain ⟨l, ks⟩ := t
    have hl1x : 1 ≤ l.length := h1.resolve_left (by omega)
    clear h1
    have hl5 : l.length ≤ 5 := hw.1
    have hkl : ks.length = l.length + 1 := hw.2.1
    obtain ⟨qs, hq, hs0⟩ := tr_open1 hs
    clear hs
    have hq : qs.map (·.2) = ks := hq
    have hqs : qs.length = l.length + 1 := by rw [← hkl, ← hq, List.length_map]
    subst hq
    have hkids : ∀ q ∈ qs, wf h q.2 ∧ 2 ≤ (ents h q.2).length := fun q hm => wf_kid hw (List.mem_map_of_mem hm)
    rw [F50]; unfold S50
    have hs0 : Sat w (nd n l (qs.map (·.1)) :: (fo h qs ++ F)) := hs0
    have hl30 : l.length ≤ 2 ^ 30 := by omega
    refine Ok.bind (find_ok hs0 (k := 0) rfl hl30) ?_
    rintro v w1 ⟨l1, l2, b, rfl, hf, rfl, h2, s1⟩
    clear hs0
    refine Ok.rd rfl (Ok.rd rfl ?_)
    have hl1 : l1.length ≤ 5 := by simp at hl5; omega
    obtain ⟨q1, ⟨p, k⟩, q2, rfl, e1⟩ := ex_at (xs := qs) (i := l1.length) (by rw [hqs]; simp; omega)
    have e2 : q2.length = l2.length := by simp at hqs; omega
    have hfl := flat_at (p := p) (l2 := l2) (q2 := q2) (k := k) e1
    have hkw : wf h k ∧ 2 ≤ (ents h k).length := hkids (p, k) (by simp)
    have hkids' : ∀ q ∈ q1 ++ q2, wf h q.2 ∧ 2 ≤ (ents h q.2).length := fun q hm => hkids q (by simp at hm ⊢; rcases hm with hm | hm; exact .inl hm; exact .inr (.inr hm))
    rw [hfl] at hsr hk ⊢
    have hpl : ((q1 ++ (p, k) :: q2).map (·.1)).length ≤ 6 := by rw [List.length_map]; omega
    have hp : ((q1 ++ (p, k) :: q2).map (·.1))[l1.length]? = some p := by rw [← e1]; simp
    cases b with
    | false =>
      refine Ok.g0 (Ok.g0 (Ok.rd (pick_f _ _) (Ok.cf rfl ?_)))
      refine Ok.g0 (Ok.g0 (Ok.g0 (Ok.g0 (Ok.g0 (Ok.g0 (Ok.g0 (Ok.g0 (Ok.g0 (Ok.g0 (Ok.g0 (Ok.g0 (Ok.rd (pick_f _ _) (Ok.cf rfl ?_)))))))))))))
      refine Ok.g0 (Ok.g0 (Ok.g0 (Ok.g0 (Ok.g0 (Ok.g0 (Ok.g0 (Ok.g0 (Ok.g0 (Ok.g0 (Ok.g0 (Ok.g0 (Ok.g0 (Ok.rd (pick_f _ _) (Ok.cf rfl (Ok.cf rfl ?_)))))))))))))))
      refine Ok.bind (rich_ok h2 e1 e2 hkids hl5 hl1x) ?_
      rintro v w2 ⟨l1', l2', q1', q2', p', k', rfl, f1, f2, g1, g2, g3, g4, g5, g6, g7, g8, g9⟩
      have hl1' : l1'.length ≤ 5 := by simp at g6 hl5; omega
      have hp' : ((q1' ++ (p', k') :: q2').map (·.1))[l1'.length]? = some p' := by rw [← f1]; simp
      -- the key is in the kid
      have hkk : hasL (flat h k) key := by
        have hs2 := hsr
        obtain ⟨hA, hB⟩ : bel (lpart l1 (fk h q1)) key ∧ abv (rpart l2 (fk h q2)) key := by
          have hx := hf.2
          obtain ⟨m1, m2, _⟩ := srt_app.1 hsr
          obtain ⟨m3, m4, _⟩ := srt_app.1 m1
          refine ⟨lpart_bel m3 hf.1, rpart_abv m2 ?_⟩
          intro y hy
          rcases hf.2 with ⟨rfl, _⟩ | ⟨y', r, rfl, hy', hb⟩
          · cases hy
          · simp at hy; subst hy
            exact kl_gt hy' (by simpa using hb)
        exact (has_mid hA hB).1 hk
      have hkk' : hasL (flat h k') key := let ⟨y, hy, hyk⟩ := hkk; ⟨y, g8 y hy, hyk⟩
      have hsr' := hsr
      rw [← g7] at hsr'
      obtain ⟨nA, nB, nS⟩ := srt_in hsr' hkk'
      refine go_nkid g1 0 rfl hp' fun z a => ?_
      have g1' := pull1 (q := (p', k')) |>.1 g1
      refine Ok.bind (ih p' k' key w2 _ g3 (.inr (by omega)) nS hkk' g1'.sw) ?_
      rintro v w3 ⟨⟨k2, m1, m2, m3, m4⟩, m5⟩
      obtain ⟨t', t1, t2, t3, t4⟩ := rem_close (k := k') f1 f2 rfl m1 (by omega) g2 m2 (by omega)
      refine ⟨_, _, rfl, ⟨t', t1, t2, ?_, ?_⟩, s1.trans (g9.trans m5)⟩
      · rw [t3, m3, ← g7, del_mid nA nB]
      · show (l1 ++ l2).length ≤ t'.1.length + 1
        rw [t4]; exact g5
    | true =>
      obtain ⟨e, l2', rfl, rfl⟩ : ∃ e r, l2 = e :: r ∧ e.1 = key := by
        rcases hf.2 with ⟨_, hh⟩ | ⟨y', r, rfl, hy', hb⟩
        · cases hh
        · exact ⟨y', r, rfl, by simpa using hb⟩
      obtain ⟨⟨f, tf⟩, q2', rfl⟩ : ∃ q r, q2 = q :: r := by
        cases q2 with
        | nil => simp at e2
        | cons q r => exact ⟨q, r, rfl⟩
      have e2' : q2'.length = l2'.length := by simpa using e2
      have hfw : wf h tf ∧ 2 ≤ (ents h tf).length := hkids (f, tf) (by simp)
      have hpf : ((q1 ++ (p, k) :: (f, tf) :: q2').map (·.1))[l1.length + 1]? = some f := by rw [← e1]; simp
      have hle : (l1 ++ e :: l2')[l1.length]? = some e := by simp
      have h3 : Sat w1 (nd n (l1 ++ e :: l2') ((q1 ++ (p, k) :: (f, tf) :: q2').map (·.1)) :: tr h p k :: tr h f tf :: (fo h (q1 ++ q2') ++ F)) := pull2 (a := (p, k)) (b := (f, tf)) |>.1 h2
      clear h2
      obtain ⟨lv, kv, fl, fkv, fi, fe, fn, fm⟩ := nd_facts h3 (k := 0) rfl
      obtain ⟨b0, o0, x1, x2⟩ := fi _ _ hp
      obtain ⟨b1, o1, z1, z2⟩ := fi _ _ hpf
      obtain ⟨klv, y1, y2⟩ := tr_len h3 (k := 1) rfl
      obtain ⟨flv, u1, u2⟩ := tr_len h3 (k := 2) rfl
      have erp : rpart (e :: l2') (fk h ((f, tf) :: q2')) = e :: flat h tf ++ rpart l2' (fk h q2') := by
        rw [show fk h ((f, tf) :: q2') = flat h tf :: fk h q2' from rfl, rpart_cons]
      rw [erp] at hsr hk ⊢
      have hdel : delL (lpart l1 (fk h q1) ++ flat h k ++ (e :: flat h tf ++ rpart l2' (fk h q2'))) e.1 = lpart l1 (fk h q1) ++ flat h k ++ (flat h tf ++ rpart l2' (fk h q2')) := by
        rw [List.cons_append] at hsr ⊢
        obtain ⟨m1, m2⟩ := srt_mid hsr
        exact del_one m1 m2 rfl
      rw [hdel]
      refine Ok.g1 rfl (Ok.g1 (gr2 (leaf_eq h3 0 rfl)) ?_)
      rw [show decide (((q1 ++ (p, k) :: (f, tf) :: q2').map (·.1)).length = 0) = false from by simp]
      refine Ok.rd (pick_t _ _) (Ok.cf rfl ?_)
      refine Ok.g1 rfl (Ok.g1 (gr (nil_ptr _ _)) (Ok.g1 (gr (fld100_1 _ _)) (Ok.g1 (gr fkv) (Ok.g1 rfl ?_))))
      refine Ok.g1 (gr x1) (Ok.g1 (gr x2) (Ok.g1 (gr (nil_ptr _ _)) (Ok.g1 (gr (fld100_0 _ _)) (Ok.g1 (gr y1) (Ok.g1 (gr2 (y2 _ _ _ _)) (Ok.g1 (gr2 bin_gtr) ?_))))))
      refine Ok.rd (pick_t _ _) ?_
      refine Ok.ci (fun hg => ?_) (fun hg => ?_)
      · have hg : 3 ≤ (ents h k).length := by simp at hg; omega
        obtain ⟨lv, kv, h4⟩ := nd_open h3
        refine Ok.rd (nil_ptr _ _) (Ok.rd (fld100_0 _ _) (Ok.rd (ld_l h4.drw 0 rfl) ?_))
        refine go_k (ld_k h4.drw 0 rfl) (go_kid h4.drw 2 rfl hp ?_)
        refine Ok.bind (edge_ok (b := true) hkw.1 (by omega) (Sat.foc h4.drw (k := 3) rfl)) ?_
        rintro v w2 ⟨e', rfl, ht, _, g1, g2⟩
        obtain ⟨A, hA⟩ := ht rfl
        refine Ok.chk (show ldV Pg 37 (ptr n 0) w2 = some lv from ld_l g1 1 rfl) ?_
        refine go_set (i := l1.length) g1 2 rfl (by simp) fun w3 g3 s3 => ?_
        have hset : (l1 ++ e :: l2').set l1.length e' = l1 ++ e' :: l2' := by simp
        have g4 : Sat w3 (nd n (l1 ++ e' :: l2') ((q1 ++ (p, k) :: (f, tf) :: q2').map (·.1)) :: tr h p k :: tr h f tf :: (fo h (q1 ++ q2') ++ F)) := by
          have := g3.re [1, 2, 3, 0] (by decide)
          rw [← hset]
          exact nd_mk this
        refine go_nkid g4.drw 0 rfl hp fun z a => go_nkey g4.drw 0 rfl (e := e') (by simp) fun z a => ?_
        have hsk : Srt (flat h k) := (srt_app.1 (srt_app.1 hsr).1).2.1
        have hdk : delL (flat h k) e'.1 = A := by
          rw [hA] at hsk ⊢
          have := del_one (B := []) (srt_mid hsk).1 (srt_mid hsk).2 (rfl : e'.1 = e'.1)
          rw [List.append_nil] at this
          exact this
        refine Ok.bind (ih p k e'.1 (drw w3) _ hkw.1 (.inr (by omega)) hsk ⟨e', by rw [hA]; simp, rfl⟩ g4.drw.sw) ?_
        rintro v w4 ⟨⟨k', m1, m2, m3, m4⟩, m5⟩
        obtain ⟨t', t1, t2, t3, t4⟩ := rem_close (k := k) (l2 := e' :: l2') (q2 := (f, tf) :: q2') e1 (by simpa using e2') rfl (pull_in (q := (f, tf)) m1) (by simp at hl5 ⊢; omega) hkids' m2 (by omega)
        refine ⟨_, _, rfl, ⟨t', t1, t2, ?_, ?_⟩, s1.trans (g2.drw.trans (s3.trans m5.drw))⟩
        · rw [t3, m3, hdk, hA, show fk h ((f, tf) :: q2') = flat h tf :: fk h q2' from rfl, rpart_cons]; simp
        · show (l1 ++ e :: l2').length ≤ t'.1.length + 1
          rw [t4]; simp
      · have hk2 : (ents h k).length = 2 := by have := hkw.2; simp at hg; omega
        refine Ok.g1 rfl (Ok.g1 (gr (nil_ptr _ _)) (Ok.g1 (gr (fld100_1 _ _)) (Ok.g1 (gr fkv) (Ok.g1 rfl (Ok.g1 (gr2 (bin_add1 (by omega))) ?_)))))
        refine Ok.g1 (gr z1) (Ok.g1 (gr z2) (Ok.g1 (gr (nil_ptr _ _)) (Ok.g1 (gr (fld100_0 _ _)) (Ok.g1 (gr u1) (Ok.g1 (gr2 (u2 _ _ _ _)) (Ok.g1 (gr2 bin_gtr) ?_))))))
        refine Ok.rd (pick_t _ _) ?_
        refine Ok.ci (fun hg2 => ?_) (fun hg2 => ?_)
        · have hg2 : 3 ≤ (ents h tf).length := by simp at hg2; omega
          obtain ⟨lv, kv, h4⟩ := nd_open h3
          refine Ok.rd (nil_ptr _ _) (Ok.rd (fld100_0 _ _) (Ok.rd (ld_l h4.drw 0 rfl) ?_))
          refine go_k (ld_k h4.drw 0 rfl) ?_
          refine Ok.rd2 (bin_add1 (by omega)) ?_
          refine go_kid h4.drw 2 rfl hpf ?_
          refine Ok.bind (edge_ok (b := false) hfw.1 (by omega) (Sat.foc h4.drw (k := 4) rfl)) ?_
          rintro v w2 ⟨e', rfl, _, ht, g1, g2⟩
          obtain ⟨B, hB⟩ := ht rfl
          refine Ok.chk (show ldV Pg 37 (ptr n 0) w2 = some lv from ld_l g1 1 rfl) ?_
          refine go_set (i := l1.length) g1 2 rfl (by simp) fun w3 g3 s3 => ?_
          have hset : (l1 ++ e :: l2').set l1.length e' = l1 ++ e' :: l2' := by simp
          have g4 : Sat w3 (nd n (l1 ++ e' :: l2') ((q1 ++ (p, k) :: (f, tf) :: q2').map (·.1)) :: tr h f tf :: tr h p k :: (fo h (q1 ++ q2') ++ F)) := by
            have := g3.re [1, 2, 3, 0] (by decide)
            rw [← hset]
            exact nd_mk this
          refine Ok.rd (nil_ptr _ _) (Ok.rd (fld100_1 _ _) ?_)
          obtain ⟨lv2, kv2, fl2, fkv2, fi2, fe2, _, _⟩ := nd_facts g4.drw (k := 0) rfl
          obtain ⟨b3, o3, i1, i2⟩ := fi2 _ _ hpf
          obtain ⟨b4, o4, j1, _, j2, _⟩ := fe2 l1.length e' (by simp)
          refine Ok.rd fkv2 (Ok.rd2 (bin_add1 (by omega)) (Ok.rd i1 (Ok.rd i2 ?_)))
          refine Ok.rd (nil_ptr _ _) (Ok.rd (fld100_0 _ _) (Ok.rd fl2 (Ok.rd j1 (Ok.rd (fld40_0 _ _) (Ok.rd j2 ?_)))))
          have hst : Srt (flat h tf) := by
            have := (srt_app.1 hsr).2.1
            exact (srt_cons.1 (srt_app.1 this).1).2
          have hdk : delL (flat h tf) e'.1 = B := by
            rw [hB] at hst ⊢
            exact del_one (A := []) (by intro y hy; cases hy) (srt_cons.1 hst).1 (rfl : e'.1 = e'.1)
          refine Ok.bind (ih f tf e'.1 (drw w3) _ hfw.1 (.inr (by omega)) hst ⟨e', by rw [hB]; simp, rfl⟩ g4.drw.sw) ?_
          rintro v w4 ⟨⟨k', m1, m2, m3, m4⟩, m5⟩
          have m6 : Sat w4 (tr h f k' :: nd n ((l1 ++ [e']) ++ l2') ((q1 ++ (p, k) :: (f, tf) :: q2').map (·.1)) :: (fo h ((q1 ++ [(p, k)]) ++ q2') ++ F)) := by
            have := pull_in (q := (p, k)) m1
            simpa using this
          obtain ⟨t', t1, t2, t3, t4⟩ := rem_close (k := tf) (l1 := l1 ++ [e']) (q1 := q1 ++ [(p, k)]) (by simp [e1]) e2' (by simp) m6 (by simp at hl5 ⊢; omega) (fun q hm => by
            simp only [List.append_assoc, List.singleton_append, List.mem_append, List.mem_cons] at hm
            rcases hm with hm | rfl | hm
            · exact hkids q (by simp [hm])
            · exact hkw
            · exact hkids q (by simp [hm])) m2 (by omega)
          refine ⟨_, _, rfl, ⟨t', t1, t2, ?_, ?_⟩, s1.trans (g2.drw.trans (s3.trans m5.drw))⟩
          · rw [t3, m3, hdk, hB, fk_snoc, lpart_snoc (by rw [fk_len]; exact e1)]; simp
          · show (l1 ++ e :: l2').length ≤ t'.1.length + 1
            rw [t4]; simp
        · have hg2 : (ents h tf).length = 2 := by have := hfw.2; simp at hg2; omega
          refine Ok.ct rfl ?_
          refine Ok.bind (merge_tr h3 hp hpf hle hkw.1 hfw.1 (by omega) (by omega) (by omega)) ?_
          rintro v w2 ⟨⟨tm, g1, g2, g3, g4⟩, g5⟩
          have hl' : (l1 ++ e :: l2').eraseIdx l1.length = l1 ++ l2' := er_mid _ _ _
          have hp' : ((q1 ++ (p, k) :: (f, tf) :: q2').map (·.1)).eraseIdx (l1.length + 1) = (q1 ++ (p, tm) :: q2').map (·.1) := by
            have := er_mid1 (q1.map (·.1)) (q2'.map (·.1)) p f
            rw [List.length_map, e1] at this
            simpa using this
          rw [hl', hp'] at g1
          refine go_nkid (i := l1.length) (q := p) g1 0 rfl (by rw [← e1]; simp) fun z a => ?_
          have hsm : Srt (flat h tm) := by
            rw [g4]
            have : Srt (lpart l1 (fk h q1) ++ (flat h k ++ e :: flat h tf) ++ rpart l2' (fk h q2')) := by simpa [List.append_assoc] using hsr
            exact (srt_app.1 (srt_app.1 this).1).2.1
          refine Ok.bind (ih p tm e.1 w2 _ g2 (.inr (by omega)) hsm ⟨e, by rw [g4]; simp, rfl⟩ g1.sw) ?_
          rintro v w4 ⟨⟨k', m1, m2, m3, m4⟩, m5⟩
          obtain ⟨t', t1, t2, t3, t4⟩ := rem_close (k := tm) e1 e2' rfl m1 (by simp at hl5 ⊢; omega) (fun q hm => by
            simp only [List.mem_append] at hm
            rcases hm with hm | hm
            · exact hkids q (by simp [hm])
            · exact hkids q (by simp [hm])) m2 (by omega)
          refine ⟨_, _, rfl, ⟨t', t1, t2, ?_, ?_⟩, s1.trans (g5.trans m5)⟩
          · rw [t3, m3, g4]
            rw [g4] at hsm
            rw [del_one (srt_mid hsm).1 (srt_mid hsm).2 rfl]; simp
          · show (l1 ++ e :: l2').length ≤ t'.1.length + 1
            rw [t4]; simp; omega

end Go.Cb
