/-
  edge; remove.
-/
import Derived.Test.YtialecgadoepjaaRi
set_option linter.unusedVariables false
set_option linter.unusedSimpArgs false
namespace Go.Cb
variable {w : World} {F : List HP} {Q : Value → World → Prop}

theorem st_ent {rb : Nat} {c : List Value} {e : Ent} (hs : Sat w F) (k : Nat) (hk : F[k]? = some (pt rb c 40)) (hc : c.length = 2) : ∃ w', rawU Pg (Instr.storeAt 40 (ptr rb 0) (aggE e)) w = some (undef, w') ∧ Sat w' (F.set k (pt rb (encE e) 40)) ∧ Sm w w' := by
  obtain ⟨i, z, h1, h2, _⟩ := T37.i
  obtain ⟨w', g1, g2, g3⟩ := storeAt_ok (P := Pg) h1 (hs.foc hk).hp (k := 0) rfl (o := 0) (v := aggE e) (by rw [h2]; rfl) (by rw [h2, hc]; decide) (fun x hx => enE.one e x (by simpa [encE, Value.cells] using hx))
  refine ⟨w', g1, Sat.unf hk ((hs.foc hk).put g3 (fun _ _ hd => hd) ?_ (.inl rfl)), g3.sm⟩
  have := g2.get (k := 0) rfl
  have hl : lay c 0 (aggE e).cells.toList = encE e := by
    rw [lay_eq _ _ _ (by rw [hc]; exact Nat.le_refl 2), List.drop_eq_nil_of_le (by rw [hc]; exact Nat.le_refl 2)]
    simp [encE, Value.cells]
  rw [hl] at this
  exact this

def EdgeQ (h p : Nat) (t : BT h) (F : List HP) (w0 : World) (b : Bool) (v : Value) (w' : World) : Prop :=
  ∃ e, v = aggE e ∧ (b = true → ∃ A, flat h t = A ++ [e]) ∧ (b = false → ∃ B, flat h t = e :: B) ∧ Sat w' (tr h p t :: F) ∧ Sm w0 w'

theorem edge_loop : ∀ (h p : Nat) (t : BT h) (rb : Nat) (c : List Value) (b : Bool) (e : Env) (w : World) (F : List HP), wf h t → 1 ≤ (ents h t).length → c.length = 2 → Sat w (pt rb c 40 :: tr h p t :: F) →
    e 0 = ptr p 0 → e 1 = .bool b → e 4 = ptr rb 0 → e 45 = undef →
    Ok (evalLoop (cx86 (Fn Pg) (Rnd Pg)) (cdA Go.Proofs.Try.f86 [1, 0, 0, 0]) (K86_2 (Fn Pg) (Rnd Pg)) e w) (EdgeQ h p t F w b) := by
  intro h
  induction h with
  | zero =>
    intro p t rb c b e w F hw h1 hc hs e0 e1 e4 e45
    have h1 : 1 ≤ List.length t := h1
    have hs : Sat w (pt rb c 40 :: nd p t [] :: F) := hs
    rw [S86_L1_eq]; unfold S86_L1
    rw [e0, e1, e4, e45]
    refine Ok.rd2 (leaf_eq hs 1 rfl) (Ok.rd (un_not _) (Ok.cf rfl ?_))
    cases b with
    | true =>
      obtain ⟨lv, kv, fl, fkv, fi, fe, fn, fm⟩ := nd_facts hs.drw (k := 1) rfl
      refine Ok.ct rfl ?_
      obtain ⟨A, x, rfl⟩ := snoc_of (show 0 < List.length t by omega)
      have hx : (A ++ [x])[A.length]? = some x := by simp
      obtain ⟨b1, o1, y1, y2, _⟩ := fe _ _ hx
      have hA : A.length ≤ 5 := by have : List.length (A ++ [x]) ≤ 5 := hw; simp at this; omega
      have hsub := bin_sub1 (P := Pg) (st := true) (t := 3) (ox := .tmp 0) (oy := .const .nilFunc) (a := (A ++ [x]).length) (w := drw w) (by simp) (by simp; omega)
      rw [show (A ++ [x]).length - 1 = A.length from by simp] at hsub
      refine Ok.rd (nil_ptr _ _) (Ok.rd (fld100_0 _ _) (Ok.rd fl (Ok.rd (nil_ptr _ _) (Ok.rd (fld100_0 _ _) (Ok.rd fl (Ok.rd2 (fn _ _ _ _) (Ok.rd2 hsub (Ok.rd y1 (Ok.rd y2 ?_)))))))))
      obtain ⟨w2, g1, g2, g3⟩ := st_ent (e := x) hs.drw 0 rfl hc
      refine Ok.rd2 g1 ?_
      show Ok (rd (ldV Pg 40 (ptr rb 0) w2) fun x134 => some (x134, w2)) _
      refine Ok.rd (ld_ent g2 0 rfl) ?_
      exact ⟨_, _, rfl, x, rfl, fun _ => ⟨A, rfl⟩, (fun hh => by cases hh), g2.drop, g3.drw⟩
    | false =>
      obtain ⟨lv, kv, fl, fkv, fi, fe, fn, fm⟩ := nd_facts hs (k := 1) rfl
      refine Ok.cf rfl ?_
      obtain ⟨x, B, rfl⟩ : ∃ x B, t = (x :: B : List Ent) := by
        cases t with
        | nil => simp at h1
        | cons x B => exact ⟨x, B, rfl⟩
      obtain ⟨b1, o1, y1, y2, _⟩ := fe 0 x rfl
      refine Ok.rd (nil_ptr _ _) (Ok.rd (fld100_0 _ _) (Ok.rd fl (Ok.rd y1 (Ok.rd y2 ?_))))
      obtain ⟨w2, g1, g2, g3⟩ := st_ent (e := x) hs 0 rfl hc
      refine Ok.rd2 g1 ?_
      show Ok (rd (ldV Pg 40 (ptr rb 0) w2) fun x134 => some (x134, w2)) _
      refine Ok.rd (ld_ent g2 0 rfl) ?_
      exact ⟨_, _, rfl, x, rfl, (fun hh => by cases hh), fun _ => ⟨B, rfl⟩, g2.drop, g3⟩
  | succ h ih =>
    intro p t rb c b e w F hw h1 hc hs e0 e1 e4 e45
    obtain ⟨l, ks⟩ := t
    have hl5 : l.length ≤ 5 := hw.1
    have hkl : ks.length = l.length + 1 := hw.2.1
    obtain ⟨qs, hq, hs0⟩ := tr_open1 hs.sw
    clear hs
    have hq : qs.map (·.2) = ks := hq
    have hqs : qs.length = l.length + 1 := by rw [← hkl, ← hq, List.length_map]
    have hs : Sat w (pt rb c 40 :: nd p l (qs.map (·.1)) :: (fo h qs ++ F)) := (hs0.perm ((List.perm_middle.cons _))).sw
    clear hs0
    subst hq
    rw [S86_L1_eq]; unfold S86_L1
    rw [e0, e1, e4, e45]
    refine Ok.rd2 (leaf_eq hs 1 rfl) (Ok.rd (un_not _) (Ok.ct (by rw [List.length_map, hqs]; simp) ?_))
    have key : ∀ (q1 q2 : List (Nat × BT h)) (f : Nat) (k : BT h), qs = q1 ++ (f, k) :: q2 → ∀ (e' : Env) (w1 : World), Sm w w1 → Sat w1 (pt rb c 40 :: nd p l (qs.map (·.1)) :: (fo h qs ++ F)) → (b = true → q2 = []) → (b = false → q1 = []) → e' 0 = ptr f 0 → e' 1 = .bool b → e' 4 = ptr rb 0 → e' 45 = undef →
        Ok (evalLoop (cx86 (Fn Pg) (Rnd Pg)) (cdA Go.Proofs.Try.f86 [1, 0, 0, 0]) (K86_2 (Fn Pg) (Rnd Pg)) e' w1) (EdgeQ (h + 1) p (l, qs.map (·.2)) F w b) := by
      rintro q1 q2 f k rfl e' w1 s1 hs1 hb1 hb2 e0' e1' e4' e45'
      have hkw : wf h k ∧ 2 ≤ (ents h k).length := wf_kid hw (by simp)
      have hs2 : Sat w1 (pt rb c 40 :: tr h f k :: nd p l ((q1 ++ (f, k) :: q2).map (·.1)) :: (fo h (q1 ++ q2) ++ F)) := by
        have := hs1.perm ((pull_perm.cons _).cons _)
        exact this.re [0, 2, 1] (by decide)
      refine Ok.mono (ih f k rb c b e' w1 (nd p l ((q1 ++ (f, k) :: q2).map (·.1)) :: (fo h (q1 ++ q2) ++ F)) hkw.1 (by omega) hc hs2 e0' e1' e4' e45') ?_
      rintro v w2 ⟨x, hv, ht, hf, g1, g2⟩
      refine ⟨x, hv, fun hb => ?_, fun hb => ?_, put_kid rfl g1, s1.trans g2⟩
      · obtain ⟨A, hA⟩ := ht hb
        have := hb1 hb
        subst this
        have hl : q1.length = l.length := by simp at hqs; omega
        have := flat_at (p := f) (l2 := []) (q2 := []) (k := k) hl
        rw [List.append_nil] at this
        rw [this, hA]
        exact ⟨lpart l (fk h q1) ++ A, by simp [rpart, fk]⟩
      · obtain ⟨B, hB⟩ := hf hb
        have := hb2 hb
        subst this
        have := flat_at (p := f) (l1 := []) (l2 := l) (q1 := []) (q2 := q2) (k := k) rfl
        rw [List.nil_append, List.nil_append] at this
        rw [List.nil_append, this, hB]
        exact ⟨B ++ rpart l (fk h q2), by simp [lpart, fk]⟩
    cases b with
    | true =>
      obtain ⟨lv, kv, fl, fkv, fi, fe, fn, fm⟩ := nd_facts hs.drw (k := 1) rfl
      refine Ok.ct rfl ?_
      obtain ⟨q1, ⟨f, k⟩, hqe⟩ := snoc_of (l := qs) (by omega)
      have hq1 : q1.length = l.length := by rw [hqe] at hqs; simp at hqs; omega
      have hp : (qs.map (·.1))[l.length]? = some f := by rw [hqe, ← hq1]; simp
      obtain ⟨b1, o1, y1, y2⟩ := fi _ _ hp
      refine Ok.rd (nil_ptr _ _) (Ok.rd (fld100_1 _ _) (Ok.rd fkv (Ok.rd (nil_ptr _ _) (Ok.rd (fld100_0 _ _) (Ok.rd fl (Ok.rd2 (fn _ _ _ _) (Ok.rd y1 (Ok.rd y2 ?_))))))))
      exact key q1 [] f k hqe _ _ ⟨rfl, rfl, rfl, fun _ => rfl⟩ hs.drw (fun _ => rfl) (fun hh => by cases hh) rfl e1 e4 e45
    | false =>
      obtain ⟨lv, kv, fl, fkv, fi, fe, fn, fm⟩ := nd_facts hs (k := 1) rfl
      refine Ok.cf rfl ?_
      obtain ⟨⟨f, k⟩, q2, hqe⟩ : ∃ q r, qs = q :: r := by
        cases qs with
        | nil => simp at hqs
        | cons q r => exact ⟨q, r, rfl⟩
      have hp : (qs.map (·.1))[0]? = some f := by rw [hqe]; simp
      obtain ⟨b1, o1, y1, y2⟩ := fi _ _ hp
      refine Ok.rd (nil_ptr _ _) (Ok.rd (fld100_1 _ _) (Ok.rd fkv (Ok.rd y1 (Ok.rd y2 ?_))))
      exact key [] q2 f k hqe _ _ (Sm.refl w) hs (fun hh => by cases hh) (fun _ => rfl) rfl e1 e4 e45

theorem edge_ok {h p : Nat} {t : BT h} {b : Bool} (hw : wf h t) (h1 : 1 ≤ (ents h t).length) (hs : Sat w (tr h p t :: F)) : Ok (Fn Pg 86 [ptr p 0, .bool b] w) (EdgeQ h p t F w b) := by
  rw [F86]; unfold S86
  obtain ⟨i, z, g1, g2, g3, g4, _⟩ := T37.i
  refine Ok.rd2 (alloc_ok g1 g3) ?_
  have s1 := hs.new (l' := z.cells.toList) (T' := 40) (Ext.push (fun _ => False) w (.cells z.cells 40)) (fun _ _ hf => hf) (by have := At.new w z.cells.toList 40; simpa using this) (Nat.le_refl _)
  refine Ok.mono (edge_loop h p t _ _ b _ _ F hw h1 (by rw [Array.length_toList, g4]) s1 rfl rfl rfl rfl) ?_
  rintro v w' ⟨x, a1, a2, a3, a4, a5⟩
  exact ⟨x, a1, a2, a3, a4, (Ext.push (fun _ => False) w _).sm.trans a5⟩

end Go.Cb
