/-
  rich; edge.
-/
import Derived.Test.YtialecgadoepjaaMl
set_option linter.unusedVariables false
set_option linter.unusedSimpArgs false
namespace Go.Cb
variable {w : World} {F : List HP} {Q : Value → World → Prop}

theorem Ok.g1 {r : Unit → R} {k : Value → World → R} {v : Value} {w w' : World} (h : r () = some (v, w')) (hk : Ok (k v w') Q) : Ok (Cb.rd2 (gate (.bool true) true r w) k) Q := by
  show Ok (Cb.rd2 (r ()) k) Q
  rw [h]; exact hk
theorem Ok.g0 {r : Unit → R} {k : Value → World → R} {w : World} (hk : Ok (k undef w) Q) : Ok (Cb.rd2 (gate (.bool false) true r w) k) Q := hk
theorem gr {o : Option Value} {a : Value} {w : World} (h : o = some a) : (rd o fun v => some (v, w)) = some (a, w) := by rw [h]; rfl
theorem gr2 {o : R} {a : Value} {w' : World} (h : o = some (a, w')) : (rd2 o fun v w => some (v, w)) = some (a, w') := by rw [h]; rfl

theorem nd_facts {p k : Nat} {l : List Ent} {ks : List Nat} (hs : Sat w F) (hk : F[k]? = some (nd p l ks)) : ∃ lv kv, ldV Pg 37 (ptr p 0) w = some lv ∧ ldV Pg 98 (ptr p (0 + 1)) w = some kv ∧
    (∀ i q : Nat, ks[i]? = some q → ∃ b o, ixA Pg 98 kv (int i) = some (ptr b o) ∧ ldV Pg 55 (ptr b o) w = some (ptr q 0)) ∧
    (∀ (i : Nat) (e : Ent), l[i]? = some e → ∃ b o, ixA Pg 37 lv (int i) = some (ptr b o) ∧ ldV Pg 40 (ptr b o) w = some (aggE e) ∧ ldV Pg 9 (ptr b o) w = some (.string e.1) ∧ ldV Pg 3 (ptr b (o + 1)) w = some e.2.1) ∧
    (∀ (st : Bool) (rt : TypeId) (cs : Array Bool) (w' : World), lenG st Pg .len #[37] rt cs [lv] w' = some (int l.length, w')) ∧
    (∀ (st : Bool) (rt : TypeId) (cs : Array Bool) (w' : World), lenG st Pg .len #[98] rt cs [kv] w' = some (int ks.length, w')) := by
  obtain ⟨lv, kv, h⟩ := nd_open (hs.foc hk)
  refine ⟨lv, kv, ld_l h 0 rfl, ld_k h 0 rfl, fun i q hi => ix_k h 2 rfl hi, fun i e hi => ix_l h 1 rfl hi, fun st rt cs w' => sl_len T37 (h.foc (k := 1) rfl) w', fun st rt cs w' => sl_len T98 (h.foc (k := 2) rfl) w'⟩
theorem tr_len {h p k : Nat} {t : BT h} (hs : Sat w F) (hk : F[k]? = some (tr h p t)) : ∃ lv, ldV Pg 37 (ptr p 0) w = some lv ∧ ∀ (st : Bool) (rt : TypeId) (cs : Array Bool) (w' : World), lenG st Pg .len #[37] rt cs [lv] w' = some (int (ents h t).length, w') := by
  obtain ⟨qs, _, hs⟩ := tr_open (hs.foc hk)
  obtain ⟨lv, kv, h1, _, _, _, h2, _⟩ := nd_facts hs (k := 0) rfl
  exact ⟨lv, h1, h2⟩

/-- what is there behind rich. -/
def RichQ (h n : Nat) (F : List HP) (w0 : World) (l1 l2 : List Ent) (q1 q2 : List (Nat × BT h)) (k : BT h) (v : Value) (w' : World) : Prop :=
  ∃ (l1' l2' : List Ent) (q1' q2' : List (Nat × BT h)) (p' : Nat) (k' : BT h), v = int l1'.length ∧ q1'.length = l1'.length ∧ q2'.length = l2'.length ∧
    Sat w' (nd n (l1' ++ l2') ((q1' ++ (p', k') :: q2').map (·.1)) :: (fo h (q1' ++ (p', k') :: q2') ++ F)) ∧ (∀ q ∈ q1' ++ q2', wf h q.2 ∧ 2 ≤ (ents h q.2).length) ∧ wf h k' ∧ 3 ≤ (ents h k').length ∧
    (l1 ++ l2).length ≤ (l1' ++ l2').length + 1 ∧ (l1' ++ l2').length ≤ (l1 ++ l2).length ∧
    lpart l1' (fk h q1') ++ flat h k' ++ rpart l2' (fk h q2') = lpart l1 (fk h q1) ++ flat h k ++ rpart l2 (fk h q2) ∧ (∀ y ∈ flat h k, y ∈ flat h k') ∧ Sm w0 w'

theorem er_mid {β : Type} (A B : List β) (x : β) : (A ++ x :: B).eraseIdx A.length = A ++ B := by
  induction A with
  | nil => rfl
  | cons a A ih => simp [ih]
theorem er_mid1 {β : Type} (A B : List β) (x y : β) : (A ++ x :: y :: B).eraseIdx (A.length + 1) = A ++ x :: B := by
  induction A with
  | nil => rfl
  | cons a A ih => simp [ih]

theorem snoc_of {β : Type} {l : List β} (h : 0 < l.length) : ∃ r x, l = r ++ [x] := ⟨l.dropLast, l.getLast (by intro h0; rw [h0] at h; simp at h), (List.dropLast_concat_getLast _).symm⟩

theorem fk_snoc {h p : Nat} {q : List (Nat × BT h)} {k : BT h} : fk h (q ++ [(p, k)]) = fk h q ++ [flat h k] := by simp [fk]
theorem fk_len {h : Nat} {q : List (Nat × BT h)} : (fk h q).length = q.length := by simp [fk]

theorem rich_ok {h n p : Nat} {l1 l2 : List Ent} {q1 q2 : List (Nat × BT h)} {k : BT h} (hs : Sat w (nd n (l1 ++ l2) ((q1 ++ (p, k) :: q2).map (·.1)) :: (fo h (q1 ++ (p, k) :: q2) ++ F))) (e1 : q1.length = l1.length) (e2 : q2.length = l2.length)
    (hk : ∀ q ∈ q1 ++ (p, k) :: q2, wf h q.2 ∧ 2 ≤ (ents h q.2).length) (h5 : (l1 ++ l2).length ≤ 5) (h1 : 1 ≤ (l1 ++ l2).length) :
    Ok (Fn Pg 88 [ptr n 0, int l1.length] w) (RichQ h n F w l1 l2 q1 q2 k) := by
  obtain ⟨lv, kv, fl, fk', fi, fe, fn, fm⟩ := nd_facts hs (k := 0) rfl
  have hlen : (q1 ++ (p, k) :: q2).length = (l1 ++ l2).length + 1 := by simp; omega
  have hpl : ((q1 ++ (p, k) :: q2).map (·.1)).length ≤ 6 := by rw [List.length_map]; omega
  have hp : ((q1 ++ (p, k) :: q2).map (·.1))[l1.length]? = some p := by rw [← e1]; simp
  obtain ⟨b0, o0, x1, x2⟩ := fi _ _ hp
  have hs1 : Sat w (nd n (l1 ++ l2) ((q1 ++ (p, k) :: q2).map (·.1)) :: tr h p k :: (fo h (q1 ++ q2) ++ F)) := pull1 (q := (p, k)) |>.1 hs
  obtain ⟨klv, y1, y2⟩ := tr_len hs1 (k := 1) rfl
  have hwk : wf h k ∧ 2 ≤ (ents h k).length := hk (p, k) (by simp)
  have hl1 : l1.length ≤ 5 := by simp at h5; omega
  rw [F88]; unfold S88
  refine Ok.rd (nil_ptr _ _) (Ok.rd (fld100_1 _ _) (Ok.rd fk' (Ok.rd x1 (Ok.rd x2 ?_))))
  refine Ok.rd (nil_ptr _ _) (Ok.rd (fld100_0 _ _) (Ok.rd y1 (Ok.rd2 (y2 _ _ _ _) (Ok.rd2 bin_gtr ?_))))
  refine Ok.ci (fun hg => ?_) (fun hg => ?_)
  · have hg : 3 ≤ (ents h k).length := by simp at hg; omega
    refine ⟨_, _, rfl, l1, l2, q1, q2, p, k, rfl, e1, e2, hs, fun q hm => hk q (by simp at hm ⊢; rcases hm with hm | hm; exact .inl hm; exact .inr (.inr hm)), hwk.1, hg, by omega, Nat.le_refl _, rfl, fun y hy => hy, Sm.refl w⟩
  have hk2 : (ents h k).length = 2 := by have := hwk.2; simp at hg; omega
  -- the rest, without the left one
  have rest : (l1 = [] ∨ ∃ l1' e q1' f tf, l1 = l1' ++ [e] ∧ q1 = q1' ++ [(f, tf)] ∧ (ents h tf).length = 2) → Ok (rd (nilV (ptr n 0)) fun x62 =>
  rd (fldA Pg 100 x62 0) fun x63 =>
  rd (ldV Pg 37 x63 w) fun x64 =>
  rd2 (lenG false Pg .len #[37] 3 #[false] [x64] w) fun x65 w66 =>
  rd2 (binG false Pg .lss 3 (.tmp 0) (.tmp 0) (int l1.length) x65 w66) fun x67 w68 =>
  rd2 (gate x67 true (fun _ =>  some (ptr n 0, w68)) w68) fun x69 w70 =>
  rd2 (gate x67 true (fun _ => rd (nilV x69) fun x71 => some (x71, w70)) w70) fun x72 w73 =>
  rd2 (gate x67 true (fun _ => rd (fldA Pg 100 x72 1) fun x74 => some (x74, w73)) w73) fun x75 w76 =>
  rd2 (gate x67 true (fun _ => rd (ldV Pg 98 x75 w76) fun x77 => some (x77, w76)) w76) fun x78 w79 =>
  rd2 (gate x67 true (fun _ =>  some (int l1.length, w79)) w79) fun x80 w81 =>
  rd2 (gate x67 true (fun _ => rd2 (binG false Pg .add 3 (.tmp 0) (.const .nilFunc) x80 (.int .i64 1) w81) fun x82 w83 => some (x82, w83)) w81) fun x84 w85 =>
  rd2 (gate x67 true (fun _ => rd (ixA Pg 98 x78 x84) fun x86 => some (x86, w85)) w85) fun x87 w88 =>
  rd2 (gate x67 true (fun _ => rd (ldV Pg 55 x87 w88) fun x89 => some (x89, w88)) w88) fun x90 w91 =>
  rd2 (gate x67 true (fun _ => rd (nilV x90) fun x92 => some (x92, w91)) w91) fun x93 w94 =>
  rd2 (gate x67 true (fun _ => rd (fldA Pg 100 x93 0) fun x95 => some (x95, w94)) w94) fun x96 w97 =>
  rd2 (gate x67 true (fun _ => rd (ldV Pg 37 x96 w97) fun x98 => some (x98, w97)) w97) fun x99 w100 =>
  rd2 (gate x67 true (fun _ => rd2 (lenG false Pg .len #[37] 3 #[false] [x99] w100) fun x101 w102 => some (x101, w102)) w100) fun x103 w104 =>
  rd2 (gate x67 true (fun _ => rd2 (binG false Pg .gtr 3 (.tmp 0) (.const .nilFunc) x103 (.int .i64 2) w104) fun x105 w106 => some (x105, w106)) w104) fun x107 w108 =>
  rd (pickV x67 x107 (.bool false)) fun x109 =>
  cnd x109 (fun _ => rd2 (binG false Pg .add 3 (.tmp 0) (.const .nilFunc) (int l1.length) (.int .i64 1) w108) fun x110 w111 =>
  rd2 (Fn Pg 115 [ptr n 0, int l1.length, x110] w111) fun x112 w113 =>
  some (int l1.length, w113)) (fun _ => rd (nilV (ptr n 0)) fun x114 =>
  rd (fldA Pg 100 x114 0) fun x115 =>
  rd (ldV Pg 37 x115 w108) fun x116 =>
  rd2 (lenG false Pg .len #[37] 3 #[false] [x116] w108) fun x117 w118 =>
  rd2 (binG false Pg .lss 3 (.tmp 0) (.tmp 0) (int l1.length) x117 w118) fun x119 w120 =>
  cnd x119 (fun _ => rd2 (Fn Pg 87 [ptr n 0, int l1.length] w120) fun x121 w122 =>
  some (int l1.length, w122)) (fun _ => rd2 (binG false Pg .sub 3 (.tmp 0) (.const .nilFunc) (int l1.length) (.int .i64 1) w120) fun x123 w124 =>
  rd2 (Fn Pg 87 [ptr n 0, x123] w124) fun x125 w126 =>
  rd2 (binG false Pg .sub 3 (.tmp 0) (.const .nilFunc) (int l1.length) (.int .i64 1) w126) fun x127 w128 =>
  some (x127, w128)))) (RichQ h n F w l1 l2 q1 q2 k) := by
    intro hleft
    refine Ok.rd (nil_ptr _ _) (Ok.rd (fld100_0 _ _) (Ok.rd fl (Ok.rd2 (fn _ _ _ _) (Ok.rd2 bin_lss ?_))))
    cases l2 with
    | nil =>
      rw [show decide (((l1.length : Nat) : Int) < (((l1 ++ ([] : List Ent)).length : Nat) : Int)) = false from by simp]
      refine Ok.g0 (Ok.g0 (Ok.g0 (Ok.g0 (Ok.g0 (Ok.g0 (Ok.g0 (Ok.g0 (Ok.g0 (Ok.g0 (Ok.g0 (Ok.g0 (Ok.g0 ?_))))))))))))
      refine Ok.rd (pick_f _ _) (Ok.cf rfl ?_)
      refine Ok.rd (nil_ptr _ _) (Ok.rd (fld100_0 _ _) (Ok.rd fl (Ok.rd2 (fn _ _ _ _) (Ok.rd2 bin_lss ?_))))
      refine Ok.cf (by simp) ?_
      rcases hleft with rfl | ⟨l1', e, q1', f, tf, rfl, rfl, htf⟩
      · simp at h1
      have hq2 : q2 = [] := by simpa using e2
      subst hq2
      have e1' : q1'.length = l1'.length := by simpa using e1
      have hm : l1'.length + 1 - 1 = l1'.length := by omega
      have hL : (l1' ++ [e]).length ≤ 2 ^ 62 := by omega
      refine Ok.rd2 (bin_sub1 (by simp) hL) ?_
      rw [List.length_append, List.length_singleton, hm]
      have hs2 : Sat w (nd n ((l1' ++ [e]) ++ []) ((q1' ++ [(f, tf)] ++ [(p, k)]).map (·.1)) :: tr h f tf :: tr h p k :: (fo h (q1' ++ []) ++ F)) := by
        refine pull2 (q1 := q1') (q2 := []) (a := (f, tf)) (b := (p, k)) |>.1 ?_
        rw [show q1' ++ [(f, tf), (p, k)] = q1' ++ [(f, tf)] ++ [(p, k)] from by simp]
        exact hs
      have hwf : wf h tf ∧ 2 ≤ (ents h tf).length := hk (f, tf) (by simp)
      refine Ok.bind (merge_tr hs2 (i := l1'.length) (by rw [← e1']; simp) (by rw [← e1']; simp) (e := e) (by simp) hwf.1 hwk.1 (by omega) (by omega) (by omega)) ?_
      rintro v w2 ⟨⟨t', g1, g2, g3, g4⟩, g5⟩
      refine Ok.rd2 (bin_sub1 (by simp) (by simpa using hL)) ?_
      refine ⟨_, _, rfl, l1', [], q1', [], f, t', by simp, e1', rfl, ?_, ?_, g2, by omega, by simp, by simp, ?_, ?_, g5⟩
      · have hl' : ((l1' ++ [e]) ++ ([] : List Ent)).eraseIdx l1'.length = l1' ++ [] := by rw [List.append_nil]; exact er_mid _ _ _
        have hp' : ((q1' ++ [(f, tf)] ++ [(p, k)]).map (·.1)).eraseIdx (l1'.length + 1) = (q1' ++ [(f, t')]).map (·.1) := by
          have := er_mid1 (q1'.map (·.1)) [] f p
          rw [List.length_map, e1'] at this
          simpa using this
        rw [hl', hp'] at g1
        exact pull1 (q1 := q1') (q2 := []) (q := (f, t')) |>.2 g1
      · intro q hm
        exact hk q (by simp at hm; simp [hm])
      · rw [g4, fk_snoc, lpart_snoc (by rw [fk_len]; exact e1')]
        simp
      · intro y hy; rw [g4]; simp [hy]
    | cons e l2' =>
      rw [show decide (((l1.length : Nat) : Int) < (((l1 ++ e :: l2').length : Nat) : Int)) = true from by simp; omega]
      obtain ⟨⟨f, tf⟩, q2', rfl⟩ : ∃ q r, q2 = q :: r := by
        cases q2 with
        | nil => simp at e2
        | cons q r => exact ⟨q, r, rfl⟩
      have e2' : q2'.length = l2'.length := by simpa using e2
      have hpf : ((q1 ++ (p, k) :: (f, tf) :: q2').map (·.1))[l1.length + 1]? = some f := by rw [← e1]; simp
      obtain ⟨b1, o1, z1, z2⟩ := fi _ _ hpf
      have hs2 : Sat w (nd n (l1 ++ e :: l2') ((q1 ++ (p, k) :: (f, tf) :: q2').map (·.1)) :: tr h p k :: tr h f tf :: (fo h (q1 ++ q2') ++ F)) := pull2 (a := (p, k)) (b := (f, tf)) |>.1 hs
      obtain ⟨flv, u1, u2⟩ := tr_len hs2 (k := 2) rfl
      have hwf : wf h tf ∧ 2 ≤ (ents h tf).length := hk (f, tf) (by simp)
      refine Ok.g1 rfl (Ok.g1 (gr (nil_ptr _ _)) (Ok.g1 (gr (fld100_1 _ _)) (Ok.g1 (gr fk') (Ok.g1 rfl (Ok.g1 (gr2 (bin_add1 (by omega))) ?_)))))
      refine Ok.g1 (gr z1) (Ok.g1 (gr z2) (Ok.g1 (gr (nil_ptr _ _)) (Ok.g1 (gr (fld100_0 _ _)) (Ok.g1 (gr u1) (Ok.g1 (gr2 (u2 _ _ _ _)) (Ok.g1 (gr2 bin_gtr) ?_))))))
      refine Ok.rd (pick_t _ _) ?_
      refine Ok.ci (fun hg2 => ?_) (fun hg2 => ?_)
      · have hg2 : 3 ≤ (ents h tf).length := by simp at hg2; omega
        refine Ok.rd2 (bin_add1 (by omega)) ?_
        refine Ok.bind (lendR_tr hs2 rfl hp hpf (e := e) (by simp) hwk.1 hwf.1 hg2 (by omega) (by omega) (by omega)) ?_
        rintro v w2 ⟨⟨g, k', tf', g1, g2, g3, g4, g5, g6, g7⟩, g8⟩
        refine ⟨_, _, rfl, l1, g :: l2', q1, (f, tf') :: q2', p, k', rfl, e1, by simpa using e2', ?_, ?_, g2, by omega, by simp, by simp, ?_, g7, g8⟩
        · have hl' : (l1 ++ e :: l2').set l1.length g = l1 ++ g :: l2' := by simp
          have hp' : (q1 ++ (p, k) :: (f, tf) :: q2').map (·.1) = (q1 ++ (p, k') :: (f, tf') :: q2').map (·.1) := by simp
          rw [hl', hp'] at g1
          exact pull2 (a := (p, k')) (b := (f, tf')) |>.2 g1
        · intro q hm
          simp only [List.mem_append, List.mem_cons] at hm
          rcases hm with hm | rfl | hm
          · exact hk q (by simp [hm])
          · exact ⟨g3, Nat.le_of_succ_le_succ (Nat.le_trans hg2 (Nat.le_of_eq g5.symm))⟩
          · exact hk q (by simp [hm])
        · rw [show fk h ((f, tf') :: q2') = flat h tf' :: fk h q2' from rfl, show fk h ((f, tf) :: q2') = flat h tf :: fk h q2' from rfl, rpart_cons, rpart_cons]
          have := congrArg (fun z => lpart l1 (fk h q1) ++ z ++ rpart l2' (fk h q2')) g6
          simpa [List.append_assoc] using this.symm
      · have hg2 : (ents h tf).length = 2 := by have := hwf.2; simp at hg2; omega
        refine Ok.rd (nil_ptr _ _) (Ok.rd (fld100_0 _ _) (Ok.rd fl (Ok.rd2 (fn _ _ _ _) (Ok.rd2 bin_lss ?_))))
        refine Ok.ct (by simp; omega) ?_
        refine Ok.bind (merge_tr hs2 hp hpf (e := e) (by simp) hwk.1 hwf.1 (by omega) (by omega) (by omega)) ?_
        rintro v w2 ⟨⟨t', g1, g2, g3, g4⟩, g5⟩
        refine ⟨_, _, rfl, l1, l2', q1, q2', p, t', rfl, e1, e2', ?_, ?_, g2, by omega, by simp; omega, by simp, ?_, ?_, g5⟩
        · have hl' : (l1 ++ e :: l2').eraseIdx l1.length = l1 ++ l2' := er_mid _ _ _
          have hp' : ((q1 ++ (p, k) :: (f, tf) :: q2').map (·.1)).eraseIdx (l1.length + 1) = (q1 ++ (p, t') :: q2').map (·.1) := by
            have := er_mid1 (q1.map (·.1)) (q2'.map (·.1)) p f
            rw [List.length_map, e1] at this
            simpa using this
          rw [hl', hp'] at g1
          exact pull1 (q := (p, t')) |>.2 g1
        · intro q hm
          simp only [List.mem_append] at hm
          rcases hm with hm | hm
          · exact hk q (by simp [hm])
          · exact hk q (by simp [hm])
        · rw [g4, show fk h ((f, tf) :: q2') = flat h tf :: fk h q2' from rfl, rpart_cons]
          simp
        · intro y hy; rw [g4]; simp [hy]
  refine Ok.rd2 bin_gtr ?_
  by_cases h0 : l1 = []
  · rw [show decide ((0 : Int) < ((l1.length : Nat) : Int)) = false from by rw [h0]; rfl]
    refine Ok.g0 (Ok.g0 (Ok.g0 (Ok.g0 (Ok.g0 (Ok.g0 (Ok.g0 (Ok.g0 (Ok.g0 (Ok.g0 (Ok.g0 (Ok.g0 (Ok.g0 ?_))))))))))))
    refine Ok.rd (pick_f _ _) (Ok.cf rfl ?_)
    exact rest (.inl h0)
  · have hpos : 0 < l1.length := List.length_pos_iff.2 h0
    rw [show decide ((0 : Int) < ((l1.length : Nat) : Int)) = true from by simp; omega]
    obtain ⟨l1', e, rfl⟩ := snoc_of hpos
    obtain ⟨q1', ⟨f, tf⟩, rfl⟩ := snoc_of (l := q1) (by omega)
    have e1' : q1'.length = l1'.length := by simpa using e1
    have hm : (l1' ++ [e]).length - 1 = l1'.length := by simp
    have hpf : ((q1' ++ [(f, tf)] ++ (p, k) :: q2).map (·.1))[l1'.length]? = some f := by rw [← e1']; simp
    obtain ⟨b1, o1, z1, z2⟩ := fi _ _ hpf
    have hs2 : Sat w (nd n (l1' ++ [e] ++ l2) ((q1' ++ [(f, tf)] ++ (p, k) :: q2).map (·.1)) :: tr h f tf :: tr h p k :: (fo h (q1' ++ q2) ++ F)) := by
      refine pull2 (a := (f, tf)) (b := (p, k)) |>.1 ?_
      rw [show q1' ++ (f, tf) :: (p, k) :: q2 = q1' ++ [(f, tf)] ++ (p, k) :: q2 from by simp]
      exact hs
    obtain ⟨flv, u1, u2⟩ := tr_len hs2 (k := 1) rfl
    have hwf : wf h tf ∧ 2 ≤ (ents h tf).length := hk (f, tf) (by simp)
    have hsub := bin_sub1 (P := Pg) (st := false) (t := 3) (ox := .tmp 0) (oy := .const .nilFunc) (a := (l1' ++ [e]).length) (w := w) (by simp) (by simp; omega)
    rw [hm] at hsub
    refine Ok.g1 rfl (Ok.g1 (gr (nil_ptr _ _)) (Ok.g1 (gr (fld100_1 _ _)) (Ok.g1 (gr fk') (Ok.g1 rfl (Ok.g1 (gr2 hsub) ?_)))))
    refine Ok.g1 (gr z1) (Ok.g1 (gr z2) (Ok.g1 (gr (nil_ptr _ _)) (Ok.g1 (gr (fld100_0 _ _)) (Ok.g1 (gr u1) (Ok.g1 (gr2 (u2 _ _ _ _)) (Ok.g1 (gr2 bin_gtr) ?_))))))
    refine Ok.rd (pick_t _ _) ?_
    refine Ok.ci (fun hg2 => ?_) (fun hg2 => ?_)
    · have hg2 : 3 ≤ (ents h tf).length := by simp at hg2; omega
      refine Ok.rd2 hsub ?_
      have hs3 := hs2.re [0, 2, 1] (by decide)
      refine Ok.bind (lendL_tr (i := (l1' ++ [e]).length) (j := l1'.length) hs3 (by simp) hp hpf (e := e) (by simp) hwk.1 hwf.1 hg2 (by omega) (by omega) (by omega)) ?_
      rintro v w2 ⟨⟨g, k', tf', g1, g2, g3, g4, g5, g6, g7⟩, g8⟩
      refine ⟨_, _, rfl, l1' ++ [g], l2, q1' ++ [(f, tf')], q2, p, k', by simp, by simpa using e1', e2, ?_, ?_, g2, by omega, by simp, by simp, ?_, g7, g8⟩
      · have hl' : (l1' ++ [e] ++ l2).set l1'.length g = l1' ++ [g] ++ l2 := by simp
        have hp' : (q1' ++ [(f, tf)] ++ (p, k) :: q2).map (·.1) = (q1' ++ [(f, tf')] ++ (p, k') :: q2).map (·.1) := by simp
        rw [hl', hp'] at g1
        have := pull2 (q1 := q1') (q2 := q2) (a := (f, tf')) (b := (p, k')) |>.2 (g1.re [0, 2, 1] (by decide))
        rw [show q1' ++ (f, tf') :: (p, k') :: q2 = q1' ++ [(f, tf')] ++ (p, k') :: q2 from by simp] at this
        exact this
      · intro q hm
        simp only [List.mem_append, List.mem_singleton] at hm
        rcases hm with (hm | rfl) | hm
        · exact hk q (by simp [hm])
        · exact ⟨g3, Nat.le_of_succ_le_succ (Nat.le_trans hg2 (Nat.le_of_eq g5.symm))⟩
        · exact hk q (by simp [hm])
      · rw [fk_snoc, fk_snoc, lpart_snoc (by rw [fk_len]; exact e1'), lpart_snoc (by rw [fk_len]; exact e1')]
        have := congrArg (fun z => lpart l1' (fk h q1') ++ z ++ rpart l2 (fk h q2)) g6
        simpa [List.append_assoc] using this.symm
    · have hg2 : (ents h tf).length = 2 := by have := hwf.2; simp at hg2; omega
      exact rest (.inr ⟨l1', e, q1', f, tf, rfl, rfl, hg2⟩)

end Go.Cb
