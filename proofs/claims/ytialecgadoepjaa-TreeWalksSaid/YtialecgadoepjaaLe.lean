/-
  lend and rich.
-/
import Derived.Test.YtialecgadoepjaaSp
set_option linter.unusedVariables false
set_option linter.unusedSimpArgs false
namespace Go.Cb
variable {w : World} {F : List HP} {Q : Value → World → Prop}

theorem go_set {lv : Value} {l : List Ent} {g : Ent} {κ : Value → World → R} {i : Nat} (h : Sat w F) (k : Nat) (hk : F[k]? = some (slH 40 2 encE lv l)) (hi : i < l.length) (hκ : ∀ w', Sat w' (F.set k (slH 40 2 encE lv (l.set i g))) → Sm w w' → Ok (κ undef w') Q) :
    Ok (rd (ixA Pg 37 lv (int i)) fun a => rd2 (rawU Pg (Instr.storeAt 40 a (aggE g)) w) κ) Q := by
  obtain ⟨b, c, h1, _⟩ := sl_ix T37 enE (h.foc hk) hi
  obtain ⟨w', h2, h3, h4⟩ := sl_set T37 enE (h.foc hk) hi (y := g) (u := aggE g) rfl h1
  exact Ok.rd h1 (Ok.rd2 h2 (hκ w' (Sat.unf hk h3) h4))

theorem lendL_ok {n t f i j : Nat} {l lt lf : List Ent} {ks kt kf : List Nat} {e g : Ent} (h : Sat w (nd n l ks :: nd t lt kt :: nd f lf kf :: F)) (hij : i = j + 1) (ht : ks[i]? = some t) (hf : ks[j]? = some f) (he : l[j]? = some e) {m : Nat} (hm : lf.length = m + 1) (hg : lf[m]? = some g)
    (hk : kf = [] ∨ kf.length = m + 2) (b1 : l.length ≤ 100) (b2 : ks.length ≤ 100) (b3 : lt.length ≤ 100) (b4 : lf.length ≤ 100) (b5 : kt.length ≤ 100) :
    Ok (Fn Pg 115 [ptr n 0, int i, int j] w) fun v w' => Sat w' (nd n (l.set j g) ks :: nd t (e :: lt) (kf.drop (m + 1) ++ kt) :: nd f (lf.take m) (kf.take (m + 1)) :: F) ∧ Sm w w' := by
  obtain ⟨lv, kv, tl, tk, fl, fk, h⟩ := nd_open3 h
  have hj : j < l.length := (List.getElem?_eq_some_iff.1 he).1
  rw [F115]; unfold S115
  refine go_k (ld_k h.drw 0 rfl) (go_kid h.drw 2 rfl ht ?_)
  refine go_k (ld_k h.drw 0 rfl) (go_kid h.drw 2 rfl hf ?_)
  refine Ok.rd2 bin_lss (Ok.ct (by simp; omega) ?_)
  refine go_l (ld_l h.drw 6 rfl) (go_lenl h.drw 7 rfl ?_)
  refine Ok.rd2 (bin_sub1 (by omega) (by omega)) ?_
  rw [hm, Nat.add_sub_cancel]
  refine go_l (ld_l h.drw.drw 3 rfl) (go_l (ld_l h.drw.drw 0 rfl) (go_ent h.drw.drw 1 rfl he ?_))
  refine go_bsl h.drw.drw fun nb w1 h1 s1 => ?_
  refine go_insl (i := 0) h1 4 rfl (Nat.zero_le _) (by omega) fun tl1 w2 h2 s2 => ?_
  refine go_stl h2 3 rfl (slH_one h2 4 rfl) fun w3 h3 s3 => ?_
  refine go_l (ld_l h3.drw 0 rfl) (go_l (ld_l h3.drw 6 rfl) (go_ent h3.drw 7 rfl hg ?_))
  refine go_set (i := j) h3.drw 1 rfl hj fun w4 h4 s4 => ?_
  refine go_l (ld_l h4 6 rfl) ?_
  refine go_prel (hi := m) h4 7 rfl (by omega) fun fl1 _ h5 => ?_
  refine go_stl h5 6 rfl (slH_one h5 7 rfl) fun w6 h6 s6 => ?_
  refine go_leaf' h6 6 8 rfl rfl ?_
  refine Ok.rd (un_not _) ?_
  have s06 := s1.drw.drw.trans (s2.trans (s3.trans (s4.drw.trans s6)))
  rcases hk with rfl | hk
  · refine Ok.cf rfl (Ok.ret ⟨?_, s06⟩)
    rw [List.drop_nil, List.take_nil, List.nil_append]
    exact nd_mk3 h6
  · refine Ok.ct (by rw [hk]; rfl) ?_
    obtain ⟨q, hq⟩ : ∃ q, kf[m + 1]? = some q := ⟨_, List.getElem?_eq_getElem (by omega)⟩
    refine go_k (ld_k h6.drw 3 rfl) (go_k (ld_k h6.drw 6 rfl) ?_)
    refine Ok.rd2 (bin_add1 (by omega)) ?_
    refine go_kid h6.drw 8 rfl hq ?_
    refine go_bsk h6.drw fun nb2 w7 h7 s7 => ?_
    refine go_insk (i := 0) h7 5 rfl (Nat.zero_le _) (by omega) fun tk1 w8 h8 s8 => ?_
    refine go_stk h8 3 rfl (slH_one h8 5 rfl) fun w9 h9 s9 => ?_
    refine go_k (ld_k h9 6 rfl) ?_
    refine Ok.rd2 (bin_add1 (by omega)) ?_
    refine go_prek (hi := m + 1) h9 8 rfl (by omega) fun fk1 _ h10 => ?_
    refine go_stk h10 6 rfl (slH_one h10 8 rfl) fun w11 h11 s11 => ?_
    refine Ok.ret ⟨?_, s06.trans (s7.drw.trans (s8.trans (s9.trans s11)))⟩
    have hd : kf.drop (m + 1) = [q] := by
      rw [List.drop_eq_getElem_cons (by omega), List.drop_eq_nil_of_le (by omega)]
      rw [List.getElem?_eq_getElem (by omega)] at hq
      injection hq with hq; rw [hq]
    rw [hd]
    exact nd_mk3 h11

theorem lendR_ok {n t f i j : Nat} {l lt lf : List Ent} {ks kt kf : List Nat} {e g : Ent} (h : Sat w (nd n l ks :: nd t lt kt :: nd f lf kf :: F)) (hij : j = i + 1) (ht : ks[i]? = some t) (hf : ks[j]? = some f) (he : l[i]? = some e) (hg : lf[0]? = some g)
    (b1 : l.length ≤ 100) (b2 : ks.length ≤ 100) (b3 : lt.length ≤ 100) (b4 : lf.length ≤ 100) (b5 : kt.length ≤ 100) (b6 : kf.length ≤ 100) :
    Ok (Fn Pg 115 [ptr n 0, int i, int j] w) fun v w' => Sat w' (nd n (l.set i g) ks :: nd t (lt ++ [e]) (kt ++ kf.take 1) :: nd f (lf.drop 1) (kf.drop 1) :: F) ∧ Sm w w' := by
  obtain ⟨lv, kv, tl, tk, fl, fk, h⟩ := nd_open3 h
  have hi : i < l.length := (List.getElem?_eq_some_iff.1 he).1
  have hf0 : 0 < lf.length := (List.getElem?_eq_some_iff.1 hg).1
  have hde : ∀ {β : Type} (l : List β), l.eraseIdx 0 = l.drop 1 := fun l => by cases l <;> rfl
  rw [F115]; unfold S115
  refine go_k (ld_k h.drw 0 rfl) (go_kid h.drw 2 rfl ht ?_)
  refine go_k (ld_k h.drw 0 rfl) (go_kid h.drw 2 rfl hf ?_)
  refine Ok.rd2 bin_lss (Ok.cf (by simp; omega) ?_)
  refine go_l (ld_l h.drw.drw 3 rfl) (go_l (ld_l h.drw.drw 0 rfl) (go_ent h.drw.drw 1 rfl he ?_))
  refine go_bsl h.drw.drw fun nb w1 h1 s1 => ?_
  refine go_appl (ys := [e]) h1 5 rfl (row1_l h1) (by simp; omega) fun tl1 w2 h2 s2 => ?_
  refine go_stl h2 4 rfl (slH_one h2 5 rfl) fun w3 h3 s3 => ?_
  refine go_l (ld_l h3.drw 1 rfl) (go_l (ld_l h3.drw 7 rfl) (go_ent (i := 0) h3.drw 8 rfl hg ?_))
  refine go_set (i := i) h3.drw 2 rfl hi fun w4 h4 s4 => ?_
  refine go_l (ld_l h4 7 rfl) ?_
  refine go_dell (i := 0) h4 8 rfl hf0 (by omega) fun fl1 w5 h5 s5 => ?_
  refine go_stl h5 7 rfl (slH_one h5 8 rfl) fun w6 h6 s6 => ?_
  refine go_leaf' h6 7 9 rfl rfl ?_
  refine Ok.rd (un_not _) ?_
  have s06 := s1.drw.drw.trans (s2.trans (s3.trans (s4.drw.trans (s5.trans s6))))
  have h6 := h6.drop
  rw [hde] at h6
  cases kf with
  | nil =>
    refine Ok.cf rfl (Ok.ret ⟨?_, s06⟩)
    rw [List.drop_nil, List.take_nil, List.append_nil]
    exact nd_mk3 h6
  | cons q kf =>
    refine Ok.ct rfl ?_
    refine go_k (ld_k h6.drw 3 rfl) (go_k (ld_k h6.drw 6 rfl) ?_)
    refine go_kid (i := 0) h6.drw 8 rfl rfl ?_
    refine go_bsk h6.drw fun nb2 w7 h7 s7 => ?_
    refine go_appk (ys := [q]) h7 6 rfl (row1_k h7) (by simp; omega) fun tk1 w8 h8 s8 => ?_
    refine go_stk h8 4 rfl (slH_one h8 6 rfl) fun w9 h9 s9 => ?_
    refine go_k (ld_k h9 7 rfl) ?_
    refine go_delk (i := 0) h9 9 rfl (by simp) (by omega) fun fk1 w10 h10 s10 => ?_
    refine go_stk h10 7 rfl (slH_one h10 9 rfl) fun w11 h11 s11 => ?_
    refine Ok.ret ⟨?_, s06.trans (s7.drw.trans (s8.trans (s9.trans (s10.trans s11))))⟩
    exact nd_mk3 h11.drop

end Go.Cb
