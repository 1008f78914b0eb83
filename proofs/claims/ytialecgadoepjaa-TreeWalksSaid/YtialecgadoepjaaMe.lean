/-
  What stands in the nodes' functions again and again, as one step; merge, split, lend.
-/
import Derived.Test.YtialecgadoepjaaNd
set_option linter.unusedVariables false
set_option linter.unusedSimpArgs false
namespace Go.Cb
variable {w : World} {F : List HP} {Q : Value → World → Prop}

theorem go_k {p : Nat} {kv : Value} {κ : Value → R} (e : ldV Pg 98 (ptr p (0 + 1)) w = some kv) (hk : Ok (κ kv) Q) : Ok (rd (nilV (ptr p 0)) fun x => rd (fldA Pg 100 x 1) fun y => rd (ldV Pg 98 y w) κ) Q :=
  Ok.rd (nil_ptr _ _) (Ok.rd (fld100_1 _ _) (Ok.rd e hk))
theorem go_l {p : Nat} {lv : Value} {κ : Value → R} (e : ldV Pg 37 (ptr p 0) w = some lv) (hk : Ok (κ lv) Q) : Ok (rd (nilV (ptr p 0)) fun x => rd (fldA Pg 100 x 0) fun y => rd (ldV Pg 37 y w) κ) Q :=
  Ok.rd (nil_ptr _ _) (Ok.rd (fld100_0 _ _) (Ok.rd e hk))
theorem go_kid {kv : Value} {ks : List Nat} {κ : Value → R} (h : Sat w F) (k : Nat) (hk : F[k]? = some (slH 55 1 encP kv ks)) {i q : Nat} (hi : ks[i]? = some q) (hκ : Ok (κ (ptr q 0)) Q) :
    Ok (rd (ixA Pg 98 kv (int i)) fun a => rd (ldV Pg 55 a w) κ) Q := by
  obtain ⟨b, o, h1, h2⟩ := ix_k h k hk hi
  exact Ok.rd h1 (Ok.rd h2 hκ)
theorem go_ent {lv : Value} {l : List Ent} {κ : Value → R} (h : Sat w F) (k : Nat) (hk : F[k]? = some (slH 40 2 encE lv l)) {i : Nat} {e : Ent} (hi : l[i]? = some e) (hκ : Ok (κ (aggE e)) Q) :
    Ok (rd (ixA Pg 37 lv (int i)) fun a => rd (ldV Pg 40 a w) κ) Q := by
  obtain ⟨b, o, h1, h2, _⟩ := ix_l h k hk hi
  exact Ok.rd h1 (Ok.rd h2 hκ)
theorem go_stl {p : Nat} {lv kv v : Value} {κ : Value → World → R} (h : Sat w F) (k : Nat) (hk : F[k]? = some (pt p [lv, kv] 100)) (hv : one v = true) (hκ : ∀ w', Sat w' (F.set k (pt p [v, kv] 100)) → Sm w w' → Ok (κ undef w') Q) :
    Ok (rd (nilV (ptr p 0)) fun x => rd (fldA Pg 100 x 0) fun y => rd2 (rawU Pg (Instr.storeAt 37 y v) w) κ) Q := by
  obtain ⟨w', h1, h2, h3⟩ := st_l h k hk hv
  exact Ok.rd (nil_ptr _ _) (Ok.rd (fld100_0 _ _) (Ok.rd2 h1 (hκ w' h2 h3)))
theorem go_stk {p : Nat} {lv kv v : Value} {κ : Value → World → R} (h : Sat w F) (k : Nat) (hk : F[k]? = some (pt p [lv, kv] 100)) (hv : one v = true) (hκ : ∀ w', Sat w' (F.set k (pt p [lv, v] 100)) → Sm w w' → Ok (κ undef w') Q) :
    Ok (rd (nilV (ptr p 0)) fun x => rd (fldA Pg 100 x 1) fun y => rd2 (rawU Pg (Instr.storeAt 98 y v) w) κ) Q := by
  obtain ⟨w', h1, h2, h3⟩ := st_k h k hk hv
  exact Ok.rd (nil_ptr _ _) (Ok.rd (fld100_1 _ _) (Ok.rd2 h1 (hκ w' h2 h3)))
theorem go_bsl {e : Ent} {κ : Value → World → R} (h : Sat w F) (hκ : ∀ nb w', Sat w' (pt nb (encE e) 40 :: F) → Sm w w' → Ok (κ (sl nb 0 1 1) w') Q) : Ok (rd2 (rawV Pg (Instr.buildSlice 37 1 #[(0, aggE e)]) w) κ) Q := by
  obtain ⟨nb, w', h1, h2, h3, _⟩ := bs_l h e
  exact Ok.rd2 h1 (hκ nb w' h2 h3)
theorem go_bsk {q : Nat} {κ : Value → World → R} (h : Sat w F) (hκ : ∀ nb w', Sat w' (pt nb (encP q) 55 :: F) → Sm w w' → Ok (κ (sl nb 0 1 1) w') Q) : Ok (rd2 (rawV Pg (Instr.buildSlice 98 1 #[(0, ptr q 0)]) w) κ) Q := by
  obtain ⟨nb, w', h1, h2, h3, _⟩ := bs_k h q
  exact Ok.rd2 h1 (hκ nb w' h2 h3)
/-- an append to a part of the list. -/
theorem go_appl {lv x : Value} {xs ys : List Ent} {rt : TypeId} {cs : Array Bool} {κ : Value → World → R} (h : Sat w F) (k : Nat) (hk : F[k]? = some (slH 40 2 encE lv xs)) (hx : Src w x ys.length 2 (ys.flatMap encE)) (hb : xs.length + ys.length ≤ 2 ^ 30)
    (hκ : ∀ v w', Sat w' (F.set k (slH 40 2 encE v (xs ++ ys))) → Sm w w' → Ok (κ v w') Q) : Ok (rd2 (lenG false Pg .append #[37, 37] rt cs [lv, x] w) κ) Q :=
  Ok.bind (sl_append' T37 enE (h.foc hk) hx hb) fun v w' hq => hκ v w' (Sat.unf hk hq.1) hq.2
theorem go_appk {kv x : Value} {xs ys : List Nat} {rt : TypeId} {cs : Array Bool} {κ : Value → World → R} (h : Sat w F) (k : Nat) (hk : F[k]? = some (slH 55 1 encP kv xs)) (hx : Src w x ys.length 1 (ys.flatMap encP)) (hb : xs.length + ys.length ≤ 2 ^ 30)
    (hκ : ∀ v w', Sat w' (F.set k (slH 55 1 encP v (xs ++ ys))) → Sm w w' → Ok (κ v w') Q) : Ok (rd2 (lenG false Pg .append #[98, 98] rt cs [kv, x] w) κ) Q :=
  Ok.bind (sl_append' T98 enP (h.foc hk) hx hb) fun v w' hq => hκ v w' (Sat.unf hk hq.1) hq.2
theorem go_dell {lv : Value} {xs : List Ent} {κ : Value → World → R} {i : Nat} (h : Sat w F) (k : Nat) (hk : F[k]? = some (slH 40 2 encE lv xs)) (hi : i < xs.length) (hb : xs.length ≤ 2 ^ 30)
    (hκ : ∀ v w', Sat w' (F.set k (slH 40 2 encE v (xs.eraseIdx i))) → Sm w w' → Ok (κ v w') Q) : Ok (rd2 (Fn Pg 85 [lv, int i, int (i + 1 : Nat)] w) κ) Q :=
  Ok.bind (delete85 (h.foc hk) hi hb) fun v w' hq => hκ v w' (Sat.unf hk hq.1) hq.2
theorem go_delk {kv : Value} {xs : List Nat} {κ : Value → World → R} {i : Nat} (h : Sat w F) (k : Nat) (hk : F[k]? = some (slH 55 1 encP kv xs)) (hi : i < xs.length) (hb : xs.length ≤ 2 ^ 30)
    (hκ : ∀ v w', Sat w' (F.set k (slH 55 1 encP v (xs.eraseIdx i))) → Sm w w' → Ok (κ v w') Q) : Ok (rd2 (Fn Pg 114 [kv, int i, int (i + 1 : Nat)] w) κ) Q :=
  Ok.bind (delete114 (h.foc hk) hi hb) fun v w' hq => hκ v w' (Sat.unf hk hq.1) hq.2
theorem go_insl {lv : Value} {nb : Nat} {xs : List Ent} {e : Ent} {κ : Value → World → R} {i : Nat} (h : Sat w (pt nb (encE e) 40 :: F)) (k : Nat) (hk : F[k]? = some (slH 40 2 encE lv xs)) (hi : i ≤ xs.length) (hb : xs.length + 1 ≤ 2 ^ 30)
    (hκ : ∀ v w', Sat w' (F.set k (slH 40 2 encE v (xs.take i ++ e :: xs.drop i))) → Sm w w' → Ok (κ v w') Q) : Ok (rd2 (Fn Pg 83 [lv, int i, sl nb 0 1 1] w) κ) Q := by
  have h' : Sat w (slH 40 2 encE lv xs :: pt nb (encE e) 40 :: F.eraseIdx k) := Sat.foc (F := pt nb (encE e) 40 :: F) h (k := k + 1) hk
  exact Ok.bind (insert83 h' hi hb) fun v w' hq => hκ v w' (Sat.unf hk hq.1) hq.2
theorem go_insk {kv : Value} {nb q : Nat} {xs : List Nat} {κ : Value → World → R} {i : Nat} (h : Sat w (pt nb (encP q) 55 :: F)) (k : Nat) (hk : F[k]? = some (slH 55 1 encP kv xs)) (hi : i ≤ xs.length) (hb : xs.length + 1 ≤ 2 ^ 30)
    (hκ : ∀ v w', Sat w' (F.set k (slH 55 1 encP v (xs.take i ++ q :: xs.drop i))) → Sm w w' → Ok (κ v w') Q) : Ok (rd2 (Fn Pg 84 [kv, int i, sl nb 0 1 1] w) κ) Q := by
  have h' : Sat w (slH 55 1 encP kv xs :: pt nb (encP q) 55 :: F.eraseIdx k) := Sat.foc (F := pt nb (encP q) 55 :: F) h (k := k + 1) hk
  exact Ok.bind (insert84 h' hi hb) fun v w' hq => hκ v w' (Sat.unf hk hq.1) hq.2

theorem nd_open3 {n a b : Nat} {l la lb : List Ent} {ks ka kb : List Nat} (h : Sat w (nd n l ks :: nd a la ka :: nd b lb kb :: F)) :
    ∃ lv kv al ak bl bk, Sat w (pt n [lv, kv] 100 :: slH 40 2 encE lv l :: slH 55 1 encP kv ks :: pt a [al, ak] 100 :: slH 40 2 encE al la :: slH 55 1 encP ak ka :: pt b [bl, bk] 100 :: slH 40 2 encE bl lb :: slH 55 1 encP bk kb :: F) := by
  obtain ⟨bl, bk, h⟩ := nd_open (h.re [2, 0, 1] (by decide))
  obtain ⟨al, ak, h⟩ := nd_open (h.re [4, 0, 1, 2, 3] (by decide))
  obtain ⟨lv, kv, h⟩ := nd_open (h.re [6, 0, 1, 2, 3, 4, 5] (by decide))
  exact ⟨lv, kv, al, ak, bl, bk, h⟩
theorem nd_open2 {n a : Nat} {l la : List Ent} {ks ka : List Nat} (h : Sat w (nd n l ks :: nd a la ka :: F)) :
    ∃ lv kv al ak, Sat w (pt n [lv, kv] 100 :: slH 40 2 encE lv l :: slH 55 1 encP kv ks :: pt a [al, ak] 100 :: slH 40 2 encE al la :: slH 55 1 encP ak ka :: F) := by
  obtain ⟨al, ak, h⟩ := nd_open (h.re [1, 0] (by decide))
  obtain ⟨lv, kv, h⟩ := nd_open (h.re [3, 0, 1, 2] (by decide))
  exact ⟨lv, kv, al, ak, h⟩
theorem nd_mk2 {n a : Nat} {l la : List Ent} {ks ka : List Nat} {lv kv al ak : Value} (h : Sat w (pt n [lv, kv] 100 :: slH 40 2 encE lv l :: slH 55 1 encP kv ks :: pt a [al, ak] 100 :: slH 40 2 encE al la :: slH 55 1 encP ak ka :: F)) :
    Sat w (nd n l ks :: nd a la ka :: F) := by
  have h1 := (nd_mk h).re [1, 2, 3, 0] (by decide)
  exact (nd_mk h1).re [1, 0] (by decide)
theorem nd_mk3 {n a b : Nat} {l la lb : List Ent} {ks ka kb : List Nat} {lv kv al ak bl bk : Value} (h : Sat w (pt n [lv, kv] 100 :: slH 40 2 encE lv l :: slH 55 1 encP kv ks :: pt a [al, ak] 100 :: slH 40 2 encE al la :: slH 55 1 encP ak ka :: pt b [bl, bk] 100 :: slH 40 2 encE bl lb :: slH 55 1 encP bk kb :: F)) :
    Sat w (nd n l ks :: nd a la ka :: nd b lb kb :: F) := by
  have h1 := (nd_mk2 h).re [2, 3, 4, 0, 1] (by decide)
  exact (nd_mk h1).re [1, 2, 0] (by decide)

/-- merge. -/
theorem merge_ok {n a b i : Nat} {l la lb : List Ent} {ks ka kb : List Nat} {e : Ent} (h : Sat w (nd n l ks :: nd a la ka :: nd b lb kb :: F)) (ha : ks[i]? = some a) (hb : ks[i + 1]? = some b) (he : l[i]? = some e)
    (b1 : l.length ≤ 100) (b2 : ks.length ≤ 100) (b3 : la.length ≤ 100) (b4 : lb.length ≤ 100) (b5 : ka.length ≤ 100) (b6 : kb.length ≤ 100) :
    Ok (Fn Pg 87 [ptr n 0, int i] w) fun v w' => Sat w' (nd n (l.eraseIdx i) (ks.eraseIdx (i + 1)) :: nd a (la ++ e :: lb) (ka ++ kb) :: F) ∧ Sm w w' := by
  obtain ⟨lv, kv, al, ak, bl, bk, h⟩ := nd_open3 h
  have hi : i < l.length := (List.getElem?_eq_some_iff.1 he).1
  have hi2 : i + 1 < ks.length := (List.getElem?_eq_some_iff.1 hb).1
  rw [F87]; unfold S87
  refine go_k (ld_k h.drw 0 rfl) (go_kid h.drw 2 rfl ha ?_)
  refine go_k (ld_k h.drw 0 rfl) ?_
  refine Ok.rd2 (bin_add1 (by omega)) ?_
  refine go_kid h.drw 2 rfl hb ?_
  refine go_l (ld_l h.drw.drw 3 rfl) (go_l (ld_l h.drw.drw 0 rfl) (go_ent h.drw.drw 1 rfl he ?_))
  refine go_bsl h.drw.drw fun nb w1 h1 s1 => ?_
  refine go_appl (ys := [e]) h1 5 rfl (row1_l h1) (by simp; omega) fun al1 w2 h2 s2 => ?_
  refine Ok.rd (nil_ptr _ _) (Ok.rd (fld100_0 _ _) (Ok.rd (ld_l h2 7 rfl) ?_))
  refine Ok.chk (show ldV Pg 37 (ptr b 0) w1 = some bl from ld_l h1 7 rfl) (Ok.chk (show ldV Pg 37 (ptr b 0) (drw (drw w)) = some bl from ld_l h.drw.drw 6 rfl) ?_)
  refine go_appl (ys := lb) h2 5 rfl (slH_src (h2.foc (k := 8) rfl)) (by simp; omega) fun al2 w3 h3 s3 => ?_
  refine go_stl h3 4 rfl (slH_one h3 5 rfl) fun w4 h4 s4 => ?_
  refine go_k (ld_k h4.drw 4 rfl) (go_k (ld_k h4.drw 7 rfl) ?_)
  refine go_appk (ys := kb) h4.drw 6 rfl (slH_src (h4.drw.foc (k := 9) rfl)) (by omega) fun ak1 w5 h5 s5 => ?_
  refine go_stk h5 4 rfl (slH_one h5 6 rfl) fun w6 h6 s6 => ?_
  refine go_l (ld_l h6 1 rfl) ?_
  refine Ok.rd2 (bin_add1 (by omega)) ?_
  refine go_dell h6 2 rfl hi (by omega) fun lv1 w7 h7 s7 => ?_
  refine go_stl h7 1 rfl (slH_one h7 2 rfl) fun w8 h8 s8 => ?_
  refine go_k (ld_k h8 1 rfl) ?_
  refine Ok.rd2 (bin_add1 (by omega)) ?_
  refine Ok.rd2 (bin_add2 (by omega)) ?_
  refine go_delk h8 3 rfl hi2 (by omega) fun kv1 w9 h9 s9 => ?_
  refine go_stk h9 1 rfl (slH_one h9 3 rfl) fun w10 h10 s10 => ?_
  refine Ok.ret ⟨?_, ?_⟩
  · have h11 := (h10.re [1, 2, 3, 4, 5, 6, 0, 7, 8, 9] (by decide)).re [0, 1, 2, 3, 4, 5, 6, 7, 8, 9] (by decide)
    have h12 := (nd_mk2 h11).re [2, 3, 4, 5, 0, 1] (by decide)
    have h13 := h12.drop.drop.drop.drop
    rw [List.append_assoc] at h13
    exact h13
  · exact s1.drw.drw.trans (s2.trans (s3.trans (s4.trans (s5.drw.trans (s6.trans (s7.trans (s8.trans (s9.trans s10))))))))

end Go.Cb
