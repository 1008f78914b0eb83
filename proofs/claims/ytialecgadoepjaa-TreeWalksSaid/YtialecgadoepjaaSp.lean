/-
  split and lend.
-/
import Derived.Test.YtialecgadoepjaaMe
set_option linter.unusedVariables false
set_option linter.unusedSimpArgs false
namespace Go.Cb
variable {w : World} {F : List HP} {Q : Value → World → Prop}

theorem bld100 (a : Option Addr) (n c : Nat) : bldV Pg 100 [(0, .slice a n c)] = some (.agg #[.slice a n c, .slice none 0 0]) := by kernel_rfl

theorem go_box100 {lv kv : Value} (h1 : one lv = true) (h2 : one kv = true) {κ : Value → World → R} (h : Sat w F) (hκ : ∀ nb w', Sat w' (pt nb [lv, kv] 100 :: F) → Sm w w' → Ok (κ (ptr nb 0) w') Q) : Ok (rd2 (rawV Pg (Instr.box 100 (.agg #[lv, kv])) w) κ) Q :=
  Ok.rd2 box_ok (hκ _ _ (h.new (Ext.push (fun _ => False) w _) (fun _ _ hf => hf) (At.new w [lv, kv] 100) (Nat.le_refl _)) (Ext.push (fun _ => False) w _).sm)
theorem go_clonel {x : Value} {ys : List Ent} {κ : Value → World → R} (h : Sat w F) (hx : Src w x ys.length 2 (ys.flatMap encE)) (hb : ys.length ≤ 2 ^ 30) (hκ : ∀ v w', Sat w' (slH 40 2 encE v ys :: F) → Sm w w' → Ok (κ v w') Q) : Ok (rd2 (Fn Pg 81 [x] w) κ) Q :=
  Ok.bind (clone81 h hx hb) fun v w' hq => hκ v w' hq.1 hq.2
theorem go_clonek {x : Value} {ys : List Nat} {κ : Value → World → R} (h : Sat w F) (hx : Src w x ys.length 1 (ys.flatMap encP)) (hb : ys.length ≤ 2 ^ 30) (hκ : ∀ v w', Sat w' (slH 55 1 encP v ys :: F) → Sm w w' → Ok (κ v w') Q) : Ok (rd2 (Fn Pg 82 [x] w) κ) Q :=
  Ok.bind (clone82 h hx hb) fun v w' hq => hκ v w' hq.1 hq.2
theorem go_leaf' {p : Nat} {kv lv : Value} {ks : List Nat} {κ : Value → World → R} (h : Sat w F) (k j : Nat) (hk : F[k]? = some (pt p [lv, kv] 100)) (hj : F[j]? = some (slH 55 1 encP kv ks)) (hκ : Ok (κ (.bool (decide (ks.length = 0))) w) Q) : Ok (rd2 (Fn Pg 51 [ptr p 0] w) κ) Q :=
  Ok.rd2 (leaf_eq' h k j hk hj) hκ
/-- v[lo:], read. -/
theorem go_sufl {lv : Value} {xs : List Ent} {κ : Value → R} (h : Sat w F) (k : Nat) (hk : F[k]? = some (slH 40 2 encE lv xs)) {lo : Nat} (hh : lo ≤ xs.length) (hκ : ∀ v, Src w v (xs.drop lo).length 2 ((xs.drop lo).flatMap encE) → Ok (κ v) Q) : Ok (rd (slV Pg 37 lv (some (int lo)) none none) κ) Q := by
  obtain ⟨v, h1, h2⟩ := sl_suf T37 enE (h.foc hk) hh
  exact Ok.rd h1 (hκ v h2)
theorem go_sufk {kv : Value} {xs : List Nat} {κ : Value → R} (h : Sat w F) (k : Nat) (hk : F[k]? = some (slH 55 1 encP kv xs)) {lo : Nat} (hh : lo ≤ xs.length) (hκ : ∀ v, Src w v (xs.drop lo).length 1 ((xs.drop lo).flatMap encP) → Ok (κ v) Q) : Ok (rd (slV Pg 98 kv (some (int lo)) none none) κ) Q := by
  obtain ⟨v, h1, h2⟩ := sl_suf T98 enP (h.foc hk) hh
  exact Ok.rd h1 (hκ v h2)
/-- v[:hi]: read, or in its place. -/
theorem go_prel {lv : Value} {xs : List Ent} {κ : Value → R} (h : Sat w F) (k : Nat) (hk : F[k]? = some (slH 40 2 encE lv xs)) {hi : Nat} (hh : hi ≤ xs.length) (hκ : ∀ v, Src w v (xs.take hi).length 2 ((xs.take hi).flatMap encE) → Sat w (F.set k (slH 40 2 encE v (xs.take hi))) → Ok (κ v) Q) : Ok (rd (slV Pg 37 lv none (some (int hi)) none) κ) Q := by
  obtain ⟨v, h1, h2⟩ := sl_pre T37 enE (h.foc hk) hh
  exact Ok.rd h1 (hκ v (slH_src h2) (Sat.unf hk h2))
theorem go_prek {kv : Value} {xs : List Nat} {κ : Value → R} (h : Sat w F) (k : Nat) (hk : F[k]? = some (slH 55 1 encP kv xs)) {hi : Nat} (hh : hi ≤ xs.length) (hκ : ∀ v, Src w v (xs.take hi).length 1 ((xs.take hi).flatMap encP) → Sat w (F.set k (slH 55 1 encP v (xs.take hi))) → Ok (κ v) Q) : Ok (rd (slV Pg 98 kv none (some (int hi)) none) κ) Q := by
  obtain ⟨v, h1, h2⟩ := sl_pre T98 enP (h.foc hk) hh
  exact Ok.rd h1 (hκ v (slH_src h2) (Sat.unf hk h2))
theorem go_lenl {lv : Value} {xs : List Ent} {st : Bool} {rt : TypeId} {cs : Array Bool} {κ : Value → World → R} {w' : World} (h : Sat w F) (k : Nat) (hk : F[k]? = some (slH 40 2 encE lv xs)) (hκ : Ok (κ (int xs.length) w') Q) : Ok (rd2 (lenG st Pg .len #[37] rt cs [lv] w') κ) Q :=
  Ok.rd2 (sl_len T37 (h.foc hk) w') hκ
theorem go_lenk {kv : Value} {xs : List Nat} {st : Bool} {rt : TypeId} {cs : Array Bool} {κ : Value → World → R} {w' : World} (h : Sat w F) (k : Nat) (hk : F[k]? = some (slH 55 1 encP kv xs)) (hκ : Ok (κ (int xs.length) w') Q) : Ok (rd2 (lenG st Pg .len #[98] rt cs [kv] w') κ) Q :=
  Ok.rd2 (sl_len T98 (h.foc hk) w') hκ

/-- the end of split. -/
noncomputable def T48 (x0 x1 x7 x15 : Value) (w18 : World) : R :=
  rd (nilV x0) fun x79 =>
  rd (fldA Pg 100 x79 0) fun x80 =>
  rd (ldV Pg 37 x80 (drw w18)) fun x81 =>
  rd (nilV x7) fun x82 =>
  rd (fldA Pg 100 x82 0) fun x83 =>
  rd (ldV Pg 37 x83 (drw w18)) fun x84 =>
  rd (ixA Pg 37 x84 (.int .i64 2)) fun x85 =>
  rd (ldV Pg 40 x85 (drw w18)) fun x86 =>
  rd2 (rawV Pg (Instr.buildSlice 37 1 #[(0, x86)]) (drw w18)) fun x87 w88 =>
  rd2 (Fn Pg 83 [x81, x1, x87] w88) fun x89 w90 =>
  rd (nilV x0) fun x91 =>
  rd (fldA Pg 100 x91 0) fun x92 =>
  rd2 (rawU Pg (Instr.storeAt 37 x92 x89) w90) fun x94 w93 =>
  rd (nilV x0) fun x95 =>
  rd (fldA Pg 100 x95 1) fun x96 =>
  rd (ldV Pg 98 x96 w93) fun x97 =>
  rd2 (binG false Pg .add 3 (.tmp 0) (.const .nilFunc) x1 (.int .i64 1) w93) fun x98 w99 =>
  rd2 (rawV Pg (Instr.buildSlice 98 1 #[(0, x15)]) w99) fun x100 w101 =>
  rd2 (Fn Pg 84 [x97, x98, x100] w101) fun x102 w103 =>
  rd (nilV x0) fun x104 =>
  rd (fldA Pg 100 x104 1) fun x105 =>
  rd2 (rawU Pg (Instr.storeAt 98 x105 x102) w103) fun x107 w106 =>
  rd (nilV x7) fun x108 =>
  rd (fldA Pg 100 x108 0) fun x109 =>
  rd (ldV Pg 37 x109 w106) fun x110 =>
  rd (slV Pg 37 x110 none (some (.int .i64 2)) none) fun x111 =>
  rd2 (Fn Pg 81 [x111] w106) fun x112 w113 =>
  rd (nilV x7) fun x114 =>
  rd (fldA Pg 100 x114 0) fun x115 =>
  rd2 (rawU Pg (Instr.storeAt 37 x115 x112) w113) fun x117 w116 =>
  some ((.tuple #[]), w116)

theorem split_tail {n a b i : Nat} {l la lb : List Ent} {ks ka kb : List Nat} {e : Ent} {lv kv al ak bl bk : Value}
    (h : Sat w (pt n [lv, kv] 100 :: slH 40 2 encE lv l :: slH 55 1 encP kv ks :: pt a [al, ak] 100 :: slH 40 2 encE al la :: slH 55 1 encP ak ka :: pt b [bl, bk] 100 :: slH 40 2 encE bl lb :: slH 55 1 encP bk kb :: F))
    (he : la[2]? = some e) (hi : i ≤ l.length) (hi2 : i + 1 ≤ ks.length) (b1 : l.length ≤ 100) (b2 : ks.length ≤ 100) (b3 : la.length ≤ 100) :
    Ok (T48 (ptr n 0) (int i) (ptr a 0) (ptr b 0) w) fun v w' => Sat w' (nd n (l.take i ++ e :: l.drop i) (ks.take (i + 1) ++ b :: ks.drop (i + 1)) :: nd a (la.take 2) ka :: nd b lb kb :: F) ∧ Sm w w' := by
  have h2l : 2 < la.length := (List.getElem?_eq_some_iff.1 he).1
  unfold T48
  refine go_l (ld_l h.drw 0 rfl) (go_l (ld_l h.drw 3 rfl) (go_ent (i := 2) h.drw 4 rfl he ?_))
  refine go_bsl h.drw fun nb w1 h1 s1 => ?_
  refine go_insl h1 1 rfl hi (by omega) fun lv1 w2 h2 s2 => ?_
  refine go_stl h2 0 rfl (slH_one h2 1 rfl) fun w3 h3 s3 => ?_
  refine go_k (ld_k h3 0 rfl) ?_
  refine Ok.rd2 (bin_add1 (by omega)) ?_
  refine go_bsk h3 fun nb2 w4 h4 s4 => ?_
  refine go_insk h4 2 rfl hi2 (by omega) fun kv1 w5 h5 s5 => ?_
  refine go_stk h5 0 rfl (slH_one h5 2 rfl) fun w6 h6 s6 => ?_
  refine go_l (ld_l h6 3 rfl) ?_
  refine go_prel (hi := 2) h6 4 rfl (by omega) fun x111 hs _ => ?_
  refine go_clonel h6 hs (by simp; omega) fun al1 w7 h7 s7 => ?_
  refine go_stl h7 4 rfl (slH_one h7 0 rfl) fun w8 h8 s8 => ?_
  refine Ok.ret ⟨?_, s1.drw.trans (s2.trans (s3.trans (s4.trans (s5.trans (s6.trans (s7.trans s8))))))⟩
  have h9 := h8.re [5, 1, 2, 3, 4, 0, 6, 7, 8, 9] (by decide)
  exact nd_mk3 h9.drop

theorem split_ok {n a i : Nat} {l la : List Ent} {ks ka : List Nat} {e : Ent} (h : Sat w (nd n l ks :: nd a la ka :: F)) (ha : ks[i]? = some a) (hi : i ≤ l.length) (h5 : la.length = 5) (he : la[2]? = some e) (hk : ka = [] ∨ ka.length = 6)
    (b1 : l.length ≤ 100) (b2 : ks.length ≤ 100) :
    Ok (Fn Pg 48 [ptr n 0, int i] w) fun v w' => ∃ b, Sat w' (nd n (l.take i ++ e :: l.drop i) (ks.take (i + 1) ++ b :: ks.drop (i + 1)) :: nd a (la.take 2) (ka.take 3) :: nd b (la.drop 3) (ka.drop 3) :: F) ∧ Sm w w' := by
  obtain ⟨lv, kv, al, ak, h⟩ := nd_open2 h
  have hi2 : i < ks.length := (List.getElem?_eq_some_iff.1 ha).1
  rw [F48]; unfold S48
  refine go_k (ld_k h 0 rfl) (go_kid h 2 rfl ha ?_)
  refine go_l (ld_l h 3 rfl) ?_
  refine go_sufl (lo := 3) h 4 rfl (by omega) fun x11 hs => ?_
  refine go_clonel h hs (by simp; omega) fun bl w1 h1 s1 => ?_
  obtain ⟨ba, bc, rfl, _⟩ := slH_len (h1.foc (k := 0) rfl)
  refine Ok.rd (bld100 _ _ _) ?_
  refine go_box100 rfl rfl h1 fun b w2 h2 s2 => ?_
  refine go_leaf' h2 5 7 rfl rfl ?_
  refine Ok.rd (un_not _) ?_
  rcases hk with rfl | hk
  · refine Ok.cf rfl ?_
    have h3 : Sat w2 (slH 55 1 encP (.slice none 0 0) [] :: _) := slH_nil none h2
    have h4 := h3.re [3, 4, 5, 6, 7, 8, 1, 2, 0] (by decide)
    refine (split_tail h4 he hi (by omega) b1 b2 (by omega)).mono fun v w' hq => ⟨b, ?_, s1.trans (s2.trans hq.2)⟩
    exact hq.1
  · refine Ok.ct (by rw [hk]; rfl) ?_
    refine go_k (ld_k h2 5 rfl) ?_
    refine go_sufk (lo := 3) h2 7 rfl (by omega) fun x23 hs3 => ?_
    refine go_clonek h2 hs3 (by simp; omega) fun bk w3 h3 s3 => ?_
    refine go_stk h3 1 rfl (slH_one h3 0 rfl) fun w4 h4 s4 => ?_
    refine go_k (ld_k h4 6 rfl) ?_
    refine go_prek (hi := 3) h4 8 rfl (by omega) fun x33 hs4 _ => ?_
    refine go_clonek h4 hs4 (by simp; omega) fun ak1 w5 h5 s5 => ?_
    refine go_stk h5 7 rfl (slH_one h5 0 rfl) fun w6 h6 s6 => ?_
    have h7 := h6.re [4, 5, 6, 7, 8, 0, 2, 3, 1, 9] (by decide)
    refine (split_tail h7 he hi (by omega) b1 b2 (by omega)).mono fun v w' hq => ⟨b, ?_, s1.trans (s2.trans (s3.trans (s4.trans (s5.trans (s6.trans hq.2)))))⟩
    have h8 := hq.1.re [3, 0, 1, 2] (by decide)
    exact h8.drop

end Go.Cb
