/-
  The law TreeNil: a tree that isn't there, or that nobody made.
-/
import Derived.Test.YtialecgadoepjaaPl
set_option linter.unusedVariables false
set_option linter.unusedSimpArgs false
namespace Go.Cb
open Classical
variable {w : World} {F : List HP} {Q Q' : Value → World → Prop}

/-- there is no tree at t. -/
def NoT (t : Value) (A : HP) : Prop := ∀ (w : World) (G : List HP), Sat w (A :: G) → Fn Pg 45 [t] w = some (.bool true, w)
theorem noT_nil : NoT (.pointer none) emp := fun w G _ => none_nil
theorem noT_pt (T : Nat) (b : Value) : NoT (ptr T 0) (pt T [.pointer none, b] 57) := fun w G hs => none_ok hs 0 rfl

variable {t : Value} {A : HP} {key : ByteArray}

theorem put_no (hN : NoT t A) (hs : Sat w (A :: F)) {k v : Value} : Fn Pg 14 [t, k, v] w = some (.bool false, w) := by
  rw [F14]; unfold S14
  rw [hN w _ hs]; rfl
theorem get_no (hN : NoT t A) (hs : Sat w (A :: F)) {k : Value} : Fn Pg 20 [t, k] w = some (.tuple #[int 0, .bool false], w) := by
  rw [F20]; unfold S20
  rw [hN w _ hs]; rfl
theorem del_no (hN : NoT t A) (hs : Sat w (A :: F)) {k : Value} : Fn Pg 15 [t, k] w = some (.bool false, w) := by
  rw [F15]; unfold S15
  rw [hN w _ hs]; rfl
theorem len_no (hN : NoT t A) (hs : Sat w (A :: F)) : Fn Pg 18 [t] w = some (int 0, w) := by
  rw [F18]; unfold S18
  rw [hN w _ hs]; rfl
theorem lev_no (hN : NoT t A) (hs : Sat w (A :: F)) : Fn Pg 16 [t] w = some (.slice none 0 0, w) := by
  rw [F16]; unfold S16
  rw [hN w _ hs]; rfl
theorem copy_no (hN : NoT t A) (hs : Sat w (A :: F)) : Fn Pg 23 [t] w = some (.pointer none, w) := by
  rw [F23]; unfold S23
  rw [hN w _ hs]; rfl

theorem after_no (hN : NoT t A) (ht : one t = true) (hk : key.size ≤ 2 ^ 62) (hs : Sat w (A :: F)) : Ok (Fn Pg 21 [t, .string key] w) fun v w' => v = .tuple #[.string noB, .bool false] ∧ Sat w' (A :: F) ∧ Sm w w' := by
  rw [F21]; unfold S21
  refine go_new z9 hs fun r1 w1 t1 s1 => ?_
  refine go_new z4 t1 fun r2 w2 t2 s2 => ?_
  refine Ok.rd2 (next_ok hk) ?_
  refine go_from ht t2 fun b1 b2 w3 t3 s3 => ?_
  refine go_rng rfl (by kernel_rfl) rfl t3 fun d l w4 t4 s4 => ?_
  have hcall : ∀ (a b : Value) (w : World), callV (cx21 (Fn Pg) (Rnd Pg)) (frV b1 b2) [a] w = Fn Pg 89 [a, ptr b1 0, ptr b2 0] w := fun _ _ _ => rfl
  rw [hcall _ undef]
  refine Ok.mono (each_none (key := key) t4 3 rfl (hN w4 _ (t4.foc (k := 6) rfl))) ?_
  rintro _ w5 rfl
  refine end_norm t4 fun w6 t8 s6 => ?_
  rw [S21_N1_eq]; unfold S21_N1
  obtain ⟨w7, m7, t9, s7⟩ := st9 (b := r1) (u := .string noB) t8 4 rfl rfl
  refine Ok.rd2 m7 ?_
  obtain ⟨w8, m8, t10, s8⟩ := st4 (b := r2) (u := .bool false) t9 3 rfl rfl
  refine Ok.rd2 m8 ?_
  refine go_shut t10 fun w9 t11 s9 => ?_
  refine Ok.rd (ld1 (b := r1) a9 t11 3 rfl) (Ok.rd (ld1 (b := r2) a4 t11 2 rfl) ?_)
  exact ⟨_, _, rfl, rfl, t11.drop.drop.drop.drop, s1.trans (s2.trans (s3.trans (s4.trans (s6.trans (s7.trans (s8.trans s9))))))⟩

theorem walk_no (hN : NoT t A) (ht : one t = true) {f g : ByteArray} {m : Int} (hs : Sat w (A :: F)) : Ok (Fn Pg 19 [t, .agg #[.string f, .string g], int m] w) fun v w' => v = .slice none 0 0 ∧ Sat w' (A :: F) ∧ Sm w w' := by
  rw [F19]; unfold S19
  refine go_box (l := spC f g) rfl hs fun c4 w1 t1 s1 => ?_
  refine go_box (l := [int m]) rfl t1 fun c5 w2 t2 s2 => ?_
  refine go_new z37 t2 fun c7 w3 t3 s3 => ?_
  refine Ok.rd (fld36_0 _ _) (Ok.rd (ldsp0 t3 2 rfl) ?_)
  refine go_from ht t3 fun b1 b2 w4 t4 s4 => ?_
  refine go_rng rfl (by kernel_rfl) rfl t4 fun d l w5 t5 s5 => ?_
  have hcall : ∀ (a b : Value) (w : World), callV (cx19 (Fn Pg) (Rnd Pg)) (frV b1 b2) [a] w = Fn Pg 89 [a, ptr b1 0, ptr b2 0] w := fun _ _ _ => rfl
  rw [hcall _ undef]
  refine Ok.mono (each_none (key := f) t5 3 rfl (hN w5 _ (t5.foc (k := 7) rfl))) ?_
  rintro _ w6 rfl
  refine end_norm t5 fun w7 t9 s7 => ?_
  rw [S19_N1_eq]; unfold S19_N1
  refine Ok.rd (ld1 (b := c7) a37 t9 3 rfl) ?_
  refine go_shut t9 fun w8 t10 s8 => ?_
  exact ⟨_, _, rfl, rfl, t10.drop.drop.drop.drop.drop, s1.trans (s2.trans (s3.trans (s4.trans (s5.trans (s7.trans s8)))))⟩

theorem bld57_n : bldV Pg 57 [] = some (.agg #[.pointer none, int 0]) := by kernel_rfl
theorem u31 : Pg.underlying 31 = some (.slice 81) := by kernel_rfl

theorem nil_round {i : Nat} {n : Int} (hN : NoT t A) (ht : ∃ a, t = .pointer a) (hk : key.size ≤ 2 ^ 62) (hi : i < 2) {e : Env} (hs : Sat w (A :: F)) (e0 : e 0 = .string key) (e1 : e 1 = int n) (e5 : e 5 = t) (e6 : e 6 = int i) (e74 : e 74 = undef)
    (hκ : ∀ (e' : Env) (T : Nat) (w' : World), e' 0 = .string key → e' 1 = int n → e' 5 = ptr T 0 → e' 6 = int (i + 1 : Nat) → e' 74 = undef → Sat w' (pt T [.pointer none, int 0] 57 :: A :: F) → Sm w w' →
      Ok (evalLoop (cx7 (Fn Pg) (Rnd Pg)) (cdA Go.Proofs.Try.f7 [1, 1, 0, 1, 0, 0]) (K7_2 (Fn Pg) (Rnd Pg)) e' w') Q) :
    Ok (evalLoop (cx7 (Fn Pg) (Rnd Pg)) (cdA Go.Proofs.Try.f7 [1, 1, 0, 1, 0, 0]) (K7_2 (Fn Pg) (Rnd Pg)) e w) Q := by
  have ho : one t = true := by obtain ⟨a, rfl⟩ := ht; rfl
  rw [S7_L1_eq]; unfold S7_L1
  rw [e0, e1, e5, e6, e74]
  refine Ok.rd2 bin_lss (Ok.ct (by simp; omega) ?_)
  refine Ok.rd2 (put_no hN hs) (Ok.rd2 (get_no hN hs) (Ok.rd rfl (Ok.rd rfl ?_)))
  refine Ok.bind (after_no hN ho hk hs) ?_
  rintro x w1 ⟨rfl, h1, s1⟩
  refine Ok.rd rfl (Ok.rd rfl ?_)
  refine f_ok rfl rfl (f_ok rfl (gr2 bin_neq) (pk_f rfl ?_))
  refine f_ok rfl rfl (pk_f rfl ?_)
  refine f_ok rfl rfl (f_ok rfl (gr2 bin_sneq) (pk_f rfl ?_))
  have hz : (!decide (noB = noB)) = false := by simp
  rw [hz]
  refine f_ok rfl rfl (pk_f rfl ?_)
  refine f_ok rfl rfl (f_ok rfl rfl (f_ok rfl (gr2 (del_no hN h1)) (pk_f rfl ?_)))
  refine f_ok rfl rfl (f_ok rfl (gr2 (len_no hN h1)) (f_ok rfl rfl (f_ok rfl (by rw [bld36_0]; rfl) ?_)))
  refine f_call rfl (walk_no hN ho h1) ?_
  rintro x w2 ⟨rfl, h2, s2⟩
  refine f_ok rfl (gr2 (len_sl T37.u _ _ _ _)) (f_ok rfl (gr2 (bin_add (by decide) (by decide))) (f_ok rfl rfl ?_))
  refine f_ok rfl (gr2 (lev_no hN h2)) (f_ok rfl (gr2 (len_sl u31 _ _ _ _)) (f_ok rfl (gr2 (bin_add (by decide) (by decide))) (f_ok rfl (gr2 bin_neq) (pk_f rfl ?_))))
  have hz2 : ((0 + ((0 : Nat) : Int) + ((0 : Nat) : Int)) != 0) = false := by decide
  rw [hz2]
  refine f_ok rfl rfl (f_ok rfl (gr2 (copy_no hN h2)) (f_ok rfl (gr2 (neq_ptr up25)) (pk_f rfl ?_)))
  refine Ok.cf rfl (Ok.rd bld57_n ?_)
  refine go_box (l := [.pointer none, int 0]) rfl h2 fun T w3 h3 s3 => ?_
  refine Ok.rd2 (bin_add1 (by omega)) ?_
  refine hκ _ T w3 ?_ ?_ ?_ ?_ ?_ h3 (s1.trans (s2.trans s3))
  · exact e0
  · exact e1
  · rfl
  · rfl
  · exact e74

theorem nil_ok {n : Int} (hk : key.size ≤ 2 ^ 62) (hs : Sat w F) : Ok (Fn Pg 7 [.string key, int n] w) fun x w' => x = .bool true ∧ Sat w' F ∧ Sm w w' := by
  rw [F7]; unfold S7
  refine nil_round noT_nil ⟨_, rfl⟩ hk (i := 0) (by decide) (Sat.emp.2 hs) rfl rfl rfl rfl rfl fun e' T w1 e0 e1 e5 e6 e74 h1 s1 => ?_
  refine nil_round (noT_pt T _) ⟨_, rfl⟩ hk (i := 1) (by decide) h1 e0 e1 e5 e6 e74 fun e2 T2 w2 d0 d1 d5 d6 d74 h2 s2 => ?_
  rw [S7_L1_eq]; unfold S7_L1
  rw [d6, d74]
  refine Ok.rd2 bin_lss (Ok.cf (by simp) ?_)
  refine Ok.bind (grows_ok h2) ?_
  rintro x w3 ⟨rfl, g1, g2⟩
  exact ⟨_, _, rfl, rfl, g1.drop.drop.drop, s1.trans (s2.trans g2)⟩
end Go.Cb
