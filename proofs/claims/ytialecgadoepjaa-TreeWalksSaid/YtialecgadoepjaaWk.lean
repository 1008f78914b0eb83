/-
  Walk: the entries in a span, so many.
-/
import Derived.Test.YtialecgadoepjaaRm2
set_option linter.unusedVariables false
set_option linter.unusedSimpArgs false
namespace Go.Cb
variable {w : World} {F : List HP} {Q Q' : Value → World → Prop}

/-- what a round of Walk holds. -/
def wkH (l c7 c4 c5 : Nat) (ts : Array Value) (d : Nat) (f t : ByteArray) (m : Int) (st : LoopState) (pd : Option Code) (s : List Ent) : HP := fun h => ∃ ov,
  stars [ob l (lp 19 ts #[13] (cdA Go.Proofs.Try.f19 [1, 1, 0, 1, 0, 0]) (cdA Go.Proofs.Try.f19 [1, 1, 0, 1, 0, 1]) d st pd), pt c7 [ov] 37, slH 40 2 encE ov s, pt c4 (spC f t) 36, pt c5 [int m] 3] h
def wkR (l c7 c4 c5 : Nat) (ts : Array Value) (d : Nat) (f t : ByteArray) (m : Int) : List Ent → HP := fun s => wkH l c7 c4 c5 ts d f t m .ready none s
def wkD (l c7 c4 c5 : Nat) (ts : Array Value) (d : Nat) (f t : ByteArray) (m : Int) : List Ent → Ent → HP := fun s _ => wkH l c7 c4 c5 ts d f t m .done (some (.exit 0)) s

theorem wk_open {l c7 c4 c5 : Nat} {ts : Array Value} {d : Nat} {f t : ByteArray} {m : Int} {st : LoopState} {pd : Option Code} {s : List Ent} (hs : Sat w (wkH l c7 c4 c5 ts d f t m st pd s :: F)) :
    ∃ ov, Sat w (ob l (lp 19 ts #[13] (cdA Go.Proofs.Try.f19 [1, 1, 0, 1, 0, 0]) (cdA Go.Proofs.Try.f19 [1, 1, 0, 1, 0, 1]) d st pd) :: pt c7 [ov] 37 :: slH 40 2 encE ov s :: pt c4 (spC f t) 36 :: pt c5 [int m] 3 :: F) := by
  obtain ⟨ov, h⟩ := Sat.ex.1 hs
  exact ⟨ov, Sat.flat.1 h⟩
theorem wk_mk {l c7 c4 c5 : Nat} {ts : Array Value} {d : Nat} {f t : ByteArray} {m : Int} {st : LoopState} {pd : Option Code} {s : List Ent} {ov : Value}
    (hs : Sat w (ob l (lp 19 ts #[13] (cdA Go.Proofs.Try.f19 [1, 1, 0, 1, 0, 0]) (cdA Go.Proofs.Try.f19 [1, 1, 0, 1, 0, 1]) d st pd) :: pt c7 [ov] 37 :: slH 40 2 encE ov s :: pt c4 (spC f t) 36 :: pt c5 [int m] 3 :: F)) :
    Sat w (wkH l c7 c4 c5 ts d f t m st pd s :: F) := Sat.ex.2 ⟨ov, (Sat.flat (G := [_, _, _, _, _])).2 hs⟩

theorem wk_yield {l c7 c4 c5 d : Nat} {e0 : Env} {f t : ByteArray} {m : Int} (h7 : e0 7 = ptr c7 0) (h4 : e0 4 = ptr c4 0) (h5 : e0 5 = ptr c5 0) {N : Nat} (hN : N ≤ 2 ^ 28) :
    YOk (.func (.yield l) #[] #[]) N (stopW m f t) (wkR l c7 c4 c5 (tab 30 e0) d f t m) (wkD l c7 c4 c5 (tab 30 e0) d f t m) := by
  intro s x w F hsl hs
  obtain ⟨ov, hs⟩ := wk_open hs
  rw [yield_run hs.obAt rfl, R19_1 w tab_len']
  have g13 := tab_get (N := 30) (k := 13) (j := 13) (e := e0) (v := aggE x) (by decide) (by decide)
  have g4 := tab_get (N := 30) (k := 13) (j := 4) (e := e0) (v := aggE x) (by decide) (by decide)
  have g5 := tab_get (N := 30) (k := 13) (j := 5) (e := e0) (v := aggE x) (by decide) (by decide)
  have g7 := tab_get (N := 30) (k := 13) (j := 7) (e := e0) (v := aggE x) (by decide) (by decide)
  rw [if_pos rfl] at g13
  rw [if_neg (by decide)] at g4 g5 g7
  unfold S19_R1
  rw [show (([aggE x] : List Value).toArray) = #[aggE x] from rfl, g13, g4, g5, g7, h4, h5, h7]
  refine go_tmp hs fun nb w1 t1 s1 => ?_
  refine go_beg t1.sw fun w2 t2 s2 => ?_
  refine Ok.rd (ld1 a37 t2 2 rfl) (Ok.rd2 (sl_len T37 (t2.foc (k := 3) rfl) w2) (Ok.rd (ld1 a3 t2 5 rfl) (Ok.rd2 bin_geq ?_)))
  by_cases hx : m ≤ (s.length : Int)
  · have hx' : decide (m ≤ (s.length : Int)) = true := by simpa using hx
    have hst : stopW m f t s x = true := by simp [stopW, hx]
    rw [hx']
    refine Ok.f0 (Ok.f0 (Ok.f0 (Ok.f0 (Ok.f0 (Ok.rd (pick_t _ _) (Ok.ct rfl ?_))))))
    refine go_fin t2 fun w3 t3 s3 => ?_
    rw [hst]
    exact ⟨rfl, wk_mk (t3.re [1, 0, 2, 3, 4, 5] (by decide)).drop, s1.trans (s2.trans s3)⟩
  · have hx' : decide (m ≤ (s.length : Int)) = false := by simpa using hx
    rw [hx']
    refine f_ok rfl (by rw [ldsp t2 4 rfl]; rfl) (f_ok rfl (by rw [fld40_0]; rfl) (f_ok rfl (by rw [ld_key t2 1 rfl]; rfl) ?_))
    refine f_call rfl (in_ok t2) ?_
    rintro y w3 ⟨rfl, t3, s3⟩
    refine f_ok rfl (by rw [un_not]; rfl) (Ok.rd (pick_f _ _) ?_)
    cases hi : inB f t x.1 with
    | false =>
      have hst : stopW m f t s x = true := by simp [stopW, hi]
      refine Ok.ct rfl (go_fin t3 fun w4 t4 s4 => ?_)
      rw [hst]
      exact ⟨rfl, wk_mk (t4.re [1, 0, 2, 3, 4, 5] (by decide)).drop, s1.trans (s2.trans (s3.trans s4))⟩
    | true =>
      have hst : stopW m f t s x = false := by simp [stopW, hi, hx']
      refine Ok.cf rfl ?_
      refine Ok.rd (ld1 a37 t3 2 rfl) (Ok.rd (ld_ent t3 1 rfl) ?_)
      refine go_bs1 T37 enE (by decide) (x := x) rfl t3 fun nb2 w4 t4 hv4 s4 => ?_
      refine go_app T37 enE t4 4 rfl hv4 (by simp; omega) fun a5 w5 t5 s5 => ?_
      obtain ⟨w6, m6, t6, s6⟩ := st37 (u := a5) t5 3 rfl (one_slH t5 4 rfl)
      refine Ok.rd2 m6 ?_
      have t6 : Sat w6 (pt nb2 (encE x) 40 :: ob l (lp 19 (tab 30 e0) #[13] (cdA Go.Proofs.Try.f19 [1, 1, 0, 1, 0, 0]) (cdA Go.Proofs.Try.f19 [1, 1, 0, 1, 0, 1]) d .busy none) :: pt nb (encE x) 40 :: pt c7 [a5] 37 :: slH 40 2 encE a5 (s ++ [x]) :: pt c4 (spC f t) 36 :: pt c5 [int m] 3 :: F) := t6
      refine go_fin t6.drop fun w7 t7 s7 => ?_
      rw [hst]
      exact ⟨rfl, wk_mk (t7.re [1, 0, 2, 3, 4, 5] (by decide)).drop, s1.trans (s2.trans (s3.trans (s4.trans (s5.trans (s6.trans s7)))))⟩

theorem twalk_ok {T : Nat} {L : List Ent} {f t : ByteArray} {m : Int} (hs : Sat w (tree T L :: F)) (hl : L.length ≤ 2 ^ 28) :
    Ok (Fn Pg 19 [ptr T 0, .agg #[.string f, .string t], int m] w) fun v w' => Sat w' (slH 40 2 encE v (walkL L f t m) :: tree T L :: F) ∧ Sm w w' := by
  have hsrt : Srt L := by obtain ⟨_, _, _, _, _, _, h4, _⟩ := tree_open hs; exact h4
  rw [F19]; unfold S19
  refine go_box (l := spC f t) rfl hs fun c4 w1 t1 s1 => ?_
  refine go_box (l := [int m]) rfl t1 fun c5 w2 t2 s2 => ?_
  refine go_new z37 t2 fun c7 w3 t3 s3 => ?_
  refine Ok.rd (fld36_0 _ _) (Ok.rd (ldsp0 t3 2 rfl) ?_)
  refine go_from rfl t3 fun b1 b2 w4 t4 s4 => ?_
  refine go_rng rfl (by kernel_rfl) rfl t4 fun d l w5 t5 s5 => ?_
  have hcall : ∀ (a b : Value) (w : World), callV (cx19 (Fn Pg) (Rnd Pg)) (frV b1 b2) [a] w = Fn Pg 89 [a, ptr b1 0, ptr b2 0] w := fun _ _ _ => rfl
  rw [hcall _ undef]
  obtain ⟨e0, he0⟩ : ∃ e0 : Env, e0 = upd (upd (upd (upd (upd (upd (upd (upd (envL [ptr T 0, Value.agg #[.string f, .string t], int m]) 4 (ptr c4 0)) 5 (ptr c5 0)) 6 (.slice none 0 0)) 7 (ptr c7 0)) 9 (ptr T 0)) 10 (ptr c4 0)) 11 (.string f)) 12 (frV b1 b2) := ⟨_, rfl⟩
  rw [← he0] at t5 ⊢
  have h4 : e0 4 = ptr c4 0 := by rw [he0]; rfl
  have h5 : e0 5 = ptr c5 0 := by rw [he0]; rfl
  have h7 : e0 7 = ptr c7 0 := by rw [he0]; rfl
  have t6 : Sat w5 (tree T L :: wkR l c7 c4 c5 (tab 30 e0) d f t m [] :: pt b2 [.string f] 9 :: pt b1 [ptr T 0] 25 :: ob d (.deferred (some [])) :: F) := by
    refine Sat.sw (wk_mk (ov := .slice none 0 0) ?_)
    have := (slH_nil (T := 40) (k := 2) (enc := encE) none t5).re [1, 5, 0, 7, 6, 8, 3, 4, 2] (by decide)
    exact this
  refine Ok.mono (each_ok (wk_yield h7 h4 h5 (N := (fromL L f).length) (Nat.le_trans (List.length_filter_le _ _) hl)) (by simp) t6) ?_
  rintro _ w6 ⟨t7, s6⟩
  have hfl := feed_walk (m := m) (f := f) (t := t) hsrt
  have e7 : upd e0 (cx19 (Fn Pg) (Rnd Pg)).N (.map (some d)) 7 = ptr c7 0 := h7
  have e30 : upd e0 (cx19 (Fn Pg) (Rnd Pg)).N (.map (some d)) 30 = .map (some d) := rfl
  have sall := s1.trans (s2.trans (s3.trans (s4.trans (s5.trans s6))))
  rcases hX : feed (stopW m f t) [] (fromL L f) with ⟨s, o⟩
  rw [hX] at t7 hfl
  have hfl : s = walkL L f t m := hfl
  subst hfl
  cases o with
  | none =>
    obtain ⟨ov, t8⟩ := wk_open t7.sw
    refine end_norm t8 fun w7 t9 s7 => ?_
    rw [S19_N1_eq]; unfold S19_N1
    rw [e7, e30]
    refine Ok.rd (ld1 a37 t9 0 rfl) ?_
    refine go_shut (t9.re [7, 0, 1, 2, 3, 4, 5, 6] (by decide)) fun w8 t10 s8 => ?_
    exact ⟨_, _, rfl, (t10.re [0, 2, 3, 5, 6, 1, 4] (by decide)).drop.drop.drop.drop.drop, sall.trans (s7.trans s8)⟩
  | some x =>
    obtain ⟨ov, t8⟩ := wk_open t7.sw
    refine end_exit t8 fun w7 t9 s7 => ?_
    rw [S19_X0_1_eq]; unfold S19_X0_1
    rw [e7, e30]
    refine Ok.rd (ld1 a37 t9 0 rfl) ?_
    refine go_shut (t9.re [7, 0, 1, 2, 3, 4, 5, 6] (by decide)) fun w8 t10 s8 => ?_
    exact ⟨_, _, rfl, (t10.re [0, 2, 3, 5, 6, 1, 4] (by decide)).drop.drop.drop.drop.drop, sall.trans (s7.trans s8)⟩
end Go.Cb
