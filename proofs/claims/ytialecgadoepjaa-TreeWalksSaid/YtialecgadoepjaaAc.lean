/-
  act, on both; same.
-/
import Derived.Test.YtialecgadoepjaaCp
set_option linter.unusedVariables false
set_option linter.unusedSimpArgs false
namespace Go.Cb
open Classical
variable {w : World} {F : List HP} {Q Q' : Value → World → Prop}

theorem u4 : Pg.underlying 4 = some .bool := by kernel_rfl
theorem bin_beql {st : Bool} {ox oy : Operand} {a b : Bool} {w : World} : binG st Pg .eql 4 ox oy (.bool a) (.bool b) w = some (.bool (a == b), w) := by
  have h : cmpV Pg .eql 4 (.bool a) (.bool b) = some (.bool (a == b)) := by
    show (eqV Pg (9999 + 1) 4 (.bool a) (.bool b)).map Value.bool = _
    unfold eqV; rw [u4]; rfl
  unfold binG
  rw [h]; rfl
theorem bin_bneq {st : Bool} {ox oy : Operand} {a b : Bool} {w : World} : binG st Pg .neq 4 ox oy (.bool a) (.bool b) w = some (.bool (a != b), w) := by
  have h : cmpV Pg .neq 4 (.bool a) (.bool b) = some (.bool (a != b)) := by
    show (eqV Pg (9999 + 1) 4 (.bool a) (.bool b)).map (fun b => Value.bool !b) = _
    unfold eqV; rw [u4]; rfl
  unfold binG
  rw [h]; rfl
theorem bin_sneq {st : Bool} {t : TypeId} {ox oy : Operand} {a b : ByteArray} {w : World} : binG st Pg .neq t ox oy (.string a) (.string b) w = some (.bool (!decide (a = b)), w) := by
  have : binG st Pg .neq t ox oy (.string a) (.string b) w = some (.bool !(a.toList == b.toList), w) := rfl
  rw [this, key_beq]

/-- what an act leaves. -/
noncomputable def actL (L : List Ent) (a : Act) : List Ent := if a.1 = 0 ∨ a.1 = 1 ∨ a.1 = 2 then putL L (a.2.1, vI a.2.2) else if a.1 = 3 ∨ a.1 = 4 then delL L a.2.1 else L
theorem act_len {L : List Ent} (h : Srt L) (a : Act) : (actL L a).length ≤ L.length + 1 := by
  unfold actL
  split
  · exact put_le h _
  · split
    · have := del_le L h a.2.1; omega
    · omega
theorem act_srt {L : List Ent} (h : Srt L) (a : Act) : Srt (actL L a) := by
  unfold actL
  split
  · exact put_srt h _
  · split
    · exact del_srt h _
    · exact h
theorem act_ok {T X : Nat} {L : List Ent} {a : Act} (hs : Sat w (tree T L :: rl X L :: F)) (hb : L.length ≤ 2 ^ 28) :
    Ok (Fn Pg 22 [ptr T 0, ptr X 0, aggA a] w) fun v w' => v = .bool true ∧ Sat w' (tree T (actL L a) :: rl X (actL L a) :: F) ∧ Sm w w' := by
  have hsrt : Srt L := by obtain ⟨_, _, _, _, _, _, h4, _⟩ := tree_open hs; exact h4
  rw [F22]; unfold S22
  refine go_box (l := cellsA a) rfl hs fun b w1 h1 s1 => ?_
  have hput : ∀ {v : World}, Sm w v → Sat v (pt b (cellsA a) 28 :: tree T L :: rl X L :: F) → actL L a = putL L (a.2.1, vI a.2.2) → Ok (rd (fldA Pg 28 (ptr b 0) 1) fun x10 =>
      rd (ldV Pg 9 x10 (drw v)) fun x11 => rd (fldA Pg 28 (ptr b 0) 2) fun x12 => rd (ldV Pg 3 x12 (drw v)) fun x13 =>
      rd2 (Fn Pg 14 [ptr T 0, x11, x13] (drw v)) fun x14 w15 => rd (fldA Pg 28 (ptr b 0) 1) fun x16 => rd (ldV Pg 9 x16 w15) fun x17 =>
      chk (holdsAt Pg none 9 x16 x17 (drw v)) fun _ => rd (fldA Pg 28 (ptr b 0) 2) fun x18 => rd (ldV Pg 3 x18 w15) fun x19 =>
      chk (holdsAt Pg none 3 x18 x19 (drw v)) fun _ => rd2 (Fn Pg 55 [ptr X 0, x17, x19] w15) fun x20 w21 =>
      rd2 (binG true Pg .eql 4 (.tmp 0) (.tmp 0) x14 x20 w21) fun x22 _ => some (x22, w21)) fun v w' => v = .bool true ∧ Sat w' (tree T (actL L a) :: rl X (actL L a) :: F) ∧ Sm w w' := by
    intro v sv hv ha
    have hd := hv.drw
    refine Ok.rd (fld28_1 _ _) (Ok.rd (ldA_1 hd 0 rfl) (Ok.rd (fld28_2 _ _) (Ok.rd (ldA_2 hd 0 rfl) ?_)))
    refine Ok.bind (put_ok (y := vI a.2.2) hd.sw (by omega) (bld40_i _ _)) ?_
    rintro x w2 ⟨rfl, g1, s2⟩
    refine Ok.rd (fld28_1 _ _) (Ok.rd (ldA_1 g1 1 rfl) (Ok.chk (show ldV Pg 9 (ptr b (0 + 1)) (drw v) = some (.string a.2.1) from ldA_1 hd 0 rfl) ?_))
    refine Ok.rd (fld28_2 _ _) (Ok.rd (ldA_2 g1 1 rfl) (Ok.chk (show ldV Pg 3 (ptr b (0 + 2)) (drw v) = some (int a.2.2) from ldA_2 hd 0 rfl) ?_))
    refine Ok.bind (rput_ok (g1.re [2, 0, 1] (by decide)) hsrt hb) ?_
    rintro x w3 ⟨rfl, g2, s3⟩
    refine Ok.rd2 bin_beql ⟨_, _, rfl, by simp, ?_, sv.trans (s2.drw.trans s3)⟩
    rw [ha]
    exact (g2.re [2, 1, 0] (by decide)).drop
  have hdel : ∀ {v : World}, Sm w v → Sat v (pt b (cellsA a) 28 :: tree T L :: rl X L :: F) → actL L a = delL L a.2.1 → Ok (rd (fldA Pg 28 (ptr b 0) 1) fun x26 =>
      rd (ldV Pg 9 x26 (drw v)) fun x27 => rd2 (Fn Pg 15 [ptr T 0, x27] (drw v)) fun x28 w29 =>
      rd (fldA Pg 28 (ptr b 0) 1) fun x30 => rd (ldV Pg 9 x30 w29) fun x31 => chk (holdsAt Pg none 9 x30 x31 (drw v)) fun _ =>
      rd2 (Fn Pg 56 [ptr X 0, x31] w29) fun x32 w33 => rd2 (binG true Pg .eql 4 (.tmp 0) (.tmp 0) x28 x32 w33) fun x34 _ => some (x34, w33)) fun v w' => v = .bool true ∧ Sat w' (tree T (actL L a) :: rl X (actL L a) :: F) ∧ Sm w w' := by
    intro v sv hv ha
    have hd := hv.drw
    refine Ok.rd (fld28_1 _ _) (Ok.rd (ldA_1 hd 0 rfl) ?_)
    refine Ok.bind (delete_ok hd.sw (by omega)) ?_
    rintro x w2 ⟨rfl, g1, s2⟩
    refine Ok.rd (fld28_1 _ _) (Ok.rd (ldA_1 g1 1 rfl) (Ok.chk (show ldV Pg 9 (ptr b (0 + 1)) (drw v) = some (.string a.2.1) from ldA_1 hd 0 rfl) ?_))
    refine Ok.bind (rdel_ok (g1.re [2, 0, 1] (by decide)) hsrt hb) ?_
    rintro x w3 ⟨rfl, g2, s3⟩
    refine Ok.rd2 bin_beql ⟨_, _, rfl, by simp, ?_, sv.trans (s2.drw.trans s3)⟩
    rw [ha]
    exact (g2.re [2, 1, 0] (by decide)).drop
  have hnon : actL L a = L → ∀ {v : World}, Sm w v → Sat v (pt b (cellsA a) 28 :: tree T L :: rl X L :: F) → Ok (some (.bool true, v)) fun v w' => v = .bool true ∧ Sat w' (tree T (actL L a) :: rl X (actL L a) :: F) ∧ Sm w w' := by
    intro ha v sv hv
    rw [ha]
    exact ⟨_, _, rfl, rfl, hv.drop, sv⟩
  have hx : ∀ n : Int, a.1 ≠ n → (a.1 == n) = false := fun n h => by simpa using h
  have hy : ∀ n : Int, a.1 = n → (a.1 == n) = true := fun n h => by simpa using h
  refine Ok.rd (fld28_0 _ _) (Ok.rd (ldA_0 h1 0 rfl) (Ok.rd2 bin_eql ?_))
  by_cases k0 : a.1 = 0
  · refine Ok.ct (hy 0 k0) (Ok.ct (hy 0 k0) (hput s1 h1 (by simp [actL, k0])))
  refine Ok.cf (hx 0 k0) (Ok.rd2 bin_eql ?_)
  by_cases k1 : a.1 = 1
  · refine Ok.ct (hy 1 k1) (Ok.ct (hy 1 k1) (hput s1 h1 (by simp [actL, k1])))
  refine Ok.cf (hx 1 k1) (Ok.rd2 bin_eql ?_)
  by_cases k2 : a.1 = 2
  · refine Ok.ct (hy 2 k2) (hput s1 h1 (by simp [actL, k2]))
  refine Ok.cf (hx 2 k2) (Ok.rd2 bin_eql ?_)
  by_cases k3 : a.1 = 3
  · refine Ok.ct (hy 3 k3) (Ok.ct (hy 3 k3) (hdel s1 h1 (by simp [actL, k3])))
  refine Ok.cf (hx 3 k3) (Ok.rd2 bin_eql ?_)
  by_cases k4 : a.1 = 4
  · refine Ok.ct (hy 4 k4) (hdel s1 h1 (by simp [actL, k4]))
  refine Ok.cf (hx 4 k4) (hnon (by simp [actL, k0, k1, k2, k3, k4]) s1 h1)

/-! ### same -/

def Ints (L : List Ent) : Prop := ∀ e ∈ L, ∃ n : Int, e.2 = vI n
theorem ints_sub {L M : List Ent} (h : Ints L) (hs : ∀ e ∈ M, e ∈ L) : Ints M := fun e he => h e (hs e he)
theorem ints_put {L : List Ent} (h : Ints L) (k : ByteArray) (n : Int) : Ints (putL L (k, vI n)) := by
  intro e he
  unfold putL at he
  rcases List.mem_append.1 he with he | he
  · exact h e (List.mem_filter.1 he).1
  · rcases List.mem_cons.1 he with rfl | he
    · exact ⟨n, rfl⟩
    · exact h e (List.mem_filter.1 he).1
theorem ints_act {L : List Ent} (h : Ints L) (a : Act) : Ints (actL L a) := by
  unfold actL
  split
  · exact ints_put h _ _
  · split
    · refine ints_sub h fun e he => ?_
      unfold delL at he
      rcases List.mem_append.1 he with he | he
      · exact (List.mem_filter.1 he).1
      · exact (List.mem_filter.1 he).1
    · exact h
theorem ints_walk {L : List Ent} (h : Ints L) (f t : ByteArray) (m : Int) : Ints (walkL L f t m) := ints_sub h fun e he => by
  unfold walkL at he
  exact (List.mem_filter.1 (List.mem_of_mem_take he)).1

theorem same_loop {av bv : Value} {L : List Ent} (hI : Ints L) (hl : L.length ≤ 2 ^ 30) : ∀ (j i : Nat) (e : Env) (w : World) (F : List HP) (p q : Nat), F[p]? = some (slH 40 2 encE av L) → F[q]? = some (slH 112 2 encE bv L) → Sat w F → i + j = L.length →
    e 0 = av → e 1 = bv → e 5 = int i → e 41 = undef →
    Ok (evalLoop (cx25 (Fn Pg) (Rnd Pg)) (cdA Go.Proofs.Try.f25 [1, 1, 0, 1, 0, 0]) (K25_2 (Fn Pg) (Rnd Pg)) e w) fun x w' => x = .bool true ∧ Sat w' F ∧ Sm w w' := by
  intro j
  induction j with
  | zero =>
    intro i e w F p q hp hq hs hij e0 e1 e5 e41
    rw [S25_L1_eq]; unfold S25_L1
    rw [e0, e1, e5, e41]
    refine Ok.rd2 (sl_len T37 (hs.foc hp) w) (Ok.rd2 bin_lss (Ok.cf (by simp; omega) ?_))
    exact ⟨_, _, rfl, rfl, hs, Sm.refl _⟩
  | succ j ih =>
    intro i e w F p q hp hq hs hij e0 e1 e5 e41
    have hi : i < L.length := by omega
    obtain ⟨n, hn⟩ := hI L[i] (List.getElem_mem hi)
    rw [S25_L1_eq]; unfold S25_L1
    rw [e0, e1, e5, e41]
    have hd := hs.drw
    obtain ⟨b1, o1, g1, _, g2, g3⟩ := ix_l hd p hp (List.getElem?_eq_getElem hi)
    obtain ⟨b2, o2, m1, _, m2, m3⟩ := ix_r hd q hq (List.getElem?_eq_getElem hi)
    rw [hn] at g3 m3
    refine Ok.rd2 (sl_len T37 (hs.foc hp) w) (Ok.rd2 bin_lss (Ok.ct (by simp; omega) ?_))
    refine Ok.rd g1 (Ok.rd (fld40_0 _ _) (Ok.rd g2 (Ok.rd m1 (Ok.rd (fld112_0 _ _) (Ok.rd m2 (Ok.rd2 bin_sneq ?_))))))
    have hx : (!decide (L[i].1 = L[i].1)) = false := by simp
    refine f_ok hx rfl (f_ok hx rfl (f_ok hx (by rw [g1]; rfl) (f_ok hx (by rw [fld40_1]; rfl) (f_ok hx (by rw [g3]; rfl) (f_ok hx rfl (f_ok hx rfl (f_ok hx (by rw [m1]; rfl) (f_ok hx (by rw [fld112_1]; rfl) (f_ok hx (by rw [m3]; rfl) (f_ok hx (gr2 bin_neq) (pk_f hx (Ok.cf (by simp) ?_))))))))))))
    refine Ok.rd2 (bin_add1 (by omega)) ?_
    refine Ok.mono (ih (i + 1) _ (drw w) F p q hp hq hd (by omega) ?_ ?_ ?_ ?_) ?_
    · exact e0
    · exact e1
    · rfl
    · exact e41
    · rintro x w' ⟨m1, m2, m3⟩
      exact ⟨m1, m2, m3.drw⟩
theorem same_ok {av bv : Value} {L : List Ent} (hI : Ints L) (hl : L.length ≤ 2 ^ 30) {p q : Nat} (hp : F[p]? = some (slH 40 2 encE av L)) (hq : F[q]? = some (slH 112 2 encE bv L)) (hs : Sat w F) :
    Ok (Fn Pg 25 [av, bv] w) fun x w' => x = .bool true ∧ Sat w' F ∧ Sm w w' := by
  rw [F25]; unfold S25
  refine Ok.rd2 (sl_len T37 (hs.foc hp) w) (Ok.rd2 (sl_len T47 (hs.foc hq) w) (Ok.rd2 bin_neq (Ok.cf (by simp) ?_)))
  exact same_loop hI hl L.length 0 _ w F p q hp hq hs (by omega) rfl rfl rfl rfl
end Go.Cb
