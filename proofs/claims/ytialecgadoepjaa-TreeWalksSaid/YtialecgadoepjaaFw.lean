/-
  What is read of the input; few.
-/
import Derived.Test.YtialecgadoepjaaGa
set_option linter.unusedVariables false
set_option linter.unusedSimpArgs false
namespace Go.Cb
variable {w : World} {F G : List HP} {Q : Value → World → Prop}

/-- a part of the heap of which this is to be read. -/
def rdH (φ : World → Prop) : HP := fun h => ∀ w, h.on w → φ w
theorem rdH_get {φ : World → Prop} (hs : Sat w F) (k : Nat) (hk : F[k]? = some (rdH φ)) : φ w := by
  obtain ⟨x, hx, h1, h2, hd, rfl, hA, hF⟩ := hs.foc hk
  exact hA w fun b o hb => hx b o (un_l hb)

theorem fld28_0 (b o : Nat) : fldA Pg 28 (ptr b o) 0 = some (ptr b o) := by kernel_rfl
theorem fld28_1 (b o : Nat) : fldA Pg 28 (ptr b o) 1 = some (ptr b (o + 1)) := by kernel_rfl
theorem fld28_2 (b o : Nat) : fldA Pg 28 (ptr b o) 2 = some (ptr b (o + 2)) := by kernel_rfl
theorem fld28_1' (a : Addr) : fldA Pg 28 (.pointer (some a)) 1 = some (.pointer (some (a.add 1))) := by kernel_rfl
theorem u9 : Pg.underlying 9 = some .string := by kernel_rfl

abbrev Act := Int × ByteArray × Int
abbrev aggA (a : Act) : Value := .agg #[int a.1, .string a.2.1, int a.2.2]

/-- the acts, read. -/
structure ActsF (v : Value) (acts : List Act) (w : World) : Prop where
  at_ : ∀ (i : Nat) (a : Act), acts[i]? = some a → ∃ p : Addr, ixA Pg 22 v (int i) = some (.pointer (some p)) ∧ ldV Pg 28 (.pointer (some p)) w = some (aggA a) ∧ ldV Pg 9 (.pointer (some (p.add 1))) w = some (.string a.2.1)
  len : ∀ (st : Bool) (rt : TypeId) (cs : Array Bool) (w' : World), lenG st Pg .len #[22] rt cs [v] w' = some (int acts.length, w')

theorem few_loop {v : Value} {acts : List Act} (hf : ActsF v acts w) : ∀ (j i : Nat) (e : Env), i + j = 400 → (∀ (k : Nat) (a : Act), k < i → acts[k]? = some a → a.2.1.size ≤ 60) → e 0 = v → e 3 = int i → e 24 = undef →
    Ok (evalLoop (cx11 (Fn Pg) (Rnd Pg)) (cdA Go.Proofs.Try.f11 [1, 0, 1, 0, 0]) (K11_2 (Fn Pg) (Rnd Pg)) e w) fun x w' => (∃ b, x = .bool b ∧ (b = true → acts.length ≤ 200 ∧ ∀ a ∈ acts, a.2.1.size ≤ 60)) ∧ w' = w := by
  intro j
  induction j with
  | zero =>
    intro i e hij hsm e0 e3 e24
    have hi : i = 400 := by omega
    subst hi
    rw [S11_L1_eq]; unfold S11_L1
    rw [e0, e3, e24]
    refine Ok.rd2 (hf.len _ _ _ _) (Ok.rd2 bin_lss ?_)
    have fin : Ok (rd2 (lenG false Pg .len #[22] 3 #[false] [v] w) fun x122 w123 =>
  rd2 (binG false Pg .leq 3 (.tmp 0) (.const .nilFunc) x122 (.int .i64 200) w123) fun x124 w125 =>
  shutK undef w125 fun w126 =>
  some (x124, w126)) fun x w' => (∃ b, x = .bool b ∧ (b = true → acts.length ≤ 200 ∧ ∀ a ∈ acts, a.2.1.size ≤ 60)) ∧ w' = w := by
      refine Ok.rd2 (hf.len _ _ _ _) (Ok.rd2 bin_leq ?_)
      refine ⟨_, _, rfl, ⟨_, rfl, fun hb => ?_⟩, rfl⟩
      have hb : acts.length ≤ 200 := by simp at hb; omega
      refine ⟨hb, fun a ha => ?_⟩
      obtain ⟨k, hk⟩ := List.getElem?_of_mem ha
      have := (List.getElem?_eq_some_iff.1 hk).1
      exact hsm k a (by omega) hk
    cases hx : decide (((400 : Nat) : Int) < (acts.length : Int)) with
    | true =>
      refine t_ok rfl rfl (t_ok rfl (gr2 bin_lss) (pk_t rfl (Ok.cf rfl ?_)))
      exact fin
    | false =>
      refine t_no rfl (t_no rfl (pk_f rfl (Ok.cf rfl ?_)))
      exact fin
  | succ j ih =>
    intro i e hij hsm e0 e3 e24
    rw [S11_L1_eq]; unfold S11_L1
    rw [e0, e3, e24]
    refine Ok.rd2 (hf.len _ _ _ _) (Ok.rd2 bin_lss ?_)
    by_cases hlt : i < acts.length
    · have hx : decide ((i : Int) < (acts.length : Int)) = true := by simp; omega
      refine t_ok hx rfl (t_ok hx (gr2 bin_lss) (pk_t hx (Ok.ct (by simp; omega) ?_)))
      obtain ⟨p, x1, x2, x3⟩ := hf.at_ i _ (List.getElem?_eq_getElem hlt)
      refine Ok.rd x1 (Ok.rd (fld28_1' _) (Ok.rd x3 (Ok.rd2 (len_str u9 _ _) (Ok.rd2 bin_gtr ?_))))
      refine Ok.ci (fun _ => ?_) (fun h60 => ?_)
      · exact ⟨_, _, rfl, ⟨false, rfl, fun hb => by cases hb⟩, rfl⟩
      · refine Ok.rd2 (bin_add1 (by omega)) ?_
        refine ih (i + 1) _ (by omega) ?_ ?_ ?_ ?_
        · intro k a hk ha
          by_cases hki : k = i
          · subst hki
            rw [List.getElem?_eq_getElem hlt] at ha
            injection ha with ha
            subst ha
            have h60 : ¬ ((60 : Int) < _) := of_decide_eq_false h60
            omega
          · exact hsm k a (by omega) ha
        · exact e0
        · rfl
        · exact e24
    · have hx : decide ((i : Int) < (acts.length : Int)) = false := by simp; omega
      refine t_no hx (t_no hx (pk_f hx (Ok.cf rfl ?_)))
      refine Ok.rd2 (hf.len _ _ _ _) (Ok.rd2 bin_leq ?_)
      refine ⟨_, _, rfl, ⟨_, rfl, fun hb => ?_⟩, rfl⟩
      have hb : acts.length ≤ 200 := by simp at hb; omega
      refine ⟨hb, fun a ha => ?_⟩
      obtain ⟨k, hk⟩ := List.getElem?_of_mem ha
      have := (List.getElem?_eq_some_iff.1 hk).1
      exact hsm k a (by omega) hk

theorem few_ok {v : Value} {acts : List Act} (hf : ActsF v acts w) : ∃ b, Fn Pg 11 [v] w = some (.bool b, w) ∧ (b = true → acts.length ≤ 200 ∧ ∀ a ∈ acts, a.2.1.size ≤ 60) := by
  have : Ok (Fn Pg 11 [v] w) fun x w' => (∃ b, x = .bool b ∧ (b = true → acts.length ≤ 200 ∧ ∀ a ∈ acts, a.2.1.size ≤ 60)) ∧ w' = w := by
    rw [F11]; unfold S11
    exact few_loop hf 400 0 _ rfl (fun k a hk => absurd hk (Nat.not_lt_zero _)) rfl rfl rfl
  obtain ⟨x, w', h1, ⟨b, rfl, hb⟩, rfl⟩ := this
  exact ⟨b, h1, hb⟩

end Go.Cb
