import Derived.Test.YtialecgadoepjaaGreatZD
import Derived.Test.YtialecgadoepjaaGreatShR
/-
  The document's chains: right, seen, needed, At.
-/
set_option linter.unusedVariables false
set_option linter.unusedSimpArgs false
set_option maxRecDepth 100000
namespace Go.Cb
open Classical
variable {w w0 : World} {F : List HP} {Q Q' : Value → World → Prop}

instance : Bv 82 [] (.agg #[.slice none 0 0, u64 0, int 0]) := ⟨by kernel_rfl⟩
instance : Bv 137 [] (.agg #[u64 0, .bool false, .slice none 0 0, u64 0, int 0]) := ⟨by kernel_rfl⟩
theorem bareA_iff {a : AV} : bareA a = true ↔ a.size = 0 ∧ a.gen = 0 ∧ a.places = [] := by
  unfold bareA
  simp [and_assoc]
theorem rv_get {K : Hl} {xs : List Ver} {vs : List AV} (hx : Rvs K xs vs) {i : Nat} {a : AV} (ha : vs[i]? = some a) : ∃ x, xs[i]? = some x ∧ Rv K x a := by
  obtain ⟨x, hx'⟩ : ∃ x, xs[i]? = some x := ⟨_, List.getElem?_eq_getElem (by rw [hx.len]; exact (List.getElem?_eq_some_iff.1 ha).1)⟩
  exact ⟨x, hx', hx.at_ i x a hx' ha⟩
/-- versions whose places are few. -/
def PlS (vs : List AV) : Prop := ∀ a ∈ vs, a.places.length ≤ 2 ^ 60

theorem right22_loop {K : Hl} {v : Value} {xs : List Ver} {vs : List AV} (hr : RdS K 43 5 encVer v xs) (hx : Rvs K xs vs) (hp : PlS vs) (hn : vs.length ≤ 2 ^ 60) :
    ∀ (j i : Nat) (e : Env) (w : World), i + j = vs.length → (∀ k, k < i → okA vs k) → e 0 = v → e 3 = int i → e 43 = undef →
      Go w0 (kn K :: F) w (evalLoop (cx151 (Fn Pg) (Rnd Pg)) (cdA Go.Proofs.Tryz.f151 [1, 0, 1, 0, 0]) (K151_2 (Fn Pg) (Rnd Pg)) e w) fun r w' => r = .bool (decide (RightP vs)) ∧ Sat w' (kn K :: F) ∧ Sm w0 w' := by
  intro j
  induction j with
  | zero =>
    intro i e w hij hok e0 e3 e43
    rw [S151_L1_eq]; unfold S151_L1
    rw [e0, e3, e43]
    repeat refine Go.z ?_
    rw [hx.len]
    refine Go.ci (fun h => absurd (of_decide_eq_true h) (by omega)) fun _ => ?_
    repeat refine Go.z ?_
    refine Go.ret fun hs hm => ⟨?_, hs, hm⟩
    have hR : RightP vs := fun k => by
      rcases Nat.lt_or_ge k i with h | h
      · exact hok k h
      · intro a ha
        have := (List.getElem?_eq_some_iff.1 ha).1
        omega
    rw [decide_eq_true hR]
  | succ j ih =>
    intro i e w hij hok e0 e3 e43
    have hi : i < vs.length := by omega
    obtain ⟨a, ha⟩ : ∃ p, vs[i]? = some p := ⟨_, List.getElem?_eq_getElem hi⟩
    obtain ⟨x, hx', hxa⟩ := rv_get hx ha
    obtain ⟨p, g1, k1⟩ := hr.get hx' rfl
    have hpa := hp a (List.mem_of_getElem? ha)
    have fin : ∀ w1 : World, ¬ okA vs i → Go w0 (kn K :: F) w1 (some (.bool false, w1)) fun v w' => v = .bool (decide (RightP vs)) ∧ Sat w' (kn K :: F) ∧ Sm w0 w' := fun w1 hno => Go.ret fun hs hm => ⟨by
      rw [decide_eq_false]
      exact fun h => hno (h i), hs, hm⟩
    have nxt : ∀ (w1 : World) (e' : Env), okA vs i → e' 0 = v → e' 3 = int (i + 1 : Nat) → e' 43 = undef → Go w0 (kn K :: F) w1 (evalLoop (cx151 (Fn Pg) (Rnd Pg)) (cdA Go.Proofs.Tryz.f151 [1, 0, 1, 0, 0]) (K151_2 (Fn Pg) (Rnd Pg)) e' w1) fun r w' => r = .bool (decide (RightP vs)) ∧ Sat w' (kn K :: F) ∧ Sm w0 w' := fun w1 e' ho q0 q3 q43 =>
      ih (i + 1) e' w1 (by omega) (fun k hk => by
        rcases Nat.lt_or_ge k i with h | h
        · exact hok k h
        · have : k = i := by omega
          subst this; exact ho) q0 q3 q43
    have rest : ∀ (w1 : World), (∀ b, 0 < i → vs[i - 1]? = some b → a.st < b.st) → a.dead = true → (okA vs i ↔ bareA a = true) := by
      intro w1 hb hd
      constructor
      · intro h; exact (h a ha).1 hd
      · intro h a' ha'
        rw [ha] at ha'
        injection ha' with ha'
        subst ha'
        exact ⟨fun _ => h, hb⟩
    have rest2 : (∀ b, 0 < i → vs[i - 1]? = some b → a.st < b.st) → a.dead = false → okA vs i := by
      intro hb hd a' ha'
      rw [ha] at ha'
      injection ha' with ha'
      subst ha'
      exact ⟨fun h => (by rw [hd] at h; cases h), hb⟩
    rw [S151_L1_eq]; unfold S151_L1
    rw [e0, e3, e43]
    repeat refine Go.z ?_
    rw [hx.len]
    refine Go.ci (fun _ => ?_) fun h => absurd (of_decide_eq_false h) (by omega)
    repeat refine Go.z ?_
    by_cases h0 : i = 0
    · rw [decide_eq_false (show ¬ (0 : Int) < (i : Int) by omega)]
      have hb : ∀ b, 0 < i → vs[i - 1]? = some b → a.st < b.st := fun b hb => by omega
      repeat refine Go.z ?_
      rw [hxa.dead]
      cases hd : a.dead with
      | false =>
        repeat refine Go.z ?_
        exact nxt _ _ (rest2 hb hd) e0 rfl e43
      | true =>
        repeat refine Go.z ?_
        refine Go.ok fun hs hm => Ok.bind (same77_ok (y := nilV1) (g2 := 0) (z2 := 0) (pb := []) hxa.pl (RdS.nil none 0) hpa hs) ?_
        rintro r w1 ⟨rfl, t1, s1⟩
        refine Ok.go t1 (hm.trans s1) ?_
        rw [hxa.gen, hxa.size]
        cases h4 : decide (a.size = 0 ∧ a.gen = 0 ∧ a.places = []) with
        | false =>
          repeat refine Go.z ?_
          refine fin _ ?_
          rw [rest w hb hd, bareA_iff]
          simpa using h4
        | true =>
          repeat refine Go.z ?_
          refine nxt _ _ ?_ e0 rfl e43
          rw [rest w hb hd, bareA_iff]
          simpa using h4
    · obtain ⟨b, hb'⟩ : ∃ p, vs[i - 1]? = some p := ⟨_, List.getElem?_eq_getElem (by omega)⟩
      obtain ⟨y, hy', hyb⟩ := rv_get hx hb'
      obtain ⟨q, g2, k2⟩ := hr.get hy' rfl
      rw [decide_eq_true (show (0 : Int) < (i : Int) by omega)]
      repeat refine Go.z ?_
      rw [hxa.st, hyb.st]
      cases h1 : decide (b.st ≤ a.st) with
      | true =>
        repeat refine Go.z ?_
        refine fin _ fun h => ?_
        have := (h a ha).2 b (by omega) hb'
        have := of_decide_eq_true h1
        omega
      | false =>
        have hb : ∀ b, 0 < i → vs[i - 1]? = some b → a.st < b.st := fun b2 _ h2 => by
          rw [hb'] at h2
          injection h2 with h2
          subst h2
          have := of_decide_eq_false h1
          omega
        repeat refine Go.z ?_
        rw [hxa.dead]
        cases hd : a.dead with
        | false =>
          repeat refine Go.z ?_
          exact nxt _ _ (rest2 hb hd) e0 rfl e43
        | true =>
          repeat refine Go.z ?_
          refine Go.ok fun hs hm => Ok.bind (same77_ok (y := nilV1) (g2 := 0) (z2 := 0) (pb := []) hxa.pl (RdS.nil none 0) hpa hs) ?_
          rintro r w1 ⟨rfl, t1, s1⟩
          refine Ok.go t1 (hm.trans s1) ?_
          rw [hxa.gen, hxa.size]
          cases h4 : decide (a.size = 0 ∧ a.gen = 0 ∧ a.places = []) with
          | false =>
            repeat refine Go.z ?_
            refine fin _ ?_
            rw [rest w hb hd, bareA_iff]
            simpa using h4
          | true =>
            repeat refine Go.z ?_
            refine nxt _ _ ?_ e0 rfl e43
            rw [rest w hb hd, bareA_iff]
            simpa using h4
theorem right22_ok {K : Hl} {v : Value} {vs : List AV} (hr : Rc K v vs) (hp : PlS vs) (hn : vs.length ≤ 2 ^ 60) (hs : Sat w (kn K :: F)) :
    Ok (Fn Pg 151 [v] w) fun r w' => r = .bool (decide (RightP vs)) ∧ Sat w' (kn K :: F) ∧ Sm w w' := by
  obtain ⟨xs, h1, h2⟩ := hr
  rw [F151]; unfold S151
  refine Ok.go hs (Sm.refl w) ?_
  exact right22_loop h1 h2 hp hn vs.length 0 _ w (by omega) (fun k hk => absurd hk (Nat.not_lt_zero _)) rfl rfl rfl

/-- the place of what is seen; -1: none is. -/
def seenI (vs : List AV) (s : Int) : Int := match vs.findIdx? (fun a => decide (a.st ≤ s)) with
  | some i => i
  | none => -1
theorem seen22_loop {K : Hl} {v : Value} {s : Int} {xs : List Ver} {vs : List AV} (hr : RdS K 43 5 encVer v xs) (hx : Rvs K xs vs) (hn : vs.length ≤ 2 ^ 60) :
    ∀ (j i : Nat) (e : Env) (w : World), i + j = vs.length → (∀ k a, k < i → vs[k]? = some a → ¬ a.st ≤ s) → e 0 = v → e 1 = u64 s → e 5 = int i → e 20 = undef →
      Go w0 (kn K :: F) w (evalLoop (cx207 (Fn Pg) (Rnd Pg)) (cdA Go.Proofs.Tryz.f207 [1, 0, 1, 0, 0]) (K207_2 (Fn Pg) (Rnd Pg)) e w) fun r w' => r = int (seenI vs s) ∧ Sat w' (kn K :: F) ∧ Sm w0 w' := by
  intro j
  induction j with
  | zero =>
    intro i e w hij hok e0 e1 e5 e20
    rw [S207_L1_eq]; unfold S207_L1
    rw [e0, e1, e5, e20]
    repeat refine Go.z ?_
    rw [hx.len]
    refine Go.ci (fun h => absurd (of_decide_eq_true h) (by omega)) fun _ => ?_
    repeat refine Go.z ?_
    refine Go.ret fun hs hm => ⟨?_, hs, hm⟩
    unfold seenI
    rw [List.findIdx?_eq_none_iff.2]
    intro a ha
    obtain ⟨k, hk⟩ := List.getElem?_of_mem ha
    have := (List.getElem?_eq_some_iff.1 hk).1
    exact decide_eq_false (hok k a (by omega) hk)
  | succ j ih =>
    intro i e w hij hok e0 e1 e5 e20
    have hi : i < vs.length := by omega
    obtain ⟨a, ha⟩ : ∃ p, vs[i]? = some p := ⟨_, List.getElem?_eq_getElem hi⟩
    obtain ⟨x, hx', hxa⟩ := rv_get hx ha
    obtain ⟨p, g1, k1⟩ := hr.get hx' rfl
    rw [S207_L1_eq]; unfold S207_L1
    rw [e0, e1, e5, e20]
    repeat refine Go.z ?_
    rw [hx.len]
    refine Go.ci (fun _ => ?_) fun h => absurd (of_decide_eq_false h) (by omega)
    repeat refine Go.z ?_
    rw [hxa.st]
    refine Go.ci (fun h => ?_) fun h => ?_
    · repeat refine Go.z ?_
      refine Go.ret fun hs hm => ⟨?_, hs, hm⟩
      unfold seenI
      have : vs.findIdx? (fun a => decide (a.st ≤ s)) = some i := by
        rw [List.findIdx?_eq_some_iff_getElem]
        refine ⟨hi, ?_, fun k hk => ?_⟩
        · obtain ⟨_, h2⟩ := List.getElem?_eq_some_iff.1 ha
          rw [h2]; exact h
        · have := hok k _ hk (List.getElem?_eq_getElem (by omega))
          simpa using this
      rw [this]
    · repeat refine Go.z ?_
      refine ih (i + 1) _ _ (by omega) (fun k b hk hb => ?_) e0 e1 rfl e20
      rcases Nat.lt_or_ge k i with h2 | h2
      · exact hok k b h2 hb
      · have : k = i := by omega
        subst this
        rw [ha] at hb
        injection hb with hb
        subst hb
        exact of_decide_eq_false h
theorem seen22_ok {K : Hl} {v : Value} {s : Int} {vs : List AV} (hr : Rc K v vs) (hn : vs.length ≤ 2 ^ 60) (hs : Sat w (kn K :: F)) :
    Ok (Fn Pg 207 [v, u64 s] w) fun r w' => r = int (seenI vs s) ∧ Sat w' (kn K :: F) ∧ Sm w w' := by
  obtain ⟨xs, h1, h2⟩ := hr
  rw [F207]; unfold S207
  refine Ok.go hs (Sm.refl w) ?_
  exact seen22_loop h1 h2 hn vs.length 0 _ w (by omega) (fun k a hk => absurd hk (Nat.not_lt_zero _)) rfl rfl rfl rfl

theorem seenI_some {vs : List AV} {s : Int} {i : Nat} (h : seenI vs s = i) : i < vs.length ∧ PlaceP vs s i := by
  unfold seenI at h
  cases hf : vs.findIdx? (fun a => decide (a.st ≤ s)) with
  | none => rw [hf] at h; have h : (-1 : Int) = i := h; omega
  | some k =>
    rw [hf] at h
    have h : (k : Int) = i := h
    have : k = i := by omega
    subst this
    rw [List.findIdx?_eq_some_iff_getElem] at hf
    obtain ⟨h1, h2, h3⟩ := hf
    refine ⟨h1, ⟨by omega, fun j a hj ha => ?_, fun a ha => ?_⟩⟩
    · obtain ⟨_, rfl⟩ := List.getElem?_eq_some_iff.1 ha
      have := h3 j hj
      simp at this
      omega
    · obtain ⟨_, rfl⟩ := List.getElem?_eq_some_iff.1 ha
      simpa using h2
theorem seenI_none {vs : List AV} {s : Int} (h : seenI vs s < 0) : ∀ a ∈ vs, ¬ a.st ≤ s := by
  unfold seenI at h
  cases hf : vs.findIdx? (fun a => decide (a.st ≤ s)) with
  | none =>
    intro a ha
    have := List.findIdx?_eq_none_iff.1 hf a ha
    simpa using this
  | some k => rw [hf] at h; have h : (k : Int) < 0 := h; omega
theorem seenI_cases (vs : List AV) (s : Int) : seenI vs s = -1 ∨ ∃ i : Nat, seenI vs s = i := by
  unfold seenI
  cases vs.findIdx? (fun a => decide (a.st ≤ s)) with
  | none => exact .inl rfl
  | some k => exact .inr ⟨k, rfl⟩

/-! ### needed -/
theorem needed22_loop {K : Hl} {v sv : Value} {i0 : Nat} {vs : List AV} {ss : List Int} (hr : Rc K v vs) (hn : vs.length ≤ 2 ^ 60) (hu : RdS K 37 1 encU sv ss) (hb : ss.length ≤ 2 ^ 60) :
    ∀ (j i : Nat) (e : Env) (w : World), i + j = ss.length → (∀ k s, k < i → ss[k]? = some s → seenI vs s ≠ i0) → e 0 = v → e 1 = int i0 → e 2 = sv → e 7 = int i → e 24 = undef →
      Go w0 (kn K :: F) w (evalLoop (cx152 (Fn Pg) (Rnd Pg)) (cdA Go.Proofs.Tryz.f152 [1, 0, 1, 0, 0]) (K152_2 (Fn Pg) (Rnd Pg)) e w) fun r w' => r = .bool (decide (i0 = 0 ∨ ∃ s ∈ ss, seenI vs s = i0)) ∧ Sat w' (kn K :: F) ∧ Sm w0 w' := by
  intro j
  induction j with
  | zero =>
    intro i e w hij hok e0 e1 e2 e7 e24
    rw [S152_L1_eq]; unfold S152_L1
    rw [e0, e1, e2, e7, e24]
    repeat refine Go.z ?_
    refine Go.ci (fun h => absurd (of_decide_eq_true h) (by omega)) fun _ => ?_
    repeat refine Go.z ?_
    refine Go.ret fun hs hm => ⟨?_, hs, hm⟩
    refine congrArg Value.bool (decide_eq_decide.2 ?_)
    constructor
    · intro h; exact .inl (by omega)
    · rintro (h | ⟨s, hs, h⟩)
      · omega
      · obtain ⟨k, hk⟩ := List.getElem?_of_mem hs
        have := (List.getElem?_eq_some_iff.1 hk).1
        exact absurd h (hok k s (by omega) hk)
  | succ j ih =>
    intro i e w hij hok e0 e1 e2 e7 e24
    have hi : i < ss.length := by omega
    obtain ⟨s, hss⟩ : ∃ p, ss[i]? = some p := ⟨_, List.getElem?_eq_getElem hi⟩
    obtain ⟨p, g1, k1⟩ := hu.get hss rfl
    rw [S152_L1_eq]; unfold S152_L1
    rw [e0, e1, e2, e7, e24]
    repeat refine Go.z ?_
    refine Go.ci (fun _ => ?_) fun h => absurd (of_decide_eq_false h) (by omega)
    repeat refine Go.z ?_
    refine Go.ok fun hs hm => Ok.bind (seen22_ok hr hn hs) ?_
    rintro r w1 ⟨rfl, t1, s1⟩
    refine Ok.go t1 (hm.trans s1) ?_
    repeat refine Go.z ?_
    refine Go.ci (fun h => ?_) fun h => ?_
    · repeat refine Go.z ?_
      refine Go.ret fun hs hm => ⟨?_, hs, hm⟩
      have hd : i0 = 0 ∨ ∃ s ∈ ss, seenI vs s = i0 := .inr ⟨s, List.mem_of_getElem? hss, of_decide_eq_true h⟩
      rw [decide_eq_true hd]
    · repeat refine Go.z ?_
      refine ih (i + 1) _ _ (by omega) (fun k b hk hb => ?_) e0 e1 e2 rfl e24
      rcases Nat.lt_or_ge k i with h2 | h2
      · exact hok k b h2 hb
      · have : k = i := by omega
        subst this
        rw [hss] at hb
        injection hb with hb
        subst hb
        exact of_decide_eq_false h
theorem needed22_ok {K : Hl} {v sv : Value} {i0 : Nat} {vs : List AV} {ss : List Int} (hr : Rc K v vs) (hn : vs.length ≤ 2 ^ 60) (hu : RdS K 37 1 encU sv ss) (hb : ss.length ≤ 2 ^ 60) (hs : Sat w (kn K :: F)) :
    Ok (Fn Pg 152 [v, int i0, sv] w) fun r w' => r = .bool (decide (i0 = 0 ∨ ∃ s ∈ ss, seenI vs s = i0)) ∧ Sat w' (kn K :: F) ∧ Sm w w' := by
  rw [F152]; unfold S152
  refine Ok.go hs (Sm.refl w) ?_
  exact needed22_loop hr hn hu hb ss.length 0 _ w (by omega) (fun k a hk => absurd hk (Nat.not_lt_zero _)) rfl rfl rfl rfl rfl
theorem need_iff {vs : List AV} {ss : List Int} {i0 : Nat} (hi : i0 < vs.length) : (i0 = 0 ∨ ∃ s ∈ ss, seenI vs s = i0) ↔ seenP vs ss i0 := by
  unfold seenP
  refine or_congr Iff.rfl ⟨?_, ?_⟩
  · rintro ⟨s, hs, h⟩
    exact ⟨s, hs, seenI_some h⟩
  · rintro ⟨s, hs, h1, h2⟩
    refine ⟨s, hs, ?_⟩
    rcases seenI_cases vs s with h | ⟨k, h⟩
    · have := seenI_none (by omega : seenI vs s < 0)
      have h3 := h2.here _ (List.getElem?_eq_getElem h1)
      exact absurd h3 (this _ (List.getElem_mem h1))
    · rw [h, place_uniq h2 (seenI_some h).2]

/-! ### At -/
theorem at22_ok {K : Hl} {v : Value} {s : Int} {vs : List AV} (hr : Rc K v vs) (hp : PlS vs) (hn : vs.length ≤ 2 ^ 60) (hs : Sat w (kn K :: F)) :
    Ok (Fn Pg 156 [v, u64 s] w) fun r w' => (∃ x, r = .tuple #[aggV x, .bool (atV vs s).2] ∧ Rv K x (atV vs s).1) ∧ Sat w' (kn K :: F) ∧ Sm w w' := by
  have hr' := hr
  obtain ⟨xs, h1, h2⟩ := hr'
  rw [F156]; unfold S156
  refine Ok.go hs (Sm.refl w) ?_
  refine Go.al fun nb w1 => ?_
  refine Go.ok fun hs hm => Ok.bind (seen22_ok hr hn hs.sw) ?_
  rintro r w2 ⟨rfl, t1, s1⟩
  have t2 : Sat w2 (kn K :: pt nb [u64 0, .bool false, .slice none 0 0, u64 0, int 0] 137 :: F) := t1
  refine Ok.go t2 (hm.trans s1) ?_
  have no : ∀ w3 : World, atV vs s = (zA, false) → Go w (kn K :: pt nb [u64 0, .bool false, .slice none 0 0, u64 0, int 0] 137 :: F) w3 (rd (bldV Pg 137 []) fun x19 => rd2 (rawU Pg (Instr.storeAt 137 (ptr nb 0) x19) w3) fun x21 w20 => rd (ldV Pg 137 (ptr nb 0) w20) fun x22 => some ((.tuple #[x22, (.bool false)]), w20)) fun r w' => (∃ x, r = .tuple #[aggV x, .bool (atV vs s).2] ∧ Rv K x (atV vs s).1) ∧ Sat w' (kn K :: F) ∧ Sm w w' := by
    intro w3 hno
    repeat (first | refine Go.z ?_ | (with_reducible first | (refine Go.bxa  ?_; intro nb w') | (refine Go.bxs  ?_; intro nb w') | (refine Go.al  ?_; intro nb w') | (refine Go.sta (by with_unfolding_all rfl) (by with_unfolding_all rfl) ?_; intro w') | (refine Go.st (by first | with_unfolding_all decide | simp) ?_; intro w')))
    refine Go.ret fun hs hm => ⟨⟨zV, ?_, ?_⟩, (hs.re [1, 0] (by decide)).drop, hm⟩
    · rw [hno]; rfl
    · rw [hno]; exact zRv K
  rcases seenI_cases vs s with h | ⟨i, h⟩
  · rw [h]
    repeat refine Go.z ?_
    refine no _ ?_
    unfold atV
    split
    · have : atA vs s = none := by
        unfold atA
        rw [List.find?_eq_none]
        intro a ha
        have := seenI_none (by omega : seenI vs s < 0) a ha
        simpa using this
      rw [this]
    · rfl
  · rw [h]
    obtain ⟨hi, hpl⟩ := seenI_some h
    obtain ⟨a, ha⟩ : ∃ p, vs[i]? = some p := ⟨_, List.getElem?_eq_getElem hi⟩
    obtain ⟨x, hx', hxa⟩ := rv_get h2 ha
    obtain ⟨p, g1, k1⟩ := h1.get hx' rfl
    repeat refine Go.z ?_
    rw [decide_eq_false (show ¬ (i : Int) < 0 by omega)]
    repeat refine Go.z ?_
    refine Go.ok fun hs hm => Ok.bind (right22_ok hr hp hn hs) ?_
    rintro r w3 ⟨rfl, t1, s1⟩
    refine Ok.go t1 (hm.trans s1) ?_
    cases hR : decide (RightP vs) with
    | false =>
      repeat refine Go.z ?_
      refine no _ ?_
      unfold atV
      rw [if_neg (of_decide_eq_false hR)]
    | true =>
      have hat : atV vs s = (a, true) := by
        unfold atV
        rw [if_pos (of_decide_eq_true hR), at_place hpl, ha]
      repeat refine Go.z ?_
      refine Go.sta (cs := encVer x) (by rfl) (by rfl) fun w4 => ?_
      repeat refine Go.z ?_
      refine Go.ret fun hs hm => ⟨⟨x, by rw [hat], by rw [hat]; exact hxa⟩, (hs.re [1, 0] (by decide)).drop, hm⟩
end Go.Cb

/-
  The document's Prune.
-/
set_option linter.unusedVariables false
set_option linter.unusedSimpArgs false
set_option maxRecDepth 100000
namespace Go.Cb
open Classical
variable {w w0 : World} {F : List HP} {Q Q' : Value → World → Prop}

theorem keptL_congr {vs : List AV} {p q : Nat → Prop} (h : ∀ i, i < vs.length → (p i ↔ q i)) : keptL vs p = keptL vs q := by
  unfold keptL
  congr 1
  refine List.filter_congr fun x hx => ?_
  obtain ⟨a, i⟩ := x
  have := List.mem_zipIdx hx
  exact decide_eq_decide.2 (h i (by have := this.2.1; omega))
theorem keptL_all {vs : List AV} {p : Nat → Prop} (h : ∀ i, i < vs.length → p i) : keptL vs p = vs := by
  unfold keptL
  rw [List.filter_eq_self.2, List.zipIdx_map_fst]
  rintro ⟨a, i⟩ hx
  have := List.mem_zipIdx hx
  exact decide_eq_true (h i (by have := this.2.1; omega))
theorem keptL_no {vs : List AV} {p : Nat → Prop} (h : ∀ i, i < vs.length → ¬ p i) : keptL vs p = [] := by
  unfold keptL
  rw [List.filter_eq_nil_iff.2, List.map_nil]
  rintro ⟨a, i⟩ hx
  have := List.mem_zipIdx hx
  rw [decide_eq_true_iff]
  exact h i (by have := this.2.1; omega)
theorem keptL_cons {a : AV} {r : List AV} {p : Nat → Prop} (h0 : p 0) : keptL (a :: r) p = a :: ((r.zipIdx 1).filter fun x => decide (p x.2)).map (·.1) := by
  unfold keptL
  rw [List.zipIdx_cons, List.filter_cons, if_pos (by simpa using h0), List.map_cons]
theorem keptL_one {vs : List AV} {p : Nat → Prop} (hn : vs ≠ []) (h0 : p 0) : (keptL vs p).length = 1 ↔ ∀ i, i < vs.length → p i → i = 0 := by
  cases vs with
  | nil => exact absurd rfl hn
  | cons a r =>
    rw [keptL_cons h0, List.length_cons, List.length_map]
    constructor
    · intro h i hi hp
      have h : (List.filter (fun x => decide (p x.2)) (r.zipIdx 1)).length = 0 := by omega
      rw [List.length_eq_zero_iff, List.filter_eq_nil_iff] at h
      rcases Nat.eq_zero_or_pos i with h1 | h1
      · exact h1
      · have hi' : i - 1 < r.length := by simp at hi; omega
        have hm : (r[i - 1], 1 + (i - 1)) ∈ r.zipIdx 1 := by
          refine List.mem_of_getElem? (i := i - 1) ?_
          rw [List.getElem?_zipIdx, List.getElem?_eq_getElem hi']; rfl
        have := h _ hm
        rw [decide_eq_true_iff] at this
        exact absurd (by simpa [show 1 + (i - 1) = i by omega] using hp) this
    · intro h
      have : List.filter (fun x => decide (p x.2)) (r.zipIdx 1) = [] := by
        rw [List.filter_eq_nil_iff]
        rintro ⟨b, i⟩ hx
        rw [decide_eq_true_iff]
        intro hp
        have := List.mem_zipIdx hx
        have h3 := h i (by simp; omega) hp
        omega
      rw [this]; rfl
theorem keptL_head {vs : List AV} {p : Nat → Prop} (h0 : p 0) : (keptL vs p)[0]? = vs[0]? := by
  cases vs with
  | nil => rfl
  | cons a r => rw [keptL_cons h0]; rfl
theorem seen0 (vs : List AV) (ss : List Int) : seenP vs ss 0 := .inl rfl

abbrev pkF (K : Hl) (kv dv : Value) (xs ys : List Ver) (F : List HP) : List HP := slH 137 5 encVer kv xs :: slH 137 5 encVer dv ys :: kn K :: F

theorem prune22_loop2 {K K0 : Hl} {v kv dv sv : Value} {a : AV} {ks ds vs : List AV} {ss : List Int} (hl : Le K0 K) (hR : RightP vs) (hr : Rc K v vs) (hk : Rc K kv ks) (hd : Rc K dv ds) (h0 : ks[0]? = some a) (hu : RdS K 37 1 encU sv ss) (hb : ss.length ≤ 2 ^ 60)
    (hno : (¬ ∀ s ∈ ss, ¬ s < a.st) → ks = keptL vs (keepP vs ss) ∧ ds = keptL vs fun i => ¬ keepP vs ss i) (hyes : (∀ s ∈ ss, ¬ s < a.st) → [] = keptL vs (keepP vs ss) ∧ vs = keptL vs fun i => ¬ keepP vs ss i) :
    ∀ (j i : Nat) (e : Env) (w : World), i + j = ss.length → (∀ k s, k < i → ss[k]? = some s → ¬ s < a.st) → e 0 = v → e 1 = sv → e 6 = kv → e 7 = dv → e 9 = int i → e 74 = undef →
      Go w0 (kn K :: F) w (evalLoop (cx72 (Fn Pg) (Rnd Pg)) (cdA Go.Proofs.Tryz.f72 [1, 1, 1, 1, 1, 0, 1, 0, 0]) (K72_4 (Fn Pg) (Rnd Pg)) e w) (PruneQ K0 vs ss F w0) := by
  intro j
  induction j with
  | zero =>
    intro i e w hij hok e0 e1 e6 e7 e9 e74
    rw [S72_L2_eq]; unfold S72_L2
    rw [e0, e1, e6, e7, e9, e74]
    repeat refine Go.z ?_
    refine Go.ci (fun h => absurd (of_decide_eq_true h) (by omega)) fun _ => ?_
    repeat refine Go.z ?_
    have hall : ∀ s ∈ ss, ¬ s < a.st := fun s hs => by
      obtain ⟨k, hk⟩ := List.getElem?_of_mem hs
      have := (List.getElem?_eq_some_iff.1 hk).1
      exact hok k s (by omega) hk
    obtain ⟨q1, q2⟩ := hyes hall
    refine Go.ret fun hs hm => ⟨K, _, v, hl, rfl, ?_, ?_, hs, hm⟩
    · rw [← q1]; exact Rc.nil none 0
    · rw [← q2]; exact hr
  | succ j ih =>
    intro i e w hij hok e0 e1 e6 e7 e9 e74
    have hi : i < ss.length := by omega
    obtain ⟨s, hss⟩ : ∃ p, ss[i]? = some p := ⟨_, List.getElem?_eq_getElem hi⟩
    obtain ⟨p, g1, k1⟩ := hu.get hss rfl
    have hk' := hk
    obtain ⟨xs, h1, h2⟩ := hk'
    obtain ⟨x, hx', hxa⟩ := rv_get h2 h0
    obtain ⟨q, g2, k2⟩ := h1.get hx' rfl
    have g2 : ixA Pg 43 kv (int 0) = some (.pointer (some q)) := g2
    rw [S72_L2_eq]; unfold S72_L2
    rw [e0, e1, e6, e7, e9, e74]
    repeat refine Go.z ?_
    refine Go.ci (fun _ => ?_) fun h => absurd (of_decide_eq_false h) (by omega)
    repeat refine Go.z ?_
    rw [hxa.st]
    refine Go.ci (fun h => ?_) fun h => ?_
    · repeat refine Go.z ?_
      obtain ⟨q1, q2⟩ := hno fun hall => hall s (List.mem_of_getElem? hss) (of_decide_eq_true h)
      refine Go.ret fun hs hm => ⟨K, kv, dv, hl, rfl, ?_, ?_, hs, hm⟩
      · rw [← q1]; exact hk
      · rw [← q2]; exact hd
    · repeat refine Go.z ?_
      refine ih (i + 1) _ _ (by omega) (fun k b hk hb => ?_) e0 e1 e6 e7 rfl e74
      rcases Nat.lt_or_ge k i with h2 | h2
      · exact hok k b h2 hb
      · have : k = i := by omega
        subst this
        rw [hss] at hb
        injection hb with hb
        subst hb
        exact of_decide_eq_false h

theorem prune22_loop {K : Hl} {v sv : Value} {vs : List AV} {ss : List Int} (hR : RightP vs) (hp : PlS vs) (hn : vs.length ≤ 2 ^ 28) (hr : Rc K v vs) (hu : RdS K 37 1 encU sv ss) (hb : ss.length ≤ 2 ^ 60) :
    ∀ (j i : Nat) (xs ys : List Ver) (kv dv : Value) (e : Env) (w : World), i + j = vs.length → Rvs K xs (keptL (vs.take i) (seenP vs ss)) → Rvs K ys (keptL (vs.take i) fun i => ¬ seenP vs ss i) →
      e 0 = v → e 1 = sv → e 6 = kv → e 7 = dv → e 8 = int i → e 74 = undef →
      Go w0 (pkF K kv dv xs ys F) w (evalLoop (cx72 (Fn Pg) (Rnd Pg)) (cdA Go.Proofs.Tryz.f72 [1, 1, 1, 0, 1, 0, 0]) (K72_2 (Fn Pg) (Rnd Pg)) e w) (PruneQ K vs ss F w0) := by
  have hr' := hr
  obtain ⟨zs, hz1, hz2⟩ := hr'
  intro j
  induction j with
  | zero =>
    intro i xs ys kv dv e w hij hxs hys e0 e1 e6 e7 e8 e74
    rw [S72_L1_eq]; unfold S72_L1
    rw [e0, e1, e6, e7, e8, e74]
    have hi : i = vs.length := by omega
    rw [hi, List.take_length] at hxs hys
    repeat refine Go.z ?_
    rw [hz2.len]
    refine Go.ci (fun h => absurd (of_decide_eq_true h) (by omega)) fun _ => ?_
    refine Go.ok fun hs hm => Ok.bind (right22_ok hr hp (by omega) (hs.re [2, 0, 1] (by decide))) ?_
    rintro r w1 ⟨rfl, t1, s1⟩
    have t1 : Sat w1 (kn K :: slH 137 5 encVer kv xs :: slH 137 5 encVer dv ys :: F) := t1
    obtain ⟨K1, l1, r1, t2⟩ := share T76 enVer (t1.re [1, 0] (by decide))
    obtain ⟨K2, l2, r2, t3⟩ := share T76 enVer (t2.re [1, 0] (by decide))
    have t3 : Sat w1 (kn K2 :: F) := t3
    have l12 := l1.trans l2
    have r1' := r1.mono l2
    have hkR : Rc K2 kv (keptL vs (seenP vs ss)) := ⟨xs, r1', hxs.mono l12⟩
    have hdR : Rc K2 dv (keptL vs fun i => ¬ seenP vs ss i) := ⟨ys, r2, hys.mono l12⟩
    refine Ok.go t3 (hm.trans s1) ?_
    rw [decide_eq_true hR]
    repeat refine Go.z ?_
    rw [hxs.len]
    have fin : ∀ w2 : World, ¬ noneP vs ss → Go w0 (kn K2 :: F) w2 (some (.tuple #[kv, dv], w2)) (PruneQ K vs ss F w0) := fun w2 hno => Go.ret fun hs hm => by
      have hq : ∀ i, keepP vs ss i ↔ seenP vs ss i := fun i => by rw [keepP_iff hR]; exact ⟨fun h => h.1, fun h => ⟨h, hno⟩⟩
      refine ⟨K2, kv, dv, l12, rfl, ?_, ?_, hs, hm⟩
      · rw [keptL_congr fun i _ => hq i]; exact hkR
      · rw [keptL_congr fun i _ => not_congr (hq i)]; exact hdR
    cases h1 : (!decide (((keptL vs (seenP vs ss)).length : Int) = 1)) with
    | true =>
      repeat refine Go.z ?_
      refine fin _ fun ⟨a, ha, hd, h3, h4⟩ => ?_
      have hne : vs ≠ [] := by rintro rfl; cases ha
      have := (keptL_one hne (seen0 vs ss)).2 fun i _ h => h3 i h
      rw [this] at h1
      simp at h1
    | false =>
      have h1 : (keptL vs (seenP vs ss)).length = 1 := by simp at h1; omega
      have hne : vs ≠ [] := by rintro rfl; simp [keptL] at h1
      obtain ⟨a, ha⟩ : ∃ a, vs[0]? = some a := ⟨_, List.getElem?_eq_getElem (List.length_pos_iff.2 hne)⟩
      have hka : (keptL vs (seenP vs ss))[0]? = some a := by rw [keptL_head (seen0 vs ss), ha]
      obtain ⟨x, hx', hxa⟩ := rv_get hxs hka
      obtain ⟨q, g2, k2⟩ := r1'.get hx' rfl
      have g2 : ixA Pg 43 kv (int 0) = some (.pointer (some q)) := g2
      repeat refine Go.z ?_
      rw [hxa.dead]
      have h3 : ∀ i, seenP vs ss i → i = 0 := fun i hi => by
        rcases hi with h | ⟨s, hs, hl, hpl⟩
        · exact h
        · exact (keptL_one hne (seen0 vs ss)).1 h1 i hl (.inr ⟨s, hs, hl, hpl⟩)
      cases hd : a.dead with
      | false =>
        repeat refine Go.z ?_
        refine fin _ fun ⟨b, hb, hd', _⟩ => ?_
        rw [ha] at hb
        injection hb with hb
        subst hb
        rw [hd] at hd'; cases hd'
      | true =>
        repeat refine Go.z ?_
        refine prune22_loop2 l12 hR (hr.mono l12) hkR hdR hka (hu.mono l12) hb (fun hno => ?_) (fun hyes => ?_) ss.length 0 _ _ (by omega) (fun k s hk => absurd hk (Nat.not_lt_zero _)) e0 e1 e6 e7 rfl e74
        · have hno : ¬ noneP vs ss := fun ⟨b, hb, _, _, h4⟩ => by
            rw [ha] at hb
            injection hb with hb
            subst hb
            exact hno h4
          have hq : ∀ i, keepP vs ss i ↔ seenP vs ss i := fun i => by rw [keepP_iff hR]; exact ⟨fun h => h.1, fun h => ⟨h, hno⟩⟩
          exact ⟨(keptL_congr fun i _ => hq i).symm, (keptL_congr fun i _ => not_congr (hq i)).symm⟩
        · have hN : noneP vs ss := ⟨a, ha, hd, h3, hyes⟩
          have hq : ∀ i, ¬ keepP vs ss i := fun i => by rw [keepP_iff hR]; exact fun h => h.2 hN
          exact ⟨(keptL_no fun i _ => hq i).symm, (keptL_all fun i _ => hq i).symm⟩
  | succ j ih =>
    intro i xs ys kv dv e w hij hxs hys e0 e1 e6 e7 e8 e74
    have hi : i < vs.length := by omega
    obtain ⟨a, ha⟩ : ∃ p, vs[i]? = some p := ⟨_, List.getElem?_eq_getElem hi⟩
    obtain ⟨x, hx', hxa⟩ := rv_get hz2 ha
    obtain ⟨p, g1, k1⟩ := hz1.get hx' rfl
    have htake : vs.take (i + 1) = vs.take i ++ [a] := by rw [List.take_add_one, ha]; rfl
    have hlt : (vs.take i).length = i := by rw [List.length_take]; omega
    have hxl : xs.length ≤ i := by rw [hxs.len]; exact Nat.le_trans (keptL_len _ _) (by rw [hlt]; exact Nat.le_refl _)
    have hyl : ys.length ≤ i := by rw [hys.len]; exact Nat.le_trans (keptL_len _ _) (by rw [hlt]; exact Nat.le_refl _)
    rw [S72_L1_eq]; unfold S72_L1
    rw [e0, e1, e6, e7, e8, e74]
    repeat refine Go.z ?_
    rw [hz2.len]
    refine Go.ci (fun _ => ?_) fun h => absurd (of_decide_eq_false h) (by omega)
    refine Go.ok fun hs hm => Ok.bind (right22_ok hr hp (by omega) (hs.re [2, 0, 1] (by decide))) ?_
    rintro r w1 ⟨rfl, t1, s1⟩
    rw [decide_eq_true hR]
    refine Ok.go t1 (hm.trans s1) ?_
    repeat refine Go.z ?_
    refine Go.ok fun hs hm => Ok.bind (needed22_ok hr (by omega) hu hb hs) ?_
    rintro r w2 ⟨rfl, t2, s2⟩
    have t2 : Sat w2 (pkF K kv dv xs ys F) := t2.re [1, 2, 0] (by decide)
    refine Ok.go t2 (hm.trans s2) ?_
    have hd : decide (i = 0 ∨ ∃ s ∈ ss, seenI vs s = i) = decide (seenP vs ss i) := decide_eq_decide.2 (need_iff hi)
    rw [hd]
    repeat refine Go.z ?_
    refine Go.ci (fun h => ?_) fun h => ?_
    · have h := of_decide_eq_true h
      repeat refine Go.z ?_
      refine Go.bs1 enVer (by decide) (x := x) rfl fun nb w3 _ => ?_
      refine Go.app enVer (src1 enVer x) (by show xs.length + 1 ≤ _; omega) fun kv2 w4 => ?_
      repeat refine Go.z ?_
      refine Go.dr ?_
      refine ih (i + 1) (xs ++ [x]) ys kv2 dv _ _ (by omega) ?_ ?_ e0 e1 rfl e7 rfl e74
      · rw [htake, keptL_snoc, hlt, if_pos h]
        exact hxs.snoc hxa
      · rw [htake, keptL_snoc, hlt, if_neg (by simpa using h), List.append_nil]
        exact hys
    · have h := of_decide_eq_false h
      repeat refine Go.z ?_
      refine Go.bs1 enVer (by decide) (x := x) rfl fun nb w3 _ => ?_
      refine Go.app enVer (src1 enVer x) (by show ys.length + 1 ≤ _; omega) fun kv2 w4 => ?_
      repeat refine Go.z ?_
      refine Go.dr ?_
      refine ih (i + 1) xs (ys ++ [x]) kv kv2 _ _ (by omega) ?_ ?_ e0 e1 e6 rfl rfl e74
      · rw [htake, keptL_snoc, hlt, if_neg h, List.append_nil]
        exact hxs
      · rw [htake, keptL_snoc, hlt, if_pos h]
        exact hys.snoc hxa
theorem prune22_ok {K : Hl} {v sv : Value} {vs : List AV} {ss : List Int} (hR : RightP vs) (hp : PlS vs) (hn : vs.length ≤ 2 ^ 28) (hr : Rc K v vs) (hu : RdS K 37 1 encU sv ss) (hb : ss.length ≤ 2 ^ 60) (hs : Sat w (kn K :: F)) :
    Ok (Fn Pg 72 [v, sv] w) (PruneQ K vs ss F w) := by
  rw [F72]; unfold S72
  have h6 := slH_nil (T := 137) (k := 5) (enc := encVer) none (slH_nil (T := 137) (k := 5) (enc := encVer) none hs)
  refine Ok.go h6 (Sm.refl w) ?_
  exact prune22_loop hR hp hn hr hu hb vs.length 0 [] [] _ _ _ w (by omega) Rvs.nil Rvs.nil rfl rfl rfl rfl rfl rfl
end Go.Cb

/-
  The document's rows: the same, key, place, versions, set.
-/
set_option linter.unusedVariables false
set_option linter.unusedSimpArgs false
set_option maxRecDepth 100000
namespace Go.Cb
open Classical
variable {w w0 : World} {F : List HP} {Q Q' : Value → World → Prop}

instance : Fl 33 0 0 := ⟨fun _ => by kernel_rfl⟩
instance : Fl 33 1 1 := ⟨fun _ => by kernel_rfl⟩
instance {e : Ent} : Tk (encE e) 0 2 [.string e.1, e.2.1] := ⟨⟨rfl, Nat.le_refl _⟩⟩
instance Stp.nlp {b o : Nat} {κ : Value → R} : Stp F w (Cb.rd (nilV (ptr b o)) κ) (κ (ptr b o)) w := ⟨fun h => Go.nl h⟩

/-! ### SameAll, SameRows -/
theorem sameAll_loop {K : Hl} {v1 v2 : Value} {xs ys : List Ver} {vs us : List AV} (hr : RdS K 43 5 encVer v1 xs) (hr' : RdS K 43 5 encVer v2 ys) (hx : Rvs K xs vs) (hy : Rvs K ys us) (hp : PlS vs) (hl : vs.length = us.length) (hn : vs.length ≤ 2 ^ 60) :
    ∀ (j i : Nat) (e : Env) (w : World), i + j = vs.length → vs.take i = us.take i → e 0 = v1 → e 1 = v2 → e 5 = int i → e 27 = undef →
      Go w0 (kn K :: F) w (evalLoop (cx16 (Fn Pg) (Rnd Pg)) (cdA Go.Proofs.Tryz.f16 [1, 1, 0, 1, 0, 0]) (K16_2 (Fn Pg) (Rnd Pg)) e w) fun r w' => r = .bool (decide (vs = us)) ∧ Sat w' (kn K :: F) ∧ Sm w0 w' := by
  intro j
  induction j with
  | zero =>
    intro i e w hij hok e0 e1 e5 e27
    rw [S16_L1_eq]; unfold S16_L1
    rw [e0, e1, e5, e27]
    repeat refine Go.z ?_
    rw [hx.len]
    refine Go.ci (fun h => absurd (of_decide_eq_true h) (by omega)) fun _ => ?_
    repeat refine Go.z ?_
    refine Go.ret fun hs hm => ⟨?_, hs, hm⟩
    have hi : i = vs.length := by omega
    rw [hi, List.take_length] at hok
    rw [hl, List.take_length] at hok
    rw [decide_eq_true hok]
  | succ j ih =>
    intro i e w hij hok e0 e1 e5 e27
    have hi : i < vs.length := by omega
    obtain ⟨a, ha⟩ : ∃ p, vs[i]? = some p := ⟨_, List.getElem?_eq_getElem hi⟩
    obtain ⟨b, hb⟩ : ∃ p, us[i]? = some p := ⟨_, List.getElem?_eq_getElem (by omega)⟩
    obtain ⟨x, hx', hxa⟩ := rv_get hx ha
    obtain ⟨y, hy', hyb⟩ := rv_get hy hb
    obtain ⟨p, g1, k1⟩ := hr.get hx' rfl
    obtain ⟨q, g2, k2⟩ := hr'.get hy' rfl
    rw [S16_L1_eq]; unfold S16_L1
    rw [e0, e1, e5, e27]
    repeat refine Go.z ?_
    rw [hx.len]
    refine Go.ci (fun _ => ?_) fun h => absurd (of_decide_eq_false h) (by omega)
    repeat refine Go.z ?_
    refine Go.ok fun hs hm => Ok.bind (same42_ok hxa hyb (hp a (List.mem_of_getElem? ha)) hs) ?_
    rintro r w1 ⟨rfl, t1, s1⟩
    refine Ok.go t1 (hm.trans s1) ?_
    cases h1 : decide (a = b) with
    | false =>
      repeat refine Go.z ?_
      refine Go.ret fun hs hm => ⟨?_, hs, hm⟩
      rw [decide_eq_false]
      rintro rfl
      rw [ha] at hb
      injection hb with hb
      exact of_decide_eq_false h1 hb
    | true =>
      repeat refine Go.z ?_
      refine ih (i + 1) _ _ (by omega) ?_ e0 e1 rfl e27
      rw [List.take_add_one, List.take_add_one, hok, ha, hb, of_decide_eq_true h1]
theorem sameAll_ok {K : Hl} {v1 v2 : Value} {vs us : List AV} (hr : Rc K v1 vs) (hr' : Rc K v2 us) (hp : PlS vs) (hn : vs.length ≤ 2 ^ 60) (hs : Sat w (kn K :: F)) :
    Ok (Fn Pg 16 [v1, v2] w) fun r w' => r = .bool (decide (vs = us)) ∧ Sat w' (kn K :: F) ∧ Sm w w' := by
  obtain ⟨xs, h1, h2⟩ := hr
  obtain ⟨ys, h3, h4⟩ := hr'
  rw [F16]; unfold S16
  refine Ok.go hs (Sm.refl w) ?_
  repeat refine Go.z ?_
  rw [h2.len, h4.len]
  refine Go.ci (fun h => ?_) fun h => ?_
  · refine Go.ret fun hs hm => ⟨?_, hs, hm⟩
    rw [decide_eq_false]
    rintro rfl
    simp at h
  · exact sameAll_loop h1 h3 h2 h4 hp (by simp at h; omega) hn vs.length 0 _ w (by omega) (by simp) rfl rfl rfl rfl

theorem rk_get {K : Hl} {xs : List Ent} {X : List KC} (hx : Rks K xs X) {i : Nat} {l : KC} (hl : X[i]? = some l) : ∃ x, xs[i]? = some x ∧ x.1 = l.1 ∧ Rc K x.2.1 l.2 := by
  obtain ⟨x, hx'⟩ : ∃ x, xs[i]? = some x := ⟨_, List.getElem?_eq_getElem (by rw [hx.len]; exact (List.getElem?_eq_some_iff.1 hl).1)⟩
  exact ⟨x, hx', hx.at_ i x l hx' hl⟩
theorem sameRows_loop {K : Hl} {v1 v2 : Value} {xs ys : List Ent} {X Y : List KC} (hr : RdS K 31 2 encE v1 xs) (hr' : RdS K 31 2 encE v2 ys) (hx : Rks K xs X) (hy : Rks K ys Y) (hp : ∀ l ∈ X, PlS l.2 ∧ l.2.length ≤ 2 ^ 60) (hl : X.length = Y.length) (hn : X.length ≤ 2 ^ 60) :
    ∀ (j i : Nat) (e : Env) (w : World), i + j = X.length → X.take i = Y.take i → e 0 = v1 → e 1 = v2 → e 5 = int i → e 42 = undef →
      Go w0 (kn K :: F) w (evalLoop (cx22 (Fn Pg) (Rnd Pg)) (cdA Go.Proofs.Tryz.f22 [1, 1, 0, 1, 0, 0]) (K22_2 (Fn Pg) (Rnd Pg)) e w) fun r w' => r = .bool (decide (X = Y)) ∧ Sat w' (kn K :: F) ∧ Sm w0 w' := by
  intro j
  induction j with
  | zero =>
    intro i e w hij hok e0 e1 e5 e42
    rw [S22_L1_eq]; unfold S22_L1
    rw [e0, e1, e5, e42]
    repeat refine Go.z ?_
    rw [hx.len]
    refine Go.ci (fun h => absurd (of_decide_eq_true h) (by omega)) fun _ => ?_
    repeat refine Go.z ?_
    refine Go.ret fun hs hm => ⟨?_, hs, hm⟩
    have hi : i = X.length := by omega
    rw [hi, List.take_length] at hok
    rw [hl, List.take_length] at hok
    rw [decide_eq_true hok]
  | succ j ih =>
    intro i e w hij hok e0 e1 e5 e42
    have hi : i < X.length := by omega
    obtain ⟨a, ha⟩ : ∃ p, X[i]? = some p := ⟨_, List.getElem?_eq_getElem hi⟩
    obtain ⟨b, hb⟩ : ∃ p, Y[i]? = some p := ⟨_, List.getElem?_eq_getElem (by omega)⟩
    obtain ⟨x, hx', hxk, hxa⟩ := rk_get hx ha
    obtain ⟨y, hy', hyk, hyb⟩ := rk_get hy hb
    obtain ⟨p, g1, k1⟩ := hr.get hx' (by rfl)
    obtain ⟨q, g2, k2⟩ := hr'.get hy' (by rfl)
    have k1 : PtK K p [.string x.1, x.2.1] := k1
    have k2 : PtK K q [.string y.1, y.2.1] := k2
    have hpa := hp a (List.mem_of_getElem? ha)
    have fin : ∀ w1 : World, a ≠ b → Go w0 (kn K :: F) w1 (some (.bool false, w1)) fun v w' => v = .bool (decide (X = Y)) ∧ Sat w' (kn K :: F) ∧ Sm w0 w' := fun w1 hne => Go.ret fun hs hm => ⟨by
      rw [decide_eq_false]
      rintro rfl
      rw [ha] at hb
      injection hb with hb
      exact hne hb, hs, hm⟩
    rw [S22_L1_eq]; unfold S22_L1
    rw [e0, e1, e5, e42]
    repeat refine Go.z ?_
    rw [hx.len]
    refine Go.ci (fun _ => ?_) fun h => absurd (of_decide_eq_false h) (by omega)
    repeat refine Go.z ?_
    rw [hxk, hyk]
    cases h1 : (!decide (a.1 = b.1)) with
    | true =>
      repeat refine Go.z ?_
      refine fin _ fun h => ?_
      subst h
      simp at h1
    | false =>
      repeat refine Go.z ?_
      refine Go.ok fun hs hm => Ok.bind (sameAll_ok hxa hyb hpa.1 hpa.2 hs) ?_
      rintro r w1 ⟨rfl, t1, s1⟩
      refine Ok.go t1 (hm.trans s1) ?_
      cases h2 : decide (a.2 = b.2) with
      | false =>
        repeat refine Go.z ?_
        refine fin _ fun h => ?_
        subst h
        simp at h2
      | true =>
        repeat refine Go.z ?_
        refine ih (i + 1) _ _ (by omega) ?_ e0 e1 rfl e42
        have : a = b := Prod.ext (by simpa using h1) (of_decide_eq_true h2)
        rw [List.take_add_one, List.take_add_one, hok, ha, hb, this]
theorem sameRows_ok {K : Hl} {v1 v2 : Value} {xs ys : List Ent} {X Y : List KC} (hr : RdS K 31 2 encE v1 xs) (hr' : RdS K 31 2 encE v2 ys) (hx : Rks K xs X) (hy : Rks K ys Y) (hp : ∀ l ∈ X, PlS l.2 ∧ l.2.length ≤ 2 ^ 60) (hn : X.length ≤ 2 ^ 60) (hs : Sat w (kn K :: F)) :
    Ok (Fn Pg 22 [v1, v2] w) fun r w' => r = .bool (decide (X = Y)) ∧ Sat w' (kn K :: F) ∧ Sm w w' := by
  rw [F22]; unfold S22
  refine Ok.go hs (Sm.refl w) ?_
  repeat refine Go.z ?_
  rw [hx.len, hy.len]
  refine Go.ci (fun h => ?_) fun h => ?_
  · refine Go.ret fun hs hm => ⟨?_, hs, hm⟩
    rw [decide_eq_false]
    rintro rfl
    simp at h
  · exact sameRows_loop hr hr' hx hy hp (by simp at h; omega) hn X.length 0 _ w (by omega) (by simp) rfl rfl rfl rfl

/-! ### parts of slices that are read -/
def WfS (v : Value) : Prop := ∃ a n c, v = .slice a n c ∧ n ≤ c
theorem rd_pre {K : Hl} {t T k : Nat} {α : Type} {enc : α → List Value} {v : Value} {xs : List α} (hT : SlT Pg t T k) (hE : En enc k) (hr : RdS K t k enc v xs) (hw : WfS v) {hi : Nat} (hh : hi ≤ xs.length) :
    ∃ v', slV Pg t v none (some (int hi)) none = some v' ∧ ∀ w, K.on w → Src w v' (xs.take hi).length k ((xs.take hi).flatMap enc) := by
  obtain ⟨inf, z, hi', hk, _⟩ := hT.i
  obtain ⟨a, n, c, rfl, hc⟩ := hw
  obtain ⟨a', c', he⟩ := hr.sl
  injection he with e1 e2 e3
  subst e1 e2 e3
  refine ⟨_, sl_hi hT.u hi' (by omega), fun w hw => ?_⟩
  rw [List.length_take, Nat.min_eq_left hh]
  rcases hr.src w hw with ⟨c2, h1, h2, h3⟩ | ⟨a2, c2, h1, h2⟩
  · injection h1 with h1
    subst h1
    have : hi = 0 := by omega
    subst this
    exact .inl ⟨_, rfl, rfl, by simp⟩
  · injection h1 with h1
    subst h1
    refine .inr ⟨_, _, rfl, ?_⟩
    obtain ⟨g1, g2⟩ := cellsAt_get' _ _ h2
    have hmul : hi * k ≤ xs.length * k := Nat.mul_le_mul_right k hh
    rw [← flat_take hE.len]
    refine cellsAt_mk' (hi * k) 0 (by rw [List.length_take]; omega) fun j hj => ?_
    rw [List.getElem?_take, if_pos hj]
    exact g2 j (by omega)
theorem rd_suf {K : Hl} {t T k : Nat} {α : Type} {enc : α → List Value} {v : Value} {xs : List α} (hT : SlT Pg t T k) (hE : En enc k) (hr : RdS K t k enc v xs) (hw : WfS v) {lo : Nat} (hh : lo ≤ xs.length) :
    ∃ v', slV Pg t v (some (int lo)) none none = some v' ∧ ∀ w, K.on w → Src w v' (xs.drop lo).length k ((xs.drop lo).flatMap enc) := by
  obtain ⟨inf, z, hi', hk, _⟩ := hT.i
  obtain ⟨a, n, c, rfl, hcw⟩ := hw
  obtain ⟨a', c', he⟩ := hr.sl
  injection he with e1 e2 e3
  subst e1 e2 e3
  refine ⟨_, sl_lo hT.u hi' hh, fun w hw => ?_⟩
  rw [List.length_drop]
  rcases hr.src w hw with ⟨c2, h1, h2, h3⟩ | ⟨a2, c2, h1, h2⟩
  · injection h1 with h1
    subst h1
    refine .inl ⟨_, by split <;> rfl, by omega, ?_⟩
    have : xs = [] := List.length_eq_zero_iff.1 h2
    subst this; simp
  · injection h1 with h1
    subst h1
    obtain ⟨g1, g2⟩ := cellsAt_get' _ _ h2
    have hmul : lo * k ≤ xs.length * k := Nat.mul_le_mul_right k hh
    have hs : (xs.length - lo) * k = xs.length * k - lo * k := Nat.sub_mul _ _ _
    by_cases hc : c = lo
    · have he : xs.length = lo := by omega
      rw [if_pos hc]
      refine .inr ⟨_, _, rfl, ?_⟩
      rw [← he, Nat.sub_self, List.drop_length]; simp [cellsAt]
    · rw [if_neg hc]
      refine .inr ⟨_, _, rfl, ?_⟩
      rw [← flat_drop hE.len]
      refine cellsAt_mk' _ 0 (by rw [List.length_drop]; omega) fun j hj => ?_
      rw [addA, List.getElem?_drop, hk, show lo * k + (0 + j) = 0 + (lo * k + j) by omega]
      exact g2 (lo * k + j) (by omega)
end Go.Cb

/-
  The document's store: place, versions, set.
-/
set_option linter.unusedVariables false
set_option linter.unusedSimpArgs false
set_option maxRecDepth 100000
namespace Go.Cb
open Classical
variable {w w0 : World} {F : List HP} {Q Q' : Value → World → Prop}

/-- a store of a slice that is ours. -/
theorem Go.stS {t b o : Nat} {l : List Value} {T : TypeId} {v : Value} {G : List Value → List HP} {κ2 : Value → World → R} {e k : Nat} {α : Type} {enc : α → List Value} {xs : List α} [h0 : Sc t] [h1 : Bs F b l T G] [h2 : Ss F v e k α enc xs] (ho : o < l.length) (h : ∀ w', Go w0 (G (l.set o v)) w' (κ2 undef w') Q) : Go w0 F w (Cb.rd2 (rawU Pg (Instr.storeAt t (ptr b o) v) w) κ2) Q := fun hs hm => by
  obtain ⟨k, hk, hg⟩ := h1.h
  obtain ⟨j, hj⟩ := h2.h
  obtain ⟨w1, m1, t1, s1⟩ := st_one (P := Pg) (t := t) (sz_of h0.s) hs k hk ho (one_slH hs j hj)
  rw [hg] at t1
  exact Ok.rd2 m1 (h w1 t1 (hm.trans s1))
theorem slH_wf {T k : Nat} {α : Type} {enc : α → List Value} {v : Value} {xs : List α} (hs : Sat w (slH T k enc v xs :: F)) : WfS v := by
  rcases slH_cases hs with ⟨a, rfl, rfl, h⟩ | ⟨b, c, l, rfl, h1, h2, h3, h⟩
  · exact ⟨_, _, _, rfl, Nat.le_refl _⟩
  · exact ⟨_, _, _, rfl, h2⟩

theorem Rks.app {K : Hl} {xs ys : List Ent} {X Y : List KC} (h : Rks K xs X) (h' : Rks K ys Y) : Rks K (xs ++ ys) (X ++ Y) := by
  refine ⟨by simp [h.len, h'.len], fun i x l hx hl => ?_⟩
  rcases Nat.lt_or_ge i xs.length with hi | hi
  · rw [List.getElem?_append_left hi] at hx
    rw [List.getElem?_append_left (by rw [← h.len]; exact hi)] at hl
    exact h.at_ i x l hx hl
  · rw [List.getElem?_append_right hi] at hx
    rw [List.getElem?_append_right (by rw [← h.len]; exact hi), ← h.len] at hl
    exact h'.at_ _ x l hx hl
theorem Rks.take {K : Hl} {xs : List Ent} {X : List KC} (h : Rks K xs X) (n : Nat) : Rks K (xs.take n) (X.take n) := by
  refine ⟨by simp [h.len], fun i x l hx hl => ?_⟩
  rw [List.getElem?_take] at hx hl
  split at hx
  · rename_i hi
    rw [if_pos hi] at hl
    exact h.at_ i x l hx hl
  · cases hx
theorem Rks.drop {K : Hl} {xs : List Ent} {X : List KC} (h : Rks K xs X) (n : Nat) : Rks K (xs.drop n) (X.drop n) := by
  refine ⟨by simp [h.len], fun i x l hx hl => ?_⟩
  rw [List.getElem?_drop] at hx hl
  exact h.at_ _ x l hx hl

/-- rows that lie there. -/
def Rrs (K : Hl) (lv : Value) (X : List KC) : Prop := ∃ xs, RdS K 31 2 encE lv xs ∧ WfS lv ∧ Rks K xs X
theorem Rrs.mono {K K' : Hl} {lv : Value} {X : List KC} (h : Rrs K lv X) (hl : Le K K') : Rrs K' lv X := let ⟨xs, h1, h2, h3⟩ := h; ⟨xs, h1.mono hl, h2, h3.mono hl⟩
theorem Rrs.nil {K : Hl} : Rrs K (.slice none 0 0) [] := ⟨[], RdS.nil none 0, ⟨_, _, _, rfl, Nat.le_refl _⟩, Rks.nil⟩
theorem Rrs.one {K : Hl} {lv : Value} {X : List KC} (h : Rrs K lv X) : Cb.one lv = true := let ⟨xs, h1, h2, h3⟩ := h; h1.one

/-! ### place -/
structure PlK (X : List KC) (k : ByteArray) (i : Nat) (b : Bool) : Prop where
  le : i ≤ X.length
  ahead : ∀ (j : Nat) (x : KC), j < i → X[j]? = some x → kl x.1 k = true
  here : ∀ x, X[i]? = some x → kl x.1 k = false
  had : b = true ↔ ∃ x, X[i]? = some x ∧ x.1 = k
theorem plk_c {c : ByteArray → List AV} {X : List KC} {k : ByteArray} {i : Nat} {b : Bool} (hX : RowsM c X) (h : PlK X k i b) : (b = true → X[i]? = some (k, c k) ∧ c k ≠ []) ∧ (b = false → c k = []) := by
  constructor
  · intro hb
    obtain ⟨x, hx, rfl⟩ := h.had.1 hb
    obtain ⟨h1, h2⟩ := (hX.2 x).1 (List.mem_of_getElem? hx)
    rw [h1]
    exact ⟨hx, h2⟩
  · intro hb
    apply Classical.byContradiction
    intro hne
    obtain ⟨j, x, hj, rfl⟩ := rows_of hX hne
    rcases Nat.lt_trichotomy j i with h1 | h1 | h1
    · have := h.ahead j x h1 hj
      rw [kl_irr] at this; cases this
    · subst h1
      rw [h.had.2 ⟨x, hj, rfl⟩] at hb; cases hb
    · obtain ⟨y, hy⟩ : ∃ y, X[i]? = some y := ⟨_, List.getElem?_eq_getElem (by have := (List.getElem?_eq_some_iff.1 hj).1; omega)⟩
      have h2 := srt_get hX.1 hy hj h1
      rw [h.here y hy] at h2; cases h2

theorem place_loop {K : Hl} {x : Nat} {lv y : Value} {X : List KC} {xs : List Ent} {k : ByteArray} (hr : RdS K 31 2 encE lv xs) (hx : Rks K xs X) (hn : X.length ≤ 2 ^ 60) :
    ∀ (j i : Nat) (e : Env) (w : World), i + j = X.length → (∀ (j : Nat) (x : KC), j < i → X[j]? = some x → kl x.1 k = true) → e 0 = ptr x 0 → e 1 = .string k → e 6 = int i → e 42 = undef →
      Go w0 (kn K :: pt x [lv, y] 33 :: F) w (evalLoop (cx141 (Fn Pg) (Rnd Pg)) (cdA Go.Proofs.Tryz.f141 [1, 0, 1, 0, 0]) (K141_2 (Fn Pg) (Rnd Pg)) e w) fun r w' => (∃ i b, r = .tuple #[int (i : Nat), .bool b] ∧ PlK X k i b) ∧ Sat w' (kn K :: pt x [lv, y] 33 :: F) ∧ Sm w0 w' := by
  intro j
  induction j with
  | zero =>
    intro i e w hij hok e0 e1 e6 e42
    rw [S141_L1_eq]; unfold S141_L1
    rw [e0, e1, e6, e42]
    repeat refine Go.z ?_
    rw [hx.len]
    refine Go.ci (fun h => absurd (of_decide_eq_true h) (by omega)) fun _ => ?_
    repeat refine Go.z ?_
    refine Go.ret fun hs hm => ⟨⟨xs.length, false, rfl, ?_⟩, hs, hm⟩
    rw [hx.len]
    have hi : i = X.length := by omega
    subst hi
    have hno : X[X.length]? = none := List.getElem?_eq_none (Nat.le_refl _)
    exact ⟨Nat.le_refl _, hok, fun x h => (by rw [hno] at h; cases h), ⟨fun h => (by cases h), fun ⟨x, h, _⟩ => (by rw [hno] at h; cases h)⟩⟩
  | succ j ih =>
    intro i e w hij hok e0 e1 e6 e42
    have hi : i < X.length := by omega
    obtain ⟨a, ha⟩ : ∃ p, X[i]? = some p := ⟨_, List.getElem?_eq_getElem hi⟩
    obtain ⟨z, hz, hzk, hza⟩ := rk_get hx ha
    obtain ⟨p, g1, k1⟩ := hr.get hz (by rfl)
    have k1 : PtK K p [.string z.1, z.2.1] := k1
    rw [S141_L1_eq]; unfold S141_L1
    rw [e0, e1, e6, e42]
    repeat refine Go.z ?_
    rw [hx.len]
    refine Go.ci (fun _ => ?_) fun h => absurd (of_decide_eq_false h) (by omega)
    repeat refine Go.z ?_
    rw [hzk]
    refine Go.ci (fun h => ?_) fun h => ?_
    · have h : kl a.1 k = false := by simpa using h
      repeat refine Go.z ?_
      rw [hzk]
      refine Go.ret fun hs hm => ⟨⟨i, _, rfl, ⟨by omega, hok, fun x hx => ?_, ?_⟩⟩, hs, hm⟩
      · rw [ha] at hx
        injection hx with hx
        subst hx; exact h
      · rw [decide_eq_true_iff]
        exact ⟨fun h => ⟨a, ha, h⟩, fun ⟨x, hx, h⟩ => (by rw [ha] at hx; injection hx with hx; subst hx; exact h)⟩
    · have h : kl a.1 k = true := by simpa using h
      repeat refine Go.z ?_
      refine ih (i + 1) _ _ (by omega) (fun j x hj hx => ?_) e0 e1 rfl e42
      rcases Nat.lt_or_ge j i with h2 | h2
      · exact hok j x h2 hx
      · have : j = i := by omega
        subst this
        rw [ha] at hx
        injection hx with hx
        subst hx; exact h
theorem rplace_ok {K : Hl} {x : Nat} {lv y : Value} {X : List KC} {k : ByteArray} (hr : Rrs K lv X) (hn : X.length ≤ 2 ^ 60) (hs : Sat w (kn K :: pt x [lv, y] 33 :: F)) :
    Ok (Fn Pg 141 [ptr x 0, .string k] w) fun r w' => (∃ i b, r = .tuple #[int (i : Nat), .bool b] ∧ PlK X k i b) ∧ Sat w' (kn K :: pt x [lv, y] 33 :: F) ∧ Sm w w' := by
  obtain ⟨xs, h1, h2, h3⟩ := hr
  rw [F141]; unfold S141
  refine Ok.go hs (Sm.refl w) ?_
  exact place_loop h1 h3 hn X.length 0 _ w (by omega) (fun j x hj => absurd hj (Nat.not_lt_zero _)) rfl rfl rfl rfl

theorem rversions_ok {K : Hl} {x : Nat} {lv y : Value} {X : List KC} {c : ByteArray → List AV} {k : ByteArray} (hr : Rrs K lv X) (hX : RowsM c X) (hn : X.length ≤ 2 ^ 60) (hs : Sat w (kn K :: pt x [lv, y] 33 :: F)) :
    Ok (Fn Pg 67 [ptr x 0, .string k] w) fun r w' => Rc K r (c k) ∧ Sat w' (kn K :: pt x [lv, y] 33 :: F) ∧ Sm w w' := by
  have hr' := hr
  obtain ⟨xs, h1, h2, h3⟩ := hr'
  rw [F67]; unfold S67
  refine Ok.bind (rplace_ok hr hn hs) ?_
  rintro r w1 ⟨⟨i, b, rfl, hp⟩, t1, s1⟩
  obtain ⟨g1, g2⟩ := plk_c hX hp
  refine Ok.go t1 s1 ?_
  repeat refine Go.z ?_
  cases b with
  | false =>
    repeat refine Go.z ?_
    refine Go.ret fun hs hm => ⟨?_, hs, hm⟩
    rw [g2 rfl]; exact Rc.nil none 0
  | true =>
    obtain ⟨g3, g4⟩ := g1 rfl
    obtain ⟨z, hz, hzk, hza⟩ := rk_get h3 g3
    obtain ⟨p, q1, k1⟩ := h1.get hz (by rfl)
    have k1 : PtK K p [.string z.1, z.2.1] := k1
    repeat refine Go.z ?_
    exact Go.ret fun hs hm => ⟨hza, hs, hm⟩

/-! ### set -/
theorem rowsM_set {c : ByteArray → List AV} {X : List KC} {k : ByteArray} {l : List AV} {i : Nat} {b : Bool} (hX : RowsM c X) (hp : PlK X k i b) : RowsM (setC c k l) (X.take i ++ (if l = [] then [] else [(k, l)]) ++ X.drop (if b then i + 1 else i)) := by
  have hD : ∀ x ∈ X.drop (if b then i + 1 else i), kl k x.1 = true ∧ x ∈ X := by
    intro x hx
    refine ⟨?_, List.mem_of_mem_drop hx⟩
    obtain ⟨j, hj⟩ := List.getElem?_of_mem hx
    rw [List.getElem?_drop] at hj
    have hlen := (List.getElem?_eq_some_iff.1 hj).1
    obtain ⟨y, hy⟩ : ∃ y, X[i]? = some y := ⟨_, List.getElem?_eq_getElem (by split at hlen <;> omega)⟩
    have hyk := hp.here y hy
    cases b with
    | true =>
      obtain ⟨y', hy', hk⟩ := hp.had.1 rfl
      have := srt_get hX.1 hy' hj (by simp; omega)
      rw [hk] at this; exact this
    | false =>
      have hne : y.1 ≠ k := fun h => by
        have := hp.had.2 ⟨y, hy, h⟩
        cases this
      have h1 : kl k y.1 = true := kl_gt hyk hne
      rcases Nat.eq_zero_or_pos j with h2 | h2
      · subst h2
        simp at hj
        rw [hy] at hj
        injection hj with hj
        subst hj; exact h1
      · exact kl_tr h1 (srt_get hX.1 hy hj (by simp; omega))
  have hT : ∀ x ∈ X.take i, kl x.1 k = true ∧ x ∈ X := by
    intro x hx
    refine ⟨?_, List.mem_of_mem_take hx⟩
    obtain ⟨j, hj⟩ := List.getElem?_of_mem hx
    rw [List.getElem?_take] at hj
    split at hj
    · exact hp.ahead j x (by assumption) hj
    · cases hj
  have hM : ∀ x ∈ (if l = [] then [] else [(k, l)] : List KC), x = (k, l) ∧ l ≠ [] := by
    intro x hx
    split at hx
    · cases hx
    · exact ⟨by simpa using hx, by assumption⟩
  constructor
  · unfold SrtK
    refine List.pairwise_append.2 ⟨List.pairwise_append.2 ⟨hX.1.sublist (List.take_sublist _ _), ?_, fun x hx y hy => ?_⟩, hX.1.sublist (List.drop_sublist _ _), fun x hx y hy => ?_⟩
    · split
      · exact .nil
      · exact List.pairwise_singleton _ _
    · rw [(hM y hy).1]; exact (hT x hx).1
    · rcases List.mem_append.1 hx with hx | hx
      · exact kl_tr (hT x hx).1 (hD y hy).1
      · rw [(hM x hx).1]; exact (hD y hy).1
  · intro x
    rw [List.mem_append, List.mem_append]
    unfold setC
    constructor
    · rintro ((h | h) | h)
      · obtain ⟨h1, h2⟩ := hT x h
        rw [if_neg (kl_ne h1)]
        exact (hX.2 x).1 h2
      · obtain ⟨rfl, h2⟩ := hM x h
        rw [if_pos rfl]; exact ⟨rfl, h2⟩
      · obtain ⟨h1, h2⟩ := hD x h
        rw [if_neg (kl_ne h1).symm]
        exact (hX.2 x).1 h2
    · rintro ⟨h1, h2⟩
      by_cases hk : x.1 = k
      · rw [if_pos hk] at h1
        refine .inl (.inr ?_)
        rw [if_neg (by rw [h1]; exact h2)]
        rw [List.mem_singleton]
        exact Prod.ext hk h1.symm
      · rw [if_neg hk] at h1
        have hx := (hX.2 x).2 ⟨h1, h2⟩
        obtain ⟨j, hj⟩ := List.getElem?_of_mem hx
        rcases Nat.lt_or_ge j i with h3 | h3
        · exact .inl (.inl (List.mem_of_getElem? (i := j) (by rw [List.getElem?_take, if_pos h3, hj])))
        · refine .inr (List.mem_of_getElem? (i := j - (if b then i + 1 else i)) ?_)
          rw [List.getElem?_drop]
          have : (if b then i + 1 else i) ≤ j := by
            cases b with
            | false => simpa using h3
            | true =>
              obtain ⟨y, hy, hyk⟩ := hp.had.1 rfl
              simp
              rcases Nat.lt_or_ge i j with h4 | h4
              · exact h4
              · have : j = i := by omega
                subst this
                rw [hj] at hy
                injection hy with hy
                subst hy
                exact absurd hyk hk
          rw [show (if b then i + 1 else i) + (j - (if b then i + 1 else i)) = j by omega, hj]

theorem rset_ok {K : Hl} {x : Nat} {lv v : Value} {last : Int} {X : List KC} {c : ByteArray → List AV} {k : ByteArray} {l : List AV} (hr : Rrs K lv X) (hX : RowsM c X) (hl : Rc K v l) (hn : X.length ≤ 2 ^ 29) (hs : Sat w (kn K :: pt x [lv, u64 last] 33 :: F)) :
    Ok (Fn Pg 66 [ptr x 0, .string k, v] w) fun r w' => r = .tuple #[] ∧ (∃ K' lv' X', Le K K' ∧ Rrs K' lv' X' ∧ RowsM (setC c k l) X' ∧ X'.length ≤ X.length + 1 ∧ Sat w' (kn K' :: pt x [lv', u64 last] 33 :: F)) ∧ Sm w w' := by
  have hr' := hr
  obtain ⟨xs, h1, h2, h3⟩ := hr'
  have hl' := hl
  obtain ⟨zs, hz1, hz2⟩ := hl'
  have hv1 := hl.one
  rw [F66]; unfold S66
  refine Ok.bind (rplace_ok hr (by omega) hs) ?_
  rintro r w1 ⟨⟨i, b, rfl, hp⟩, t1, s1⟩
  have hset := rowsM_set (l := l) hX hp
  have hlen : (X.take i ++ (if l = [] then [] else [(k, l)]) ++ X.drop (if b then i + 1 else i)).length ≤ X.length + 1 := by
    have := hp.le
    rw [List.length_append, List.length_append, List.length_take, List.length_drop]
    split <;> split <;> simp <;> omega
  have hile : i ≤ xs.length := by rw [h3.len]; exact hp.le
  have hxl := h3.len
  obtain ⟨pv, f1, f2⟩ := rd_pre T71 enE h1 h2 hile
  have fb : bldV Pg 159 [(0, .string k), (1, v)] = some (.agg #[.string k, v]) := by
    obtain ⟨a, c, rfl⟩ := hl.sl
    exact bld80_2 _ _ _ _
  have fin : ∀ (w2 : World) (u : Value) (ys : List Ent) (j : Nat), (j = if b then i + 1 else i) → ys = xs.take i ++ (if l = [] then [] else [((k, ⟨v, hv1⟩) : Ent)]) ++ xs.drop j → Sat w2 (kn K :: pt x [u, u64 last] 33 :: slH 159 2 encE u ys :: F) → Sm w w2 → Ok (some (.tuple #[], w2)) fun r w' => r = .tuple #[] ∧ (∃ K' lv' X', Le K K' ∧ Rrs K' lv' X' ∧ RowsM (setC c k l) X' ∧ X'.length ≤ X.length + 1 ∧ Sat w' (kn K' :: pt x [lv', u64 last] 33 :: F)) ∧ Sm w w' := by
    intro w2 u ys j hj hys hs hm
    have hw := slH_wf (hs.re [2, 0, 1] (by decide))
    obtain ⟨K1, l1, r1, t2⟩ := share T71 enE (hs.re [2, 0, 1] (by decide))
    have t2 : Sat w2 (kn K1 :: pt x [u, u64 last] 33 :: F) := t2
    refine ⟨_, _, rfl, rfl, ⟨K1, u, _, l1, ⟨ys, r1, hw, ?_⟩, hset, hlen, t2⟩, hm⟩
    rw [hys, ← hj]
    refine ((h3.take i).app ?_).app (h3.drop j) |>.mono l1
    split
    · exact Rks.nil
    · exact Rks.nil.snoc (x := (k, ⟨v, hv1⟩)) (l := (k, l)) rfl hl
  refine Ok.go t1 s1 ?_
  repeat refine Go.z ?_
  refine Go.bs0 encE fun a0 w2 => ?_
  repeat refine Go.z ?_
  refine Go.app enE (fun hs => f2 _ hs.kn) (by simp; omega) fun a1 w3 => ?_
  repeat refine Go.z ?_
  rw [hz2.len]
  have hsuf : ∀ j, j ≤ xs.length → ∃ v', slV Pg 31 lv (some (int j)) none none = some v' ∧ ∀ w, K.on w → Src w v' (xs.drop j).length 2 ((xs.drop j).flatMap encE) := fun j hj => rd_suf T71 enE h1 h2 hj
  by_cases hl0 : l = []
  · rw [decide_eq_false (by rw [hl0]; simp)]
    rw [if_pos hl0] at fin
    repeat refine Go.z ?_
    cases b with
    | true =>
      have hi1 : i + 1 ≤ xs.length := by
        obtain ⟨y, hy, _⟩ := hp.had.1 rfl
        have := (List.getElem?_eq_some_iff.1 hy).1
        omega
      obtain ⟨sv, q1, q2⟩ := hsuf (i + 1) hi1
      repeat refine Go.z ?_
      refine Go.app enE (fun hs => q2 _ hs.kn) (by simp; omega) fun a2 w4 => ?_
      repeat refine Go.z ?_
      refine Go.stS (by simp) fun w5 => ?_
      refine Go.ok fun hs hm => ?_
      exact fin w5 a2 _ (i + 1) rfl (by simp) (hs.re [1, 2, 0] (by decide)) hm
    | false =>
      obtain ⟨sv, q1, q2⟩ := hsuf i hile
      repeat refine Go.z ?_
      refine Go.app enE (fun hs => q2 _ hs.kn) (by simp; omega) fun a2 w4 => ?_
      repeat refine Go.z ?_
      refine Go.stS (by simp) fun w5 => ?_
      refine Go.ok fun hs hm => ?_
      exact fin w5 a2 _ i rfl (by simp) (hs.re [1, 2, 0] (by decide)) hm
  · rw [decide_eq_true (by have := List.length_pos_iff.2 hl0; omega)]
    rw [if_neg hl0] at fin
    repeat refine Go.z ?_
    refine Go.bs1 enE (by decide) (x := (k, ⟨v, hv1⟩)) rfl fun nb w4 _ => ?_
    refine Go.app enE (src1 enE ((k, ⟨v, hv1⟩) : Ent)) (by simp; omega) fun a2 w5 => ?_
    repeat refine Go.z ?_
    cases b with
    | true =>
      have hi1 : i + 1 ≤ xs.length := by
        obtain ⟨y, hy, _⟩ := hp.had.1 rfl
        have := (List.getElem?_eq_some_iff.1 hy).1
        omega
      obtain ⟨sv, q1, q2⟩ := hsuf (i + 1) hi1
      repeat refine Go.z ?_
      refine Go.app enE (fun hs => q2 _ hs.kn) (by simp; omega) fun a3 w6 => ?_
      repeat refine Go.z ?_
      refine Go.stS (by simp) fun w7 => ?_
      refine Go.ok fun hs hm => ?_
      exact fin w7 a3 ([] ++ xs.take i ++ [(k, Subtype.mk v hv1)] ++ xs.drop (i + 1)) (i + 1) rfl (by simp) (hs.drop.re [1, 2, 0] (by decide)) hm
    | false =>
      obtain ⟨sv, q1, q2⟩ := hsuf i hile
      repeat refine Go.z ?_
      refine Go.app enE (fun hs => q2 _ hs.kn) (by simp; omega) fun a3 w6 => ?_
      repeat refine Go.z ?_
      refine Go.stS (by simp) fun w7 => ?_
      refine Go.ok fun hs hm => ?_
      exact fin w7 a3 ([] ++ xs.take i ++ [(k, Subtype.mk v hv1)] ++ xs.drop i) i rfl (by simp) (hs.drop.re [1, 2, 0] (by decide)) hm
end Go.Cb

/-
  What the document's store tells: key, Read, Newest, In, Scan, Versions, Live.
-/
set_option linter.unusedVariables false
set_option linter.unusedSimpArgs false
set_option maxRecDepth 100000
namespace Go.Cb
open Classical
variable {w w0 : World} {F : List HP} {Q Q' : Value → World → Prop}

theorem rkey_ok {k : ByteArray} : Fn Pg 65 [.string k] w = some (.bool (decide (keyR k)), w) := by
  have : Ok (Fn Pg 65 [.string k] w) fun v w' => v = .bool (decide (keyR k)) ∧ w' = w := by
    rw [F65]; unfold S65
    refine Ok.rd2 (len_str u9s _ _) (Ok.rd2 bin_geq ?_)
    by_cases h0 : 1 ≤ k.size
    · refine t_ok (decide_eq_true (by omega)) rfl (t_ok (decide_eq_true (by omega)) (gr2 (len_str u9s _ _)) (t_ok (decide_eq_true (by omega)) (gr2 bin_leq) ?_))
      refine pk_t (decide_eq_true (by omega)) ⟨_, _, rfl, ?_, rfl⟩
      refine congrArg Value.bool ?_
      rw [decide_eq_decide]
      unfold keyR
      omega
    · refine t_no (decide_eq_false (by omega)) (t_no (decide_eq_false (by omega)) (t_no (decide_eq_false (by omega)) ?_))
      refine pk_f (decide_eq_false (by omega)) ⟨_, _, rfl, ?_, rfl⟩
      rw [decide_eq_false]
      unfold keyR
      omega
  obtain ⟨v, w', h1, rfl, rfl⟩ := this
  exact h1

abbrev rsF (K : Hl) (x : Nat) (lv y : Value) (F : List HP) : List HP := kn K :: pt x [lv, y] 33 :: F

theorem rread_ok {K : Hl} {x : Nat} {lv y : Value} {X : List KC} {c : ByteArray → List AV} {n : Nat} {k : ByteArray} {s : Int} (hr : Rrs K lv X) (hX : RowsM c X) (hb : Bd c n) (hn : n ≤ 2 ^ 28) (hl : X.length ≤ 2 ^ 29) (hs : Sat w (rsF K x lv y F)) :
    Ok (Fn Pg 79 [ptr x 0, .string k, u64 s] w) fun r w' => (∃ z, r = .tuple #[aggV z, .bool (atV (c k) s).2] ∧ Rv K z (atV (c k) s).1) ∧ Sat w' (rsF K x lv y F) ∧ Sm w w' := by
  rw [F79]; unfold S79
  refine Ok.go hs (Sm.refl w) ?_
  refine Go.al fun nb w1 => ?_
  refine Go.ok fun hs hm => Ok.bind (rversions_ok hr hX (by omega) (hs.re [1, 2, 0] (by decide))) ?_
  rintro r w2 ⟨hrc, t1, s1⟩
  have t1 : Sat w2 (kn K :: pt x [lv, y] 33 :: pt nb [u64 0, .bool false, .slice none 0 0, u64 0, int 0] 137 :: F) := t1
  have hlen := hb.len k
  refine Ok.bind (at22_ok (s := s) hrc (fun a ha => by have := hb.pl k a ha; omega) (by omega) t1) ?_
  rintro r w3 ⟨⟨z, rfl, hz⟩, t2, s2⟩
  refine Ok.go t2 (hm.trans (s1.trans s2)) ?_
  repeat refine Go.z ?_
  refine Go.sta (cs := encVer z) (by rfl) (by rfl) fun w4 => ?_
  repeat refine Go.z ?_
  exact Go.ret fun hs hm => ⟨⟨z, rfl, hz⟩, (hs.re [2, 0, 1] (by decide)).drop, hm⟩

theorem rnewest_ok {K : Hl} {x : Nat} {lv y : Value} {X : List KC} {c : ByteArray → List AV} {n : Nat} {k : ByteArray} (hR : RightP (c k)) (hr : Rrs K lv X) (hX : RowsM c X) (hb : Bd c n) (hn : n ≤ 2 ^ 28) (hl : X.length ≤ 2 ^ 29) (hs : Sat w (rsF K x lv y F)) :
    Ok (Fn Pg 81 [ptr x 0, .string k] w) fun r w' => (∃ z, r = .tuple #[aggV z, .bool (newV (c k)).2] ∧ Rv K z (newV (c k)).1) ∧ Sat w' (rsF K x lv y F) ∧ Sm w w' := by
  rw [F81]; unfold S81
  refine Ok.go hs (Sm.refl w) ?_
  refine Go.al fun nb w1 => ?_
  refine Go.ok fun hs hm => Ok.bind (rversions_ok hr hX (by omega) (hs.re [1, 2, 0] (by decide))) ?_
  rintro r w2 ⟨hrc, t1, s1⟩
  have t1 : Sat w2 (kn K :: pt x [lv, y] 33 :: pt nb [u64 0, .bool false, .slice none 0 0, u64 0, int 0] 137 :: F) := t1
  have hlen := hb.len k
  obtain ⟨zs, hz1, hz2⟩ := hrc
  refine Ok.go t1 (hm.trans s1) ?_
  repeat refine Go.z ?_
  rw [hz2.len]
  unfold newV
  cases h0 : (c k)[0]? with
  | none =>
    have hc : c k = [] := by
      rw [List.getElem?_eq_none_iff] at h0
      exact List.length_eq_zero_iff.1 (by omega)
    rw [decide_eq_true (by rw [hc]; rfl)]
    repeat (first | refine Go.z ?_ | (with_reducible first | (refine Go.bxa  ?_; intro nb w') | (refine Go.bxs  ?_; intro nb w') | (refine Go.al  ?_; intro nb w') | (refine Go.sta (by with_unfolding_all rfl) (by with_unfolding_all rfl) ?_; intro w') | (refine Go.st (by first | with_unfolding_all decide | simp) ?_; intro w')))
    exact Go.ret fun hs hm => ⟨⟨zV, rfl, zRv K⟩, (hs.re [2, 0, 1] (by decide)).drop, hm⟩
  | some a =>
    obtain ⟨z, hz, hza⟩ := rv_get hz2 h0
    obtain ⟨p, g1, k1⟩ := hz1.get hz rfl
    have g1 : ixA Pg 43 r (int 0) = some (.pointer (some p)) := g1
    have hlt := (List.getElem?_eq_some_iff.1 h0).1
    rw [decide_eq_false (by omega)]
    repeat refine Go.z ?_
    refine Go.sta (cs := encVer z) (by rfl) (by rfl) fun w4 => ?_
    repeat refine Go.z ?_
    have hat : atV (c k) a.st = (a, true) := by
      unfold atV
      rw [if_pos hR, atA_head h0 (Int.le_refl _)]
    exact Go.ret fun hs hm => ⟨⟨z, by show _ = Value.tuple #[aggV z, .bool (atV (c k) a.st).2]; rw [hat], by show Rv K z (atV (c k) a.st).1; rw [hat]; exact hza⟩, (hs.re [2, 0, 1] (by decide)).drop, hm⟩

theorem rin_ok {f t k : ByteArray} (hs : Sat w F) : Ok (Fn Pg 157 [.agg #[.string f, .string t], .string k] w) fun v w' => v = .bool (inB f t k) ∧ Sat w' F ∧ Sm w w' := by
  rw [F157]; unfold S157
  refine Ok.go hs (Sm.refl w) ?_
  refine Go.bxa (l := [.string f, .string t]) fun nb w1 => ?_
  repeat refine Go.z ?_
  have hi : inB f t k = (!kl k f && (decide (t = { data := #[] }) || kl k t)) := rfl
  rw [hi]
  cases h1 : kl k f with
  | true =>
    repeat refine Go.z ?_
    exact Go.ret fun hs hm => ⟨rfl, hs.drop, hm⟩
  | false =>
    repeat refine Go.z ?_
    cases h2 : decide (t = { data := #[] }) with
    | true =>
      repeat refine Go.z ?_
      exact Go.ret fun hs hm => ⟨rfl, hs.drop, hm⟩
    | false =>
      repeat refine Go.z ?_
      exact Go.ret fun hs hm => ⟨by simp, hs.drop, hm⟩

/-! ### Scan -/
theorem found_snoc {s : Int} {X : List KC} {x : KC} : foundL s (X ++ [x]) = foundL s X ++ (if (valV x.2 s).2 = true then [(x.1, (valV x.2 s).1)] else []) := by
  unfold foundL
  rw [List.filterMap_append]
  congr 1
  rw [List.filterMap_cons, List.filterMap_nil]
  split
  · rename_i h
    split at h
    · cases h
    · rename_i h2; rw [if_neg h2]
  · rename_i y h
    split at h
    · injection h with h
      rename_i h2
      rw [if_pos h2, h]
    · cases h
noncomputable def fndX (s : Int) (f t : ByteArray) (X : List KC) : List (ByteArray × AV) := foundL s (X.filter fun x => inB f t x.1)
theorem fndX_snoc {s : Int} {f t : ByteArray} {X : List KC} {x : KC} : fndX s f t (X ++ [x]) = fndX s f t X ++ (if inB f t x.1 = true ∧ (valV x.2 s).2 = true then [(x.1, (valV x.2 s).1)] else []) := by
  unfold fndX
  rw [List.filter_append]
  by_cases h : inB f t x.1 = true
  · rw [List.filter_cons_of_pos (by simpa using h), List.filter_nil, found_snoc]
    simp [h]
  · rw [List.filter_cons_of_neg (by simpa using h), List.filter_nil, List.append_nil]
    simp [h]
theorem fndX_app {s : Int} {f t : ByteArray} {X Y : List KC} : fndX s f t (X ++ Y) = fndX s f t X ++ fndX s f t Y := by
  unfold fndX foundL
  rw [List.filter_append, List.filterMap_append]
theorem fndX_len {s : Int} {f t : ByteArray} {X : List KC} : (fndX s f t X).length ≤ X.length := by
  unfold fndX foundL
  exact Nat.le_trans (List.length_filterMap_le _ _) (List.length_filter_le _ _)

theorem rscan_loop {K : Hl} {x pb : Nat} {lv y : Value} {X : List KC} {c : ByteArray → List AV} {n : Nat} {f t : ByteArray} {s m : Int} {xs : List Ent} (hw : WfS lv) (hr : RdS K 31 2 encE lv xs) (hx : Rks K xs X) (hX : RowsM c X) (hb : Bd c n) (hn : n ≤ 2 ^ 28) (hl : X.length ≤ 2 ^ 28) :
    ∀ (j i : Nat) (ys : List Fv) (ov : Value) (e : Env) (w : World) (F : List HP), i + j = X.length → Rfs K ys (fndX s f t (X.take i)) → (fndX s f t (X.take i)).length ≤ m.toNat → e 0 = ptr x 0 → e 2 = u64 s → e 3 = int m → e 5 = ptr pb 0 → e 9 = ov → e 10 = int i → e 75 = undef →
      Go w0 (slH 84 6 encFv ov ys :: kn K :: pt x [lv, y] 33 :: pt pb [.string f, .string t] 25 :: F) w (evalLoop (cx83 (Fn Pg) (Rnd Pg)) (cdA Go.Proofs.Tryz.f83 [1, 1, 0, 1, 0, 0]) (K83_2 (Fn Pg) (Rnd Pg)) e w) fun r w' => (∃ K' ys, Le K K' ∧ RdS K' 87 6 encFv r ys ∧ Rfs K' ys ((fndX s f t X).take m.toNat) ∧ Sat w' (rsF K' x lv y (pt pb [.string f, .string t] 25 :: F))) ∧ Sm w0 w' := by
  intro j
  have fin : ∀ (i : Nat) (ys : List Fv) (ov : Value) (w : World) (F : List HP), Rfs K ys (fndX s f t (X.take i)) → fndX s f t (X.take i) = (fndX s f t X).take m.toNat → Go w0 (slH 84 6 encFv ov ys :: kn K :: pt x [lv, y] 33 :: pt pb [.string f, .string t] 25 :: F) w (some (ov, w)) fun r w' => (∃ K' ys, Le K K' ∧ RdS K' 87 6 encFv r ys ∧ Rfs K' ys ((fndX s f t X).take m.toNat) ∧ Sat w' (rsF K' x lv y (pt pb [.string f, .string t] 25 :: F))) ∧ Sm w0 w' := by
    intro i ys ov w F hys he
    refine Go.ret fun hs hm => ⟨?_, hm⟩
    obtain ⟨K1, l1, r1, t1⟩ := share T73 enFv hs
    exact ⟨K1, ys, l1, r1, by rw [← he]; exact hys.mono l1, t1⟩
  induction j with
  | zero =>
    intro i ys ov e w F hij hys hlm e0 e2 e3 e5 e9 e10 e75
    rw [S83_L1_eq]; unfold S83_L1
    rw [e0, e2, e3, e5, e9, e10, e75]
    repeat refine Go.z ?_
    rw [hx.len]
    rw [decide_eq_false (show ¬ (i : Int) < (X.length : Int) by omega)]
    repeat refine Go.z ?_
    have hi : i = X.length := by omega
    refine fin i ys ov w F hys ?_
    rw [hi, List.take_length] at hlm ⊢
    rw [List.take_of_length_le hlm]
  | succ j ih =>
    intro i ys ov e w F hij hys hlm e0 e2 e3 e5 e9 e10 e75
    have hi : i < X.length := by omega
    obtain ⟨a, ha⟩ : ∃ p, X[i]? = some p := ⟨_, List.getElem?_eq_getElem hi⟩
    obtain ⟨z, hz, hzk, hza⟩ := rk_get hx ha
    obtain ⟨p, g1, k1⟩ := hr.get hz (by rfl)
    have k1 : PtK K p [.string a.1, z.2.1] := by rw [← hzk]; exact k1
    obtain ⟨hca, hne⟩ := (hX.2 a).1 (List.mem_of_getElem? ha)
    have htake : X.take (i + 1) = X.take i ++ [a] := by rw [List.take_add_one, ha]; rfl
    have hyl : ys.length ≤ i := by
      rw [hys.len]
      refine Nat.le_trans fndX_len ?_
      rw [List.length_take]; omega
    rw [S83_L1_eq]; unfold S83_L1
    rw [e0, e2, e3, e5, e9, e10, e75]
    repeat refine Go.z ?_
    rw [hx.len]
    rw [decide_eq_true (show (i : Int) < (X.length : Int) by omega)]
    repeat refine Go.z ?_
    rw [hys.len]
    refine Go.ci (fun h => ?_) fun h => ?_
    · have hlt := of_decide_eq_true h
      repeat refine Go.z ?_
      refine Go.ok fun hs hm => Ok.bind (rread_ok (s := s) ⟨xs, hr, hw, hx⟩ hX hb hn (by omega) (hs.re [1, 2, 0] (by decide))) ?_
      rw [hca]
      rintro r w1 ⟨⟨v, rfl, hv⟩, t1, s1⟩
      have t1 : Sat w1 (slH 84 6 encFv ov ys :: kn K :: pt x [lv, y] 33 :: pt pb [.string f, .string t] 25 :: F) := t1.re [2, 0, 1] (by decide)
      refine Ok.go t1 (hm.trans s1) ?_
      repeat refine Go.z ?_
      refine Go.al fun nb w2 => ?_
      refine Go.sta (cs := encVer v) (by rfl) (by rfl) fun w3 => ?_
      have skip : ∀ (w4 : World) (e' : Env), ¬ (inB f t a.1 = true ∧ (valV a.2 s).2 = true) → e' 0 = ptr x 0 → e' 2 = u64 s → e' 3 = int m → e' 5 = ptr pb 0 → e' 9 = ov → e' 10 = int (i + 1 : Nat) → e' 75 = undef →
          Go w0 (pt nb (encVer v) 137 :: slH 84 6 encFv ov ys :: kn K :: pt x [lv, y] 33 :: pt pb [.string f, .string t] 25 :: F) w4 (evalLoop (cx83 (Fn Pg) (Rnd Pg)) (cdA Go.Proofs.Tryz.f83 [1, 1, 0, 1, 0, 0]) (K83_2 (Fn Pg) (Rnd Pg)) e' w4) fun r w' => (∃ K' ys, Le K K' ∧ RdS K' 87 6 encFv r ys ∧ Rfs K' ys ((fndX s f t X).take m.toNat) ∧ Sat w' (rsF K' x lv y (pt pb [.string f, .string t] 25 :: F))) ∧ Sm w0 w' := by
        intro w4 e' hno q0 q2 q3 q5 q9 q10 q75
        have he : fndX s f t (X.take (i + 1)) = fndX s f t (X.take i) := by rw [htake, fndX_snoc, if_neg hno, List.append_nil]
        refine Go.dr ?_
        exact ih (i + 1) ys ov e' w4 F (by omega) (by rw [he]; exact hys) (by rw [he]; exact hlm) q0 q2 q3 q5 q9 q10 q75
      have hval : valV a.2 s = if (atV a.2 s).2 = true ∧ (atV a.2 s).1.dead = false then ((atV a.2 s).1, true) else (zA, false) := rfl
      cases h1 : (atV a.2 s).2 with
      | false =>
        repeat refine Go.z ?_
        exact skip _ _ (fun h => by rw [hval, h1] at h; simp at h) e0 e2 e3 e5 e9 rfl e75
      | true =>
        repeat refine Go.z ?_
        rw [hv.dead]
        cases h2 : (atV a.2 s).1.dead with
        | true =>
          repeat refine Go.z ?_
          exact skip _ _ (fun h => by rw [hval, h1, h2] at h; simp at h) e0 e2 e3 e5 e9 rfl e75
        | false =>
          have hval : valV a.2 s = ((atV a.2 s).1, true) := by rw [hval, h1, h2]; simp
          repeat refine Go.z ?_
          refine Go.ok fun hs hm => Ok.bind (rin_ok hs) ?_
          rintro r w4 ⟨rfl, t2, s2⟩
          refine Ok.go t2 (hm.trans s2) ?_
          cases h3 : inB f t a.1 with
          | false =>
            repeat refine Go.z ?_
            exact skip _ _ (fun h => by rw [h3] at h; simp at h) e0 e2 e3 e5 e9 rfl e75
          | true =>
            have fb : bldV Pg 84 [(0, .string a.1), (3, .agg #[v.pv.1, u64 v.gen, int v.size])] = some (.agg #[.string a.1, .bool false, .slice none 0 0, v.pv.1, u64 v.gen, int v.size]) := by
              obtain ⟨q, cc, hq⟩ := hv.pl.sl
              rw [hq]
              exact bld134_2 _ _ _ _ _ _
            repeat refine Go.z ?_
            refine Go.bs1 enFv (by decide) (x := ⟨a.1, v.pv, v.gen, v.size⟩) rfl fun nb2 w5 _ => ?_
            refine Go.app enFv (src1 enFv (⟨a.1, v.pv, v.gen, v.size⟩ : Fv)) (by simp; omega) fun ov2 w6 => ?_
            repeat refine Go.z ?_
            refine Go.dr (Go.dr ?_)
            have he : fndX s f t (X.take (i + 1)) = fndX s f t (X.take i) ++ [(a.1, (atV a.2 s).1)] := by rw [htake, fndX_snoc, if_pos ⟨h3, by rw [hval]⟩, hval]
            refine ih (i + 1) _ ov2 _ w6 F (by omega) ?_ ?_ e0 e2 e3 e5 rfl rfl e75
            · rw [he]
              exact hys.snoc ⟨rfl, hv.gen, hv.size, hv.pl⟩
            · rw [he, List.length_append, List.length_singleton]; omega
    · have hge := of_decide_eq_false h
      repeat refine Go.z ?_
      refine fin i ys ov w F hys ?_
      have h1 : (fndX s f t (X.take i)).length = m.toNat := by omega
      have h2 : fndX s f t X = fndX s f t (X.take i) ++ fndX s f t (X.drop i) := by rw [← fndX_app, List.take_append_drop]
      rw [h2, ← h1, List.take_left']
      rfl
theorem rscan_ok {K : Hl} {x : Nat} {lv y : Value} {X : List KC} {c : ByteArray → List AV} {n : Nat} {f t : ByteArray} {s m : Int} (hr : Rrs K lv X) (hX : RowsM c X) (hb : Bd c n) (hn : n ≤ 2 ^ 28) (hl : X.length ≤ 2 ^ 28) (hs : Sat w (rsF K x lv y F)) :
    Ok (Fn Pg 83 [ptr x 0, .agg #[.string f, .string t], u64 s, int m] w) fun r w' => (∃ K' ys, Le K K' ∧ RdS K' 87 6 encFv r ys ∧ Rfs K' ys ((fndX s f t X).take m.toNat) ∧ Sat w' (rsF K' x lv y F)) ∧ Sm w w' := by
  obtain ⟨xs, h1, h2, h3⟩ := hr
  rw [F83]; unfold S83
  refine Ok.go hs (Sm.refl w) ?_
  refine Go.bxa (l := [.string f, .string t]) fun pb w1 => ?_
  refine Go.ok fun hs hm => ?_
  have t1 : Sat w1 (slH 84 6 encFv (.slice none 0 0) [] :: kn K :: pt x [lv, y] 33 :: pt pb [.string f, .string t] 25 :: F) := slH_nil none (hs.re [1, 2, 0] (by decide))
  refine Ok.go t1 hm ?_
  have h0 : fndX s f t (X.take 0) = [] := by rw [List.take_zero]; rfl
  refine Go.mono (rscan_loop h2 h1 h3 hX hb hn hl X.length 0 [] _ _ w1 F (by omega) (by rw [h0]; exact Rfs.nil) (by rw [h0]; simp) rfl rfl rfl rfl rfl rfl rfl) ?_
  rintro r w2 ⟨⟨K1, ys, l1, g1, g2, g3⟩, g4⟩
  exact ⟨⟨K1, ys, l1, g1, g2, (g3.re [2, 0, 1] (by decide)).drop⟩, g4⟩

/-! ### Versions, Live -/
theorem sumW_snoc {wt : List AV → Nat} {X : List KC} {x : KC} : sumW wt (X ++ [x]) = sumW wt X + wt x.2 := by
  unfold sumW
  rw [List.map_append, List.sum_append]; simp
theorem rvers_loop {K : Hl} {x : Nat} {lv y : Value} {X : List KC} {xs : List Ent} (hr : RdS K 31 2 encE lv xs) (hx : Rks K xs X) (hb : ∀ l ∈ X, l.2.length ≤ 2 ^ 28) (hl : X.length ≤ 2 ^ 28) :
    ∀ (j i a : Nat) (e : Env) (w : World), i + j = X.length → a = sumW List.length (X.take i) → a ≤ i * 2 ^ 28 → e 0 = ptr x 0 → e 3 = int a → e 4 = int i → e 26 = undef →
      Go w0 (rsF K x lv y F) w (evalLoop (cx84 (Fn Pg) (Rnd Pg)) (cdA Go.Proofs.Tryz.f84 [1, 1, 0, 1, 0, 0]) (K84_2 (Fn Pg) (Rnd Pg)) e w) fun r w' => r = int (sumW List.length X) ∧ Sat w' (rsF K x lv y F) ∧ Sm w0 w' := by
  intro j
  induction j with
  | zero =>
    intro i a e w hij ha hab e0 e3 e4 e26
    rw [S84_L1_eq]; unfold S84_L1
    rw [e0, e3, e4, e26]
    repeat refine Go.z ?_
    rw [hx.len]
    refine Go.ci (fun h => absurd (of_decide_eq_true h) (by omega)) fun _ => ?_
    repeat refine Go.z ?_
    refine Go.ret fun hs hm => ⟨?_, hs, hm⟩
    rw [ha, show i = X.length by omega, List.take_length]
  | succ j ih =>
    intro i a e w hij ha hab e0 e3 e4 e26
    have hi : i < X.length := by omega
    obtain ⟨l, hl'⟩ : ∃ p, X[i]? = some p := ⟨_, List.getElem?_eq_getElem hi⟩
    obtain ⟨z, hz, hzk, hza⟩ := rk_get hx hl'
    obtain ⟨p, g1, k1⟩ := hr.get hz (by rfl)
    have k1 : PtK K p [.string z.1, z.2.1] := k1
    have hbl := hb l (List.mem_of_getElem? hl')
    obtain ⟨zs, hz1, hz2⟩ := hza
    have hzl := hz2.len
    have htake : X.take (i + 1) = X.take i ++ [l] := by rw [List.take_add_one, hl']; rfl
    rw [S84_L1_eq]; unfold S84_L1
    rw [e0, e3, e4, e26]
    repeat refine Go.z ?_
    rw [hx.len]
    refine Go.ci (fun _ => ?_) fun h => absurd (of_decide_eq_false h) (by omega)
    repeat refine Go.z ?_
    refine ih (i + 1) (a + zs.length) _ w (by omega) ?_ (by omega) e0 rfl rfl e26
    rw [htake, sumW_snoc, ← ha, hzl]
theorem rvers_ok {K : Hl} {x : Nat} {lv y : Value} {X : List KC} (hr : Rrs K lv X) (hb : ∀ l ∈ X, l.2.length ≤ 2 ^ 28) (hl : X.length ≤ 2 ^ 28) (hs : Sat w (rsF K x lv y F)) :
    Ok (Fn Pg 84 [ptr x 0] w) fun r w' => r = int (sumW List.length X) ∧ Sat w' (rsF K x lv y F) ∧ Sm w w' := by
  obtain ⟨xs, h1, h2, h3⟩ := hr
  rw [F84]; unfold S84
  refine Ok.go hs (Sm.refl w) ?_
  exact rvers_loop h1 h3 hb hl X.length 0 0 _ w (by omega) (by rw [List.take_zero]; rfl) (by omega) rfl rfl rfl rfl
theorem rlive_loop {K : Hl} {x : Nat} {lv y : Value} {X : List KC} {xs : List Ent} (hr : RdS K 31 2 encE lv xs) (hx : Rks K xs X) (hb : ∀ l ∈ X, l.2 ≠ []) (hl : X.length ≤ 2 ^ 28) :
    ∀ (j i a : Nat) (e : Env) (w : World), i + j = X.length → a = sumW liveN (X.take i) → a ≤ i → e 0 = ptr x 0 → e 3 = int a → e 4 = int i → e 29 = undef →
      Go w0 (rsF K x lv y F) w (evalLoop (cx85 (Fn Pg) (Rnd Pg)) (cdA Go.Proofs.Tryz.f85 [1, 1, 0, 1, 0, 0]) (K85_2 (Fn Pg) (Rnd Pg)) e w) fun r w' => r = int (sumW liveN X) ∧ Sat w' (rsF K x lv y F) ∧ Sm w0 w' := by
  intro j
  induction j with
  | zero =>
    intro i a e w hij ha hab e0 e3 e4 e29
    rw [S85_L1_eq]; unfold S85_L1
    rw [e0, e3, e4, e29]
    repeat refine Go.z ?_
    rw [hx.len]
    refine Go.ci (fun h => absurd (of_decide_eq_true h) (by omega)) fun _ => ?_
    repeat refine Go.z ?_
    refine Go.ret fun hs hm => ⟨?_, hs, hm⟩
    rw [ha, show i = X.length by omega, List.take_length]
  | succ j ih =>
    intro i a e w hij ha hab e0 e3 e4 e29
    have hi : i < X.length := by omega
    obtain ⟨l, hl'⟩ : ∃ p, X[i]? = some p := ⟨_, List.getElem?_eq_getElem hi⟩
    obtain ⟨z, hz, hzk, hza⟩ := rk_get hx hl'
    obtain ⟨p, g1, k1⟩ := hr.get hz (by rfl)
    have k1 : PtK K p [.string z.1, z.2.1] := k1
    obtain ⟨zs, hz1, hz2⟩ := hza
    obtain ⟨b, r, hbr⟩ := List.exists_cons_of_ne_nil (hb l (List.mem_of_getElem? hl'))
    obtain ⟨u, hu, hub⟩ := rv_get hz2 (i := 0) (a := b) (by rw [hbr]; rfl)
    obtain ⟨q, g2, k2⟩ := hz1.get hu rfl
    have g2 : ixA Pg 43 z.2.1 (int 0) = some (.pointer (some q)) := g2
    have htake : X.take (i + 1) = X.take i ++ [l] := by rw [List.take_add_one, hl']; rfl
    have hlv : liveN l.2 = if b.dead then 0 else 1 := by rw [hbr]; rfl
    rw [S85_L1_eq]; unfold S85_L1
    rw [e0, e3, e4, e29]
    repeat refine Go.z ?_
    rw [hx.len]
    refine Go.ci (fun _ => ?_) fun h => absurd (of_decide_eq_false h) (by omega)
    repeat refine Go.z ?_
    rw [hub.dead]
    cases hd : b.dead with
    | true =>
      repeat refine Go.z ?_
      refine ih (i + 1) a _ w (by omega) ?_ (by omega) e0 e3 rfl e29
      rw [htake, sumW_snoc, ← ha, hlv, hd]; rfl
    | false =>
      repeat refine Go.z ?_
      refine ih (i + 1) (a + 1) _ w (by omega) ?_ (by omega) e0 rfl rfl e29
      rw [htake, sumW_snoc, ← ha, hlv, hd]; rfl
theorem rlive_ok {K : Hl} {x : Nat} {lv y : Value} {X : List KC} (hr : Rrs K lv X) (hb : ∀ l ∈ X, l.2 ≠ []) (hl : X.length ≤ 2 ^ 28) (hs : Sat w (rsF K x lv y F)) :
    Ok (Fn Pg 85 [ptr x 0] w) fun r w' => r = int (sumW liveN X) ∧ Sat w' (rsF K x lv y F) ∧ Sm w w' := by
  obtain ⟨xs, h1, h2, h3⟩ := hr
  rw [F85]; unfold S85
  refine Ok.go hs (Sm.refl w) ?_
  exact rlive_loop h1 h3 hb hl X.length 0 0 _ w (by omega) (by rw [List.take_zero]; rfl) (by omega) rfl rfl rfl rfl
end Go.Cb

/-
  What the document's store does: Vacuum, Apply.
-/
set_option linter.unusedVariables false
set_option linter.unusedSimpArgs false
set_option maxRecDepth 100000
namespace Go.Cb
open Classical
variable {w w0 : World} {F : List HP} {Q Q' : Value → World → Prop}

instance : Ze 135 [.string { data := #[] }, .bool false, .slice none 0 0, u64 0, int 0] := ⟨by kernel_rfl⟩
theorem Go.bsH {t e k : Nat} {α : Type} {enc : α → List Value} {κ2 : Value → World → R} [h0 : Sls t e k] (hE : En enc k) (hk : k ≤ 1000) {x : α} {v : Value} (hv : v.cells.toList = enc x) (h : ∀ u w', Go w0 (slH e k enc u [x] :: F) w' (κ2 u w') Q) :
    Go w0 F w (Cb.rd2 (rawV Pg (Instr.buildSlice t 1 #[(0, v)]) w) κ2) Q := by
  refine Go.bs1 hE hk (x := x) hv fun nb w' _ => ?_
  refine fun hs hm => h _ w' (slH_mk (xs := [x]) rfl ?_ (Nat.le_refl 1) ?_ hs) hm
  · rw [hE.len, Nat.one_mul]
  · simp [hE.len, List.take_of_length_le]

/-! ### Vacuum -/
def RvQ (K : Hl) (x : Nat) (y lv : Value) (X : List KC) (c : ByteArray → List AV) (after : ByteArray) (ss : List Int) (F : List HP) (w : World) (v : Value) (w' : World) : Prop :=
  ((∀ l ∈ X, kl after l.1 = false) ∧ v = .tuple #[.string noB, .slice none 0 0, .bool true] ∧ Sat w' (rsF K x lv y F) ∧ Sm w w') ∨
    ∃ i k, X[i]? = some (k, c k) ∧ kl after k = true ∧ (∀ (j : Nat) (l : KC), j < i → X[j]? = some l → kl after l.1 = false) ∧ ∃ K' dv lv' X', Le K K' ∧ v = .tuple #[.string k, dv, .bool false] ∧ Rc K' dv (keptL (c k) fun i => ¬ keepP (c k) ss i) ∧ Rrs K' lv' X' ∧ RowsM (setC c k (keptL (c k) (keepP (c k) ss))) X' ∧ X'.length ≤ X.length + 1 ∧ Sat w' (rsF K' x lv' y F) ∧ Sm w w'

theorem rvac_loop {K : Hl} {x n : Nat} {lv sv : Value} {last : Int} {X : List KC} {c : ByteArray → List AV} {after : ByteArray} {ss : List Int} {xs : List Ent} (hw : WfS lv) (hr : RdS K 31 2 encE lv xs) (hx : Rks K xs X) (hX : RowsM c X) (hg : ∀ k, RightP (c k)) (hb : Bd c n) (hn : n ≤ 2 ^ 28) (hl : X.length ≤ 2 ^ 28) (hu : RdS K 37 1 encU sv ss) (hsl : ss.length ≤ 2 ^ 60) :
    ∀ (j i : Nat) (e : Env) (w : World), i + j = X.length → (∀ (j : Nat) (l : KC), j < i → X[j]? = some l → kl after l.1 = false) → e 0 = ptr x 0 → e 1 = .string after → e 2 = sv → e 9 = int i → e 52 = undef →
      Go w0 (rsF K x lv (u64 last) F) w (evalLoop (cx15 (Fn Pg) (Rnd Pg)) (cdA Go.Proofs.Tryz.f15 [1, 0, 1, 0, 0]) (K15_2 (Fn Pg) (Rnd Pg)) e w) (RvQ K x (u64 last) lv X c after ss F w0) := by
  intro j
  induction j with
  | zero =>
    intro i e w hij hok e0 e1 e2 e9 e52
    rw [S15_L1_eq]; unfold S15_L1
    rw [e0, e1, e2, e9, e52]
    repeat refine Go.z ?_
    rw [hx.len]
    refine Go.ci (fun h => absurd (of_decide_eq_true h) (by omega)) fun _ => ?_
    repeat refine Go.z ?_
    refine Go.ret fun hs hm => Or.inl ⟨fun l hl => ?_, rfl, hs, hm⟩
    obtain ⟨k, hk⟩ := List.getElem?_of_mem hl
    have := (List.getElem?_eq_some_iff.1 hk).1
    exact hok k l (by omega) hk
  | succ j ih =>
    intro i e w hij hok e0 e1 e2 e9 e52
    have hi : i < X.length := by omega
    obtain ⟨a, ha⟩ : ∃ p, X[i]? = some p := ⟨_, List.getElem?_eq_getElem hi⟩
    obtain ⟨z, hz, hzk, hza⟩ := rk_get hx ha
    obtain ⟨p, g1, k1⟩ := hr.get hz (by rfl)
    have k1 : PtK K p [.string a.1, z.2.1] := by rw [← hzk]; exact k1
    obtain ⟨hca, hne⟩ := (hX.2 a).1 (List.mem_of_getElem? ha)
    rw [S15_L1_eq]; unfold S15_L1
    rw [e0, e1, e2, e9, e52]
    repeat refine Go.z ?_
    rw [hx.len]
    refine Go.ci (fun _ => ?_) fun h => absurd (of_decide_eq_false h) (by omega)
    repeat refine Go.z ?_
    cases h1 : kl after a.1 with
    | true =>
      repeat refine Go.z ?_
      rw [← hca] at hza
      have hlen := hb.len a.1
      refine Go.ok fun hs hm => Ok.bind (prune22_ok (hg a.1) (fun b hb' => by have := hb.pl _ b hb'; omega) (by omega) hza hu hsl hs) ?_
      rintro r w1 ⟨K1, kv, dv, l1, rfl, hk1, hd1, t1, s1⟩
      refine Ok.go t1 (hm.trans s1) ?_
      repeat refine Go.z ?_
      refine Go.ok fun hs hm => Ok.bind (rset_ok (Rrs.mono ⟨xs, hr, hw, hx⟩ l1) hX hk1 (by omega) hs) ?_
      rintro r w2 ⟨rfl, ⟨K2, lv2, X2, l2, hr2, hX2, hX2l, t2⟩, s2⟩
      refine Ok.go t2 (hm.trans s2) ?_
      repeat refine Go.z ?_
      have haa : (a.1, c a.1) = a := Prod.ext rfl hca
      refine Go.ret fun hs hm => Or.inr ⟨i, a.1, by rw [haa]; exact ha, h1, hok, K2, dv, lv2, X2, l1.trans l2, rfl, hd1.mono l2, hr2, hX2, hX2l, hs, hm⟩
    | false =>
      repeat refine Go.z ?_
      refine ih (i + 1) _ w (by omega) (fun j l hj hl => ?_) e0 e1 e2 rfl e52
      rcases Nat.lt_or_ge j i with h2 | h2
      · exact hok j l h2 hl
      · have : j = i := by omega
        subst this
        rw [ha] at hl
        injection hl with hl
        subst hl; exact h1
theorem rvac_ok {K : Hl} {x n : Nat} {lv sv : Value} {last : Int} {X : List KC} {c : ByteArray → List AV} {after : ByteArray} {ss : List Int} (hr : Rrs K lv X) (hX : RowsM c X) (hg : ∀ k, RightP (c k)) (hb : Bd c n) (hn : n ≤ 2 ^ 28) (hl : X.length ≤ 2 ^ 28) (hu : RdS K 37 1 encU sv ss) (hsl : ss.length ≤ 2 ^ 60) (hs : Sat w (rsF K x lv (u64 last) F)) :
    Ok (Fn Pg 15 [ptr x 0, .string after, sv] w) (RvQ K x (u64 last) lv X c after ss F w) := by
  obtain ⟨xs, h1, h2, h3⟩ := hr
  rw [F15]; unfold S15
  refine Ok.go hs (Sm.refl w) ?_
  exact rvac_loop h2 h1 h3 hX hg hb hn hl hu hsl X.length 0 _ w (by omega) (fun j l hj => absurd hj (Nat.not_lt_zero _)) rfl rfl rfl rfl rfl

/-! ### Apply -/
def okG (gs : List (ByteArray × AV)) (i : Nat) : Prop := ∀ a, gs[i]? = some a → keyR a.1 ∧ (∀ b, 0 < i → gs[i - 1]? = some b → kl b.1 a.1 = true) ∧ (a.2.dead = true → bareA a.2 = true)
theorem okCh_of {c : ByteArray → List AV} {gs : List (ByteArray × AV)} (hR : ∀ a ∈ gs, RightP (a.2 :: c a.1)) (hg : ∀ i, okG gs i) :
    ∀ (j i : Nat) (p : ByteArray), i + j = gs.length → (∀ a, gs[i]? = some a → kl p a.1 = true) → okCh c p (gs.drop i)
  | 0, i, p, h, _ => by rw [List.drop_eq_nil_of_le (by omega)]; trivial
  | j + 1, i, p, h, hp => by
    obtain ⟨a, ha⟩ : ∃ a, gs[i]? = some a := ⟨_, List.getElem?_eq_getElem (by omega)⟩
    have hdr : gs.drop i = a :: gs.drop (i + 1) := by rw [List.drop_eq_getElem_cons (by omega), (List.getElem?_eq_some_iff.1 ha).2]
    rw [hdr]
    refine ⟨hR a (List.mem_of_getElem? ha), (hg i a ha).1, hp a ha, okCh_of hR hg j (i + 1) a.1 (by omega) fun b hb => ?_⟩
    exact (hg (i + 1) b hb).2.1 a (by omega) (by simpa using ha)
theorem okCh_okG {c : ByteArray → List AV} {gs : List (ByteArray × AV)} (h : okCh c noB gs) (i : Nat) : okG gs i := by
  obtain ⟨h1, h2⟩ := okCh_mem h
  intro a ha
  have hm := List.mem_of_getElem? ha
  refine ⟨(h1 a hm).2.1, fun b hi hb => ?_, fun hd => ?_⟩
  · obtain ⟨g1, rfl⟩ := List.getElem?_eq_some_iff.1 ha
    obtain ⟨g2, rfl⟩ := List.getElem?_eq_some_iff.1 hb
    exact List.pairwise_iff_getElem.1 h2 (i - 1) i g2 g1 (by omega)
  · exact ((h1 a hm).1 0 a.2 rfl).1 hd
theorem right_cons {c : ByteArray → List AV} {last s : Int} {a : AV} {k : ByteArray} (hg : Gd c last) (hlt : last < s) (hs : a.st = s) (hd : a.dead = true → bareA a = true) : RightP (a :: c k) := by
  intro i x hx
  cases i with
  | zero =>
    simp at hx
    subst hx
    exact ⟨hd, fun b h => absurd h (Nat.lt_irrefl _)⟩
  | succ i =>
    rw [List.getElem?_cons_succ] at hx
    obtain ⟨g1, g2⟩ := hg.right k i x hx
    refine ⟨g1, fun b _ hb => ?_⟩
    rw [Nat.add_sub_cancel] at hb
    cases i with
    | zero =>
      simp at hb
      subst hb
      have := (hg.st k x (List.mem_of_getElem? hx)).2
      omega
    | succ i =>
      rw [List.getElem?_cons_succ] at hb
      exact g2 b (by omega) (by simpa using hb)
theorem okCh_iff {c : ByteArray → List AV} {gs : List (ByteArray × AV)} {last s : Int} (hg : Gd c last) (hlt : last < s) (hst : ∀ a ∈ gs, a.2.st = s) : okCh c noB gs ↔ ∀ i, okG gs i := by
  constructor
  · intro h i; exact okCh_okG h i
  · intro h
    have hR : ∀ a ∈ gs, RightP (a.2 :: c a.1) := fun a ha => by
      obtain ⟨i, hi⟩ := List.getElem?_of_mem ha
      exact right_cons hg hlt (hst a ha) (h i a hi).2.2
    have := okCh_of hR h gs.length 0 noB (by omega) fun a ha => kl_key (h 0 a ha).1
    simpa using this

theorem appC_take {c : ByteArray → List AV} {gs : List (ByteArray × AV)} {i : Nat} {a : ByteArray × AV} (hok : okCh c noB gs) (ha : gs[i]? = some a) :
    appC c (gs.take i) a.1 = c a.1 ∧ appC c (gs.take (i + 1)) = setC (appC c (gs.take i)) a.1 (a.2 :: c a.1) := by
  have hp := (okCh_mem hok).2
  constructor
  · have hpt : (chL c (gs.take i)).Pairwise fun a b => a.1 ≠ b.1 := by
      unfold chL
      rw [List.pairwise_map]
      exact (hp.sublist (List.take_sublist _ _)).imp fun h => kl_ne h
    rcases fold_setC (chL c (gs.take i)) c a.1 hpt with ⟨x, hx, hk, h⟩ | ⟨hn, h⟩
    · unfold chL at hx
      obtain ⟨b, hb, rfl⟩ := List.mem_map.1 hx
      obtain ⟨j, hj⟩ := List.getElem?_of_mem hb
      rw [List.getElem?_take] at hj
      split at hj
      · rename_i hji
        obtain ⟨g1, rfl⟩ := List.getElem?_eq_some_iff.1 ha
        obtain ⟨g2, rfl⟩ := List.getElem?_eq_some_iff.1 hj
        have := List.pairwise_iff_getElem.1 hp j i g2 g1 hji
        exact absurd hk (kl_ne this)
      · cases hj
    · exact h
  · have : gs.take (i + 1) = gs.take i ++ [a] := by rw [List.take_add_one, ha]; rfl
    rw [this]
    unfold appC chL
    rw [List.map_append, List.foldl_append]
    rfl

def RapQ (K : Hl) (x : Nat) (lv : Value) (last s : Int) (X : List KC) (c : ByteArray → List AV) (gs : List (ByteArray × AV)) (F : List HP) (w : World) (v : Value) (w' : World) : Prop :=
  (okCh c noB gs ∧ last < s ∧ v = int 0 ∧ ∃ K' lv' X', Le K K' ∧ Rrs K' lv' X' ∧ RowsM (appC c gs) X' ∧ Sat w' (rsF K' x lv' (u64 s) F) ∧ Sm w w') ∨ (¬ (okCh c noB gs ∧ last < s) ∧ v = int 2 ∧ Sat w' (rsF K x lv (u64 last) F) ∧ Sm w w')

theorem rap_loop2 {x rb n : Nat} {cv : Value} {last s : Int} {c : ByteArray → List AV} {gs : List (ByteArray × AV)} {cs : List Cg} (hok : okCh c noB gs) (hb : Bd c n) (hn : n ≤ 2 ^ 27) (hgl : gs.length ≤ 2 ^ 28) :
    ∀ (j i : Nat) (K : Hl) (lv : Value) (X : List KC) (e : Env) (w : World), i + j = gs.length → RdS K 34 5 encCg cv cs → Rcg K s cs gs → Rrs K lv X → RowsM (appC c (gs.take i)) X → X.length + j ≤ 2 ^ 29 → e 0 = ptr x 0 → e 3 = ptr rb 0 → e 7 = int i → e 93 = undef →
      Go w0 (pt rb [u64 s, cv] 36 :: rsF K x lv (u64 last) F) w (evalLoop (cx13 (Fn Pg) (Rnd Pg)) (cdA Go.Proofs.Tryz.f13 [1, 1, 1, 0, 1, 0, 0]) (K13_4 (Fn Pg) (Rnd Pg)) e w) fun r w' => r = int 0 ∧ (∃ K' lv' X', Le K K' ∧ Rrs K' lv' X' ∧ RowsM (appC c gs) X' ∧ Sat w' (rsF K' x lv' (u64 s) F)) ∧ Sm w0 w' := by
  intro j
  induction j with
  | zero =>
    intro i K lv X e w hij hr hcs hR hX hXl e0 e3 e7 e93
    rw [S13_L2_eq]; unfold S13_L2
    rw [e0, e3, e7, e93]
    repeat refine Go.z ?_
    rw [hcs.len]
    refine Go.ci (fun h => absurd (of_decide_eq_true h) (by omega)) fun _ => ?_
    repeat (first | refine Go.z ?_ | (with_reducible first | (refine Go.bxa  ?_; intro nb w') | (refine Go.bxs  ?_; intro nb w') | (refine Go.al  ?_; intro nb w') | (refine Go.sta (by with_unfolding_all rfl) (by with_unfolding_all rfl) ?_; intro w') | (refine Go.st (by first | with_unfolding_all decide | simp) ?_; intro w')))
    have hi : i = gs.length := by omega
    rw [hi, List.take_length] at hX
    refine Go.ret fun hs hm => ⟨rfl, ⟨K, lv, X, Le.refl K, hR, hX, hs.drop⟩, hm⟩
  | succ j ih =>
    intro i K lv X e w hij hr hcs hR hX hXl e0 e3 e7 e93
    have hi : i < gs.length := by omega
    obtain ⟨a, ha⟩ : ∃ p, gs[i]? = some p := ⟨_, List.getElem?_eq_getElem hi⟩
    obtain ⟨y, hy⟩ : ∃ y, cs[i]? = some y := ⟨_, List.getElem?_eq_getElem (by rw [hcs.len]; exact hi)⟩
    obtain ⟨p, g1, k1⟩ := hr.get hy (by rfl)
    obtain ⟨hkey, hv⟩ := hcs.at_ i y a hy ha
    obtain ⟨hc1, hc2⟩ := appC_take hok ha
    have fb : bldV Pg 137 [(0, u64 s), (1, .bool y.dead), (2, .agg #[y.pv.1, u64 y.gen, int y.size])] = some (.agg #[u64 s, .bool y.dead, y.pv.1, u64 y.gen, int y.size]) := by
      obtain ⟨q, cc, hq⟩ := hv.pl.sl
      have hq : y.pv.1 = _ := hq
      rw [hq]
      exact bld85_3 _ _ _ _ _ _ _
    rw [S13_L2_eq]; unfold S13_L2
    rw [e0, e3, e7, e93]
    repeat refine Go.z ?_
    rw [hcs.len]
    refine Go.ci (fun _ => ?_) fun h => absurd (of_decide_eq_false h) (by omega)
    repeat refine Go.z ?_
    refine Go.al fun nb w1 => ?_
    refine Go.sta (cs := encCg y) (by rfl) (by rfl) fun w2 => ?_
    rw [← hkey] at hc1 hc2
    have hlen := hb.len y.key
    have fin2 : ∀ (zs : List Ver), Rvs K zs (c y.key) → Rvs K ([verOf s y] ++ zs) (a.2 :: c y.key) := fun zs hz => by
      refine ⟨by simp [hz.len], fun i z b hz' hb' => ?_⟩
      cases i with
      | zero =>
        simp at hz' hb'
        subst hz' hb'
        exact hv
      | succ i =>
        rw [List.singleton_append, List.getElem?_cons_succ] at hz'
        rw [List.getElem?_cons_succ] at hb'
        exact hz.at_ i z b hz' hb'
    refine Go.oo ?_ ?_
    · refine Go.dw ?_
      refine Go.keep fun hs0 _ => ?_
      repeat refine Go.z ?_
      refine Go.bsH enVer (by decide) (x := verOf s y) rfl fun u w3 => ?_
      repeat refine Go.z ?_
      refine Go.ck (hold_ld (ld_of hs0 (by with_unfolding_all rfl))) ?_
      refine Go.ok fun hs hm => Ok.bind (rversions_ok (k := y.key) hR hX (by omega) (hs.re [3, 4, 0, 1, 2] (by decide))) ?_
      rintro r w4 ⟨hrc, t1, s1⟩
      rw [hc1] at hrc
      have t1 : Sat w4 (slH 137 5 encVer u [verOf s y] :: kn K :: pt x [lv, u64 last] 33 :: pt nb (encCg y) 135 :: pt rb [u64 s, cv] 36 :: F) := t1.re [2, 0, 1] (by decide)
      refine Ok.go t1 (hm.trans s1) ?_
      refine Go.ck (hold_ld (ld_of t1 (by with_unfolding_all rfl))) ?_
      obtain ⟨zs, hz1, hz2⟩ := hrc
      refine Go.app (ys := zs) enVer (fun hs => hz1.src _ hs.kn) (by have := hz2.len; simp; omega) fun u2 w5 => ?_
      refine Go.ok fun hs hm => ?_
      refine Ok.go hs hm ?_
      refine Go.ck (hold_ld (ld_of hs (by with_unfolding_all rfl))) ?_
      obtain ⟨K1, l1, r1, t2⟩ := share T76 enVer hs
      have t2 : Sat w5 (kn K1 :: pt x [lv, u64 last] 33 :: pt nb (encCg y) 135 :: pt rb [u64 s, cv] 36 :: F) := t2
      refine Go.ok fun _ _ => Ok.bind (rset_ok (k := y.key) (hR.mono l1) hX ⟨_, r1, (fin2 zs hz2).mono l1⟩ (by omega) t2) ?_
      rintro q w6 ⟨rfl, ⟨K2, lv2, X2, l2, hr2, hX2, hX2l, t3⟩, s3⟩
      rw [← hc2] at hX2
      have t3 : Sat w6 (pt rb [u64 s, cv] 36 :: rsF K2 x lv2 (u64 last) F) := (t3.re [2, 3, 0, 1] (by decide)).drop
      refine Ok.go t3 (hm.trans s3) ?_
      repeat refine Go.z ?_
      have l12 := l1.trans l2
      refine Go.mono (ih (i + 1) K2 lv2 X2 _ w6 (by omega) (hr.mono l12) (hcs.mono l12) hr2 hX2 (by omega) e0 e3 rfl e93) ?_
      rintro q w7 ⟨h1, ⟨K3, lv3, X3, l3, m1, m2, m3⟩, m4⟩
      exact ⟨h1, ⟨K3, lv3, X3, l12.trans l3, m1, m2, m3⟩, m4⟩
    · refine Go.dw ?_
      refine Go.keep fun hs0 _ => ?_
      repeat refine Go.z ?_
      refine Go.ok fun hs hm => Ok.bind (rversions_ok (k := y.key) hR hX (by omega) (hs.re [2, 3, 0, 1] (by decide))) ?_
      rintro r w4 ⟨hrc, t1, s1⟩
      rw [hc1] at hrc
      obtain ⟨zs, hz1, hz2⟩ := hrc
      have t1 : Sat w4 (kn K :: pt x [lv, u64 last] 33 :: pt nb (encCg y) 135 :: pt rb [u64 s, cv] 36 :: F) := t1
      refine Ok.go t1 (hm.trans s1) ?_
      repeat refine Go.z ?_
      refine Go.ck (hold_ld (ld_of hs0 (by with_unfolding_all rfl))) ?_
      repeat refine Go.z ?_
      refine Go.ck (hold_ld (ld_of hs0 (by with_unfolding_all rfl))) ?_
      repeat refine Go.z ?_
      refine Go.ck (hold_ld (ld_of hs0 (by with_unfolding_all rfl))) ?_
      repeat refine Go.z ?_
      refine Go.ck (hold_ld (lap_of hs0)) ?_
      repeat refine Go.z ?_
      refine Go.bsH enVer (by decide) (x := verOf s y) rfl fun u w5 => ?_
      refine Go.app (ys := zs) enVer (fun hs => hz1.src _ hs.kn) (by have := hz2.len; simp; omega) fun u2 w6 => ?_
      refine Go.ok fun hs hm => ?_
      refine Ok.go hs hm ?_
      refine Go.ck (hold_ld (ld_of hs (by with_unfolding_all rfl))) ?_
      obtain ⟨K1, l1, r1, t2⟩ := share T76 enVer hs
      have t2 : Sat w6 (kn K1 :: pt x [lv, u64 last] 33 :: pt nb (encCg y) 135 :: pt rb [u64 s, cv] 36 :: F) := t2
      refine Go.ok fun _ _ => Ok.bind (rset_ok (k := y.key) (hR.mono l1) hX ⟨_, r1, (fin2 zs hz2).mono l1⟩ (by omega) t2) ?_
      rintro q w7 ⟨rfl, ⟨K2, lv2, X2, l2, hr2, hX2, hX2l, t3⟩, s3⟩
      rw [← hc2] at hX2
      have t3 : Sat w7 (pt rb [u64 s, cv] 36 :: rsF K2 x lv2 (u64 last) F) := (t3.re [2, 3, 0, 1] (by decide)).drop
      refine Ok.go t3 (hm.trans s3) ?_
      repeat refine Go.z ?_
      have l12 := l1.trans l2
      refine Go.mono (ih (i + 1) K2 lv2 X2 _ w7 (by omega) (hr.mono l12) (hcs.mono l12) hr2 hX2 (by omega) e0 e3 rfl e93) ?_
      rintro q w7 ⟨h1, ⟨K3, lv3, X3, l3, m1, m2, m3⟩, m4⟩
      exact ⟨h1, ⟨K3, lv3, X3, l12.trans l3, m1, m2, m3⟩, m4⟩

theorem rap_loop1 {K : Hl} {x rb n : Nat} {cv lv : Value} {last s : Int} {X : List KC} {c : ByteArray → List AV} {gs : List (ByteArray × AV)} {cs : List Cg} (hgd : Gd c last) (hb : Bd c n) (hn : n ≤ 2 ^ 27) (hgl : gs.length ≤ 2 ^ 28) (hp : ∀ a ∈ gs, a.2.places.length ≤ 2 ^ 29) (hst : ∀ a ∈ gs, a.2.st = s)
    (hr : RdS K 34 5 encCg cv cs) (hcs : Rcg K s cs gs) (hR : Rrs K lv X) (hX : RowsM c X) (hXl : X.length + gs.length ≤ 2 ^ 29) :
    ∀ (j i : Nat) (e : Env) (w : World), i + j = gs.length → (∀ k, k < i → okG gs k) → e 0 = ptr x 0 → e 3 = ptr rb 0 → e 5 = int i → e 93 = undef →
      Go w0 (pt rb [u64 s, cv] 36 :: rsF K x lv (u64 last) F) w (evalLoop (cx13 (Fn Pg) (Rnd Pg)) (cdA Go.Proofs.Tryz.f13 [1, 0, 1, 0, 0]) (K13_2 (Fn Pg) (Rnd Pg)) e w) (RapQ K x lv last s X c gs F w0) := by
  intro j
  have no : ∀ (w1 : World), ¬ (okCh c noB gs ∧ last < s) → Go w0 (pt rb [u64 s, cv] 36 :: rsF K x lv (u64 last) F) w1 (some (int 2, w1)) (RapQ K x lv last s X c gs F w0) := fun w1 h => Go.ret fun hs hm => Or.inr ⟨h, rfl, hs.drop, hm⟩
  induction j with
  | zero =>
    intro i e w hij hok e0 e3 e5 e93
    rw [S13_L1_eq]; unfold S13_L1
    rw [e0, e3, e5, e93]
    repeat refine Go.z ?_
    rw [hcs.len]
    refine Go.ci (fun h => absurd (of_decide_eq_true h) (by omega)) fun _ => ?_
    repeat refine Go.z ?_
    refine Go.ci (fun h => ?_) fun h => ?_
    · have h := of_decide_eq_true h
      repeat refine Go.z ?_
      exact no _ fun hh => by omega
    · have h := of_decide_eq_false h
      have hall : ∀ i, okG gs i := fun k => by
        rcases Nat.lt_or_ge k i with h1 | h1
        · exact hok k h1
        · intro a ha
          have := (List.getElem?_eq_some_iff.1 ha).1
          omega
      have hlt : last < s := by omega
      have hch := (okCh_iff hgd hlt hst).2 hall
      refine Go.mono (rap_loop2 (F := F) (x := x) (rb := rb) (last := last) hch hb hn hgl gs.length 0 K lv X _ _ (by omega) hr hcs hR (by rw [List.take_zero]; exact hX) (by omega) e0 e3 rfl e93) ?_
      rintro q w1 ⟨rfl, ⟨K1, lv1, X1, l1, m1, m2, m3⟩, m4⟩
      exact Or.inl ⟨hch, hlt, rfl, K1, lv1, X1, l1, m1, m2, m3, m4⟩
  | succ j ih =>
    intro i e w hij hok e0 e3 e5 e93
    have hi : i < gs.length := by omega
    obtain ⟨a, ha⟩ : ∃ p, gs[i]? = some p := ⟨_, List.getElem?_eq_getElem hi⟩
    obtain ⟨y, hy⟩ : ∃ y, cs[i]? = some y := ⟨_, List.getElem?_eq_getElem (by rw [hcs.len]; exact hi)⟩
    obtain ⟨p, g1, k1⟩ := hr.get hy (by rfl)
    obtain ⟨hkey, hv⟩ := hcs.at_ i y a hy ha
    have hpa := hp a (List.mem_of_getElem? ha)
    have hdead : y.dead = a.2.dead := hv.dead
    have hgen : y.gen = a.2.gen := hv.gen
    have hsize : y.size = a.2.size := hv.size
    have hpl : RdS K 80 1 encI y.pv.1 a.2.places := hv.pl
    have no' : ∀ (nb : Nat) (w1 : World), ¬ okG gs i → Go w0 (pt nb (encCg y) 135 :: pt rb [u64 s, cv] 36 :: rsF K x lv (u64 last) F) w1 (some (int 2, w1)) (RapQ K x lv last s X c gs F w0) := fun nb w1 h => Go.dr (no w1 fun hh => h (okCh_okG hh.1 i))
    have nxt : ∀ (nb : Nat) (w1 : World) (e' : Env), okG gs i → e' 0 = ptr x 0 → e' 3 = ptr rb 0 → e' 5 = int (i + 1 : Nat) → e' 93 = undef → Go w0 (pt nb (encCg y) 135 :: pt rb [u64 s, cv] 36 :: rsF K x lv (u64 last) F) w1 (evalLoop (cx13 (Fn Pg) (Rnd Pg)) (cdA Go.Proofs.Tryz.f13 [1, 0, 1, 0, 0]) (K13_2 (Fn Pg) (Rnd Pg)) e' w1) (RapQ K x lv last s X c gs F w0) := fun nb w1 e' ho q0 q3 q5 q93 =>
      Go.dr (ih (i + 1) e' w1 (by omega) (fun k hk => by
        rcases Nat.lt_or_ge k i with h | h
        · exact hok k h
        · have : k = i := by omega
          subst this; exact ho) q0 q3 q5 q93)
    have mk : keyR y.key → (∀ b, 0 < i → gs[i - 1]? = some b → kl b.1 y.key = true) → (okG gs i ↔ (a.2.dead = true → bareA a.2 = true)) := by
      intro h1 h2
      constructor
      · intro h; exact (h a ha).2.2
      · intro h a' ha'
        rw [ha] at ha'
        injection ha' with ha'
        subst ha'
        rw [← hkey]
        exact ⟨h1, h2, h⟩
    rw [S13_L1_eq]; unfold S13_L1
    rw [e0, e3, e5, e93]
    repeat refine Go.z ?_
    rw [hcs.len]
    refine Go.ci (fun _ => ?_) fun h => absurd (of_decide_eq_false h) (by omega)
    repeat refine Go.z ?_
    refine Go.al fun nb w1 => ?_
    refine Go.sta (cs := encCg y) (by rfl) (by rfl) fun w2 => ?_
    repeat refine Go.z ?_
    refine Go.rd2 rkey_ok ?_
    cases h1 : decide (keyR y.key) with
    | false =>
      repeat refine Go.z ?_
      refine no' _ _ fun h => ?_
      have := (h a ha).1
      rw [← hkey] at this
      exact of_decide_eq_false h1 this
    | true =>
      have h1 := of_decide_eq_true h1
      repeat refine Go.z ?_
      by_cases h0 : i = 0
      · rw [decide_eq_false (show ¬ (0 : Int) < (i : Int) by omega)]
        have hb2 : ∀ b, 0 < i → gs[i - 1]? = some b → kl b.1 y.key = true := fun b h => by omega
        have hmk := mk h1 hb2
        repeat refine Go.z ?_
        cases hd : y.dead with
        | false =>
          repeat refine Go.z ?_
          exact nxt _ _ _ (hmk.2 fun h => by rw [← hdead, hd] at h; cases h) e0 e3 rfl e93
        | true =>
          repeat refine Go.z ?_
          refine Go.ok fun hs hm => Ok.bind (same77_ok (y := nilV1) (g2 := 0) (z2 := 0) (pb := []) hpl (RdS.nil none 0) (by omega) (hs.re [2, 0, 1] (by decide))) ?_
          rintro r w3 ⟨rfl, t1, s1⟩
          have t1 : Sat w3 (pt nb (encCg y) 135 :: pt rb [u64 s, cv] 36 :: rsF K x lv (u64 last) F) := t1.re [1, 2, 0] (by decide)
          refine Ok.go t1 (hm.trans s1) ?_
          rw [hgen, hsize]
          cases h4 : decide (a.2.size = 0 ∧ a.2.gen = 0 ∧ a.2.places = []) with
          | false =>
            repeat refine Go.z ?_
            refine no' _ _ fun h => ?_
            have := hmk.1 h (by rw [← hdead]; exact hd)
            rw [bareA_iff] at this
            exact of_decide_eq_false h4 this
          | true =>
            repeat refine Go.z ?_
            exact nxt _ _ _ (hmk.2 fun _ => by rw [bareA_iff]; exact of_decide_eq_true h4) e0 e3 rfl e93
      · obtain ⟨b, hb'⟩ : ∃ p, gs[i - 1]? = some p := ⟨_, List.getElem?_eq_getElem (by omega)⟩
        obtain ⟨z, hz⟩ : ∃ y, cs[i - 1]? = some y := ⟨_, List.getElem?_eq_getElem (by rw [hcs.len]; omega)⟩
        obtain ⟨q, g2, k2⟩ := hr.get hz (by rfl)
        obtain ⟨hkey2, _⟩ := hcs.at_ (i - 1) z b hz hb'
        rw [decide_eq_true (show (0 : Int) < (i : Int) by omega)]
        repeat refine Go.z ?_
        rw [hkey2]
        cases h2 : kl b.1 y.key with
        | false =>
          repeat refine Go.z ?_
          refine no' _ _ fun h => ?_
          have := (h a ha).2.1 b (by omega) hb'
          rw [← hkey, h2] at this; cases this
        | true =>
          have hb2 : ∀ b, 0 < i → gs[i - 1]? = some b → kl b.1 y.key = true := fun b2 _ h3 => by
            rw [hb'] at h3
            injection h3 with h3
            subst h3; exact h2
          have hmk := mk h1 hb2
          repeat refine Go.z ?_
          cases hd : y.dead with
          | false =>
            repeat refine Go.z ?_
            exact nxt _ _ _ (hmk.2 fun h => by rw [← hdead, hd] at h; cases h) e0 e3 rfl e93
          | true =>
            repeat refine Go.z ?_
            refine Go.ok fun hs hm => Ok.bind (same77_ok (y := nilV1) (g2 := 0) (z2 := 0) (pb := []) hpl (RdS.nil none 0) (by omega) (hs.re [2, 0, 1] (by decide))) ?_
            rintro r w3 ⟨rfl, t1, s1⟩
            have t1 : Sat w3 (pt nb (encCg y) 135 :: pt rb [u64 s, cv] 36 :: rsF K x lv (u64 last) F) := t1.re [1, 2, 0] (by decide)
            refine Ok.go t1 (hm.trans s1) ?_
            rw [hgen, hsize]
            cases h4 : decide (a.2.size = 0 ∧ a.2.gen = 0 ∧ a.2.places = []) with
            | false =>
              repeat refine Go.z ?_
              refine no' _ _ fun h => ?_
              have := hmk.1 h (by rw [← hdead]; exact hd)
              rw [bareA_iff] at this
              exact of_decide_eq_false h4 this
            | true =>
              repeat refine Go.z ?_
              exact nxt _ _ _ (hmk.2 fun _ => by rw [bareA_iff]; exact of_decide_eq_true h4) e0 e3 rfl e93
theorem rapply_ok {K : Hl} {x n : Nat} {cv lv : Value} {last s : Int} {X : List KC} {c : ByteArray → List AV} {gs : List (ByteArray × AV)} {cs : List Cg} (hgd : Gd c last) (hb : Bd c n) (hn : n ≤ 2 ^ 27) (hgl : gs.length ≤ 2 ^ 28) (hp : ∀ a ∈ gs, a.2.places.length ≤ 2 ^ 29) (hst : ∀ a ∈ gs, a.2.st = s)
    (hr : RdS K 34 5 encCg cv cs) (hcs : Rcg K s cs gs) (hR : Rrs K lv X) (hX : RowsM c X) (hXl : X.length + gs.length ≤ 2 ^ 29) (hs : Sat w (rsF K x lv (u64 last) F)) :
    Ok (Fn Pg 13 [ptr x 0, .agg #[u64 s, cv]] w) (RapQ K x lv last s X c gs F w) := by
  rw [F13]; unfold S13
  refine Ok.go hs (Sm.refl w) ?_
  refine Go.bxa (l := [u64 s, cv]) fun rb w1 => ?_
  exact rap_loop1 hgd hb hn hgl hp hst hr hcs hR hX hXl gs.length 0 _ w1 (by omega) (fun k hk => absurd hk (Nat.not_lt_zero _)) rfl rfl rfl rfl
end Go.Cb

/-
  A store that is made of rows.
-/
set_option linter.unusedVariables false
set_option linter.unusedSimpArgs false
set_option maxRecDepth 100000
namespace Go.Cb
open Classical
variable {w w0 : World} {F : List HP} {Q Q' : Value → World → Prop}

instance : Ze 159 [.string { data := #[] }, .slice none 0 0] := ⟨by kernel_rfl⟩

theorem fits_ok {K : Hl} {v : Value} {k : ByteArray} {l : List AV} {last : Int} (hr : Rc K v l) (hb : l.length ≤ 2 ^ 28) (hk : keyR k) (hR : RightP l) (hne : l ≠ []) (hst : ∀ a ∈ l, 0 < a.st ∧ a.st ≤ last) (hs : Sat w (kn K :: F)) :
    Ok (Fn Pg 75 [.agg #[.string k, v], u64 last] w) fun r w' => r = .bool true ∧ Sat w' (kn K :: F) ∧ Sm w w' := by
  have hr' := hr
  obtain ⟨xs, h1, h2⟩ := hr'
  have hlen := h2.len
  have hpos := List.length_pos_iff.2 hne
  obtain ⟨a, ha⟩ : ∃ a, l[0]? = some a := ⟨_, List.getElem?_eq_getElem hpos⟩
  obtain ⟨b, hb'⟩ : ∃ a, l[l.length - 1]? = some a := ⟨_, List.getElem?_eq_getElem (by omega)⟩
  obtain ⟨x, hx, hxa⟩ := rv_get h2 ha
  obtain ⟨y, hy, hyb⟩ := rv_get h2 hb'
  obtain ⟨p, g1, k1⟩ := h1.get hx rfl
  have g1 : ixA Pg 43 v (int 0) = some (.pointer (some p)) := g1
  obtain ⟨q, g2, k2⟩ := h1.get hy rfl
  rw [← hlen] at g2
  have sa := hst a (List.mem_of_getElem? ha)
  have sb := hst b (List.mem_of_getElem? hb')
  have ov := hr.one
  rw [F75]; unfold S75
  refine Ok.go hs (Sm.refl w) ?_
  refine fun hs hm => go_box (l := [.string k, v]) (by
    obtain ⟨a, c, rfl⟩ := hr.sl
    rfl) hs fun nb w1 t1 s1 => ?_
  refine Ok.go t1 (hm.trans s1) ?_
  repeat refine Go.z ?_
  refine Go.rd2 keyr_ok ?_
  rw [decide_eq_true hk]
  repeat refine Go.z ?_
  rw [decide_eq_true (show (0 : Int) < (xs.length : Int) by omega)]
  repeat refine Go.z ?_
  refine Go.ok fun hs hm => Ok.bind (right_ok hr (by omega) (hs.re [1, 0] (by decide))) ?_
  rintro r w2 ⟨rfl, t2, s2⟩
  have t2 : Sat w2 (pt nb [.string k, v] 159 :: kn K :: F) := t2.re [1, 0] (by decide)
  rw [decide_eq_true hR]
  refine Ok.go t2 (hm.trans s2) ?_
  repeat refine Go.z ?_
  rw [hxa.st, decide_eq_true sa.2]
  repeat refine Go.z ?_
  rw [hyb.st, decide_eq_true sb.1]
  exact Go.ret fun hs hm => ⟨rfl, hs.drop, hm⟩

noncomputable def cX (X : List KC) : ByteArray → List AV := X.foldl (fun f x => setC f x.1 x.2) fun _ => []
theorem cX_eq {c : ByteArray → List AV} {X : List KC} (hX : RowsM c X) : cX X = c := by
  funext k
  rcases fold_setC X (fun _ => []) k (hX.1.imp fun h => kl_ne h) with ⟨x, hx, rfl, h⟩ | ⟨hn, h⟩
  · unfold cX
    rw [h, ((hX.2 x).1 hx).1]
  · unfold cX
    rw [h]
    apply Classical.byContradiction
    intro hne
    have hne : c k ≠ [] := fun h => hne h.symm
    obtain ⟨j, x, hj, hk⟩ := rows_of hX hne
    exact hn x (List.mem_of_getElem? hj) hk
theorem cX_snoc {X : List KC} {x : KC} : cX (X ++ [x]) = setC (cX X) x.1 x.2 := by
  unfold cX
  rw [List.foldl_append]; rfl

theorem from_loop {S T n : Nat} {lv : Value} {last : Int} {X : List KC} {c : ByteArray → List AV} {xs : List Ent} (hgd : Gd c last) (hb : Bd c n) (hn : n ≤ 2 ^ 27) (hX : RowsM c X) (hl : X.length ≤ 2 ^ 28) :
    ∀ (j i : Nat) (K : Hl) (L : List Ent) (key : ByteArray) (e : Env) (w : World), i + j = X.length → RdS K 31 2 encE lv xs → Rks K xs X → StoR K L (cX (X.take i)) → L.length ≤ i → (∀ x, X[i]? = some x → kl key x.1 = true) → e 1 = u64 last → e 5 = ptr S 0 → e 6 = .string key → e 12 = lv → e 13 = int X.length → e 14 = int i → e 53 = undef →
      Go w0 (kn K :: pt S [ptr T 0, u64 0] 144 :: tree T L :: F) w (evalLoop (cx18 (Fn Pg) (Rnd Pg)) (cdA Go.Proofs.Tryz.f18 [1, 1, 1, 0, 1, 0, 0]) (K18_2 (Fn Pg) (Rnd Pg)) e w) fun r w' => r = ptr S 0 ∧ (∃ K' L', Le K K' ∧ StoR K' L' c ∧ L'.length ≤ X.length ∧ Sat w' (kn K' :: sto S L' last :: F)) ∧ Sm w0 w' := by
  intro j
  induction j with
  | zero =>
    intro i K L key e w hij hr hx hc hL hkey e1 e5 e6 e12 e13 e14 e53
    rw [S18_L1_eq]; unfold S18_L1
    rw [e1, e5, e6, e12, e13, e14, e53]
    repeat refine Go.z ?_
    refine Go.ci (fun h => absurd (of_decide_eq_true h) (by omega)) fun _ => ?_
    repeat (first | refine Go.z ?_ | (with_reducible first | (refine Go.bxa  ?_; intro nb w') | (refine Go.bxs  ?_; intro nb w') | (refine Go.al  ?_; intro nb w') | (refine Go.sta (by with_unfolding_all rfl) (by with_unfolding_all rfl) ?_; intro w') | (refine Go.st (by first | with_unfolding_all decide | simp) ?_; intro w')))
    have hi : i = X.length := by omega
    rw [hi, List.take_length, cX_eq hX] at hc
    exact Go.ret fun hs hm => ⟨rfl, ⟨K, L, Le.refl K, hc, by omega, (sto_mk (hs.re [1, 2, 0] (by decide))).sw⟩, hm⟩
  | succ j ih =>
    intro i K L key e w hij hr hx hc hL hkey e1 e5 e6 e12 e13 e14 e53
    have hi : i < X.length := by omega
    obtain ⟨a, ha⟩ : ∃ p, X[i]? = some p := ⟨_, List.getElem?_eq_getElem hi⟩
    obtain ⟨z, hz, hzk, hza⟩ := rk_get hx ha
    obtain ⟨p, g1, k1⟩ := hr.get hz (by rfl)
    have k1 : PtK K p [.string a.1, z.2.1] := by rw [← hzk]; exact k1
    obtain ⟨hca, hne⟩ := (hX.2 a).1 (List.mem_of_getElem? ha)
    have htake : X.take (i + 1) = X.take i ++ [a] := by rw [List.take_add_one, ha]; rfl
    have hR : RightP a.2 := by rw [← hca]; exact hgd.right _
    have hst : ∀ b ∈ a.2, 0 < b.st ∧ b.st ≤ last := by rw [← hca]; exact hgd.st _
    have hkr : keyR a.1 := hgd.key _ (by rw [hca]; exact hne)
    have hlen : a.2.length ≤ n := by rw [← hca]; exact hb.len _
    have hpl : PlB a.2 := by rw [← hca]; exact hb.pl _
    have hall : keptL a.2 (keepP a.2 (everyS a.2)) = a.2 := allV_all hR fun b hb => (hst b hb).1
    rw [S18_L1_eq]; unfold S18_L1
    rw [e1, e5, e6, e12, e13, e14, e53]
    repeat refine Go.z ?_
    refine Go.ci (fun _ => ?_) fun h => absurd (of_decide_eq_false h) (by omega)
    repeat refine Go.z ?_
    refine Go.al fun nb w1 => ?_
    refine Go.sta (cs := [.string a.1, z.2.1]) (by rfl) (by rfl) fun w2 => ?_
    repeat refine Go.z ?_
    refine Go.ok fun hs hm => Ok.bind (fits_ok hza (by omega) hkr hR hne hst hs.sw) ?_
    rintro r w3 ⟨rfl, t1, s1⟩
    have t1 : Sat w3 (pt nb [.string a.1, z.2.1] 159 :: kn K :: pt S [ptr T 0, u64 0] 144 :: tree T L :: F) := t1.re [1, 0] (by decide)
    refine Ok.go t1 (hm.trans s1) ?_
    repeat refine Go.z ?_
    rw [hkey a ha]
    repeat refine Go.z ?_
    refine Go.ok fun hs hm => Ok.bind (every_ok hza (by omega) hs.sw) ?_
    rintro r w4 ⟨t2, s2⟩
    obtain ⟨K1, l1, r1, t3⟩ := share T68 enU t2
    have t3 : Sat w4 (pt nb [.string a.1, z.2.1] 159 :: kn K1 :: pt S [ptr T 0, u64 0] 144 :: tree T L :: F) := t3.re [1, 0] (by decide)
    refine Ok.go t3 (hm.trans s2) ?_
    refine Go.ck (hold_ld (ld_of t3 (by with_unfolding_all rfl))) ?_
    refine Go.ok fun hs hm => Ok.bind (prune_ok hpl (by omega) (by simp [everyS]; omega) (hza.mono l1) r1 hs.sw) ?_
    rintro r w5 ⟨K2, kv, dv, l2, rfl, hk, hd, t4, s4⟩
    rw [hall] at hk
    have t4 : Sat w5 (pt nb [.string a.1, z.2.1] 159 :: kn K2 :: pt S [ptr T 0, u64 0] 144 :: tree T L :: F) := t4.re [1, 0] (by decide)
    refine Ok.go t4 (hm.trans s4) ?_
    repeat refine Go.z ?_
    have l12 := l1.trans l2
    refine Go.ok fun hs hm => Ok.bind (put_ok (T := T) (L := L) (key := a.1) (y := ⟨kv, hk.one⟩) (hs.re [3, 0, 1, 2] (by decide)) (by omega) (bldE (x := (a.1, ⟨kv, hk.one⟩)) hk)) ?_
    rintro r w6 ⟨rfl, t5, s5⟩
    have t5 : Sat w6 (kn K2 :: pt S [ptr T 0, u64 0] 144 :: tree T (putL L (a.1, ⟨kv, hk.one⟩)) :: F) := (t5.re [1, 2, 3, 0] (by decide)).drop
    have hpl : (putL L (a.1, (⟨kv, hk.one⟩ : V1))).length ≤ L.length + 1 := by
      have := put_len (tree_srt (hs.re [3, 0, 1, 2] (by decide))) ((a.1, ⟨kv, hk.one⟩) : Ent)
      by_cases hh : hasL L a.1
      · have := this.1 hh; omega
      · have := this.2 hh; omega
    refine Ok.go t5 (hm.trans s5) ?_
    repeat refine Go.z ?_
    refine Go.mono (ih (i + 1) K2 _ a.1 _ w6 (by omega) (hr.mono l12) (hx.mono l12) ?_ (by omega) (fun x hx => srt_get hX.1 ha hx (Nat.lt_succ_self _)) e1 e5 rfl e12 e13 rfl e53) ?_
    · rw [htake, cX_snoc]
      exact (hc.mono l12).put hk hne
    · rintro q w7 ⟨m1, ⟨K3, L3, l3, m2, m3, m4⟩, m5⟩
      exact ⟨m1, ⟨K3, L3, l12.trans l3, m2, m3, m4⟩, m5⟩
theorem from_ok {K : Hl} {n : Nat} {lv : Value} {last : Int} {X : List KC} {c : ByteArray → List AV} {xs : List Ent} (hgd : Gd c last) (hb : Bd c n) (hn : n ≤ 2 ^ 27) (hX : RowsM c X) (hl : X.length ≤ 2 ^ 28) (hr : RdS K 31 2 encE lv xs) (hx : Rks K xs X) (hs : Sat w (kn K :: F)) :
    Ok (Fn Pg 18 [lv, u64 last] w) fun r w' => ∃ S, r = ptr S 0 ∧ (∃ K' L', Le K K' ∧ StoR K' L' c ∧ L'.length ≤ X.length ∧ Sat w' (kn K' :: sto S L' last :: F)) ∧ Sm w w' := by
  rw [F18]; unfold S18
  refine Ok.bind (snew_ok hs) ?_
  rintro r w1 ⟨S, rfl, t1, s1⟩
  obtain ⟨T, t2⟩ := sto_open t1
  have t2 : Sat w1 (kn K :: pt S [ptr T 0, u64 0] 144 :: tree T [] :: F) := t2.re [2, 0, 1] (by decide)
  refine Ok.go t2 s1 ?_
  repeat refine Go.z ?_
  rw [hx.len]
  refine Go.mono (from_loop (S := S) (T := T) hgd hb hn hX hl X.length 0 K [] noB _ w1 (by omega) hr hx (StoR.new K) (Nat.le_refl _) (fun x hx => kl_key (hgd.key _ ?_)) rfl rfl rfl rfl rfl rfl rfl) fun q w' h => ⟨S, h⟩
  have := (hX.2 x).1 (List.mem_of_getElem? hx)
  rw [this.1]; exact this.2
end Go.Cb

/-
  The same is told.
-/
set_option linter.unusedVariables false
set_option linter.unusedSimpArgs false
set_option maxRecDepth 100000
namespace Go.Cb
open Classical
variable {w w0 : World} {F : List HP} {Q Q' : Value → World → Prop}

theorem atV_pl {c : ByteArray → List AV} {n : Nat} (hb : Bd c n) (k : ByteArray) (s : Int) : (atV (c k) s).1.places.length ≤ 2 ^ 60 := by
  unfold atV
  split
  · cases h : atA (c k) s with
    | none => show zA.places.length ≤ _; simp [zA]
    | some a =>
      have := hb.pl k a (List.mem_of_find?_eq_some h)
      show a.places.length ≤ _
      omega
  · show zA.places.length ≤ _; simp [zA]
theorem newV_pl {c : ByteArray → List AV} {n : Nat} (hb : Bd c n) (k : ByteArray) : (newV (c k)).1.places.length ≤ 2 ^ 60 := by
  unfold newV
  split
  · show zA.places.length ≤ _; simp [zA]
  · exact atV_pl hb k _
theorem fnd_small {c : ByteArray → List AV} {n : Nat} {s : Int} {f t : ByteArray} {X : List KC} {m : Nat} (hb : Bd c n) (hX : RowsM c X) : ∀ a ∈ ((fndX s f t X).take m).map toF, a.places.length ≤ 2 ^ 60 := by
  intro a ha
  obtain ⟨p, hp, rfl⟩ := List.mem_map.1 ha
  obtain ⟨x, hx, _, h2⟩ := found_mem (List.mem_of_mem_take hp)
  have hx := (List.mem_filter.1 hx).1
  have := ((hX.2 x).1 hx).1
  rw [← this] at h2
  have := hb.pl _ _ h2
  show p.2.places.length ≤ 2 ^ 60
  omega

theorem law_same_ok {K : Hl} {S x n : Nat} {L : List Ent} {lv : Value} {last at' m : Int} {X : List KC} {c : ByteArray → List AV} {k f t : ByteArray} (hc : Came K L c last n) (hn : n ≤ 1000) (hR : Rrs K lv X) (hX : RowsM c X) (hl : X.length ≤ 2 ^ 28) (hs : Sat w (kn K :: sto S L last :: pt x [lv, u64 last] 33 :: F)) :
    Ok (Fn Pg 21 [ptr S 0, ptr x 0, .string k, u64 at', .agg #[.string f, .string t], int m] w) fun r w' => r = .bool true ∧ (∃ K', Le K K' ∧ Sat w' (kn K' :: sto S L last :: pt x [lv, u64 last] 33 :: F)) ∧ Sm w w' := by
  have hbd := hc.bd
  have hLl := hc.len
  have hst := hc.st
  rw [F21]; unfold S21
  refine Ok.go hs (Sm.refl w) ?_
  refine Go.bxa (l := [.string f, .string t]) fun sb w1 => ?_
  refine Go.ok fun hs hm => Ok.bind (read_ok (s := at') hst hbd (by omega) (hs.re [1, 2, 0] (by decide))) ?_
  rintro r w2 ⟨K1, v1, l1, rfl, hv1, t1, s1⟩
  have t1 : Sat w2 (kn K1 :: sto S L last :: pt sb [.string f, .string t] 25 :: pt x [lv, u64 last] 33 :: F) := t1
  have hst := hst.mono l1
  have hR := hR.mono l1
  refine Ok.go t1 (hm.trans s1) ?_
  repeat refine Go.z ?_
  refine Go.al fun b1 w3 => ?_
  refine Go.sta (cs := encVer v1) (by rfl) (by rfl) fun w4 => ?_
  refine Go.ok fun hs hm => Ok.bind (rread_ok (s := at') hR hX hbd (by omega) (by omega) (hs.re [1, 4, 0, 2, 3] (by decide))) ?_
  rintro r w5 ⟨⟨v2, rfl, hv2⟩, t2, s2⟩
  have t2 : Sat w5 (kn K1 :: pt x [lv, u64 last] 33 :: pt b1 (encVer v1) 137 :: sto S L last :: pt sb [.string f, .string t] 25 :: F) := t2
  refine Ok.go t2 (hm.trans s2) ?_
  repeat refine Go.z ?_
  refine Go.al fun b2 w6 => ?_
  refine Go.sta (cs := encVer v2) (by rfl) (by rfl) fun w7 => ?_
  refine Go.ok fun hs hm => Ok.bind (newest_ok hst hbd (by omega) (hs.re [1, 4, 0, 2, 3] (by decide))) ?_
  rintro r w8 ⟨K2, v3, l2, rfl, hv3, t3, s3⟩
  have t3 : Sat w8 (kn K2 :: sto S L last :: pt b2 (encVer v2) 137 :: pt x [lv, u64 last] 33 :: pt b1 (encVer v1) 137 :: pt sb [.string f, .string t] 25 :: F) := t3
  have hst := hst.mono l2
  have hR := hR.mono l2
  refine Ok.go t3 (hm.trans s3) ?_
  repeat refine Go.z ?_
  refine Go.al fun b3 w9 => ?_
  refine Go.sta (cs := encVer v3) (by rfl) (by rfl) fun w10 => ?_
  refine Go.ok fun hs hm => Ok.bind (rnewest_ok (k := k) (hc.gd.right k) hR hX hbd (by omega) (by omega) (hs.re [1, 4, 0, 2, 3] (by decide))) ?_
  rintro r w11 ⟨⟨v4, rfl, hv4⟩, t4, s4⟩
  have t4 : Sat w11 (kn K2 :: pt x [lv, u64 last] 33 :: pt b3 (encVer v3) 137 :: sto S L last :: pt b2 (encVer v2) 137 :: pt b1 (encVer v1) 137 :: pt sb [.string f, .string t] 25 :: F) := t4
  refine Ok.go t4 (hm.trans s4) ?_
  repeat refine Go.z ?_
  refine Go.al fun b4 w12 => ?_
  refine Go.sta (cs := encVer v4) (by rfl) (by rfl) fun w13 => ?_
  repeat refine Go.z ?_
  refine Go.ok fun hs hm => Ok.bind (same42_ok (hv1.mono l2) (hv2.mono l2) (atV_pl hbd k at') hs.sw) ?_
  rintro r w14 ⟨rfl, t5, s5⟩
  have t5 : Sat w14 (pt b4 (encVer v4) 137 :: kn K2 :: pt x [lv, u64 last] 33 :: pt b3 (encVer v3) 137 :: sto S L last :: pt b2 (encVer v2) 137 :: pt b1 (encVer v1) 137 :: pt sb [.string f, .string t] 25 :: F) := t5.re [1, 0] (by decide)
  rw [decide_eq_true rfl]
  refine Ok.go t5 (hm.trans s5) ?_
  repeat refine Go.z ?_
  rw [beq_self_eq_true]
  repeat refine Go.z ?_
  refine Go.ok fun hs hm => Ok.bind (same42_ok hv3 hv4 (newV_pl hbd k) hs.sw) ?_
  rintro r w15 ⟨rfl, t6, s6⟩
  have t6 : Sat w15 (kn K2 :: sto S L last :: pt x [lv, u64 last] 33 :: pt sb [.string f, .string t] 25 :: F) := (t6.re [1, 3, 5, 6, 0, 4, 2, 7] (by decide)).drop.drop.drop.drop
  rw [decide_eq_true rfl]
  refine Ok.go t6 (hm.trans s6) ?_
  repeat refine Go.z ?_
  rw [beq_self_eq_true]
  repeat refine Go.z ?_
  refine Go.keep fun hs0 _ => ?_
  refine Go.ok fun hs hm => Ok.bind (scan_ok (m := m) (at' := at') (f := f) (t := t) (by omega) hst hbd (by omega) hs) ?_
  rintro r w16 ⟨K3, ys, l3, hr3, hy3, t7, s7⟩
  rw [run_scan, kc_in, RowsM.eq hX hst (sto_srt hs (k := 1) rfl), List.nil_append] at hy3
  have hst := hst.mono l3
  have hR := hR.mono l3
  have t7 : Sat w16 (kn K3 :: sto S L last :: pt x [lv, u64 last] 33 :: pt sb [.string f, .string t] 25 :: F) := t7
  refine Ok.go t7 (hm.trans s7) ?_
  repeat refine Go.z ?_
  refine Go.ck (hold_go (lap_of hs0)) ?_
  repeat refine Go.z ?_
  refine Go.ok fun hs hm => Ok.bind (rscan_ok (s := at') (m := m) (f := f) (t := t) hR hX hbd (by omega) (by omega) (hs.re [0, 2, 1, 3] (by decide))) ?_
  rintro r2 w17 ⟨⟨K4, zs, l4, hr4, hy4, t8⟩, s8⟩
  have hst := hst.mono l4
  have hR := hR.mono l4
  have t8 : Sat w17 (kn K4 :: pt x [lv, u64 last] 33 :: sto S L last :: pt sb [.string f, .string t] 25 :: F) := t8
  refine Ok.go t8 (hm.trans s8) ?_
  repeat refine Go.z ?_
  have hsame : sameFs (((fndX at' f t X).take m.toNat).map toF) (((fndX at' f t X).take m.toNat).map toF) := sameFs_refl _
  have hlen : (((fndX at' f t X).take m.toNat).map toF).length ≤ 2 ^ 60 := by
    rw [List.length_map]
    have := fndX_len (s := at') (f := f) (t := t) (X := X)
    rw [List.length_take]; omega
  refine Go.ok fun hs hm => Ok.bind (same39_ok (toG_rd (hr3.mono l4)) (toG_rd hr4) (toG_fs (by
    have := hy3.mono l4
    rw [List.length_nil, show m - ((0 : Nat) : Int) = m by omega] at this
    exact this)) (toG_fs hy4) hlen (fnd_small hbd hX) hs) ?_
  rintro r3 w18 ⟨rfl, t9, s9⟩
  rw [decide_eq_true hsame]
  refine Ok.go t9 (hm.trans s9) ?_
  repeat refine Go.z ?_
  refine Go.keep fun hs1 _ => ?_
  refine Go.rd2 (slast_ok (S := S) (L := L) (last := last) hs1 2 rfl) ?_
  repeat refine Go.z ?_
  refine Go.ck (hold_go (ld_of hs1 (by with_unfolding_all rfl))) ?_
  repeat refine Go.z ?_
  rw [decide_eq_true (show last = last from rfl)]
  repeat refine Go.z ?_
  have hne : ∀ q, c q ≠ [] → allV (c q) ≠ [] := fun q h => by rw [hc.gd.all]; exact h
  have hall : allC c L = X := (allC_kc hc.gd L).trans (RowsM.eq hX hst (sto_srt hs1 (k := 2) rfl))
  refine Go.ok fun hs hm => Ok.bind (versions_ok (n := n) (by omega) hst hbd (by omega) hne (hs.re [0, 2, 1, 3] (by decide))) ?_
  rintro r4 w19 ⟨rfl, K5, l5, t10, s10⟩
  rw [hall]
  have hst := hst.mono l5
  have hR := hR.mono l5
  have t10 : Sat w19 (kn K5 :: sto S L last :: pt x [lv, u64 last] 33 :: pt sb [.string f, .string t] 25 :: F) := t10
  refine Ok.go t10 (hm.trans s10) ?_
  repeat refine Go.z ?_
  have hXb : ∀ l ∈ X, l.2.length ≤ 2 ^ 28 ∧ l.2 ≠ [] := fun l hl => by
    obtain ⟨h1, h2⟩ := (hX.2 l).1 hl
    have := hbd.len l.1
    rw [h1] at this
    exact ⟨by omega, h2⟩
  refine Go.ok fun hs hm => Ok.bind (rvers_ok hR (fun l hl => (hXb l hl).1) (by omega) (hs.re [0, 2, 1, 3] (by decide))) ?_
  rintro r5 w20 ⟨rfl, t11, s11⟩
  have t11 : Sat w20 (kn K5 :: pt x [lv, u64 last] 33 :: sto S L last :: pt sb [.string f, .string t] 25 :: F) := t11
  refine Ok.go t11 (hm.trans s11) ?_
  repeat refine Go.z ?_
  have hbl : decide (((sumW (fun l => l.length) X : Nat) : Int) = ((sumW List.length X : Nat) : Int)) = true := decide_eq_true rfl
  rw [hbl]
  repeat refine Go.z ?_
  refine Go.ok fun hs hm => Ok.bind (live_ok (n := n) (by omega) hst hbd (by omega) hne (hs.re [0, 2, 1, 3] (by decide))) ?_
  rintro r6 w21 ⟨rfl, K6, l6, t12, s12⟩
  rw [hall]
  have hR := hR.mono l6
  have t12 : Sat w21 (kn K6 :: sto S L last :: pt x [lv, u64 last] 33 :: pt sb [.string f, .string t] 25 :: F) := t12
  refine Ok.go t12 (hm.trans s12) ?_
  repeat refine Go.z ?_
  refine Go.ok fun hs hm => Ok.bind (rlive_ok hR (fun l hl => (hXb l hl).2) (by omega) (hs.re [0, 2, 1, 3] (by decide))) ?_
  rintro r7 w22 ⟨rfl, t13, s13⟩
  have t13 : Sat w22 (kn K6 :: pt x [lv, u64 last] 33 :: sto S L last :: pt sb [.string f, .string t] 25 :: F) := t13
  refine Ok.go t13 (hm.trans s13) ?_
  repeat refine Go.z ?_
  rw [decide_eq_true (show ((sumW liveN X : Nat) : Int) = ((sumW liveN X : Nat) : Int) from rfl)]
  exact Go.ret fun hs hm => ⟨rfl, ⟨K6, l1.trans (l2.trans (l3.trans (l4.trans (l5.trans l6)))), (hs.re [3, 0, 2, 1] (by decide)).drop⟩, hm⟩
end Go.Cb

/-
  MvccPlays: the walk.
-/
set_option linter.unusedVariables false
set_option linter.unusedSimpArgs false
set_option maxRecDepth 100000
namespace Go.Cb
open Classical
variable {w w0 : World} {F : List HP} {Q Q' : Value → World → Prop}

class Pn (t : Nat) : Prop where
  h : ∃ e, Pg.underlying t = some (.pointer e)
instance : Pn 28 := ⟨_, u95⟩
instance Stp.pn {t : TypeId} {ox oy : Operand} {b o : Nat} {κ2 : Value → World → R} [h0 : Pn t] : Stp F w (Cb.rd2 (binG false Pg .eql t ox oy (ptr b o) (.pointer none) w) κ2) (κ2 (.bool false) w) w := ⟨fun h => let ⟨_, hu⟩ := h0.h; Go.rd2 (eql_ptr hu) h⟩

instance : Ze 39 [int 0, u64 0, .slice none 0 0, .string { data := #[] }, .slice none 0 0] := ⟨by kernel_rfl⟩
theorem next_rows {c : ByteArray → List AV} {L : List Ent} {X : List KC} {after k : ByteArray} {l : List AV} {i : Nat} (hX : kc c L = X) (hi : X[i]? = some (k, l)) (hk : kl after k = true) (hb : ∀ (j : Nat) (x : KC), j < i → X[j]? = some x → kl after x.1 = false) : ∃ e, nextL L after = some e ∧ e.1 = k := by
  subst hX
  unfold kc at hi hb
  rw [List.getElem?_map] at hi
  obtain ⟨e, he, h1⟩ := Option.map_eq_some_iff.1 hi
  have h1 : e.1 = k := congrArg Prod.fst h1
  refine ⟨e, ?_, h1⟩
  unfold nextL upps
  rw [List.head?_filter, List.find?_eq_some_iff_getElem]
  obtain ⟨g1, rfl⟩ := List.getElem?_eq_some_iff.1 he
  refine ⟨by rw [h1]; exact hk, i, g1, rfl, fun j hj => ?_⟩
  have := hb j _ hj (by rw [List.getElem?_map, List.getElem?_eq_getElem (by omega)]; rfl)
  simpa using this
theorem next_rows_none {c : ByteArray → List AV} {L : List Ent} {X : List KC} {after : ByteArray} (hX : kc c L = X) (h : ∀ l ∈ X, kl after l.1 = false) : nextL L after = none := by
  subst hX
  unfold nextL upps
  rw [List.head?_filter, List.find?_eq_none]
  intro e he
  have := h (e.1, c e.1) (List.mem_map.2 ⟨e, he, rfl⟩)
  simpa using this

noncomputable abbrev PL1 (e : Env) (w : World) : R := evalLoop (cx3 (Fn Pg) (Rnd Pg)) (cdA Go.Proofs.Tryz.f3 [1, 1, 1, 0, 1, 0, 0]) (K3_2 (Fn Pg) (Rnd Pg)) e w

/-- both stores, and the span. -/
abbrev pyF (K : Hl) (S x sb : Nat) (L : List Ent) (lv : Value) (last : Int) (f t : ByteArray) (F : List HP) : List HP := kn K :: sto S L last :: pt x [lv, u64 last] 33 :: pt sb [.string f, .string t] 25 :: F

structure PyI (K : Hl) (L : List Ent) (lv : Value) (X : List KC) (c : ByteArray → List AV) (last : Int) (n : Nat) : Prop where
  s : Came K L c last n
  r : Rrs K lv X
  x : RowsM c X
theorem PyI.mono {K K' : Hl} {L : List Ent} {lv : Value} {X : List KC} {c : ByteArray → List AV} {last : Int} {n : Nat} (h : PyI K L lv X c last n) (hl : Le K K') : PyI K' L lv X c last n := ⟨h.s.mono hl, h.r.mono hl, h.x⟩
theorem PyI.more {K : Hl} {L : List Ent} {lv : Value} {X : List KC} {c : ByteArray → List AV} {last : Int} {n m : Nat} (h : PyI K L lv X c last n) (hl : n ≤ m) : PyI K L lv X c last m := ⟨h.s.more hl, h.r, h.x⟩
theorem PyI.len {K : Hl} {L : List Ent} {lv : Value} {X : List KC} {c : ByteArray → List AV} {last : Int} {n : Nat} (h : PyI K L lv X c last n) (hL : Srt L) : X.length ≤ 30 * n := by
  have := RowsM.eq h.x h.s.st hL
  have := congrArg List.length this
  unfold kc at this
  rw [List.length_map] at this
  have := h.s.len
  omega

/-- a record is applied to both. -/
theorem py_app {K : Hl} {S x sb n : Nat} {L : List Ent} {lv cv : Value} {last s : Int} {X : List KC} {c : ByteArray → List AV} {f t : ByteArray} {gs : List (ByteArray × AV)} {cs : List Cg} (hI : PyI K L lv X c last n) (hn : n ≤ 1000) (hf : fewG gs) (hr : RdS K 34 5 encCg cv cs) (hcs : Rcg K s cs gs) (hs : Sat w (pyF K S x sb L lv last f t F)) {κ : Value → World → R} {Q : Value → World → Prop}
    (hκ : ∀ (z : Int) (K1 : Hl) (L1 : List Ent) (c1 : ByteArray → List AV) (last1 : Int) (w1 : World), Le K K1 → Sat w1 (kn K1 :: sto S L1 last1 :: pt x [lv, u64 last] 33 :: pt sb [.string f, .string t] 25 :: F) → Sm w w1 →
      (∀ w2, Sat w2 (kn K1 :: pt x [lv, u64 last] 33 :: sto S L1 last1 :: pt sb [.string f, .string t] 25 :: F) → Ok (Fn Pg 13 [ptr x 0, .agg #[u64 s, cv]] w2) fun v w' => v = int z ∧ (∃ K2 lv2 X2, Le K K2 ∧ PyI K2 L1 lv2 X2 c1 last1 (n + 1) ∧ Sat w' (pyF K2 S x sb L1 lv2 last1 f t F)) ∧ Sm w2 w') → Ok (κ (int z) w1) Q) :
    Ok (rd2 (Fn Pg 12 [ptr S 0, .agg #[u64 s, cv]] w) κ) Q := by
  have hst : ∀ a ∈ gs, a.2.st = s := fun a ha => by
    obtain ⟨i, hi⟩ := List.getElem?_of_mem ha
    obtain ⟨y, hy⟩ : ∃ y, cs[i]? = some y := ⟨_, List.getElem?_eq_getElem (by rw [hcs.len]; exact (List.getElem?_eq_some_iff.1 hi).1)⟩
    exact (hcs.at_ i y a hy hi).2.st.symm
  have hpl : ∀ a ∈ gs, a.2.places.length ≤ 2 ^ 29 := fun a ha => by have := (hf.2 a ha).1; omega
  have hXl := hI.len (sto_srt hs (k := 1) rfl)
  have hgl := hf.1
  refine Ok.bind (came_app hI.s hn hf hr hcs hs) ?_
  rintro v w1 ⟨K1, L1, c1, last1, z, rfl, l1, hc1, hcase, t1, s1⟩
  refine hκ z K1 L1 c1 last1 w1 l1 t1 s1 fun w2 t2 => ?_
  refine Ok.mono (rapply_ok hI.s.gd hI.s.bd (by omega) (by omega) hpl hst (hr.mono l1) (hcs.mono l1) (hI.r.mono l1) hI.x (by omega) t2) ?_
  rintro v w3 (⟨h1, h2, rfl, K2, lv2, X2, l2, hr2, hX2, t3, s3⟩ | ⟨h1, rfl, t3, s3⟩)
  · rcases hcase with ⟨rfl, _, _, rfl, rfl⟩ | ⟨_, h3, _⟩
    · exact ⟨rfl, ⟨K2, lv2, X2, l1.trans l2, ⟨hc1.mono l2, hr2, hX2⟩, t3.re [0, 2, 1, 3] (by decide)⟩, s3⟩
    · exact absurd ⟨h1, h2⟩ h3
  · rcases hcase with ⟨_, h3, h4, _⟩ | ⟨rfl, _, rfl, rfl⟩
    · exact absurd ⟨h3, h4⟩ h1
    · exact ⟨rfl, ⟨K1, lv, X, l1, ⟨hc1, hI.r.mono l1, hI.x⟩, t3.re [0, 2, 1, 3] (by decide)⟩, s3⟩

/-- both are vacuumed. -/
theorem py_vac {K : Hl} {S x sb n : Nat} {L : List Ent} {lv sv : Value} {last : Int} {X : List KC} {c : ByteArray → List AV} {f t key : ByteArray} {ss : List Int} (hI : PyI K L lv X c last n) (hn : n ≤ 1000) (hk : key.size ≤ 2 ^ 62) (hu : RdS K 37 1 encU sv ss) (hul : ss.length ≤ 2 ^ 28) (hs : Sat w (pyF K S x sb L lv last f t F)) :
    Ok (Fn Pg 14 [ptr S 0, .string key, sv] w) fun v w1 => ∃ (k : ByteArray) (d : Value) (b : Bool) (K1 : Hl) (L1 : List Ent), v = .tuple #[.string k, d, .bool b] ∧ Le K K1 ∧ Sat w1 (kn K1 :: sto S L1 last :: pt x [lv, u64 last] 33 :: pt sb [.string f, .string t] 25 :: F) ∧ Sm w w1 ∧
      ∀ w2, Sat w2 (kn K1 :: pt x [lv, u64 last] 33 :: sto S L1 last :: pt sb [.string f, .string t] 25 :: F) → Ok (Fn Pg 15 [ptr x 0, .string key, sv] w2) fun v w' => ∃ (d2 : Value) (K2 : Hl) (lv2 : Value) (X2 : List KC) (c2 : ByteArray → List AV) (ds : List AV), v = .tuple #[.string k, d2, .bool b] ∧ Le K K2 ∧ Rc K2 d ds ∧ Rc K2 d2 ds ∧ PlS ds ∧ ds.length ≤ 2 ^ 60 ∧ PyI K2 L1 lv2 X2 c2 last n ∧ Sat w' (pyF K2 S x sb L1 lv2 last f t F) ∧ Sm w2 w' := by
  have hXl := hI.len (sto_srt hs (k := 1) rfl)
  have hLl := hI.s.len
  have hkc := RowsM.eq hI.x hI.s.st (sto_srt hs (k := 1) rfl)
  refine Ok.mono (vacuum_ok (n := n) (by omega) hk hI.s.st hI.s.bd (by omega) hu hul hs) ?_
  rintro v w1 ⟨K1, l1, s1, hcase⟩
  have hrv : ∀ (L1 : List Ent) (w2 : World), Sat w2 (kn K1 :: pt x [lv, u64 last] 33 :: sto S L1 last :: pt sb [.string f, .string t] 25 :: F) → Ok (Fn Pg 15 [ptr x 0, .string key, sv] w2) (RvQ K1 x (u64 last) lv X c key ss (sto S L1 last :: pt sb [.string f, .string t] 25 :: F) w2) := fun L1 w2 t2 =>
    rvac_ok (hI.r.mono l1) hI.x hI.s.gd.right hI.s.bd (by omega) (by omega) (hu.mono l1) (by omega) t2
  rcases hcase with ⟨hno, rfl, t1⟩ | ⟨e, dv, L1, hn1, rfl, hdv, hst, hL1, t1⟩
  · refine ⟨noB, _, true, K1, L, rfl, l1, t1, s1, fun w2 t2 => Ok.mono (hrv L w2 t2) ?_⟩
    rintro v w3 (⟨_, rfl, t3, s3⟩ | ⟨i, k, hi, hk1, hb1, _⟩)
    · exact ⟨_, K1, lv, X, c, [], rfl, l1, Rc.nil none 0, Rc.nil none 0, fun a ha => (by cases ha), by simp, hI.mono l1, t3.re [0, 2, 1, 3] (by decide), s3⟩
    · obtain ⟨e, he, _⟩ := next_rows hkc hi hk1 hb1
      rw [hno] at he; cases he
  · refine ⟨e.1, dv, false, K1, L1, rfl, l1, t1, s1, fun w2 t2 => Ok.mono (hrv L1 w2 t2) ?_⟩
    rintro v w3 (⟨hall, _⟩ | ⟨i, k, hi, hk1, hb1, K2, d2, lv2, X2, l2, rfl, hd2, hr2, hX2, hX2l, t3, s3⟩)
    · rw [next_rows_none hkc hall] at hn1; cases hn1
    · obtain ⟨e', he', rfl⟩ := next_rows hkc hi hk1 hb1
      rw [hn1] at he'
      injection he' with he'
      subst he'
      have hkl := keptL_len (c e.1) (fun i => ¬ keepP (c e.1) ss i)
      have hcl := hI.s.bd.len e.1
      refine ⟨d2, K2, lv2, X2, _, _, rfl, l1.trans l2, hdv.mono l2, hd2, fun a ha => ?_, by omega, ⟨⟨hst.mono l2, gd_sub hI.s.gd sub_set, bd_sub hI.s.bd sub_set, by omega⟩, hr2, hX2⟩, t3.re [0, 2, 1, 3] (by decide), s3⟩
      have := hI.s.bd.pl e.1 a ((kept_sub _ _).subset ha)
      omega

theorem py_loop {K0 : Hl} {v : Value} {x sb : Nat} {xs : List MAct} {gs : List AAct} {at' m : Int} {f t : ByteArray} (hf : fewA gs) :
    ∀ (j i : Nat) (K : Hl) (S : Nat) (L : List Ent) (lv : Value) (X : List KC) (c : ByteArray → List AV) (last : Int) (e : Env) (w : World), i + j = gs.length → Le K0 K → RdS K 22 5 encAc v xs → Racs K xs gs → PyI K L lv X c last i →
      e 0 = v → e 1 = u64 at' → e 3 = int m → e 6 = ptr sb 0 → e 9 = ptr S 0 → e 10 = ptr x 0 → e 11 = int i → e 133 = undef → Go w0 (pyF K S x sb L lv last f t F) w (PL1 e w) (LawQ K0 w0 F) := by
  intro j
  induction j with
  | zero =>
    intro i K S L lv X c last e w hij hl0 hr hx hI e0 e1 e3 e6 e9 e10 e11 e133
    unfold PL1
    rw [S3_L1_eq]; unfold S3_L1
    rw [e0, e1, e3, e6, e9, e10, e11, e133]
    repeat refine Go.z ?_
    rw [hx.len]
    refine Go.ci (fun h => absurd (of_decide_eq_true h) (by omega)) fun _ => ?_
    have hlen := hf.1
    refine Go.dw (Go.keep fun hs00 _ => ?_)
    have hXl := hI.len (sto_srt hs00 (k := 1) rfl)
    have hLl := hI.s.len
    have hkc := RowsM.eq hI.x hI.s.st (sto_srt hs00 (k := 1) rfl)
    have hall : allC c L = X := (allC_kc hI.s.gd L).trans hkc
    refine Go.ok fun hs hm => Ok.bind (rows33_ok (n := i) (by omega) hI.s.st hI.s.bd (by omega) hs) ?_
    rintro r w3 ⟨K1, zs, l1, hr1, hx1, t3, s3⟩
    have hx1 : Rks K1 zs X := by rw [← hall]; exact hx1
    refine Ok.go t3 (hm.trans s3) ?_
    repeat refine Go.z ?_
    refine Go.ck (hold_ld (ld_of hs00 (by with_unfolding_all rfl))) ?_
    obtain ⟨ys, r1, r2, r3⟩ := hI.r.mono l1
    have hp : ∀ l ∈ X, PlS l.2 ∧ l.2.length ≤ 2 ^ 60 := fun l hl => by
      obtain ⟨h1, h2⟩ := (hI.x.2 l).1 hl
      rw [← h1]
      have := hI.s.bd.len l.1
      exact ⟨fun a ha => by have := hI.s.bd.pl _ a ha; omega, by omega⟩
    refine Go.ok fun hs hm => Ok.bind (sameRows_ok hr1 r1 hx1 r3 hp (by omega) hs) ?_
    rintro r w4 ⟨rfl, t4, s4⟩
    rw [decide_eq_true (rfl : X = X)]
    refine Ok.go t4 (hm.trans s4) ?_
    repeat refine Go.z ?_
    refine Go.ok fun hs hm => Ok.bind (holds_ok hs) ?_
    rintro r w5 ⟨rfl, t5, s5⟩
    refine Ok.go t5 (hm.trans s5) ?_
    repeat refine Go.z ?_
    exact Go.ret fun hs hm => ⟨rfl, K1, hl0.trans l1, (hs.re [1, 2, 3, 0] (by decide)).drop.drop.drop, hm⟩
  | succ j ih =>
    intro i K S L lv X c last e w hij hl0 hr hx hI e0 e1 e3 e6 e9 e10 e11 e133
    have hi : i < gs.length := by omega
    have hlen := hf.1
    obtain ⟨a, ha⟩ : ∃ a, gs[i]? = some a := ⟨_, List.getElem?_eq_getElem hi⟩
    obtain ⟨y, hy⟩ : ∃ y, xs[i]? = some y := ⟨_, List.getElem?_eq_getElem (by rw [hx.len]; exact hi)⟩
    obtain ⟨p, g1, k1⟩ := hr.get hy rfl
    have hra := hx.at_ i y a hy ha
    obtain ⟨cs, hcs1, hcs2⟩ := hra.cs
    rw [← hra.st] at hcs2
    obtain ⟨hfg, hfs, hfk⟩ := hf.2 a (List.mem_of_getElem? ha)
    rw [← hra.key] at hfk
    have next : ∀ (nb : Nat) (K1 : Hl) (S1 : Nat) (L1 : List Ent) (lv1 : Value) (X1 : List KC) (c1 : ByteArray → List AV) (last1 : Int) (e' : Env) (w' : World), Le K K1 → PyI K1 L1 lv1 X1 c1 last1 (i + 1) → e' 0 = v → e' 1 = u64 at' → e' 3 = int m → e' 6 = ptr sb 0 → e' 9 = ptr S1 0 → e' 10 = ptr x 0 → e' 11 = int (i + 1 : Nat) → e' 133 = undef →
        Go w0 (pyF K1 S1 x sb L1 lv1 last1 f t (pt nb (encAc y) 39 :: F)) w' (PL1 e' w') (LawQ K0 w0 F) := by
      intro nb K1 S1 L1 lv1 X1 c1 last1 e' w' l1 hI1 q0 q1 q3 q6 q9 q10 q11 q133
      refine Go.re [4, 0, 1, 2, 3] (by decide) (Go.dr ?_)
      exact ih (i + 1) K1 S1 L1 lv1 X1 c1 last1 e' w' (by omega) (hl0.trans l1) (hr.mono l1) (hx.mono l1) hI1 q0 q1 q3 q6 q9 q10 q11 q133
    unfold PL1
    rw [S3_L1_eq]; unfold S3_L1
    rw [e0, e1, e3, e6, e9, e10, e11, e133]
    refine Go.keep fun hs00 _ => ?_
    have hXl := hI.len (sto_srt hs00 (k := 1) rfl)
    repeat refine Go.z ?_
    rw [hx.len]
    refine Go.ci (fun _ => ?_) fun h => absurd (of_decide_eq_false h) (by omega)
    repeat refine Go.z ?_
    refine Go.al fun nb w1 => ?_
    refine Go.sta (cs := encAc y) (by rfl) (by rfl) fun w2 => ?_
    repeat refine Go.z ?_
    refine Go.ok fun hs hm => Ok.go (F := pyF K S x sb L lv last f t (pt nb (encAc y) 39 :: F)) (hs.re [1, 2, 3, 4, 0] (by decide)) hm ?_
    have hkind : (y.kind = 0 ∨ y.kind = 1 ∨ y.kind = 2) ∨ y.kind = 3 ∨ y.kind = 4 ∨ y.kind = 5 ∨ (y.kind ≠ 0 ∧ y.kind ≠ 1 ∧ y.kind ≠ 2 ∧ y.kind ≠ 3 ∧ y.kind ≠ 4 ∧ y.kind ≠ 5) := by omega
    have tail : ∀ (K1 : Hl) (S1 : Nat) (L1 : List Ent) (lv1 : Value) (X1 : List KC) (c1 : ByteArray → List AV) (last1 : Int) (w3 : World), PyI K1 L1 lv1 X1 c1 last1 (i + 1) → Sat w3 (pyF K1 S1 x sb L1 lv1 last1 f t (pt nb (encAc y) 39 :: F)) →
        Ok (Fn Pg 21 [ptr S1 0, ptr x 0, .string y.key, u64 at', .agg #[.string f, .string t], int m] w3) fun r w' => r = .bool true ∧ (∃ K', Le K1 K' ∧ Sat w' (pyF K' S1 x sb L1 lv1 last1 f t (pt nb (encAc y) 39 :: F))) ∧ Sm w3 w' := by
      intro K1 S1 L1 lv1 X1 c1 last1 w3 hI1 t3
      have hXl := hI1.len (sto_srt t3 (k := 1) rfl)
      exact law_same_ok hI1.s (by omega) hI1.r hI1.x (by omega) t3
    rcases hkind with hk | hk | hk | hk | hk
    · have happ : ∀ (κ : Value → World → R) (w3 : World), Sm w0 w3 → Sat w3 (pyF K S x sb L lv last f t (pt nb (encAc y) 39 :: F)) → (∀ (z : Int) (K1 : Hl) (L1 : List Ent) (c1 : ByteArray → List AV) (last1 : Int) (w1 : World), Le K K1 → 
          (∀ (κ3 : Value → World → R) (w2 : World), (∀ K2 lv2 X2 w', Le K K2 → PyI K2 L1 lv2 X2 c1 last1 (i + 1) → Go w0 (pyF K2 S x sb L1 lv2 last1 f t (pt nb (encAc y) 39 :: F)) w' (κ3 (int z) w') (LawQ K0 w0 F)) → Go w0 (kn K1 :: pt x [lv, u64 last] 33 :: sto S L1 last1 :: pt sb [.string f, .string t] 25 :: pt nb (encAc y) 39 :: F) w2 (rd2 (Fn Pg 13 [ptr x 0, .agg #[u64 y.st, y.cv.1]] w2) κ3) (LawQ K0 w0 F)) →
          Go w0 (kn K1 :: pt x [lv, u64 last] 33 :: sto S L1 last1 :: pt sb [.string f, .string t] 25 :: pt nb (encAc y) 39 :: F) w1 (κ (int z) w1) (LawQ K0 w0 F)) → Ok (rd2 (Fn Pg 12 [ptr S 0, .agg #[u64 y.st, y.cv.1]] w3) κ) (LawQ K0 w0 F) := by
        intro κ w3 m3 t3 hκ
        refine py_app hI (by omega) hfg hcs1 hcs2 t3 ?_
        intro z K1 L1 c1 last1 w4 l1 t4 s4 h13
        refine Ok.go (t4.re [0, 2, 1, 3] (by decide)) (m3.trans s4) ?_
        refine hκ z K1 L1 c1 last1 w4 l1 ?_
        intro κ3 w5 h3
        refine Go.ok fun hs hm => Ok.bind (h13 w5 hs) ?_
        rintro r w6 ⟨rfl, ⟨K2, lv2, X2, l2, hI2, t6⟩, s6⟩
        exact Ok.go t6 (hm.trans s6) (h3 K2 lv2 X2 w6 l2 hI2)
      have d (q : Int) (h : y.kind = q) : decide (y.kind = q) = true := decide_eq_true h
      have n (q : Int) (h : y.kind ≠ q) : decide (y.kind = q) = false := decide_eq_false h
      rcases hk with hk | hk | hk
      · rw [d 0 hk]
        repeat refine Go.z ?_
        refine Go.keep fun hs0 _ => ?_
        refine Go.ok fun hs hm => happ _ _ hm hs ?_
        intro z K1 L1 c1 last1 w4 l1 h13
        repeat refine Go.z ?_
        refine Go.ck (hold_ld (lap_of hs0)) ?_
        refine h13 _ _ fun K2 lv2 X2 w5 l2 hI2 => ?_
        repeat refine Go.z ?_
        rw [decide_eq_true (rfl : z = z)]
        repeat refine Go.z ?_
        refine Go.ok fun hs hm => Ok.bind (tail K2 S L1 lv2 X2 c1 last1 _ hI2 hs) ?_
        rintro r w6 ⟨rfl, ⟨K3, l3, t3⟩, s3⟩
        refine Ok.go t3 (hm.trans s3) ?_
        repeat refine Go.z ?_
        refine next nb K3 S L1 lv2 X2 c1 last1 _ _ (l2.trans l3) (hI2.mono l3) ?_ ?_ ?_ ?_ ?_ ?_ ?_ ?_
        all_goals first | rfl | exact e0 | exact e1 | exact e3 | exact e6 | exact e9 | exact e10 | exact e133
      · rw [n 0 (by omega)]
        repeat refine Go.z ?_
        rw [d 1 hk]
        repeat refine Go.z ?_
        refine Go.keep fun hs0 _ => ?_
        refine Go.ok fun hs hm => happ _ _ hm hs ?_
        intro z K1 L1 c1 last1 w4 l1 h13
        repeat refine Go.z ?_
        refine Go.ck (hold_ld (lap_of hs0)) ?_
        refine h13 _ _ fun K2 lv2 X2 w5 l2 hI2 => ?_
        repeat refine Go.z ?_
        rw [decide_eq_true (rfl : z = z)]
        repeat refine Go.z ?_
        refine Go.ok fun hs hm => Ok.bind (tail K2 S L1 lv2 X2 c1 last1 _ hI2 hs) ?_
        rintro r w6 ⟨rfl, ⟨K3, l3, t3⟩, s3⟩
        refine Ok.go t3 (hm.trans s3) ?_
        repeat refine Go.z ?_
        refine next nb K3 S L1 lv2 X2 c1 last1 _ _ (l2.trans l3) (hI2.mono l3) ?_ ?_ ?_ ?_ ?_ ?_ ?_ ?_
        all_goals first | rfl | exact e0 | exact e1 | exact e3 | exact e6 | exact e9 | exact e10 | exact e133
      · rw [n 0 (by omega)]
        repeat refine Go.z ?_
        rw [n 1 (by omega)]
        repeat refine Go.z ?_
        rw [d 2 hk]
        repeat refine Go.z ?_
        refine Go.keep fun hs0 _ => ?_
        refine Go.ok fun hs hm => happ _ _ hm hs ?_
        intro z K1 L1 c1 last1 w4 l1 h13
        repeat refine Go.z ?_
        refine Go.ck (hold_ld (lap_of hs0)) ?_
        refine h13 _ _ fun K2 lv2 X2 w5 l2 hI2 => ?_
        repeat refine Go.z ?_
        rw [decide_eq_true (rfl : z = z)]
        repeat refine Go.z ?_
        refine Go.ok fun hs hm => Ok.bind (tail K2 S L1 lv2 X2 c1 last1 _ hI2 hs) ?_
        rintro r w6 ⟨rfl, ⟨K3, l3, t3⟩, s3⟩
        refine Ok.go t3 (hm.trans s3) ?_
        repeat refine Go.z ?_
        refine next nb K3 S L1 lv2 X2 c1 last1 _ _ (l2.trans l3) (hI2.mono l3) ?_ ?_ ?_ ?_ ?_ ?_ ?_ ?_
        all_goals first | rfl | exact e0 | exact e1 | exact e3 | exact e6 | exact e9 | exact e10 | exact e133
    all_goals have d (q : Int) (h : y.kind = q) : decide (y.kind = q) = true := decide_eq_true h
    all_goals have n (q : Int) (h : y.kind ≠ q) : decide (y.kind = q) = false := decide_eq_false h
    · -- a vacuum
      rw [n 0 (by omega)]
      repeat refine Go.z ?_
      rw [n 1 (by omega)]
      repeat refine Go.z ?_
      rw [n 2 (by omega)]
      repeat refine Go.z ?_
      rw [d 3 hk]
      repeat refine Go.z ?_
      refine Go.ok fun hs hm => Ok.bind (py_vac hI (by omega) (by omega) hra.ss (by omega) hs) ?_
      rintro r w3 ⟨k, d1, b, K1, L1, rfl, l1, t3, s3, h15⟩
      have t3 : Sat w3 (kn K1 :: pt x [lv, u64 last] 33 :: sto S L1 last :: pt sb [.string f, .string t] 25 :: pt nb (encAc y) 39 :: F) := t3.re [0, 2, 1, 3] (by decide)
      refine Ok.go t3 (hm.trans s3) ?_
      repeat refine Go.z ?_
      refine Go.ok fun hs hm => Ok.bind (h15 _ hs) ?_
      rintro r w4 ⟨d2, K2, lv2, X2, c2, ds, rfl, l2, r1, r2, pl, dl, hI2, t4, s4⟩
      refine Ok.go t4 (hm.trans s4) ?_
      repeat refine Go.z ?_
      rw [decide_eq_true (rfl : k = k)]
      repeat refine Go.z ?_
      refine Go.ok fun hs hm => Ok.bind (sameAll_ok r1 r2 pl dl hs) ?_
      rintro r w5 ⟨rfl, t5, s5⟩
      rw [decide_eq_true (rfl : ds = ds)]
      refine Ok.go t5 (hm.trans s5) ?_
      repeat refine Go.z ?_
      rw [beq_self_eq_true]
      repeat refine Go.z ?_
      have hI3 := hI2.more (Nat.le_succ i)
      refine Go.ok fun hs hm => Ok.bind (tail K2 S L1 lv2 X2 c2 last _ hI3 hs) ?_
      rintro r w6 ⟨rfl, ⟨K9, l9, t9⟩, s9⟩
      refine Ok.go t9 (hm.trans s9) ?_
      repeat refine Go.z ?_
      refine next nb K9 S L1 lv2 X2 c2 last _ _ (l2.trans l9) (hI3.mono l9) ?_ ?_ ?_ ?_ ?_ ?_ ?_ ?_
      all_goals first | rfl | exact e0 | exact e1 | exact e3 | exact e6 | exact e9 | exact e10 | exact e133
    · -- a copy
      rw [n 0 (by omega)]
      repeat refine Go.z ?_
      rw [n 1 (by omega)]
      repeat refine Go.z ?_
      rw [n 2 (by omega)]
      repeat refine Go.z ?_
      rw [n 3 (by omega)]
      repeat refine Go.z ?_
      rw [d 4 hk]
      repeat refine Go.z ?_
      refine Go.ok fun hs hm => Ok.bind (scopy_ok (S := S) (L := L) (last := last) (hs.re [1, 0] (by decide))) ?_
      rintro r w3 ⟨U, rfl, t3, s3⟩
      have t3 : Sat w3 (pyF K U x sb L lv last f t (pt nb (encAc y) 39 :: F)) := (t3.re [1, 2, 0, 3, 4, 5] (by decide)).drop
      refine Ok.go t3 (hm.trans s3) ?_
      repeat refine Go.z ?_
      have hI3 := hI.more (Nat.le_succ i)
      refine Go.ok fun hs hm => Ok.bind (tail K U L lv X c last _ hI3 hs) ?_
      rintro r w6 ⟨rfl, ⟨K9, l9, t9⟩, s9⟩
      refine Ok.go t9 (hm.trans s9) ?_
      repeat refine Go.z ?_
      refine next nb K9 U L lv X c last _ _ l9 (hI3.mono l9) ?_ ?_ ?_ ?_ ?_ ?_ ?_ ?_
      all_goals first | rfl | exact e0 | exact e1 | exact e3 | exact e6 | exact e9 | exact e10 | exact e133
    · -- one that is made of its rows
      rw [n 0 (by omega)]
      repeat refine Go.z ?_
      rw [n 1 (by omega)]
      repeat refine Go.z ?_
      rw [n 2 (by omega)]
      repeat refine Go.z ?_
      rw [n 3 (by omega)]
      repeat refine Go.z ?_
      rw [n 4 (by omega)]
      repeat refine Go.z ?_
      rw [d 5 hk]
      repeat refine Go.z ?_
      have hLl := hI.s.len
      have hkc := RowsM.eq hI.x hI.s.st (sto_srt hs00 (k := 1) rfl)
      have hall : allC c L = X := (allC_kc hI.s.gd L).trans hkc
      refine Go.ok fun hs hm => Ok.bind (rows33_ok (n := i) (by omega) hI.s.st hI.s.bd (by omega) hs) ?_
      rintro r w3 ⟨K1, zs, l1, hr1, hx1, t3, s3⟩
      have hx1 : Rks K1 zs X := by rw [← hall]; exact hx1
      refine Ok.go t3 (hm.trans s3) ?_
      refine Go.keep fun hs0 _ => ?_
      refine Go.rd2 (slast_ok (S := S) (L := L) (last := last) hs0 1 rfl) ?_
      refine Go.ok fun hs hm => Ok.bind (from_ok hI.s.gd hI.s.bd (by omega) hI.x (by omega) hr1 hx1 hs) ?_
      rintro r w4 ⟨U, rfl, ⟨K2, L2, l2, hst2, hL2, t4⟩, s4⟩
      have t4 : Sat w4 (pyF K2 U x sb L2 lv last f t (pt nb (encAc y) 39 :: F)) := (t4.re [2, 0, 1, 3, 4, 5] (by decide)).drop
      refine Ok.go t4 (hm.trans s4) ?_
      repeat refine Go.z ?_
      have hI3 : PyI K2 L2 lv X c last (i + 1) := ⟨⟨hst2, hI.s.gd, bd_mono hI.s.bd (Nat.le_succ i), by omega⟩, (hI.r.mono l1).mono l2, hI.x⟩
      have l12 := l1.trans l2
      refine Go.ok fun hs hm => Ok.bind (tail K2 U L2 lv X c last _ hI3 hs) ?_
      rintro r w6 ⟨rfl, ⟨K9, l9, t9⟩, s9⟩
      refine Ok.go t9 (hm.trans s9) ?_
      repeat refine Go.z ?_
      refine next nb K9 U L2 lv X c last _ _ (l12.trans l9) (hI3.mono l9) ?_ ?_ ?_ ?_ ?_ ?_ ?_ ?_
      all_goals first | rfl | exact e0 | exact e1 | exact e3 | exact e6 | exact e9 | exact e10 | exact e133
    · -- nothing
      rw [n 0 (by omega)]
      repeat refine Go.z ?_
      rw [n 1 (by omega)]
      repeat refine Go.z ?_
      rw [n 2 (by omega)]
      repeat refine Go.z ?_
      rw [n 3 (by omega)]
      repeat refine Go.z ?_
      rw [n 4 (by omega)]
      repeat refine Go.z ?_
      rw [n 5 (by omega)]
      repeat refine Go.z ?_
      have hI3 := hI.more (Nat.le_succ i)
      refine Go.ok fun hs hm => Ok.bind (tail K S L lv X c last _ hI3 hs) ?_
      rintro r w6 ⟨rfl, ⟨K9, l9, t9⟩, s9⟩
      refine Ok.go t9 (hm.trans s9) ?_
      repeat refine Go.z ?_
      refine next nb K9 S L lv X c last _ _ l9 (hI3.mono l9) ?_ ?_ ?_ ?_ ?_ ?_ ?_ ?_
      all_goals first | rfl | exact e0 | exact e1 | exact e3 | exact e6 | exact e9 | exact e10 | exact e133

instance : Bv 33 [] (.agg #[.slice none 0 0, u64 0]) := ⟨by kernel_rfl⟩
theorem plays_ok {K : Hl} {v : Value} {xs : List MAct} {gs : List AAct} {at' m : Int} {f t : ByteArray} (hr : RdS K 22 5 encAc v xs) (hx : Racs K xs gs) (hs : Sat w (kn K :: F)) : Ok (Fn Pg 3 [v, u64 at', .agg #[.string f, .string t], int m] w) (LawQ K w F) := by
  rw [F3]; unfold S3
  refine Ok.go hs (Sm.refl w) ?_
  refine Go.bxa (l := [.string f, .string t]) fun sb w1 => ?_
  have bad : ∀ w1 : World, Go w (pt sb [.string f, .string t] 25 :: kn K :: F) w1 (rd2 (Fn Pg 10 [] w1) fun x w' => some (x, w')) (LawQ K w F) := fun w1 => Go.ok fun hs hm => by
    refine Ok.bind (holds_ok hs) ?_
    rintro z w2 ⟨rfl, t2, s2⟩
    exact ⟨_, _, rfl, rfl, K, Le.refl K, t2.drop, hm.trans s2⟩
  refine Go.ok fun hs hm => Ok.bind (few29_ok hr hx hs.sw) ?_
  rintro z w1 ⟨⟨b, rfl, hb⟩, t1, s1⟩
  refine Ok.go (F := pt sb [.string f, .string t] 25 :: kn K :: F) (t1.re [1, 0] (by decide)) (hm.trans s1) ?_
  cases b with
  | false => repeat refine Go.z ?_; exact bad _
  | true =>
    have hf := hb rfl
    repeat refine Go.z ?_
    cases h1 : decide ((60 : Int) < (f.size : Int)) with
    | true => repeat refine Go.z ?_; exact bad _
    | false =>
      repeat refine Go.z ?_
      cases h2 : decide ((60 : Int) < (t.size : Int)) with
      | true => repeat refine Go.z ?_; exact bad _
      | false =>
        repeat refine Go.z ?_
        refine Go.ok fun hs hm => Ok.bind (snew_ok hs) ?_
        rintro z w3 ⟨S, rfl, t3, s3⟩
        refine Ok.go t3 (hm.trans s3) ?_
        repeat refine Go.z ?_
        refine Go.bxa (l := [.slice none 0 0, u64 0]) fun x w4 => ?_
        refine Go.ok fun hs hm => Ok.go (F := pyF K S x sb [] (.slice none 0 0) 0 f t F) (hs.re [3, 1, 0, 2] (by decide)) hm ?_
        refine py_loop (v := v) (m := m) (at' := at') hf gs.length 0 K S [] (.slice none 0 0) [] _ 0 _ w4 (by omega) (Le.refl K) hr hx ⟨Came.new K, Rrs.nil, ⟨.nil, fun x => ?_⟩⟩ ?_ ?_ ?_ ?_ ?_ ?_ ?_ ?_
        · simp
        all_goals rfl
end Go.Cb
