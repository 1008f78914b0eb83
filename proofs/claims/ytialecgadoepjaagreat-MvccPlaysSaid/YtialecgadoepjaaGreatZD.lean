import Derived.Test.YtialecgadoepjaaGreatZC
import Derived.Laws.BytesString
/-
  Chains: gone.
-/
set_option linter.unusedVariables false
set_option linter.unusedSimpArgs false
namespace Go.Cb
open Classical
variable {w : World} {F : List HP} {Q Q' : Value → World → Prop}

abbrev encU (n : Int) : List Value := [u64 n]
theorem enU : En encU 1 := ⟨fun _ => rfl, fun x v hv => by simp [encU] at hv; subst hv; rfl⟩
theorem T68 : SlT Pg 37 23 1 := slT_of (by kernel_rfl)
theorem bin_lt64 {st : Bool} {t : TypeId} {ox oy : Operand} {a b : Int} {w : World} : binG st Pg .lss t ox oy (u64 a) (u64 b) w = some (.bool (decide (a < b)), w) := rfl
theorem RdS.u {K : Hl} {sv : Value} {ss : List Int} (h : RdS K 37 1 encU sv ss) {i : Nat} {s : Int} (hi : ss[i]? = some s) : ∃ p : Addr, ixA Pg 37 sv (int i) = some (.pointer (some p)) ∧ ∀ w, K.on w → ldV Pg 23 (.pointer (some p)) w = some (u64 s) := by
  obtain ⟨p, h1, h2⟩ := h.ix i s hi
  refine ⟨p, h1, fun w hw => ?_⟩
  have hc := h2 w hw
  rw [ldV_sc a64]
  simp only [cellsAt, encU, Option.bind_eq_some_iff, Option.map_eq_some_iff] at hc
  obtain ⟨v0, g0, l, _, he⟩ := hc
  simp at he
  have h0 : p.add 0 = p := by simp [Addr.add]
  rw [h0] at g0
  rw [g0, he.1]

def goneP (vs : List AV) (ks ss : List Int) : Prop := ∃ a, vs[0]? = some a ∧ a.dead = true ∧ (∀ k ∈ ks, k = 0) ∧ ∀ s ∈ ss, ¬ s < a.st
def GoneQ (K : Hl) (m : Nat) (vs : List AV) (ks ss : List Int) (F : List HP) (w : World) (x : Value) (w' : World) : Prop :=
  x = .bool (decide (goneP vs ks ss)) ∧ Sat w' (mset m ks :: kn K :: F) ∧ Sm w w'

theorem gone_loop2 {K : Hl} {m : Nat} {v sv : Value} {vs : List AV} {ks ss : List Int} {a : AV} (hr : Rc K v vs) (hu : RdS K 37 1 encU sv ss) (ha : vs[0]? = some a) (hd : a.dead = true) (hks : ∀ k ∈ ks, k = 0) (hb : ss.length ≤ 2 ^ 30) :
    ∀ (j i : Nat) (e : Env) (w : World) (F : List HP), i + j = ss.length → (∀ (k : Nat) (s : Int), k < i → ss[k]? = some s → ¬ s < a.st) → Sat w (mset m ks :: kn K :: F) →
    e 0 = v → e 28 = sv → e 29 = int ss.length → e 30 = int i → e 41 = undef →
    Ok (evalLoop (cx146 (Fn Pg) (Rnd Pg)) (cdA Go.Proofs.Tryz.f146 [1, 0, 1, 1, 1, 0, 1, 0, 0]) (K146_5 (Fn Pg) (Rnd Pg)) e w) (GoneQ K m vs ks ss F w) := by
  intro j
  induction j with
  | zero =>
    intro i e w F hij hlo hs e0 e28 e29 e30 e41
    rw [S146_L2_eq]; unfold S146_L2
    rw [e0, e28, e29, e30, e41]
    refine Ok.rd2 bin_lss (Ok.cf (by simp; omega) ?_)
    have hg : goneP vs ks ss := ⟨a, ha, hd, hks, fun s hs => by
      obtain ⟨k, hk⟩ := List.getElem?_of_mem hs
      have := (List.getElem?_eq_some_iff.1 hk).1
      exact hlo k s (by omega) hk⟩
    exact ⟨_, _, rfl, by rw [decide_eq_true hg], hs, Sm.refl _⟩
  | succ j ih =>
    intro i e w F hij hlo hs e0 e28 e29 e30 e41
    have hi : i < ss.length := by omega
    obtain ⟨s, hss⟩ : ∃ s, ss[i]? = some s := ⟨_, List.getElem?_eq_getElem hi⟩
    obtain ⟨p, h1, h2⟩ := hu.u hss
    obtain ⟨q, x, g1, hx, g2⟩ := hr.at ha
    have hon := kn_on hs (j := 1) rfl
    have g1 : ixA Pg 43 v (int 0) = some (.pointer (some q)) := g1
    rw [S146_L2_eq]; unfold S146_L2
    rw [e0, e28, e29, e30, e41]
    refine Ok.rd2 bin_lss (Ok.ct (by simp; omega) ?_)
    refine Ok.rd h1 (Ok.rd (h2 w hon) (Ok.rd g1 (Ok.rd (fld85_0' _) (Ok.rd (g2 w hon).2.1 (Ok.rd2 bin_lt64 ?_)))))
    by_cases hlt : s < a.st
    · refine Ok.ct (decide_eq_true hlt) ?_
      refine ⟨_, _, rfl, ?_, hs, Sm.refl _⟩
      rw [decide_eq_false]
      rintro ⟨b, hb, _, _, hall⟩
      rw [ha] at hb
      have := Option.some.inj hb
      subst this
      exact hall s (List.mem_of_getElem? hss) hlt
    · refine Ok.cf (decide_eq_false hlt) (Ok.rd2 (bin_add1 (by omega)) ?_)
      refine Ok.mono (ih (i + 1) _ w F (by omega) (fun k t hk ht => by
        rcases Nat.lt_or_ge k i with h | h
        · exact hlo k t h ht
        · have : k = i := by omega
          rw [this, hss] at ht
          have := Option.some.inj ht
          subst this; exact hlt) hs ?_ ?_ ?_ ?_ ?_) ?_
      · exact e0
      · exact e28
      · exact e29
      · rfl
      · exact e41
      · rintro x w' hq; exact hq

def unseen (n : Nat) (seen : Array Nat) : Nat := ((List.range n).filter fun i => !seen.contains i).length
theorem unseen_lt {n i : Nat} {seen : Array Nat} (hi : i < n) (hs : i ∉ seen) : unseen n (seen.push i) < unseen n seen := by
  unfold unseen
  have : (List.range n).filter (fun k => !(seen.push i).contains k) = ((List.range n).filter fun k => !seen.contains k).filter fun k => decide (k ≠ i) := by
    rw [List.filter_filter]
    congr 1
    funext k
    simp only [Array.contains_push]
    by_cases h : k = i
    · subst h; simp
    · simp [h]
  rw [this, List.length_filter_lt_length_iff_exists]
  exact ⟨i, List.mem_filter.2 ⟨List.mem_range.2 hi, by simpa using hs⟩, by simp⟩

theorem gone_loop1 {K : Hl} {m r : Nat} {v sv : Value} {vs : List AV} {ks ss : List Int} {a : AV} (hr : Rc K v vs) (hu : RdS K 37 1 encU sv ss) (ha : vs[0]? = some a) (hd : a.dead = true) (hb : ss.length ≤ 2 ^ 30) :
    ∀ (d : Nat) (seen : Array Nat) (e : Env) (w : World) (F : List HP), unseen ks.length seen ≤ d → (∀ (n : Nat) (k : Int), n ∈ seen → ks[n]? = some k → k = 0) → Sat w (mit r m ks.length seen :: mset m ks :: kn K :: F) →
    e 0 = v → e 2 = sv → e 21 = ptr r 0 → e 41 = undef →
    Ok (evalLoop (cx146 (Fn Pg) (Rnd Pg)) (cdA Go.Proofs.Tryz.f146 [1, 0, 1, 1, 0, 1, 0, 0]) (K146_3 (Fn Pg) (Rnd Pg)) e w) (GoneQ K m vs ks ss F w) := by
  intro d
  induction d with
  | zero =>
    intro seen e w F hd0 hseen hs e0 e2 e21 e41
    rw [S146_L1_eq]; unfold S146_L1
    rw [e2, e21, e41]
    refine go_next hs (i := 0) (j := 1) rfl rfl (fun hall => ?_) (fun n k w1 hk hn _ _ => ?_)
    · refine Ok.rd rfl (Ok.cf rfl (Ok.rd2 (hu.len T68 w) ?_))
      refine gone_loop2 hr hu ha hd (fun k hk => ?_) hb ss.length 0 _ w F (by omega) (fun k s hk => absurd hk (Nat.not_lt_zero _)) hs.drop e0 rfl rfl rfl e41
      obtain ⟨n, hn⟩ := List.getElem?_of_mem hk
      exact hseen n k (hall n (List.getElem?_eq_some_iff.1 hn).1) hn
    · have := unseen_lt (List.getElem?_eq_some_iff.1 hk).1 hn
      omega
  | succ d ih =>
    intro seen e w F hd0 hseen hs e0 e2 e21 e41
    rw [S146_L1_eq]; unfold S146_L1
    rw [e2, e21, e41]
    refine go_next hs (i := 0) (j := 1) rfl rfl (fun hall => ?_) (fun n k w1 hk hn h1 s1 => ?_)
    · refine Ok.rd rfl (Ok.cf rfl (Ok.rd2 (hu.len T68 w) ?_))
      refine gone_loop2 hr hu ha hd (fun k hk => ?_) hb ss.length 0 _ w F (by omega) (fun k s hk => absurd hk (Nat.not_lt_zero _)) hs.drop e0 rfl rfl rfl e41
      obtain ⟨n, hn⟩ := List.getElem?_of_mem hk
      exact hseen n k (hall n (List.getElem?_eq_some_iff.1 hn).1) hn
    · have h1 : Sat w1 (mit r m ks.length (seen.push n) :: mset m ks :: kn K :: F) := h1
      refine Ok.rd rfl (Ok.ct rfl ?_)
      refine Ok.rd2 (entry_at h1 (i := 0) (j := 1) rfl rfl hk) (Ok.rd rfl (Ok.rd2 bin_eql ?_))
      by_cases h0 : k = 0
      · refine Ok.ct (by simp [h0]) ?_
        have hlt := unseen_lt (List.getElem?_eq_some_iff.1 hk).1 hn
        refine Ok.mono (ih (seen.push n) _ w1 F (by omega) (fun i c hi hc => ?_) h1 ?_ ?_ ?_ ?_) ?_
        · rcases Array.mem_push.1 hi with h | h
          · exact hseen i c h hc
          · rw [h, hk] at hc
            have := Option.some.inj hc
            omega
        · exact e0
        · exact e2
        · exact e21
        · exact e41
        · rintro x w' ⟨m1, m2, m3⟩
          exact ⟨m1, m2, s1.trans m3⟩
      · refine Ok.cf (by simpa using h0) ?_
        refine ⟨_, _, rfl, ?_, h1.drop, s1⟩
        rw [decide_eq_false]
        rintro ⟨b, _, _, hall, _⟩
        exact h0 (hall k (List.mem_of_getElem? hk))

theorem gone_ok {K : Hl} {m : Nat} {v sv : Value} {vs : List AV} {ks ss : List Int} (hr : Rc K v vs) (hu : RdS K 37 1 encU sv ss) (hb : ss.length ≤ 2 ^ 30) (hs : Sat w (mset m ks :: kn K :: F)) :
    Ok (Fn Pg 146 [v, .map (some m), sv] w) (GoneQ K m vs ks ss F w) := by
  rw [F146]; unfold S146
  have no : ¬ goneP vs ks ss → Ok (some (.bool false, w)) (GoneQ K m vs ks ss F w) := fun h => ⟨_, _, rfl, by rw [decide_eq_false h], hs, Sm.refl _⟩
  refine Ok.rd2 (hr.len w) (Ok.rd2 bin_eql ?_)
  match vs, hr, no with
  | [], hr, no =>
    refine Ok.f0 (Ok.f0 (Ok.f0 (Ok.f0 (Ok.f0 (Ok.rd (pick_t _ _) (Ok.ct rfl (no ?_)))))))
    rintro ⟨a, ha, _⟩
    simp at ha
  | a :: r, hr, no =>
    have hx : ((((a :: r).length : Nat) : Int) == 0) = false := by simp; omega
    have hon := kn_on hs (j := 1) rfl
    obtain ⟨q, x, g1, hxx, g2⟩ := hr.at (i := 0) (a := a) rfl
    have g1 : ixA Pg 43 v (int 0) = some (.pointer (some q)) := g1
    refine f_ok hx rfl (f_ok hx (by rw [g1]; rfl) (f_ok hx (by rw [fld85_1']; rfl) (f_ok hx (by rw [(g2 w hon).2.2]; rfl) (f_ok hx (by rw [un_not]; rfl) (pk_f hx ?_)))))
    cases hd : a.dead with
    | false =>
      refine Ok.ct rfl (no ?_)
      rintro ⟨b, hb, hbd, _⟩
      have := Option.some.inj hb
      subst this
      rw [hd] at hbd; cases hbd
    | true =>
      refine Ok.cf rfl ?_
      refine go_range hs (j := 0) rfl fun rr w1 h1 s1 => ?_
      refine Ok.mono (gone_loop1 hr hu rfl hd hb (unseen ks.length #[]) #[] _ w1 F (Nat.le_refl _) (fun n k hn => by simp at hn) h1 rfl rfl rfl rfl) ?_
      rintro y w' ⟨m1, m2, m3⟩
      exact ⟨m1, m2, s1.trans m3⟩
end Go.Cb

/-
  Chains: Prune.
-/
set_option linter.unusedVariables false
set_option linter.unusedSimpArgs false
namespace Go.Cb
open Classical
variable {w : World} {F : List HP} {Q Q' : Value → World → Prop}

theorem place_uniq {vs : List AV} {s : Int} {p q : Nat} (hp : PlaceP vs s p) (hq : PlaceP vs s q) : p = q := by
  have key : ∀ {p q : Nat}, PlaceP vs s p → PlaceP vs s q → ¬ p < q := by
    intro p q hp hq h
    have hlt : p < vs.length := by have := hq.le; omega
    exact hq.ahead p vs[p] h (List.getElem?_eq_getElem hlt) (hp.here _ (List.getElem?_eq_getElem hlt))
  rcases Nat.lt_trichotomy p q with h | h | h
  · exact absurd h (key hp hq)
  · exact h
  · exact absurd h (key hq hp)

/-- is a version seen, or the newest? -/
def seenP (vs : List AV) (ss : List Int) (i : Nat) : Prop := i = 0 ∨ ∃ s ∈ ss, i < vs.length ∧ PlaceP vs s i
def noneP (vs : List AV) (ss : List Int) : Prop := ∃ a, vs[0]? = some a ∧ a.dead = true ∧ (∀ i, seenP vs ss i → i = 0) ∧ ∀ s ∈ ss, ¬ s < a.st
def keepP (vs : List AV) (ss : List Int) (i : Nat) : Prop := ¬ RightP vs ∨ (seenP vs ss i ∧ ¬ noneP vs ss)
noncomputable def keptL (vs : List AV) (p : Nat → Prop) : List AV := (vs.zipIdx.filter fun x => decide (p x.2)).map (·.1)
theorem keptL_snoc (l : List AV) (a : AV) (p : Nat → Prop) : keptL (l ++ [a]) p = keptL l p ++ (if p l.length then [a] else []) := by
  unfold keptL
  rw [List.zipIdx_append, List.filter_append, List.map_append]
  congr 1
  by_cases h : p l.length <;> simp [h]
theorem keptL_len (l : List AV) (p : Nat → Prop) : (keptL l p).length ≤ l.length := by
  unfold keptL
  rw [List.length_map]
  exact Nat.le_trans (List.length_filter_le _ _) (by simp)

/-- the keys of those seen. -/
def Keys (vs : List AV) (ss : List Int) (ks : List Int) : Prop := RightP vs → ∀ k : Int, k ∈ ks ↔ ∃ i : Nat, k = i ∧ seenP vs ss i

theorem prune_loop1 {w0 : World} {K : Hl} {m : Nat} {v sv : Value} {vs : List AV} {ss : List Int} (hr : Rc K v vs) (hu : RdS K 37 1 encU sv ss) (hb : vs.length ≤ 2 ^ 28) (hb2 : ss.length ≤ 2 ^ 28)
    (cont : ∀ (ks : List Int) (e : Env) (w : World), Keys vs ss ks → Sat w (mset m ks :: kn K :: F) → Sm w0 w → e 0 = v → e 1 = sv → e 6 = .map (some m) → e 7 = .bool (!decide (RightP vs)) → e 21 = sv → e 22 = int ss.length → e 23 = int ss.length → e 75 = undef →
      Ok (evalLoop (cx69 (Fn Pg) (Rnd Pg)) (cdA Go.Proofs.Tryz.f69 [1, 1, 1, 0, 1, 0, 0]) (K69_2 (Fn Pg) (Rnd Pg)) e w) Q) : ∀ (j i : Nat) (ks : List Int) (e : Env) (w : World), i + j = ss.length → Keys vs (ss.take i) ks → Sat w (mset m ks :: kn K :: F) → Sm w0 w →
    e 0 = v → e 1 = sv → e 6 = .map (some m) → e 7 = .bool (!decide (RightP vs)) → e 21 = sv → e 22 = int ss.length → e 23 = int i → e 75 = undef →
    Ok (evalLoop (cx69 (Fn Pg) (Rnd Pg)) (cdA Go.Proofs.Tryz.f69 [1, 1, 1, 0, 1, 0, 0]) (K69_2 (Fn Pg) (Rnd Pg)) e w) Q := by
  intro j
  induction j with
  | zero =>
    intro i ks e w hij hk hs s0 e0 e1 e6 e7 e21 e22 e23 e75
    have hi : i = ss.length := by omega
    subst hi
    rw [List.take_length] at hk
    exact cont ks e w hk hs s0 e0 e1 e6 e7 e21 e22 e23 e75
  | succ j ih =>
    intro i ks e w hij hk hs s0 e0 e1 e6 e7 e21 e22 e23 e75
    have hi : i < ss.length := by omega
    obtain ⟨s, hss⟩ : ∃ s, ss[i]? = some s := ⟨_, List.getElem?_eq_getElem hi⟩
    obtain ⟨p, h1, h2⟩ := hu.u hss
    rw [S69_L1_eq]; unfold S69_L1
    rw [e0, e6, e21, e22, e23]
    refine Ok.rd2 bin_lss (Ok.ct (by simp; omega) ?_)
    refine Ok.rd h1 (Ok.rd (h2 w (kn_on hs (j := 1) rfl)) ?_)
    refine Ok.bind (place_any hr (by omega) hs.sw) ?_
    rintro x w1 ⟨⟨n, rfl, hn, hpl⟩, t1, s1⟩
    have htake : ss.take (i + 1) = ss.take i ++ [s] := by rw [List.take_add_one, hss]; rfl
    refine Ok.rd2 (hr.len w1) (Ok.rd2 bin_lss ?_)
    by_cases hlt : n < vs.length
    · refine Ok.ct (by simpa using hlt) ?_
      refine go_mput t1.sw (j := 0) rfl (n : Int) fun w2 t2 s2 => ?_
      refine Ok.rd2 (bin_add1 (by omega)) ?_
      have hk' : Keys vs (ss.take (i + 1)) (if (n : Int) ∈ ks then ks else ks ++ [(n : Int)]) := by
        intro hR k
        have hp := hpl hR
        have h0 := hk hR k
        have hmem : k ∈ (if (n : Int) ∈ ks then ks else ks ++ [(n : Int)]) ↔ k ∈ ks ∨ k = n := by
          by_cases hin : (n : Int) ∈ ks
          · rw [if_pos hin]
            exact ⟨.inl, fun h => h.elim id fun h => by rw [h]; exact hin⟩
          · rw [if_neg hin]; simp
        rw [hmem, h0, htake]
        constructor
        · rintro (⟨c, rfl, hc⟩ | rfl)
          · refine ⟨c, rfl, ?_⟩
            rcases hc with h | ⟨t, ht, h⟩
            · exact .inl h
            · exact .inr ⟨t, by simp [ht], h⟩
          · exact ⟨n, rfl, .inr ⟨s, by simp, hlt, hp⟩⟩
        · rintro ⟨c, rfl, hc⟩
          rcases hc with h | ⟨t, ht, hcl, hcp⟩
          · exact .inl ⟨c, rfl, .inl h⟩
          · rcases List.mem_append.1 ht with ht | ht
            · exact .inl ⟨c, rfl, .inr ⟨t, ht, hcl, hcp⟩⟩
            · simp at ht; subst ht
              right
              rw [place_uniq hcp hp]
      refine ih (i + 1) _ _ w2 (by omega) hk' t2 (s0.trans (s1.trans s2)) ?_ ?_ ?_ ?_ ?_ ?_ ?_ ?_
      · exact e0
      · exact e1
      · exact e6
      · exact e7
      · exact e21
      · exact e22
      · rfl
      · exact e75
    · refine Ok.cf (by simpa using hlt) (Ok.rd2 (bin_add1 (by omega)) ?_)
      have hk' : Keys vs (ss.take (i + 1)) ks := by
        intro hR k
        have hp := hpl hR
        rw [hk hR k, htake]
        constructor
        · rintro ⟨c, rfl, hc⟩
          refine ⟨c, rfl, ?_⟩
          rcases hc with h | ⟨t, ht, h⟩
          · exact .inl h
          · exact .inr ⟨t, by simp [ht], h⟩
        · rintro ⟨c, rfl, hc⟩
          refine ⟨c, rfl, ?_⟩
          rcases hc with h | ⟨t, ht, hcl, hcp⟩
          · exact .inl h
          · rcases List.mem_append.1 ht with ht | ht
            · exact .inr ⟨t, ht, hcl, hcp⟩
            · simp at ht; subst ht
              have := place_uniq hcp hp
              omega
      refine ih (i + 1) _ _ w1 (by omega) hk' t1.sw (s0.trans s1) ?_ ?_ ?_ ?_ ?_ ?_ ?_ ?_
      · exact e0
      · exact e1
      · exact e6
      · exact e7
      · exact e21
      · exact e22
      · rfl
      · exact e75

/-- is it kept? -/
theorem kp_ok {A N : Bool} {m j i : Nat} {ks : List Int} (hs : Sat w F) (hj : F[j]? = some (mset m ks)) {κ : Value → Value → Value → Value → Value → Value → Value → Value → World → R}
    (hκ : ∀ y1 y2 y3 y4 y5 y6 y7, Ok (κ y1 y2 y3 y4 y5 y6 y7 (.bool (A || (decide ((i : Int) ∈ ks) && !N))) w) Q) :
    Ok (rd2 (gate (.bool A) false (fun _ => some (.map (some m), w)) w) fun x109 w110 => rd2 (gate (.bool A) false (fun _ => some (int i, w110)) w110) fun x111 w112 =>
      rd2 (gate (.bool A) false (fun _ => rd2 (rawV Pg (Instr.lookup 248 x109 x111 false) w112) fun x113 w114 => some (x113, w114)) w112) fun x115 w116 =>
      rd2 (gate (.bool A) false (fun _ => some (x115, w116)) w116) fun x117 w118 => rd2 (gate x117 true (fun _ => some (.bool N, w118)) w118) fun x119 w120 =>
      rd2 (gate x117 true (fun _ => rd (unV .not x119) fun x121 => some (x121, w120)) w120) fun x122 w123 =>
      rd2 (gate (.bool A) false (fun _ => rd (pickV x117 x122 (.bool false)) fun x124 => some (x124, w123)) w123) fun x125 w126 =>
      rd (pickV (.bool A) (.bool true) x125) fun x127 => κ x109 x111 x115 x117 x119 x122 x125 x127 w126) Q := by
  cases A with
  | true =>
    refine Ok.f0 (Ok.f0 (Ok.f0 (Ok.f0 (Ok.rd2 (v := undef) (w := w) rfl (Ok.rd2 (v := undef) (w := w) rfl (Ok.f0 (Ok.rd (pick_t _ _) ?_)))))))
    exact hκ _ _ _ _ _ _ _
  | false =>
    refine f_ok rfl rfl (f_ok rfl rfl (f_ok rfl (gr2 (mget hs hj (i : Int))) (f_ok rfl rfl ?_)))
    cases hin : decide ((i : Int) ∈ ks) with
    | true =>
      refine t_ok rfl rfl (t_ok rfl (by rw [un_not]; rfl) (f_ok rfl (by rw [pick_t]; rfl) (pk_f rfl ?_)))
      have := hκ (.map (some m)) (int i) (.bool true) (.bool true) (.bool N) (.bool !N) (.bool !N)
      rw [hin] at this
      exact this
    | false =>
      refine t_no rfl (t_no rfl (f_ok rfl (by rw [pick_f]; rfl) (pk_f rfl ?_)))
      have := hκ (.map (some m)) (int i) (.bool false) (.bool false) undef undef (.bool false)
      rw [hin] at this
      exact this

/-- what Prune answers. -/
def PruneQ (K : Hl) (vs : List AV) (ss : List Int) (F : List HP) (w : World) (x : Value) (w' : World) : Prop :=
  ∃ K' kv dv, Le K K' ∧ x = .tuple #[kv, dv] ∧ Rc K' kv (keptL vs (keepP vs ss)) ∧ Rc K' dv (keptL vs fun i => ¬ keepP vs ss i) ∧ Sat w' (kn K' :: F) ∧ Sm w w'

theorem prune_loop2 {m : Nat} {v : Value} {vs : List AV} {ss ks : List Int} {A N : Bool} (hpb : PlB vs) (hb : vs.length ≤ 2 ^ 28) (hkp : ∀ i, i < vs.length → ((A || (decide ((i : Int) ∈ ks) && !N)) = true ↔ keepP vs ss i)) :
    ∀ (j i : Nat) (K : Hl) (xs ys : List Ver) (kv dv : Value) (e : Env) (w : World) (F : List HP), i + j = vs.length → Rc K v vs → Rvs K xs (keptL (vs.take i) (keepP vs ss)) → Rvs K ys (keptL (vs.take i) fun i => ¬ keepP vs ss i) →
    Sat w (slH 137 5 encVer kv xs :: slH 137 5 encVer dv ys :: mset m ks :: kn K :: F) →
    e 6 = .map (some m) → e 7 = .bool A → e 11 = .bool N → e 12 = kv → e 13 = dv → e 45 = v → e 46 = int vs.length → e 47 = int i → e 75 = undef →
    Ok (evalLoop (cx69 (Fn Pg) (Rnd Pg)) (cdA Go.Proofs.Tryz.f69 [1, 1, 1, 1, 1, 1, 0, 1, 0, 0]) (K69_4 (Fn Pg) (Rnd Pg)) e w) (PruneQ K vs ss F w) := by
  intro j
  induction j with
  | zero =>
    intro i K xs ys kv dv e w F hij hr hxs hys hs e6 e7 e11 e12 e13 e45 e46 e47 e75
    rw [S69_L2_eq]; unfold S69_L2
    rw [e6, e7, e11, e12, e13, e45, e46, e47, e75]
    refine Ok.rd2 bin_lss (Ok.cf (by simp; omega) ?_)
    have hi : i = vs.length := by omega
    rw [hi, List.take_length] at hxs hys
    obtain ⟨K1, l1, r1, h1⟩ := share T76 enVer (hs.re [0, 3, 1, 2] (by decide))
    have h1 : Sat w (kn K1 :: slH 137 5 encVer dv ys :: mset m ks :: F) := h1
    obtain ⟨K2, l2, r2, h2⟩ := share T76 enVer h1.sw
    exact ⟨_, _, rfl, K2, kv, dv, l1.trans l2, rfl, ⟨xs, r1.mono l2, hxs.mono (l1.trans l2)⟩, ⟨ys, r2, hys.mono (l1.trans l2)⟩, h2.sw.drop, Sm.refl _⟩
  | succ j ih =>
    intro i K xs ys kv dv e w F hij hr hxs hys hs e6 e7 e11 e12 e13 e45 e46 e47 e75
    have hi : i < vs.length := by omega
    obtain ⟨a, ha⟩ : ∃ a, vs[i]? = some a := ⟨_, List.getElem?_eq_getElem hi⟩
    obtain ⟨p, x, g1, hx, g2⟩ := hr.at ha
    have htake : vs.take (i + 1) = vs.take i ++ [a] := by rw [List.take_add_one, ha]; rfl
    have hlt : (vs.take i).length = i := by rw [List.length_take]; omega
    have hkb := hkp i hi
    have hxl : xs.length ≤ i := by rw [hxs.len]; exact Nat.le_trans (keptL_len _ _) (by rw [hlt]; exact Nat.le_refl _)
    have hyl : ys.length ≤ i := by rw [hys.len]; exact Nat.le_trans (keptL_len _ _) (by rw [hlt]; exact Nat.le_refl _)
    rw [S69_L2_eq]; unfold S69_L2
    rw [e6, e7, e11, e12, e13, e45, e46, e47, e75]
    refine Ok.rd2 bin_lss (Ok.ct (by simp; omega) ?_)
    refine Ok.rd g1 (Ok.rd (g2 w (kn_on hs (j := 3) rfl)).1 ?_)
    refine go_tmpG ty85 rfl (ones_ver x) hs fun nb w1 t1 s1 => ?_
    refine kp_ok t1 (j := 3) rfl fun y1 y2 y3 y4 y5 y6 y7 => ?_
    have hpa := hpb a (List.mem_of_getElem? ha)
    refine Ok.ci (fun hk => ?_) (fun hk => ?_)
    · have hkeep := hkb.1 hk
      refine Ok.rd (ldv t1 0 rfl) ?_
      refine Ok.bind (own_ok (j := 0) hx hpa (t1.re [4, 0, 1, 2, 3] (by decide))) ?_
      rintro y w2 ⟨K', x', hl, rfl, hx', t2, s2⟩
      have t2 : Sat w2 (kn K' :: pt nb (encVer x) 137 :: slH 137 5 encVer kv xs :: slH 137 5 encVer dv ys :: mset m ks :: F) := t2
      refine go_bs1 T76 enVer (by decide) (x := x') rfl t2 fun b w3 t3 hv3 s3 => ?_
      refine go_app T76 enVer t3 3 rfl hv3 (by simp; omega) fun a4 w4 t4 s4 => ?_
      have t4 : Sat w4 (pt b (encVer x') 137 :: kn K' :: pt nb (encVer x) 137 :: slH 137 5 encVer a4 (xs ++ [x']) :: slH 137 5 encVer dv ys :: mset m ks :: F) := t4
      refine Ok.rd2 (bin_add1 (by omega)) ?_
      have hxs' : Rvs K' (xs ++ [x']) (keptL (vs.take (i + 1)) (keepP vs ss)) := by
        rw [htake, keptL_snoc, hlt, if_pos hkeep]
        exact (hxs.mono hl).snoc hx'
      have hys' : Rvs K' ys (keptL (vs.take (i + 1)) fun i => ¬ keepP vs ss i) := by
        rw [htake, keptL_snoc, hlt, if_neg (by simpa using hkeep), List.append_nil]
        exact hys.mono hl
      refine Ok.mono (ih (i + 1) K' _ ys a4 dv _ w4 F (by omega) (hr.mono hl) hxs' hys' ((t4.re [0, 2, 3, 4, 5, 1] (by decide)).drop.drop) ?_ ?_ ?_ ?_ ?_ ?_ ?_ ?_ ?_) ?_
      · exact e6
      · exact e7
      · exact e11
      · rfl
      · exact e13
      · exact e45
      · exact e46
      · rfl
      · exact e75
      · rintro y w5 ⟨K2, k2, d2, l2, m1, m2, m3, m4, m5⟩
        exact ⟨K2, k2, d2, hl.trans l2, m1, m2, m3, m4, s1.trans (s2.trans (s3.trans (s4.trans m5)))⟩
    · have hkeep : ¬ keepP vs ss i := fun h => by rw [hkb.2 h] at hk; cases hk
      refine Ok.rd (ldv t1 0 rfl) ?_
      refine Ok.bind (own_ok (j := 0) hx hpa (t1.re [4, 0, 1, 2, 3] (by decide))) ?_
      rintro y w2 ⟨K', x', hl, rfl, hx', t2, s2⟩
      have t2 : Sat w2 (kn K' :: pt nb (encVer x) 137 :: slH 137 5 encVer kv xs :: slH 137 5 encVer dv ys :: mset m ks :: F) := t2
      refine go_bs1 T76 enVer (by decide) (x := x') rfl t2 fun b w3 t3 hv3 s3 => ?_
      refine go_app T76 enVer t3 4 rfl hv3 (by simp; omega) fun a4 w4 t4 s4 => ?_
      have t4 : Sat w4 (pt b (encVer x') 137 :: kn K' :: pt nb (encVer x) 137 :: slH 137 5 encVer kv xs :: slH 137 5 encVer a4 (ys ++ [x']) :: mset m ks :: F) := t4
      refine Ok.rd2 (bin_add1 (by omega)) ?_
      have hxs' : Rvs K' xs (keptL (vs.take (i + 1)) (keepP vs ss)) := by
        rw [htake, keptL_snoc, hlt, if_neg hkeep, List.append_nil]
        exact hxs.mono hl
      have hys' : Rvs K' (ys ++ [x']) (keptL (vs.take (i + 1)) fun i => ¬ keepP vs ss i) := by
        rw [htake, keptL_snoc, hlt, if_pos hkeep]
        exact (hys.mono hl).snoc hx'
      refine Ok.mono (ih (i + 1) K' xs _ kv a4 _ w4 F (by omega) (hr.mono hl) hxs' hys' ((t4.re [0, 2, 3, 4, 5, 1] (by decide)).drop.drop) ?_ ?_ ?_ ?_ ?_ ?_ ?_ ?_ ?_) ?_
      · exact e6
      · exact e7
      · exact e11
      · exact e12
      · rfl
      · exact e45
      · exact e46
      · rfl
      · exact e75
      · rintro y w5 ⟨K2, k2, d2, l2, m1, m2, m3, m4, m5⟩
        exact ⟨K2, k2, d2, hl.trans l2, m1, m2, m3, m4, s1.trans (s2.trans (s3.trans (s4.trans m5)))⟩
end Go.Cb

/-
  Chains: Prune, whole.
-/
set_option linter.unusedVariables false
set_option linter.unusedSimpArgs false
namespace Go.Cb
open Classical
variable {w : World} {F : List HP} {Q Q' : Value → World → Prop}

theorem gone_none {vs : List AV} {ss ks : List Int} (hR : RightP vs) (hk : Keys vs ss ks) : goneP vs ks ss ↔ noneP vs ss := by
  have hk := hk hR
  constructor
  · rintro ⟨a, h1, h2, h3, h4⟩
    refine ⟨a, h1, h2, fun i hi => ?_, h4⟩
    have := h3 (i : Int) ((hk i).2 ⟨i, rfl, hi⟩)
    omega
  · rintro ⟨a, h1, h2, h3, h4⟩
    refine ⟨a, h1, h2, fun k hkk => ?_, h4⟩
    obtain ⟨i, rfl, hi⟩ := (hk k).1 hkk
    rw [h3 i hi]; rfl

theorem prune_ok {K : Hl} {v sv : Value} {vs : List AV} {ss : List Int} (hpb : PlB vs) (hb : vs.length ≤ 2 ^ 28) (hb2 : ss.length ≤ 2 ^ 28) (hr : Rc K v vs) (hu : RdS K 37 1 encU sv ss) (hs : Sat w (kn K :: F)) :
    Ok (Fn Pg 69 [v, sv] w) (PruneQ K vs ss F w) := by
  rw [F69]; unfold S69
  refine go_mmake hs fun m w1 h1 s1 => ?_
  refine go_mput h1 (j := 0) rfl 0 fun w2 h2 s2 => ?_
  rw [if_neg (by simp)] at h2
  have h2 : Sat w2 (mset m [0] :: kn K :: F) := h2
  refine Ok.bind (right_ok hr (by omega) h2.sw) ?_
  rintro x w3 ⟨rfl, h3, s3⟩
  have h3 : Sat w3 (mset m [0] :: kn K :: F) := h3.sw
  refine Ok.rd (un_not _) (Ok.rd2 (hu.len T68 w3) ?_)
  have s0 := s1.trans (s2.trans s3)
  have hk0 : Keys vs (ss.take 0) [0] := by
    intro _ k
    simp only [List.take_zero, List.mem_singleton, seenP, List.not_mem_nil, false_and, exists_false, or_false]
    exact ⟨fun h => ⟨0, h, rfl⟩, fun ⟨i, h1, h2⟩ => by rw [h1, h2]; rfl⟩
  obtain ⟨e0, he0⟩ : ∃ e : Env, e = (upd (upd (upd (upd (upd (upd (upd (upd (upd (upd (upd (upd (envL [v, sv]) 4 (.slice none 0 0)) 5 (.slice none 0 0)) 16 (.map (some m))) 17 (.map (some m))) 6 (.map (some m))) 18 v) 19 (.bool (decide (RightP vs)))) 20 (.bool !decide (RightP vs))) 7 (.bool !decide (RightP vs))) 21 sv) 22 (int ss.length)) 23 (.int .i64 0)) := ⟨_, rfl⟩
  rw [← he0]
  have key : Ok (evalLoop (cx69 (Fn Pg) (Rnd Pg)) (cdA Go.Proofs.Tryz.f69 [1, 1, 1, 0, 1, 0, 0]) (K69_2 (Fn Pg) (Rnd Pg)) e0 w3) (PruneQ K vs ss F w) := by
    refine prune_loop1 (w0 := w) (F := F) (m := m) hr hu hb hb2 ?_ ss.length 0 [0] e0 w3 (by omega) hk0 h3 s0 (by rw [he0]; rfl) (by rw [he0]; rfl) (by rw [he0]; rfl) (by rw [he0]; rfl) (by rw [he0]; rfl) (by rw [he0]; rfl) (by rw [he0]; rfl) (by rw [he0]; rfl)
    intro ks e w4 hk h4 s4 e0 e1 e6 e7 e21 e22 e23 e75
    have fin : ∀ (N : Bool) (w5 : World) (e' : Env), (∀ i, i < vs.length → (((!decide (RightP vs)) || (decide ((i : Int) ∈ ks) && !N)) = true ↔ keepP vs ss i)) → Sat w5 (mset m ks :: kn K :: F) → Sm w w5 →
        e' 6 = .map (some m) → e' 7 = .bool (!decide (RightP vs)) → e' 11 = .bool N → e' 12 = .slice none 0 0 → e' 13 = .slice none 0 0 → e' 45 = v → e' 46 = int vs.length → e' 47 = int 0 → e' 75 = undef →
        Ok (evalLoop (cx69 (Fn Pg) (Rnd Pg)) (cdA Go.Proofs.Tryz.f69 [1, 1, 1, 1, 1, 1, 0, 1, 0, 0]) (K69_4 (Fn Pg) (Rnd Pg)) e' w5) (PruneQ K vs ss F w) := by
      intro N w5 e' hkp h5 s5 d6 d7 d11 d12 d13 d45 d46 d47 d75
      have h6 := slH_nil (T := 137) (k := 5) (enc := encVer) none (slH_nil (T := 137) (k := 5) (enc := encVer) none h5)
      refine Ok.mono (prune_loop2 (m := m) (ks := ks) (A := !decide (RightP vs)) (N := N) hpb hb hkp vs.length 0 K [] [] _ _ e' w5 F (by omega) hr Rvs.nil Rvs.nil h6 d6 d7 d11 d12 d13 d45 d46 d47 d75) ?_
      rintro y w6 ⟨K2, k2, d2, l2, m1, m2, m3, m4, m5⟩
      exact ⟨K2, k2, d2, l2, m1, m2, m3, m4, s5.trans m5⟩
    rw [S69_L1_eq]; unfold S69_L1
    rw [e0, e1, e6, e7, e21, e22, e23]
    refine Ok.rd2 bin_lss (Ok.cf (by simp) (Ok.rd (un_not _) ?_))
    by_cases hR : RightP vs
    · have hA : (!decide (RightP vs)) = false := by simp [hR]
      rw [hA] at fin ⊢
      refine t_ok rfl rfl (t_ok rfl rfl (t_ok rfl rfl ?_))
      refine t_call rfl (gone_ok hr hu (by omega) h4) ?_
      rintro y w5 ⟨rfl, h5, s5⟩
      refine pk_t rfl (Ok.rd2 (hr.len w5) ?_)
      refine fin (decide (goneP vs ks ss)) w5 _ (fun i hi => ?_) h5 (s4.trans s5) ?_ ?_ ?_ ?_ ?_ ?_ ?_ ?_ ?_
      · have hki := hk hR (i : Int)
        have hmem : (i : Int) ∈ ks ↔ seenP vs ss i := by
          rw [hki]
          exact ⟨fun ⟨c, h1, h2⟩ => by have : i = c := by omega
                                       rw [this]; exact h2, fun h => ⟨i, rfl, h⟩⟩
        rw [Bool.false_or, Bool.and_eq_true, decide_eq_true_iff, Bool.not_eq_true', decide_eq_false_iff_not, hmem, gone_none hR hk]
        exact ⟨fun h => .inr h, fun h => h.resolve_left (fun h' => h' hR)⟩
      · exact e6
      · exact e7.trans (by rw [hA])
      · rfl
      · rfl
      · rfl
      · rfl
      · rfl
      · rfl
      · exact e75
    · have hA : (!decide (RightP vs)) = true := by simp [hR]
      rw [hA] at fin ⊢
      refine t_no rfl (t_no rfl (t_no rfl (t_no rfl (pk_f rfl (Ok.rd2 (hr.len w4) ?_)))))
      refine fin false w4 _ (fun i hi => ?_) h4 s4 ?_ ?_ ?_ ?_ ?_ ?_ ?_ ?_ ?_
      · simp only [Bool.true_or, true_iff]
        exact .inl hR
      · exact e6
      · exact e7.trans (by rw [hA])
      · rfl
      · rfl
      · rfl
      · rfl
      · rfl
      · rfl
      · exact e75
  exact key
end Go.Cb

/-
  The store: how it lies; New, Last, chain, Read, Newest.
-/
set_option linter.unusedVariables false
set_option linter.unusedSimpArgs false
namespace Go.Cb
open Classical
variable {w : World} {F : List HP} {Q Q' : Value → World → Prop}

/-- a store of these keys. -/
def sto (S : Nat) (L : List Ent) (last : Int) : HP := fun h => ∃ T, stars [pt S [ptr T 0, u64 last] 144, tree T L] h
theorem sto_open {S : Nat} {L : List Ent} {last : Int} (hs : Sat w (sto S L last :: F)) : ∃ T, Sat w (pt S [ptr T 0, u64 last] 144 :: tree T L :: F) := by
  obtain ⟨T, h⟩ := Sat.ex.1 hs
  exact ⟨T, Sat.flat.1 h⟩
theorem sto_mk {S T : Nat} {L : List Ent} {last : Int} (hs : Sat w (pt S [ptr T 0, u64 last] 144 :: tree T L :: F)) : Sat w (sto S L last :: F) :=
  Sat.ex.2 ⟨T, (Sat.flat (G := [_, _])).2 hs⟩
theorem tree_srt {T : Nat} {L : List Ent} (hs : Sat w (tree T L :: F)) : Srt L := by
  obtain ⟨_, _, _, _, _, _, h4, _⟩ := tree_open hs
  exact h4

/-- what is stored: the keys' chains. -/
structure StoR (K : Hl) (L : List Ent) (c : ByteArray → List AV) : Prop where
  at_ : ∀ e ∈ L, Rc K e.2.1 (c e.1) ∧ c e.1 ≠ []
  no : ∀ k, ¬ hasL L k → c k = []
theorem StoR.mono {K K' : Hl} {L : List Ent} {c : ByteArray → List AV} (h : StoR K L c) (hl : Le K K') : StoR K' L c := ⟨fun e he => ⟨(h.at_ e he).1.mono hl, (h.at_ e he).2⟩, h.no⟩
theorem StoR.new (K : Hl) : StoR K [] fun _ => [] := ⟨fun e he => by simp at he, fun _ _ => rfl⟩
/-- chains that aren't too much. -/
structure Bd (c : ByteArray → List AV) (n : Nat) : Prop where
  pl : ∀ k, PlB (c k)
  len : ∀ k, (c k).length ≤ n

theorem u95 : Pg.underlying 28 = some (.pointer 144) := by kernel_rfl
theorem u93 : Pg.underlying 141 = some (.pointer 234) := by kernel_rfl
theorem a93 : aggT Pg 141 = some false := by kernel_rfl
theorem fld95_0 (b o : Nat) : fldA Pg 144 (ptr b o) 0 = some (ptr b o) := by kernel_rfl
theorem fld95_1 (b o : Nat) : fldA Pg 144 (ptr b o) 1 = some (ptr b (o + 1)) := by kernel_rfl
theorem bld95_1 (a : Option Addr) : bldV Pg 144 [(0, .pointer a)] = some (.agg #[.pointer a, u64 0]) := by kernel_rfl
theorem bld95_2 (a : Option Addr) (n : Int) : bldV Pg 144 [(0, .pointer a), (1, u64 n)] = some (.agg #[.pointer a, u64 n]) := by kernel_rfl
theorem bld95_0 : bldV Pg 144 [] = some (.agg #[.pointer none, u64 0]) := by kernel_rfl
theorem lds_0 {S : Nat} {a b : Value} (hs : Sat w F) (k : Nat) (hk : F[k]? = some (pt S [a, b] 144)) : ldV Pg 141 (ptr S 0) w = some a := (ldV_sc a93 _ _).trans ((hs.foc hk).at.cell 0)
theorem lds_1 {S : Nat} {a b : Value} (hs : Sat w F) (k : Nat) (hk : F[k]? = some (pt S [a, b] 144)) : ldV Pg 23 (ptr S (0 + 1)) w = some b := (ldV_sc a64 _ _).trans ((hs.foc hk).at.cell 1)
theorem sts_1 {S : Nat} {a b v : Value} (hs : Sat w F) (k : Nat) (hk : F[k]? = some (pt S [a, b] 144)) (hv : one v = true) : ∃ w', rawU Pg (Instr.storeAt 23 (ptr S (0 + 1)) v) w = some (undef, w') ∧ Sat w' (F.set k (pt S [a, v] 144)) ∧ Sm w w' :=
  st_one (sz_of (by kernel_rfl)) hs k hk (Nat.lt_succ_self 1) hv

theorem snone_ok {S : Nat} {a : Option Addr} {b : Value} (hs : Sat w F) (k : Nat) (hk : F[k]? = some (pt S [.pointer a, b] 144)) : Fn Pg 62 [ptr S 0] w = some (.bool a.isNone, w) := by
  have : Ok (Fn Pg 62 [ptr S 0] w) fun v w' => v = .bool a.isNone ∧ w' = w := by
    rw [F62]; unfold S62


    refine Ok.rd2 (eql_ptr u95) ?_
    refine Ok.f1 rfl (Ok.f1 (gr (nil_ptr _ _)) (Ok.f1 (gr (fld95_0 _ _)) (Ok.f1 (gr (lds_0 hs k hk)) (Ok.f1 (gr2 (eql_ptr u93)) ?_))))
    refine Ok.rd (pick_f _ _) (Ok.ret ⟨rfl, rfl⟩)
  obtain ⟨v, w', h1, rfl, rfl⟩ := this
  exact h1
theorem snone_nil : Fn Pg 62 [.pointer none] w = some (.bool true, w) := by
  have : Ok (Fn Pg 62 [.pointer none] w) fun v w' => v = .bool true ∧ w' = w := by
    rw [F62]; unfold S62

    refine Ok.rd2 (eql_ptr u95) ?_
    refine Ok.f0 (Ok.f0 (Ok.f0 (Ok.f0 (Ok.f0 ?_))))
    refine Ok.rd (pick_t _ _) (Ok.ret ⟨rfl, rfl⟩)
  obtain ⟨v, w', h1, rfl, rfl⟩ := this
  exact h1

theorem snew_ok (hs : Sat w F) : Ok (Fn Pg 11 [] w) fun v w' => ∃ S, v = ptr S 0 ∧ Sat w' (sto S [] 0 :: F) ∧ Sm w w' := by
  rw [F11]; unfold S11
  refine Ok.bind (new_ok hs) ?_
  rintro v w1 ⟨T, rfl, h1, s1⟩
  refine Ok.rd (bld95_1 _) ?_
  refine go_box (l := [ptr T 0, u64 0]) rfl h1 fun S w2 h2 s2 => ?_
  exact ⟨_, _, rfl, S, rfl, sto_mk h2, s1.trans s2⟩

theorem slast_ok {S : Nat} {L : List Ent} {last : Int} (hs : Sat w F) (k : Nat) (hk : F[k]? = some (sto S L last)) : Fn Pg 20 [ptr S 0] w = some (u64 last, w) := by
  obtain ⟨T, h0⟩ := sto_open (hs.foc hk)
  have : Ok (Fn Pg 20 [ptr S 0] w) fun v w' => v = u64 last ∧ w' = w := by
    rw [F20]; unfold S20
    refine Ok.rd2 (snone_ok h0 0 rfl) (Ok.cf rfl ?_)
    exact Ok.rd (nil_ptr _ _) (Ok.rd (fld95_1 _ _) (Ok.rd (lds_1 h0 0 rfl) (Ok.ret ⟨rfl, rfl⟩)))
  obtain ⟨v, w', h1, rfl, rfl⟩ := this
  exact h1

theorem chain_ok {K : Hl} {S : Nat} {L : List Ent} {last : Int} {c : ByteArray → List AV} {key : ByteArray} (hc : StoR K L c) (hs : Sat w (sto S L last :: F)) :
    Ok (Fn Pg 70 [ptr S 0, .string key] w) fun v w' => Rc K v (c key) ∧ Sat w' (sto S L last :: F) ∧ Sm w w' := by
  obtain ⟨T, h0⟩ := sto_open hs
  rw [F70]; unfold S70
  refine Ok.rd2 (snone_ok h0 0 rfl) (Ok.cf rfl ?_)
  refine Ok.rd (nil_ptr _ _) (Ok.rd (fld95_0 _ _) (Ok.rd (lds_0 h0 0 rfl) ?_))
  refine Ok.bind (get_ok h0.sw) ?_
  rintro v w1 ⟨rfl, h1, s1⟩
  have hsr : Srt L := tree_srt h1
  have h1 := sto_mk h1.sw
  by_cases hk : hasL L key
  · obtain ⟨e, he, rfl⟩ := hk
    rw [get_some hsr he]
    exact Ok.rd rfl (Ok.rd rfl ⟨_, _, rfl, (hc.at_ e he).1, h1, s1⟩)
  · rw [get_none hk]
    refine Ok.rd rfl (Ok.rd rfl ⟨_, _, rfl, ?_, h1, s1⟩)
    rw [hc.no key hk]; exact Rc.nil none 0

/-- a version that is told, and whether there is one. -/
def VerQ (K : Hl) (r : AV × Bool) (F : List HP) (w : World) (v : Value) (w' : World) : Prop :=
  ∃ K' x, Le K K' ∧ v = .tuple #[aggV x, .bool r.2] ∧ Rv K' x r.1 ∧ Sat w' (kn K' :: F) ∧ Sm w w'

theorem read_ok {K : Hl} {S : Nat} {L : List Ent} {last s : Int} {c : ByteArray → List AV} {n : Nat} {key : ByteArray} (hc : StoR K L c) (hb : Bd c n) (hn : n ≤ 2 ^ 28) (hs : Sat w (kn K :: sto S L last :: F)) :
    Ok (Fn Pg 57 [ptr S 0, .string key, u64 s] w) (VerQ K (atV (c key) s) (sto S L last :: F) w) := by
  rw [F57]; unfold S57
  refine go_new z85 hs fun r w1 h1 s1 => ?_
  refine Ok.bind (chain_ok hc (h1.re [2, 0, 1] (by decide))) ?_
  rintro v w2 ⟨hr, h2, s2⟩
  have h2 : Sat w2 (kn K :: sto S L last :: pt r [u64 0, .bool false, .slice none 0 0, u64 0, int 0] 137 :: F) := h2.re [2, 0, 1] (by decide)
  refine Ok.bind (at_ok (s := s) (hb.pl key) hr (by have := hb.len key; omega) h2) ?_
  rintro y w3 ⟨K', x, hl, rfl, hx, h3, s3⟩
  refine Ok.rd rfl (Ok.rd rfl ?_)
  obtain ⟨w4, m4, h4, s4⟩ := st_agg ty85 rfl (cs := #[u64 x.st, .bool x.dead, x.pv.1, u64 x.gen, int x.size]) rfl (ones_ver x) h3 2 rfl
  refine Ok.rd2 m4 ?_
  have h4 : Sat w4 (kn K' :: sto S L last :: pt r (encVer x) 137 :: F) := h4
  refine Ok.rd (ldv h4 2 rfl) ?_
  exact ⟨_, _, rfl, K', x, hl, rfl, hx, (h4.re [2, 0, 1] (by decide)).drop, s1.trans (s2.trans (s3.trans s4))⟩

/-- the newest of a chain. -/
noncomputable def newV (vs : List AV) : AV × Bool := match vs[0]? with
  | none => (zA, false)
  | some a => atV vs a.st
theorem newest_ok {K : Hl} {S : Nat} {L : List Ent} {last : Int} {c : ByteArray → List AV} {n : Nat} {key : ByteArray} (hc : StoR K L c) (hb : Bd c n) (hn : n ≤ 2 ^ 28) (hs : Sat w (kn K :: sto S L last :: F)) :
    Ok (Fn Pg 80 [ptr S 0, .string key] w) (VerQ K (newV (c key)) (sto S L last :: F) w) := by
  rw [F80]; unfold S80
  refine go_new z85 hs fun r w1 h1 s1 => ?_
  refine Ok.bind (chain_ok hc (h1.re [2, 0, 1] (by decide))) ?_
  rintro v w2 ⟨hr, h2, s2⟩
  have h2 : Sat w2 (kn K :: sto S L last :: pt r [u64 0, .bool false, .slice none 0 0, u64 0, int 0] 137 :: F) := h2.re [2, 0, 1] (by decide)
  refine Ok.rd2 (hr.len w2) (Ok.rd2 bin_eql ?_)
  by_cases h0 : (c key).length = 0
  · refine Ok.ct (by simp [h0]) (Ok.rd bld85_0 ?_)
    obtain ⟨w4, m4, h4, s4⟩ := st_agg ty85 rfl (cs := #[u64 zV.st, .bool zV.dead, zV.pv.1, u64 zV.gen, int zV.size]) rfl (ones_ver zV) h2 2 rfl
    refine Ok.rd2 m4 ?_
    have h4 : Sat w4 (kn K :: sto S L last :: pt r (encVer zV) 137 :: F) := h4
    refine Ok.rd (ldv h4 2 rfl) ?_
    have he : newV (c key) = (zA, false) := by
      rw [List.length_eq_zero_iff.1 h0]; rfl
    refine ⟨_, _, rfl, K, zV, Le.refl K, by rw [he], by rw [he]; exact zRv K, (h4.re [2, 0, 1] (by decide)).drop, s1.trans (s2.trans s4)⟩
  · refine Ok.cf (by simpa using h0) ?_
    obtain ⟨a, ha⟩ : ∃ a, (c key)[0]? = some a := ⟨_, List.getElem?_eq_getElem (Nat.pos_of_ne_zero h0)⟩
    obtain ⟨p, x, g1, hx, g2⟩ := hr.at ha
    refine Ok.rd g1 (Ok.rd (fld85_0' _) (Ok.rd (g2 w2 (kn_on h2 (j := 0) rfl)).2.1 ?_))
    have he : newV (c key) = atV (c key) a.st := by unfold newV; rw [ha]
    rw [he]
    refine Ok.bind (at_ok (s := a.st) (hb.pl key) hr (by have := hb.len key; omega) h2) ?_
    rintro y w3 ⟨K', x, hl, rfl, hx, h3, s3⟩
    refine Ok.rd rfl (Ok.rd rfl ?_)
    obtain ⟨w4, m4, h4, s4⟩ := st_agg ty85 rfl (cs := #[u64 x.st, .bool x.dead, x.pv.1, u64 x.gen, int x.size]) rfl (ones_ver x) h3 2 rfl
    refine Ok.rd2 m4 ?_
    have h4 : Sat w4 (kn K' :: sto S L last :: pt r (encVer x) 137 :: F) := h4
    refine Ok.rd (ldv h4 2 rfl) ?_
    exact ⟨_, _, rfl, K', x, hl, rfl, hx, (h4.re [2, 0, 1] (by decide)).drop, s1.trans (s2.trans (s3.trans s4))⟩
end Go.Cb

/-
  What a record makes of the chains: changed.
-/
set_option linter.unusedVariables false
set_option linter.unusedSimpArgs false
namespace Go.Cb
open Classical
variable {w : World} {F : List HP} {Q Q' : Value → World → Prop}

/-- keys and chains, gs they lie. -/
structure Rks (K : Hl) (xs : List Ent) (ls : List (ByteArray × List AV)) : Prop where
  len : xs.length = ls.length
  at_ : ∀ (i : Nat) (x : Ent) (l : ByteArray × List AV), xs[i]? = some x → ls[i]? = some l → x.1 = l.1 ∧ Rc K x.2.1 l.2
theorem Rks.mono {K K' : Hl} {xs : List Ent} {ls : List (ByteArray × List AV)} (h : Rks K xs ls) (hl : Le K K') : Rks K' xs ls := ⟨h.len, fun i x l hx h2 => ⟨(h.at_ i x l hx h2).1, (h.at_ i x l hx h2).2.mono hl⟩⟩
theorem Rks.nil {K : Hl} : Rks K [] [] := ⟨rfl, fun i x l hx => by simp at hx⟩
theorem Rks.snoc {K : Hl} {xs : List Ent} {ls : List (ByteArray × List AV)} {x : Ent} {l : ByteArray × List AV} (h : Rks K xs ls) (h1 : x.1 = l.1) (h2 : Rc K x.2.1 l.2) : Rks K (xs ++ [x]) (ls ++ [l]) := by
  refine ⟨by simp [h.len], fun i y b hy hb => ?_⟩
  rcases Nat.lt_or_ge i xs.length with hi | hi
  · rw [List.getElem?_append_left hi] at hy
    rw [List.getElem?_append_left (by rw [← h.len]; exact hi)] at hb
    exact h.at_ i y b hy hb
  · rw [List.getElem?_append_right hi] at hy
    rw [List.getElem?_append_right (by rw [← h.len]; exact hi)] at hb
    have : i - xs.length = 0 := by
      have := (List.getElem?_eq_some_iff.1 hy).1
      simp at this; omega
    rw [this] at hy
    rw [← h.len, this] at hb
    simp at hy hb
    subst hy hb
    exact ⟨h1, h2⟩

/-- may it be a key? -/
def keyR (k : ByteArray) : Prop := 1 ≤ k.size ∧ k.size ≤ 16
theorem u9s : Pg.underlying 9 = some .string := by kernel_rfl
theorem keyr_ok {k : ByteArray} : Fn Pg 102 [.string k] w = some (.bool (decide (keyR k)), w) := by
  have : Ok (Fn Pg 102 [.string k] w) fun v w' => v = .bool (decide (keyR k)) ∧ w' = w := by
    rw [F102]; unfold S102
    refine Ok.rd2 (len_str u9s _ _) (Ok.rd2 bin_gtr ?_)
    by_cases h0 : 0 < k.size
    · refine t_ok (by simpa using h0) rfl (t_ok (by simpa using h0) (gr2 (len_str u9s _ _)) (t_ok (by simpa using h0) (gr2 bin_leq) ?_))
      refine pk_t (by simpa using h0) ⟨_, _, rfl, ?_, rfl⟩
      refine congrArg Value.bool ?_
      rw [decide_eq_decide]
      unfold keyR
      omega
    · refine t_no (by simpa using h0) (t_no (by simpa using h0) (t_no (by simpa using h0) ?_))
      refine pk_f (by simpa using h0) ⟨_, _, rfl, ?_, rfl⟩
      rw [decide_eq_false]
      unfold keyR
      omega
  obtain ⟨v, w', h1, rfl, rfl⟩ := this
  exact h1
theorem bin_sleq {st : Bool} {t : TypeId} {ox oy : Operand} {a b : ByteArray} {w : World} : binG st Pg .leq t ox oy (.string a) (.string b) w = some (.bool !kl b a, w) := by
  have : binG st Pg .leq t ox oy (.string a) (.string b) w = some (.bool (kl a b || a.toList == b.toList), w) := rfl
  rw [this, key_beq]
  congr 3
  cases h : kl b a with
  | true => rw [kl_asym h, decide_eq_false (Ne.symm (kl_ne h))]; rfl
  | false =>
    by_cases e : b = a
    · subst e; simp
    · rw [kl_gt h e]; rfl

/-- a change. -/
structure Cg where
  key : ByteArray
  dead : Bool
  pv : V1
  gen : Int
  size : Int
abbrev encCg (x : Cg) : List Value := [.string x.key, .bool x.dead, x.pv.1, u64 x.gen, int x.size]
theorem enCg : En encCg 5 := ⟨fun _ => rfl, fun x v hv => by
  simp [encCg] at hv; rcases hv with rfl | rfl | rfl | rfl | rfl
  all_goals first | rfl | exact x.pv.2⟩
abbrev aggC (x : Cg) : Value := .agg #[.string x.key, .bool x.dead, x.pv.1, u64 x.gen, int x.size]
def verOf (s : Int) (x : Cg) : Ver := ⟨s, x.dead, x.pv, x.gen, x.size⟩
/-- changes, gs they lie. -/
structure Rcg (K : Hl) (s : Int) (xs : List Cg) (gs : List (ByteArray × AV)) : Prop where
  len : xs.length = gs.length
  at_ : ∀ (i : Nat) (x : Cg) (a : ByteArray × AV), xs[i]? = some x → gs[i]? = some a → x.key = a.1 ∧ Rv K (verOf s x) a.2
theorem Rcg.mono {K K' : Hl} {s : Int} {xs : List Cg} {gs : List (ByteArray × AV)} (h : Rcg K s xs gs) (hl : Le K K') : Rcg K' s xs gs := ⟨h.len, fun i x a hx ha => ⟨(h.at_ i x a hx ha).1, (h.at_ i x a hx ha).2.mono hl⟩⟩
theorem T65 : SlT Pg 34 135 5 := slT_of (by kernel_rfl)
theorem T118 : SlT Pg 145 149 2 := slT_of (by kernel_rfl)
theorem a116 : aggT Pg 135 = some true := by kernel_rfl
theorem ty116 : tyB Pg 135 5 = true := by kernel_rfl
theorem i116 : ∃ i, Pg.info? 135 = some i ∧ i.size = 5 := sz_of (by kernel_rfl)
theorem a65 : aggT Pg 34 = some false := by kernel_rfl
theorem fld67_0 (b o : Nat) : fldA Pg 36 (ptr b o) 0 = some (ptr b o) := by kernel_rfl
theorem fld67_1 (b o : Nat) : fldA Pg 36 (ptr b o) 1 = some (ptr b (o + 1)) := by kernel_rfl
theorem fld116_0 (b o : Nat) : fldA Pg 135 (ptr b o) 0 = some (ptr b o) := by kernel_rfl
theorem fld116_1 (b o : Nat) : fldA Pg 135 (ptr b o) 1 = some (ptr b (o + 1)) := by kernel_rfl
theorem fld116_2 (b o : Nat) : fldA Pg 135 (ptr b o) 2 = some (ptr b (o + 2)) := by kernel_rfl
theorem ldc_0 {b : Nat} {x : Cg} (h : Sat w F) (k : Nat) (hk : F[k]? = some (pt b (encCg x) 135)) : ldV Pg 9 (ptr b 0) w = some (.string x.key) := (ldV_sc a9 _ _).trans ((h.foc hk).at.cell 0)
theorem ldc_1 {b : Nat} {x : Cg} (h : Sat w F) (k : Nat) (hk : F[k]? = some (pt b (encCg x) 135)) : ldV Pg 4 (ptr b (0 + 1)) w = some (.bool x.dead) := (ldV_sc a4 _ _).trans ((h.foc hk).at.cell 1)
theorem ldc_2 {b : Nat} {x : Cg} (h : Sat w F) (k : Nat) (hk : F[k]? = some (pt b (encCg x) 135)) : ldV Pg 82 (ptr b (0 + 2)) w = some (.agg #[x.pv.1, u64 x.gen, int x.size]) := by
  obtain ⟨i, z, h1, h2, _⟩ := ty_of ty83
  rw [at_load (h.foc hk).at (o := 0 + 2) (n := 3) (by simp [encCg]) a83 h1 h2]; rfl
theorem ldr_0 {b : Nat} {x y : Value} (h : Sat w F) (k : Nat) (hk : F[k]? = some (pt b [x, y] 36)) : ldV Pg 23 (ptr b 0) w = some x := (ldV_sc a64 _ _).trans ((h.foc hk).at.cell 0)
theorem ldr_1 {b : Nat} {x y : Value} (h : Sat w F) (k : Nat) (hk : F[k]? = some (pt b [x, y] 36)) : ldV Pg 34 (ptr b (0 + 1)) w = some y := (ldV_sc a65 _ _).trans ((h.foc hk).at.cell 1)
theorem bld85_3 (s g z : Int) (d : Bool) (a : Option Addr) (n c : Nat) : bldV Pg 137 [(0, u64 s), (1, .bool d), (2, .agg #[.slice a n c, u64 g, int z])] = some (.agg #[u64 s, .bool d, .slice a n c, u64 g, int z]) := by kernel_rfl
theorem bld122_2 (s : ByteArray) (a : Option Addr) (n c : Nat) : bldV Pg 149 [(0, .string s), (1, .slice a n c)] = some (.agg #[.string s, .slice a n c]) := by kernel_rfl
theorem ones_cg (x : Cg) : ∀ v ∈ (#[.string x.key, .bool x.dead, x.pv.1, u64 x.gen, int x.size] : Array Value).toList, one v = true := enCg.one x

/-- may these changes be? -/
def okCh (c : ByteArray → List AV) : ByteArray → List (ByteArray × AV) → Prop
  | _, [] => True
  | p, a :: r => RightP (a.2 :: c a.1) ∧ keyR a.1 ∧ kl p a.1 = true ∧ okCh c a.1 r
def chL (c : ByteArray → List AV) (gs : List (ByteArray × AV)) : List (ByteArray × List AV) := gs.map fun a => (a.1, a.2 :: c a.1)

def ChQ (K : Hl) (S : Nat) (L : List Ent) (last : Int) (c : ByteArray → List AV) (gs : List (ByteArray × AV)) (F : List HP) (w : World) (v : Value) (w' : World) : Prop :=
  ∃ K', Le K K' ∧ Sat w' (kn K' :: sto S L last :: F) ∧ Sm w w' ∧ ((okCh c noB gs ∧ ∃ ov xs, v = .tuple #[ov, .bool true] ∧ RdS K' 145 2 encE ov xs ∧ Rks K' xs (chL c gs)) ∨ (¬ okCh c noB gs ∧ v = .tuple #[.slice none 0 0, .bool false]))

theorem changed_loop {S rb : Nat} {L : List Ent} {last s : Int} {c : ByteArray → List AV} {gs : List (ByteArray × AV)} {n : Nat} {cv : Value} (hb : Bd c n) (hn : n ≤ 2 ^ 28) (hp : ∀ a ∈ gs, a.2.places.length ≤ 2 ^ 29) (hl : gs.length ≤ 2 ^ 28) :
    ∀ (j i : Nat) (K : Hl) (cs : List Cg) (xs : List Ent) (ov : Value) (p : ByteArray) (e : Env) (w : World) (F : List HP), i + j = gs.length → StoR K L c → RdS K 34 5 encCg cv cs → Rcg K s cs gs → Rks K xs (chL c (gs.take i)) → (okCh c p (gs.drop i) ↔ okCh c noB gs) →
      Sat w (slH 149 2 encE ov xs :: kn K :: sto S L last :: pt rb [u64 s, cv] 36 :: F) → e 0 = ptr S 0 → e 3 = ptr rb 0 → e 6 = ov → e 7 = .string p → e 13 = cv → e 14 = int gs.length → e 15 = int i → e 59 = undef →
      Ok (evalLoop (cx63 (Fn Pg) (Rnd Pg)) (cdA Go.Proofs.Tryz.f63 [1, 1, 1, 0, 1, 0, 0]) (K63_2 (Fn Pg) (Rnd Pg)) e w) (ChQ K S L last c gs F w) := by
  intro j
  induction j with
  | zero =>
    intro i K cs xs ov p e w F hij hc hr hcs hxs hok hs e0 e3 e6 e7 e13 e14 e15 e59
    rw [S63_L1_eq]; unfold S63_L1
    rw [e6, e14, e15, e59]
    refine Ok.rd2 bin_lss (Ok.cf (by simp; omega) ?_)
    obtain ⟨K', l1, hrd, h1⟩ := share T118 enE hs
    have hi : i = gs.length := by omega
    rw [hi, List.take_length] at hxs
    rw [hi, List.drop_length] at hok
    exact ⟨_, _, rfl, K', l1, (h1.re [2, 0, 1] (by decide)).drop, Sm.refl _, .inl ⟨hok.1 trivial, ov, xs, rfl, hrd, hxs.mono l1⟩⟩
  | succ j ih =>
    intro i K cs xs ov p e w F hij hc hr hcs hxs hok hs e0 e3 e6 e7 e13 e14 e15 e59
    have hi : i < gs.length := by omega
    have hi2 : i < cs.length := by rw [hcs.len]; exact hi
    obtain ⟨a, ha⟩ : ∃ a, gs[i]? = some a := ⟨_, List.getElem?_eq_getElem hi⟩
    obtain ⟨x, hx⟩ : ∃ x, cs[i]? = some x := ⟨_, List.getElem?_eq_getElem hi2⟩
    obtain ⟨q, h1, h2⟩ := hr.ix i x hx
    obtain ⟨hkey, hv⟩ := hcs.at_ i x a hx ha
    obtain ⟨inf, hinf, hsz⟩ := i116
    rw [S63_L1_eq]; unfold S63_L1
    rw [e0, e3, e6, e7, e13, e14, e15, e59]
    refine Ok.rd2 bin_lss (Ok.ct (by simp; omega) (Ok.rd h1 ?_))
    refine Ok.rd (by rw [ldV_ag a116 hinf, hsz, h2 w (kn_on hs (j := 1) rfl)]; rfl : ldV Pg 135 (.pointer (some q)) w = some (aggC x)) ?_
    refine go_tmpG ty116 rfl (ones_cg x) hs fun nb w1 t1 s1 => ?_
    have t1 : Sat (drw w1) (pt nb (encCg x) 135 :: slH 149 2 encE ov xs :: kn K :: sto S L last :: pt rb [u64 s, cv] 36 :: F) := t1.drw
    refine Ok.rd (fld116_0 _ _) (Ok.rd (ldc_0 t1 0 rfl) ?_)
    refine Ok.bind (chain_ok hc (t1.re [3, 0, 1, 2] (by decide))) ?_
    rintro v w2 ⟨hrc, t2, s2⟩
    have t2 : Sat w2 (kn K :: sto S L last :: pt nb (encCg x) 135 :: slH 149 2 encE ov xs :: pt rb [u64 s, cv] 36 :: F) := t2.re [3, 0, 1, 2] (by decide)
    refine Ok.rd (fld67_0 _ _) (Ok.rd (ldr_0 t2 4 rfl) (Ok.chk (show ldV Pg 23 (ptr rb 0) (drw w1) = some (u64 s) from ldr_0 t1 4 rfl) ?_))
    refine Ok.rd (fld116_1 _ _) (Ok.rd (ldc_1 t2 2 rfl) (Ok.chk (show ldV Pg 4 (ptr nb (0 + 1)) (drw w1) = some (.bool x.dead) from ldc_1 t1 0 rfl) ?_))
    refine Ok.rd (fld116_2 _ _) (Ok.rd (ldc_2 t2 2 rfl) (Ok.chk (show ldV Pg 82 (ptr nb (0 + 2)) (drw w1) = some (.agg #[x.pv.1, u64 x.gen, int x.size]) from ldc_2 t1 0 rfl) ?_))
    refine Ok.rd (a := aggV (verOf s x)) (by
      obtain ⟨pa, pc, hpv⟩ := hv.pl.sl
      have hpv : x.pv.1 = .slice pa a.2.places.length pc := hpv
      show bldV Pg 137 _ = some (.agg #[u64 s, .bool x.dead, x.pv.1, u64 x.gen, int x.size])
      rw [hpv]; exact bld85_3 _ _ _ _ _ _ _) ?_
    rw [hkey] at hrc
    have hpa : a.2.places.length ≤ 2 ^ 29 := hp a (List.mem_of_getElem? ha)
    refine Ok.bind (add_ok (fun b hb' => by
      rcases List.mem_cons.1 hb' with rfl | hb'
      · exact hpa
      · exact hb.pl a.1 b hb') (by have := hb.len a.1; omega) hrc hv t2) ?_
    rintro y w3 ⟨K3, l3, t3, s3, hy⟩
    have snow := s1.trans (s2.drw.trans s3)
    have hdr : gs.drop i = a :: gs.drop (i + 1) := by
      rw [List.drop_eq_getElem_cons hi, (List.getElem?_eq_some_iff.1 ha).2]
    have fail : ¬ okCh c noB gs → Ok (some (.tuple #[.slice none 0 0, .bool false], w3)) (ChQ K S L last c gs F w) := fun hno =>
      ⟨_, _, rfl, K3, l3, (t3.re [2, 3, 4, 0, 1] (by decide)).drop.drop.drop, snow, .inr ⟨hno, rfl⟩⟩
    rcases hy with ⟨hR, v', rfl, hrc'⟩ | ⟨hR, rfl⟩
    · refine Ok.rd rfl (Ok.rd rfl (Ok.rd2 bin_neq ?_))
      refine f_ok rfl (gr (fld116_0 _ _)) (f_ok rfl (gr (ldc_0 t3 2 rfl)) (f_ok rfl (by rw [hkey, keyr_ok]; rfl) (f_ok rfl (gr (un_not _)) (pk_f rfl ?_))))
      by_cases hK : keyR a.1
      · have hKd : (!decide (keyR a.1)) = false := by simp [hK]
        refine f_ok hKd (gr (fld116_0 _ _)) (f_ok hKd (gr (ldc_0 t3 2 rfl)) (f_ok hKd rfl (f_ok hKd (gr2 bin_sleq) (pk_f hKd ?_))))
        rw [hkey]
        cases hk : kl p a.1 with
        | false =>
          refine Ok.ct rfl (fail fun h => ?_)
          have := hok.2 h
          rw [hdr] at this
          rw [this.2.2.1] at hk
          cases hk
        | true =>
          refine Ok.cf rfl ?_
          refine Ok.rd (fld116_0 _ _) (Ok.rd (ldc_0 t3 2 rfl) (Ok.rd (fld116_0 _ _) (Ok.rd (ldc_0 t3 2 rfl) ?_)))
          rw [hkey]
          obtain ⟨va, vc, rfl⟩ := hrc'.sl
          refine Ok.rd (bld122_2 _ _ _ _) ?_
          refine go_bs1 T118 enE (by decide) (x := (a.1, ⟨.slice va (a.2 :: c a.1).length vc, rfl⟩)) rfl t3 fun nb2 w4 t4 hv4 s4 => ?_
          have hxl : xs.length ≤ gs.length := by rw [hxs.len]; simp [chL]; omega
          refine go_app T118 enE t4 4 rfl hv4 (by simp; omega) fun a5 w5 t5 s5 => ?_
          refine Ok.rd2 (bin_add1 (by omega)) ?_
          have t5 : Sat w5 (pt nb2 (encE (a.1, ⟨.slice va (a.2 :: c a.1).length vc, rfl⟩)) 149 :: kn K3 :: sto S L last :: pt nb (encCg x) 135 :: slH 149 2 encE a5 (xs ++ [(a.1, ⟨.slice va (a.2 :: c a.1).length vc, rfl⟩)]) :: pt rb [u64 s, cv] 36 :: F) := t5
          have hxs' : Rks K3 (xs ++ [(a.1, ⟨.slice va (a.2 :: c a.1).length vc, rfl⟩)]) (chL c (gs.take (i + 1))) := by
            have : chL c (gs.take (i + 1)) = chL c (gs.take i) ++ [(a.1, a.2 :: c a.1)] := by
              rw [List.take_add_one, ha]; simp [chL]
            rw [this]
            exact (hxs.mono l3).snoc rfl hrc'
          have hok' : okCh c a.1 (gs.drop (i + 1)) ↔ okCh c noB gs := by
            rw [← hok, hdr]
            exact ⟨fun h => ⟨hR, hK, hk, h⟩, fun h => h.2.2.2⟩
          refine Ok.mono (ih (i + 1) K3 cs _ a5 a.1 _ w5 F (by omega) (hc.mono l3) (hr.mono l3) (hcs.mono l3) hxs' hok' ((t5.re [0, 3, 4, 1, 2, 5] (by decide)).drop.drop) ?_ ?_ ?_ ?_ ?_ ?_ ?_ ?_) ?_
          · exact e0
          · exact e3
          · rfl
          · rfl
          · exact e13
          · exact e14
          · rfl
          · exact e59
          · rintro z w6 ⟨K6, l6, t6, s6, h6⟩
            exact ⟨K6, l3.trans l6, t6, snow.trans (s4.trans (s5.trans s6)), h6⟩
      · have hKd : (!decide (keyR a.1)) = true := by simp [hK]
        rw [hKd]
        refine Ok.f0 (Ok.f0 (Ok.f0 (Ok.f0 (Ok.rd (pick_t _ _) (Ok.ct rfl (fail fun h => ?_))))))
        have := hok.2 h
        rw [hdr] at this
        exact hK this.2.1
    · refine Ok.rd rfl (Ok.rd rfl (Ok.rd2 bin_neq ?_))
      refine Ok.f0 (Ok.f0 (Ok.f0 (Ok.f0 (Ok.rd (pick_t _ _) (Ok.f0 (Ok.f0 (Ok.f0 (Ok.f0 (Ok.rd (pick_t _ _) (Ok.ct rfl (fail fun h => ?_)))))))))))
      have := hok.2 h
      rw [hdr] at this
      exact hR this.1

theorem changed_ok {K : Hl} {S : Nat} {L : List Ent} {last s : Int} {c : ByteArray → List AV} {gs : List (ByteArray × AV)} {n : Nat} {cv : Value} {cs : List Cg} (hb : Bd c n) (hn : n ≤ 2 ^ 28) (hp : ∀ a ∈ gs, a.2.places.length ≤ 2 ^ 29) (hl : gs.length ≤ 2 ^ 28)
    (hc : StoR K L c) (hr : RdS K 34 5 encCg cv cs) (hcs : Rcg K s cs gs) (hs : Sat w (kn K :: sto S L last :: F)) :
    Ok (Fn Pg 63 [ptr S 0, .agg #[u64 s, cv]] w) (ChQ K S L last c gs F w) := by
  rw [F63]; unfold S63
  refine go_box (l := [u64 s, cv]) rfl hs fun rb w1 h1 s1 => ?_
  refine Ok.rd (fld67_1 _ _) (Ok.rd (ldr_1 h1 0 rfl) (Ok.rd2 (hr.len T65 w1) ?_))
  have h2 : Sat w1 (slH 149 2 encE (.slice none 0 0) ([] : List Ent) :: kn K :: sto S L last :: pt rb [u64 s, cv] 36 :: F) := (slH_nil none h1).re [0, 2, 3, 1] (by decide)
  refine Ok.mono (changed_loop hb hn hp hl gs.length 0 K cs [] _ noB _ w1 F (by omega) hc hr hcs Rks.nil (by rw [List.drop_zero]) h2 rfl rfl rfl rfl rfl (by rw [← hcs.len]; rfl) rfl rfl) ?_
  rintro z w6 ⟨K6, l6, t6, s6, h6⟩
  exact ⟨K6, l6, t6, s1.trans s6, h6⟩
end Go.Cb

/-
  Apply.
-/
set_option linter.unusedVariables false
set_option linter.unusedSimpArgs false
namespace Go.Cb
open Classical
variable {w : World} {F : List HP} {Q Q' : Value → World → Prop}

noncomputable def setC (c : ByteArray → List AV) (k : ByteArray) (l : List AV) : ByteArray → List AV := fun q => if q = k then l else c q
theorem mem_put {L : List Ent} {x e : Ent} : e ∈ putL L x ↔ e = x ∨ (e ∈ L ∧ e.1 ≠ x.1) := by
  unfold putL lows upps
  rw [List.mem_append, List.mem_cons, List.mem_filter, List.mem_filter]
  constructor
  · rintro (⟨h1, h2⟩ | rfl | ⟨h1, h2⟩)
    · exact .inr ⟨h1, kl_ne h2⟩
    · exact .inl rfl
    · exact .inr ⟨h1, (kl_ne h2).symm⟩
  · rintro (rfl | ⟨h1, h2⟩)
    · exact .inr (.inl rfl)
    · cases h : kl e.1 x.1 with
      | true => exact .inl ⟨h1, rfl⟩
      | false => exact .inr (.inr ⟨h1, kl_gt h h2⟩)
theorem has_put {L : List Ent} {x : Ent} {k : ByteArray} : hasL (putL L x) k ↔ k = x.1 ∨ hasL L k := by
  constructor
  · rintro ⟨e, he, rfl⟩
    rcases mem_put.1 he with rfl | ⟨h1, h2⟩
    · exact .inl rfl
    · exact .inr ⟨e, h1, rfl⟩
  · rintro (rfl | ⟨e, he, rfl⟩)
    · exact ⟨x, mem_put.2 (.inl rfl), rfl⟩
    · by_cases h : e.1 = x.1
      · exact ⟨x, mem_put.2 (.inl rfl), h.symm⟩
      · exact ⟨e, mem_put.2 (.inr ⟨he, h⟩), rfl⟩
theorem mem_del {L : List Ent} {k : ByteArray} {e : Ent} : e ∈ delL L k ↔ e ∈ L ∧ e.1 ≠ k := by
  unfold delL lows upps
  rw [List.mem_append, List.mem_filter, List.mem_filter]
  constructor
  · rintro (⟨h1, h2⟩ | ⟨h1, h2⟩)
    · exact ⟨h1, kl_ne h2⟩
    · exact ⟨h1, (kl_ne h2).symm⟩
  · rintro ⟨h1, h2⟩
    cases h : kl e.1 k with
    | true => exact .inl ⟨h1, rfl⟩
    | false => exact .inr ⟨h1, kl_gt h h2⟩
theorem StoR.put {K : Hl} {L : List Ent} {c : ByteArray → List AV} (h : StoR K L c) {k : ByteArray} {y : V1} {l : List AV} (hy : Rc K y.1 l) (hl : l ≠ []) : StoR K (putL L (k, y)) (setC c k l) := by
  constructor
  · intro e he
    rcases mem_put.1 he with rfl | ⟨h1, h2⟩
    · unfold setC; rw [if_pos rfl]; exact ⟨hy, hl⟩
    · unfold setC; rw [if_neg h2]; exact h.at_ e h1
  · intro q hq
    rw [has_put] at hq
    unfold setC
    rw [if_neg fun h => hq (.inl h)]
    exact h.no q fun h => hq (.inr h)
theorem StoR.del {K : Hl} {L : List Ent} {c : ByteArray → List AV} (h : StoR K L c) {k : ByteArray} : StoR K (delL L k) (setC c k []) := by
  constructor
  · intro e he
    obtain ⟨h1, h2⟩ := mem_del.1 he
    unfold setC; rw [if_neg h2]; exact h.at_ e h1
  · intro q hq
    unfold setC
    by_cases hk : q = k
    · rw [if_pos hk]
    · rw [if_neg hk]
      exact h.no q fun ⟨e, he, h2⟩ => hq ⟨e, mem_del.2 ⟨he, by rw [h2]; exact hk⟩, h2⟩

theorem Sm.rdrw {w w' : World} (h : Sm w w') : Sm w (Cb.drw w') := ⟨h.os, h.out, h.tape, h.fz⟩
theorem a122 : aggT Pg 149 = some true := by kernel_rfl
theorem ty122 : tyB Pg 149 2 = true := by kernel_rfl
theorem i122 : ∃ i, Pg.info? 149 = some i ∧ i.size = 2 := sz_of (by kernel_rfl)
theorem fld122_0 (b o : Nat) : fldA Pg 149 (ptr b o) 0 = some (ptr b o) := by kernel_rfl
theorem fld122_1 (b o : Nat) : fldA Pg 149 (ptr b o) 1 = some (ptr b (o + 1)) := by kernel_rfl
theorem lde_0 {b : Nat} {x : Ent} {T : TypeId} (h : Sat w F) (k : Nat) (hk : F[k]? = some (pt b (encE x) T)) : ldV Pg 9 (ptr b 0) w = some (.string x.1) := (ldV_sc a9 _ _).trans ((h.foc hk).at.cell 0)
theorem lde_1 {b : Nat} {x : Ent} {T : TypeId} (h : Sat w F) (k : Nat) (hk : F[k]? = some (pt b (encE x) T)) : ldV Pg 43 (ptr b (0 + 1)) w = some x.2.1 := (ldV_sc a76 _ _).trans ((h.foc hk).at.cell 1)
theorem a67 : aggT Pg 36 = some true := by kernel_rfl
theorem ty67 : tyB Pg 36 2 = true := by kernel_rfl
theorem ldr {b : Nat} {x y : Value} (h : Sat w F) (k : Nat) (hk : F[k]? = some (pt b [x, y] 36)) : ldV Pg 36 (ptr b 0) w = some (.agg #[x, y]) := ld_agg a67 ty67 rfl h k hk

/-- what lies behind a slice is a slice. -/
theorem bldE {K : Hl} {x : Ent} {l : List AV} (h : Rc K x.2.1 l) : bldV Pg 240 [(0, .string x.1), (1, x.2.1)] = some (aggE x) := by
  obtain ⟨a, c, hx⟩ := h.sl
  obtain ⟨k, v, hv⟩ := x
  have hx : v = .slice a l.length c := hx
  subst hx
  exact bld40_i k a l.length c

theorem apply_loop {S rb : Nat} {K : Hl} {last s : Int} {cv xv : Value} {xs : List Ent} {ls : List (ByteArray × List AV)} (hr : RdS K 145 2 encE xv xs) (hx : Rks K xs ls) (hne : ∀ l ∈ ls, l.2 ≠ []) (hl : ls.length ≤ 2 ^ 28) :
    ∀ (j i : Nat) (L : List Ent) (c : ByteArray → List AV) (e : Env) (w : World) (F : List HP), i + j = ls.length → StoR K L c → L.length ≤ 2 ^ 29 + i →
      Sat w (kn K :: sto S L last :: pt rb [u64 s, cv] 36 :: F) → e 0 = ptr S 0 → e 3 = ptr rb 0 → e 28 = xv → e 29 = int ls.length → e 30 = int i → e 49 = undef →
      Ok (evalLoop (cx12 (Fn Pg) (Rnd Pg)) (cdA Go.Proofs.Tryz.f12 [1, 1, 1, 1, 0, 1, 0, 0]) (K12_2 (Fn Pg) (Rnd Pg)) e w) fun v w' => v = int 0 ∧ ∃ L', StoR K L' ((ls.drop i).foldl (fun f x => setC f x.1 x.2) c) ∧ L'.length ≤ L.length + j ∧ Sat w' (kn K :: sto S L' s :: F) ∧ Sm w w' := by
  intro j
  induction j with
  | zero =>
    intro i L c e w F hij hc hL hs e0 e3 e28 e29 e30 e49
    rw [S12_L1_eq]; unfold S12_L1
    rw [e0, e3, e29, e30, e49]
    refine Ok.rd2 bin_lss (Ok.cf (by simp; omega) ?_)
    refine Ok.rd (fld67_0 _ _) (Ok.rd (ldr_0 hs 2 rfl) (Ok.rd (nil_ptr _ _) (Ok.rd (fld95_1 _ _) ?_)))
    obtain ⟨T, h0⟩ := sto_open hs.sw
    obtain ⟨w1, m1, h1, s1⟩ := sts_1 (v := u64 s) h0 0 rfl rfl
    refine Ok.rd2 m1 ?_
    have hd : ls.drop i = [] := List.drop_eq_nil_of_le (by omega)
    refine ⟨_, _, rfl, rfl, L, by rw [hd]; exact hc, by omega, ?_, s1⟩
    exact ((sto_mk h1).re [2, 1, 0] (by decide)).drop
  | succ j ih =>
    intro i L c e w F hij hc hL hs e0 e3 e28 e29 e30 e49
    have hi : i < ls.length := by omega
    have hi2 : i < xs.length := by rw [hx.len]; exact hi
    obtain ⟨l, hl'⟩ : ∃ l, ls[i]? = some l := ⟨_, List.getElem?_eq_getElem hi⟩
    obtain ⟨x, hx'⟩ : ∃ x, xs[i]? = some x := ⟨_, List.getElem?_eq_getElem hi2⟩
    obtain ⟨q, h1, h2⟩ := hr.ix i x hx'
    obtain ⟨hk, hrc⟩ := hx.at_ i x l hx' hl'
    obtain ⟨inf, hinf, hsz⟩ := i122
    rw [S12_L1_eq]; unfold S12_L1
    rw [e0, e3, e28, e29, e30, e49]
    refine Ok.rd2 bin_lss (Ok.ct (by simp; omega) (Ok.rd h1 ?_))
    refine Ok.rd (by rw [ldV_ag a122 hinf, hsz, h2 w (kn_on hs (j := 0) rfl)]; rfl : ldV Pg 149 (.pointer (some q)) w = some (aggE x)) ?_
    refine go_tmpG ty122 rfl (enE.one x) hs fun nb w1 t1 s1 => ?_
    have t1 : Sat (drw w1) (pt nb (encE x) 149 :: kn K :: sto S L last :: pt rb [u64 s, cv] 36 :: F) := t1.drw
    obtain ⟨T, t2⟩ := sto_open (t1.re [2, 0, 1] (by decide))
    have t2 : Sat (drw w1) (pt S [ptr T 0, u64 last] 144 :: tree T L :: pt nb (encE x) 149 :: kn K :: pt rb [u64 s, cv] 36 :: F) := t2
    refine Ok.rd (nil_ptr _ _) (Ok.rd (fld95_0 _ _) (Ok.rd (lds_0 t2 0 rfl) ?_))
    refine Ok.rd (fld122_0 _ _) (Ok.rd (lde_0 t2 2 rfl) (Ok.rd (fld122_1 _ _) (Ok.rd (lde_1 t2 2 rfl) ?_)))
    refine Ok.bind (put_ok (y := x.2) t2.sw (by omega) (bldE hrc)) ?_
    rintro y w2 ⟨rfl, t3, s3⟩
    have t3 : Sat w2 (kn K :: sto S (putL L x) last :: pt rb [u64 s, cv] 36 :: F) := by
      exact ((sto_mk t3.sw).re [1, 2, 0] (by decide)).drop
    refine Ok.rd2 (bin_add1 (by omega)) ?_
    have hlen : (putL L x).length ≤ L.length + 1 := by
      have := put_len (tree_srt t2.sw) x
      by_cases hh : hasL L x.1
      · have := this.1 hh; omega
      · have := this.2 hh; omega
    have hdr : ls.drop i = l :: ls.drop (i + 1) := by rw [List.drop_eq_getElem_cons hi, (List.getElem?_eq_some_iff.1 hl').2]
    have hc2 : StoR K (putL L x) (setC c l.1 l.2) := by
      rw [← hk]
      exact hc.put hrc (hne l (List.mem_of_getElem? hl'))
    refine Ok.mono (ih (i + 1) (putL L x) (setC c l.1 l.2) _ w2 F (by omega) hc2 (by omega) t3 ?_ ?_ ?_ ?_ ?_ ?_) ?_
    · exact e0
    · exact e3
    · exact e28
    · exact e29
    · rfl
    · exact e49
    · rintro z w6 ⟨rfl, L', m1, m2, m3, m4⟩
      refine ⟨rfl, L', ?_, by omega, m3, s1.trans (s3.drw.trans m4)⟩
      rw [hdr]; exact m1

noncomputable def appC (c : ByteArray → List AV) (gs : List (ByteArray × AV)) : ByteArray → List AV := (chL c gs).foldl (fun f x => setC f x.1 x.2) c
/-- what Apply answers. -/
def ApQ (K : Hl) (S : Nat) (L : List Ent) (last s : Int) (c : ByteArray → List AV) (gs : List (ByteArray × AV)) (F : List HP) (w : World) (v : Value) (w' : World) : Prop :=
  ∃ K', Le K K' ∧ Sm w w' ∧ ((okCh c noB gs ∧ last < s ∧ v = int 0 ∧ ∃ L', StoR K' L' (appC c gs) ∧ L'.length ≤ L.length + gs.length ∧ Sat w' (kn K' :: sto S L' s :: F)) ∨ (¬ (okCh c noB gs ∧ last < s) ∧ v = int 2 ∧ Sat w' (kn K' :: sto S L last :: F)))

theorem apply_ok {K : Hl} {S : Nat} {L : List Ent} {last s : Int} {c : ByteArray → List AV} {gs : List (ByteArray × AV)} {n : Nat} {cv : Value} {cs : List Cg} (hb : Bd c n) (hn : n ≤ 2 ^ 28) (hp : ∀ a ∈ gs, a.2.places.length ≤ 2 ^ 29) (hl : gs.length ≤ 2 ^ 28) (hL : L.length ≤ 2 ^ 29)
    (hc : StoR K L c) (hr : RdS K 34 5 encCg cv cs) (hcs : Rcg K s cs gs) (hs : Sat w (kn K :: sto S L last :: F)) :
    Ok (Fn Pg 12 [ptr S 0, .agg #[u64 s, cv]] w) (ApQ K S L last s c gs F w) := by
  rw [F12]; unfold S12
  refine go_box (l := [u64 s, cv]) rfl hs fun rb w1 h1 s1 => ?_
  obtain ⟨T, h2⟩ := sto_open (h1.re [2, 0, 1] (by decide))
  refine Ok.rd2 (snone_ok h2 0 rfl) (Ok.cf rfl (Ok.rd (ldr h1 0 rfl) ?_))
  refine Ok.bind (changed_ok (s := s) hb hn hp hl hc hr hcs (h1.re [1, 2, 0] (by decide))) ?_
  rintro y w2 ⟨K2, l2, h3, s2, hy⟩
  have h3 : Sat (drw w2) (kn K2 :: sto S L last :: pt rb [u64 s, cv] 36 :: F) := h3
  have s3 : Sm w (drw w2) := s1.trans s2.rdrw
  have fail : ¬ (okCh c noB gs ∧ last < s) → Ok (some (int 2, drw w2)) (ApQ K S L last s c gs F w) := fun hno =>
    ⟨_, _, rfl, K2, l2, s3, .inr ⟨hno, rfl, (h3.re [2, 0, 1] (by decide)).drop⟩⟩
  rcases hy with ⟨hok, ov, xs, rfl, hrd, hxs⟩ | ⟨hno, rfl⟩
  · refine Ok.rd rfl (Ok.rd rfl (Ok.rd (un_not _) ?_))
    obtain ⟨T, h4⟩ := sto_open h3.sw
    refine f_ok rfl (gr (fld67_0 _ _)) (f_ok rfl (gr (ldr_0 h3 2 rfl)) (f_ok rfl rfl (f_ok rfl (gr (nil_ptr _ _)) (f_ok rfl (gr (fld95_1 _ _)) (f_ok rfl (gr (lds_1 h4 0 rfl)) (f_ok rfl (gr2 bin_le64) (pk_f rfl ?_)))))))
    by_cases hlt : last < s
    · refine Ok.cf (by simp; omega) ?_
      refine Ok.rd2 (hrd.len T118 _) ?_
      have hlen : xs.length = (chL c gs).length := hxs.len
      have hgl : (chL c gs).length = gs.length := by simp [chL]
      rw [hlen]
      refine Ok.mono (apply_loop hrd hxs (fun l hl' => ?_) (by omega) (chL c gs).length 0 L c _ _ F (by omega) (hc.mono l2) (by omega) h3 rfl rfl rfl rfl rfl rfl) ?_
      · simp only [chL, List.mem_map] at hl'
        obtain ⟨a, _, rfl⟩ := hl'
        simp
      · rintro z w6 ⟨rfl, L', m1, m2, m3, m4⟩
        exact ⟨K2, l2, s3.trans m4, .inl ⟨hok, hlt, rfl, L', m1, by omega, m3⟩⟩
    · refine Ok.ct (by simp; omega) (fail fun h => hlt h.2)
  · refine Ok.rd rfl (Ok.rd rfl (Ok.rd (un_not _) ?_))
    exact Ok.f0 (Ok.f0 (Ok.f0 (Ok.f0 (Ok.f0 (Ok.f0 (Ok.f0 (Ok.rd (pick_t _ _) (Ok.ct rfl (fail fun h => hno h.1)))))))))
end Go.Cb

/-
  Rows in a span, each told to a function.
-/
set_option linter.unusedVariables false
set_option linter.unusedSimpArgs false
namespace Go.Cb
open Classical
variable {w : World} {F : List HP} {Q Q' : Value → World → Prop}

abbrev KC := ByteArray × List AV
def kc (c : ByteArray → List AV) (E : List Ent) : List KC := E.map fun e => (e.1, c e.1)

/-- a function that rows are told to. -/
def ROk (g : FuncId) (cap : Array Value) {σ : Type} (R : Hl → σ → HP) (step : σ → KC → σ × Bool) (sz : σ → Nat) (N n : Nat) : Prop :=
  ∀ (K : Hl) (s : σ) (x : Ent) (l : List AV) (w : World) (F : List HP), sz s < N → PlB l → l.length ≤ n → Rc K x.2.1 l → Sat w (R K s :: kn K :: F) →
    Ok (Fn Pg g ([.string x.1, x.2.1] ++ cap.toList) w) fun v w' => v = .bool (step s (x.1, l)).2 ∧ ∃ K', Le K K' ∧ Sat w' (R K' (step s (x.1, l)).1 :: kn K' :: F) ∧ Sm w w'
def runC {σ : Type} (step : σ → KC → σ × Bool) : σ → List KC → σ
  | s, [] => s
  | s, x :: r => if (step s x).2 then runC step (step s x).1 r else (step s x).1

theorem rows_loop {g : FuncId} {cap : Array Value} {σ : Type} {R : Hl → σ → HP} {step : σ → KC → σ × Bool} {sz : σ → Nat} {N n : Nat} (hon : ROk g cap R step sz N n) (hsz : ∀ s x, sz (step s x).1 ≤ sz s + 1)
    {c : ByteArray → List AV} (hb : Bd c n) {xs : List Ent} {wv : Value} (hxl : xs.length ≤ 2 ^ 28) :
    ∀ (j i : Nat) (K : Hl) (s : σ) (e : Env) (w : World) (F : List HP), i + j = xs.length → RdS K 229 2 encE wv xs → (∀ x ∈ xs, Rc K x.2.1 (c x.1)) → sz s + j ≤ N → Sat w (R K s :: kn K :: F) →
      e 2 = .func (.func g) #[] cap → e 20 = wv → e 21 = int xs.length → e 22 = int i → e 34 = undef →
      Ok (evalLoop (cx77 (Fn Pg) (Rnd Pg)) (cdA Go.Proofs.Tryz.f77 [1, 1, 1, 0, 0]) (K77_1 (Fn Pg) (Rnd Pg)) e w) fun v w' => ∃ K', Le K K' ∧ Sat w' (R K' (runC step s (kc c (xs.drop i))) :: kn K' :: F) ∧ Sm w w' := by
  intro j
  induction j with
  | zero =>
    intro i K s e w F hij hr hx hN hs e2 e20 e21 e22 e34
    rw [S77_L1_eq]; unfold S77_L1
    rw [e2, e20, e21, e22, e34]
    refine Ok.rd2 bin_lss (Ok.cf (by simp; omega) ?_)
    have hd : xs.drop i = [] := List.drop_eq_nil_of_le (by omega)
    rw [hd]
    exact ⟨_, _, rfl, K, Le.refl K, hs, Sm.refl _⟩
  | succ j ih =>
    intro i K s e w F hij hr hx hN hs e2 e20 e21 e22 e34
    have hi : i < xs.length := by omega
    obtain ⟨x, hx'⟩ : ∃ x, xs[i]? = some x := ⟨_, List.getElem?_eq_getElem hi⟩
    obtain ⟨q, h1, h2⟩ := hr.ix i x hx'
    obtain ⟨inf, z, hinf, hsz', _⟩ := T37.i
    have hrc := hx x (List.mem_of_getElem? hx')
    rw [S77_L1_eq]; unfold S77_L1
    rw [e2, e20, e21, e22, e34]
    refine Ok.rd2 bin_lss (Ok.ct (by simp; omega) (Ok.rd h1 ?_))
    refine Ok.rd (by rw [ldV_ag a40 hinf, hsz', h2 w (kn_on hs (j := 1) rfl)]; rfl : ldV Pg 240 (.pointer (some q)) w = some (aggE x)) ?_
    refine go_tmp hs fun nb w1 t1 s1 => ?_
    have t1 : Sat w1 (pt nb (encE x) 240 :: R K s :: kn K :: F) := t1
    refine Ok.rd (fld40_0 _ _) (Ok.rd (ld_key t1 0 rfl) (Ok.rd (fld40_1 _ _) (Ok.rd (ld_val t1 0 rfl) ?_)))
    have hcall : ∀ (a b : Value) (w : World), callV (cx77 (Fn Pg) (Rnd Pg)) (.func (.func g) #[] cap) [a, b] w = Fn Pg g ([a, b] ++ cap.toList) w := fun _ _ _ => rfl
    rw [hcall]
    refine Ok.bind (hon K s x (c x.1) w1 _ (by omega) (hb.pl x.1) (hb.len x.1) hrc (t1.re [1, 2, 0] (by decide))) ?_
    rintro y w2 ⟨rfl, K2, l2, t2, s2⟩
    have t2 : Sat w2 (R K2 (step s (x.1, c x.1)).1 :: kn K2 :: F) := (t2.re [2, 0, 1] (by decide)).drop
    have hdr : kc c (xs.drop i) = (x.1, c x.1) :: kc c (xs.drop (i + 1)) := by
      rw [List.drop_eq_getElem_cons hi, (List.getElem?_eq_some_iff.1 hx').2]; rfl
    refine Ok.rd (un_not _) ?_
    cases hst : (step s (x.1, c x.1)).2 with
    | false =>
      refine Ok.ct rfl ?_
      have : runC step s (kc c (xs.drop i)) = (step s (x.1, c x.1)).1 := by
        rw [hdr]; unfold runC; rw [hst]; rfl
      rw [this]
      exact ⟨_, _, rfl, K2, l2, t2, s1.trans s2⟩
    | true =>
      refine Ok.cf rfl (Ok.rd2 (bin_add1 (by omega)) ?_)
      have hr' : runC step s (kc c (xs.drop i)) = runC step (step s (x.1, c x.1)).1 (kc c (xs.drop (i + 1))) := by
        rw [hdr]
        show (if (step s (x.1, c x.1)).2 = true then _ else _) = _
        rw [hst]; rfl
      have := hsz s (x.1, c x.1)
      refine Ok.mono (ih (i + 1) K2 _ _ w2 F (by omega) (hr.mono l2) (fun y hy => (hx y hy).mono l2) (by omega) t2 ?_ ?_ ?_ ?_ ?_) ?_
      · exact e2
      · exact e20
      · exact e21
      · rfl
      · exact e34
      · rintro z w6 ⟨K6, l6, t6, s6⟩
        rw [hr']
        exact ⟨K6, l2.trans l6, t6, s1.trans (s2.trans s6)⟩

/-- the entries in a span. -/
def inL (L : List Ent) (f t : ByteArray) : List Ent := L.filter fun e => inB f t e.1
theorem walk_all (L : List Ent) (f t : ByteArray) : walkL L f t (L.length : Nat) = inL L f t := by
  unfold walkL inL
  rw [Int.toNat_natCast, List.take_of_length_le (List.length_filter_le _ _)]

theorem rows_ok {g : FuncId} {cap : Array Value} {σ : Type} {R : Hl → σ → HP} {step : σ → KC → σ × Bool} {sz : σ → Nat} {N n : Nat} (hon : ROk g cap R step sz N n) (hsz : ∀ s x, sz (step s x).1 ≤ sz s + 1) (hm : ∀ K K' s h, Le K K' → R K s h → R K' s h)
    {K : Hl} {S : Nat} {L : List Ent} {last : Int} {c : ByteArray → List AV} {f t : ByteArray} {s : σ} (hc : StoR K L c) (hb : Bd c n) (hN : sz s + L.length ≤ N) (hL : L.length ≤ 2 ^ 28) (hs : Sat w (R K s :: kn K :: sto S L last :: F)) :
    Ok (Fn Pg 77 [ptr S 0, .agg #[.string f, .string t], .func (.func g) #[] cap] w) fun v w' => ∃ K', Le K K' ∧ Sat w' (R K' (runC step s (kc c (inL L f t))) :: kn K' :: sto S L last :: F) ∧ Sm w w' := by
  rw [F77]; unfold S77
  refine go_box (l := spC f t) rfl hs fun c4 w1 h1 s1 => ?_
  obtain ⟨T, h2⟩ := sto_open (h1.re [3, 0, 1, 2] (by decide))
  have h2 : Sat (drw w1) (pt S [ptr T 0, u64 last] 144 :: tree T L :: pt c4 (spC f t) 25 :: R K s :: kn K :: F) := h2
  have s1 : Sm w (drw w1) := s1.rdrw
  refine Ok.rd2 (snone_ok (w := w1) h2 0 rfl) (Ok.cf rfl ?_)
  refine Ok.rd (nil_ptr _ _) (Ok.rd (fld95_0 _ _) (Ok.rd (lds_0 h2 0 rfl) (Ok.rd (ldsp h2 2 rfl) ?_)))
  refine Ok.rd (nil_ptr _ _) (Ok.rd (fld95_0 _ _) (Ok.rd (lds_0 h2 0 rfl) (Ok.rd2 (len_ok h2.sw) ?_)))
  refine Ok.chk (hold_ld (ldsp h2 2 rfl)) ?_
  refine Ok.chk (hold_ld (lds_0 h2 0 rfl)) ?_
  refine Ok.bind (twalk_ok h2.sw hL) ?_
  rintro wv w2 ⟨h3, s2⟩
  rw [walk_all] at h3
  have h3 : Sat w2 (slH 240 2 encE wv (inL L f t) :: tree T L :: pt S [ptr T 0, u64 last] 144 :: pt c4 (spC f t) 25 :: R K s :: kn K :: F) := h3
  obtain ⟨K', l1, hr, h4⟩ := share T37 enE (h3.re [0, 5, 1, 2, 3, 4] (by decide))
  have h4 : Sat w2 (kn K' :: tree T L :: pt S [ptr T 0, u64 last] 144 :: pt c4 (spC f t) 25 :: R K s :: F) := h4
  have h5 : Sat w2 (R K' s :: kn K' :: sto S L last :: F) := by
    have := (h4.re [3, 4, 0, 2, 1] (by decide)).drop
    have := Sat.mono this (fun h => hm K K' s h l1)
    exact (sto_mk (this.re [2, 3, 0, 1] (by decide))).re [1, 2, 0] (by decide)
  refine Ok.rd2 (hr.len T37 w2) ?_
  have hxl : (inL L f t).length ≤ L.length := List.length_filter_le _ _
  refine Ok.mono (rows_loop hon hsz hb (by omega) (inL L f t).length 0 K' s _ w2 _ (by omega) hr (fun x hx => ((hc.at_ x (List.mem_filter.1 hx |>.1)).1).mono l1) (by omega) h5 rfl rfl rfl rfl rfl) ?_
  rintro y w6 ⟨K6, l6, t6, s6⟩
  rw [List.drop_zero] at t6
  exact ⟨K6, l1.trans l6, t6, s1.trans (s2.trans s6)⟩

/-! ### Rows -/

theorem every_loop {v : Value} {vs : List AV} {K : Hl} (hr : Rc K v vs) (hb : vs.length ≤ 2 ^ 28) : ∀ (j i : Nat) (us : List Int) (ov : Value) (e : Env) (w : World) (F : List HP), i + j = vs.length → us.length ≤ i + 1 → Sat w (slH 23 1 encU ov us :: kn K :: F) →
    e 3 = ov → e 13 = v → e 14 = int vs.length → e 15 = int i → e 26 = undef →
    Ok (evalLoop (cx76 (Fn Pg) (Rnd Pg)) (cdA Go.Proofs.Tryz.f76 [1, 1, 1, 0, 1, 0, 0]) (K76_2 (Fn Pg) (Rnd Pg)) e w) fun x w' => Sat w' (slH 23 1 encU x (us ++ (vs.drop i).map (·.st)) :: kn K :: F) ∧ Sm w w' := by
  intro j
  induction j with
  | zero =>
    intro i us ov e w F hij hul hs e3 e13 e14 e15 e26
    rw [S76_L1_eq]; unfold S76_L1
    rw [e3, e14, e15, e26]
    refine Ok.rd2 bin_lss (Ok.cf (by simp; omega) ?_)
    rw [List.drop_eq_nil_of_le (by omega), List.map_nil, List.append_nil]
    exact ⟨_, _, rfl, hs, Sm.refl _⟩
  | succ j ih =>
    intro i us ov e w F hij hul hs e3 e13 e14 e15 e26
    have hi : i < vs.length := by omega
    obtain ⟨a, ha⟩ : ∃ a, vs[i]? = some a := ⟨_, List.getElem?_eq_getElem hi⟩
    obtain ⟨p, x, h1, hx, h2⟩ := hr.at ha
    rw [S76_L1_eq]; unfold S76_L1
    rw [e3, e13, e14, e15, e26]
    refine Ok.rd2 bin_lss (Ok.ct (by simp; omega) (Ok.rd h1 (Ok.rd (h2 w (kn_on hs (j := 1) rfl)).1 ?_)))
    refine go_tmpG ty85 rfl (ones_ver x) hs fun nb w1 t1 s1 => ?_
    refine Ok.rd (fld85_0 _ _) (Ok.rd (ldv_0 t1 0 rfl) ?_)
    rw [hx.st]
    refine go_bs1 T68 enU (by decide) (x := a.st) rfl t1 fun b w3 t3 hv3 s3 => ?_
    refine go_app T68 enU t3 2 rfl hv3 (by simp; omega) fun a4 w4 t4 s4 => ?_
    have t4 : Sat w4 (pt b (encU a.st) 23 :: pt nb (encVer x) 137 :: slH 23 1 encU a4 (us ++ [a.st]) :: kn K :: F) := t4
    refine Ok.rd2 (bin_add1 (by omega)) ?_
    refine Ok.mono (ih (i + 1) (us ++ [a.st]) a4 _ w4 F (by omega) (by simp; omega) t4.drop.drop ?_ ?_ ?_ ?_ ?_) ?_
    · rfl
    · exact e13
    · exact e14
    · rfl
    · exact e26
    · rintro y w5 ⟨m1, m2⟩
      refine ⟨?_, s1.trans (s3.trans (s4.trans m2))⟩
      rw [List.drop_eq_getElem_cons hi, (List.getElem?_eq_some_iff.1 ha).2, List.map_cons]
      rw [List.append_assoc] at m1
      exact m1
/-- starts that see each version. -/
def everyS (vs : List AV) : List Int := 0 :: vs.map (·.st)
theorem every_ok {v : Value} {vs : List AV} {K : Hl} (hr : Rc K v vs) (hb : vs.length ≤ 2 ^ 28) (hs : Sat w (kn K :: F)) :
    Ok (Fn Pg 76 [v] w) fun x w' => Sat w' (slH 23 1 encU x (everyS vs) :: kn K :: F) ∧ Sm w w' := by
  rw [F76]; unfold S76
  refine Ok.rd2 (hr.len w) (Ok.rd2 (bin_add1 (by omega)) ?_)
  refine go_make0 (enc := encU) T68 (by omega) hs fun ov w2 h2 s2 => ?_
  refine go_bs1 T68 enU (by decide) (x := 0) rfl h2 fun b w3 t3 hv3 s3 => ?_
  refine go_app T68 enU t3 1 rfl hv3 (by simp) fun a4 w4 t4 s4 => ?_
  have t4 : Sat w4 (pt b (encU 0) 23 :: slH 23 1 encU a4 [0] :: kn K :: F) := t4
  refine Ok.rd2 (hr.len w4) ?_
  refine Ok.mono (every_loop hr hb vs.length 0 [0] a4 _ w4 F (by omega) (by simp) t4.drop rfl rfl rfl rfl rfl) ?_
  rintro y w5 ⟨m1, m2⟩
  rw [List.drop_zero] at m1
  exact ⟨m1, s2.trans (s3.trans (s4.trans m2))⟩

theorem T71 : SlT Pg 31 159 2 := slT_of (by kernel_rfl)
theorem a71 : aggT Pg 31 = some false := by kernel_rfl
theorem z71 : zeroL Pg 31 = some [.slice none 0 0] := by kernel_rfl
theorem bld80_2 (s : ByteArray) (a : Option Addr) (n c : Nat) : bldV Pg 159 [(0, .string s), (1, .slice a n c)] = some (.agg #[.string s, .slice a n c]) := by kernel_rfl
theorem st71 {b : Nat} {v u : Value} (h : Sat w F) (k : Nat) (hk : F[k]? = some (pt b [v] 31)) (hu : one u = true) : ∃ w', rawU Pg (Instr.storeAt 31 (ptr b 0) u) w = some (undef, w') ∧ Sat w' (F.set k (pt b [u] 31)) ∧ Sm w w' :=
  st_one (sz_of (by kernel_rfl)) h k hk (Nat.zero_lt_succ _) hu

/-- rows that are told so far. -/
def outR (b : Nat) (K : Hl) (s : List KC) : HP := fun h => ∃ ov, ∃ xs, Rks K xs s ∧ stars [pt b [ov] 31, slH 159 2 encE ov xs] h
theorem outR_open {b : Nat} {K : Hl} {s : List KC} (hs : Sat w (outR b K s :: F)) : ∃ ov xs, Rks K xs s ∧ Sat w (pt b [ov] 31 :: slH 159 2 encE ov xs :: F) := by
  obtain ⟨ov, h⟩ := Sat.ex.1 hs
  obtain ⟨xs, h⟩ := Sat.ex.1 h
  obtain ⟨h1, h⟩ := Sat.and.1 h
  exact ⟨ov, xs, h1, Sat.flat.1 h⟩
theorem outR_mk {b : Nat} {K : Hl} {s : List KC} {ov : Value} {xs : List Ent} (h1 : Rks K xs s) (hs : Sat w (pt b [ov] 31 :: slH 159 2 encE ov xs :: F)) : Sat w (outR b K s :: F) :=
  Sat.ex.2 ⟨ov, Sat.ex.2 ⟨xs, Sat.and.2 ⟨h1, (Sat.flat (G := [_, _])).2 hs⟩⟩⟩
theorem outR_mono {b : Nat} (K K' : Hl) (s : List KC) (h : Hl) (hl : Le K K') : outR b K s h → outR b K' s h := fun ⟨ov, xs, h1, h2⟩ => ⟨ov, xs, h1.mono hl, h2⟩

/-- all of a chain that there is. -/
noncomputable def allV (vs : List AV) : List AV := keptL vs (keepP vs (everyS vs))
noncomputable def stepR (s : List KC) (x : KC) : List KC × Bool := (s ++ [(x.1, allV x.2)], true)
theorem runR : ∀ (X : List KC) (s : List KC), runC stepR s X = s ++ X.map fun x => (x.1, allV x.2)
  | [], s => by simp [runC]
  | x :: X, s => by
    show runC stepR (stepR s x).1 X = _
    rw [runR X]
    simp [stepR]

theorem row_on {b n : Nat} (hn : n ≤ 2 ^ 27) : ROk 78 #[ptr b 0] (outR b) stepR List.length (2 ^ 29) n := by
  intro K s x l w F hsz hpl hll hr hs
  show Ok (Fn Pg 78 [.string x.1, x.2.1, ptr b 0] w) _
  rw [F78]; unfold S78
  refine Ok.bind (every_ok hr (by omega) hs.sw) ?_
  rintro uv w1 ⟨h1, s1⟩
  obtain ⟨K1, l1, hu, h2⟩ := share T68 enU h1
  have h2 : Sat w1 (kn K1 :: outR b K s :: F) := h2
  refine Ok.bind (prune_ok hpl (by omega) (by simp [everyS]; omega) (hr.mono l1) hu h2) ?_
  rintro y w2 ⟨K2, kv, dv, l2, rfl, hk, hd, h3, s2⟩
  refine Ok.rd rfl (Ok.rd rfl ?_)
  obtain ⟨ov, xs, hx, h4⟩ := outR_open h3.sw
  refine Ok.rd (ld1 a71 h4 0 rfl) ?_
  obtain ⟨ka, kcap, rfl⟩ := hk.sl
  refine Ok.rd (bld80_2 _ _ _ _) ?_
  refine go_bs1 T71 enE (by decide) (x := (x.1, ⟨.slice ka (keptL l (keepP l (everyS l))).length kcap, rfl⟩)) rfl h4 fun nb w3 t3 hv3 s3 => ?_
  have hxl : xs.length = s.length := hx.len
  refine go_app T71 enE t3 2 rfl hv3 (by simp; omega) fun a4 w4 t4 s4 => ?_
  obtain ⟨w5, m5, t5, s5⟩ := st71 (u := a4) t4 1 rfl (one_slH t4 2 rfl)
  refine Ok.rd2 m5 ?_
  refine ⟨_, _, rfl, rfl, K2, l1.trans l2, ?_, s1.trans (s2.trans (s3.trans (s4.trans s5)))⟩
  have hx2 := Rks.snoc (x := (x.1, (⟨.slice ka (keptL l (keepP l (everyS l))).length kcap, rfl⟩ : V1))) (l := (x.1, allV l)) ((hx.mono l1).mono l2) rfl hk
  exact outR_mk hx2 t5.drop

theorem bld36_0 : bldV Pg 25 [] = some (.agg #[.string noB, .string noB]) := by kernel_rfl
theorem in_all (L : List Ent) : inL L noB noB = L := by
  unfold inL
  rw [List.filter_eq_self]
  intro e he
  unfold inB
  have h1 : kl e.1 noB = false := by
    unfold kl
    show Op.bytesLess e.1.toList noB.toList = false
    have : noB.toList = [] := by simp [ByteArray.toList, ByteArray.toList.loop, noB, ByteArray.size]
    rw [this]
    cases e.1.toList <;> rfl
  have h2 : (decide (noB = ByteArray.empty)) = true := by decide
  rw [h1, h2]; rfl

/-- what Rows answers. -/
theorem rows33_ok {K : Hl} {S : Nat} {L : List Ent} {last : Int} {c : ByteArray → List AV} {n : Nat} (hn : n ≤ 2 ^ 27) (hc : StoR K L c) (hb : Bd c n) (hL : L.length ≤ 2 ^ 28) (hs : Sat w (kn K :: sto S L last :: F)) :
    Ok (Fn Pg 19 [ptr S 0] w) fun v w' => ∃ K' xs, Le K K' ∧ RdS K' 31 2 encE v xs ∧ Rks K' xs ((kc c L).map fun x => (x.1, allV x.2)) ∧ Sat w' (kn K' :: sto S L last :: F) ∧ Sm w w' := by
  rw [F19]; unfold S19
  refine go_new z71 hs fun b w1 h1 s1 => ?_
  refine Ok.rd bld36_0 ?_
  have h2 : Sat w1 (outR b K [] :: kn K :: sto S L last :: F) := by
    have := (slH_nil (T := 159) (k := 2) (enc := encE) none h1).re [1, 0] (by decide)
    exact outR_mk Rks.nil this
  refine Ok.bind (rows_ok (row_on hn) (fun s x => by simp [stepR]) outR_mono hc hb (by simp; omega) hL h2) ?_
  rintro y w2 ⟨K2, l2, h3, s2⟩
  rw [in_all, runR, List.nil_append] at h3
  obtain ⟨ov, xs, hx, h4⟩ := outR_open h3
  refine Ok.rd (ld1 a71 h4 0 rfl) ?_
  obtain ⟨K3, l3, hr, h5⟩ := share T71 enE (h4.re [1, 2, 0] (by decide))
  have h5 : Sat w2 (kn K3 :: pt b [ov] 31 :: sto S L last :: F) := h5
  exact ⟨_, _, rfl, K3, xs, l2.trans l3, hr, hx.mono l3, (h5.re [1, 0] (by decide)).drop, s1.trans s2⟩
end Go.Cb

/-
  Scan.
-/
set_option linter.unusedVariables false
set_option linter.unusedSimpArgs false
namespace Go.Cb
open Classical
variable {w : World} {F : List HP} {Q Q' : Value → World → Prop}

/-- what is found of a key. -/
structure Fv where
  key : ByteArray
  pv : V1
  gen : Int
  size : Int
abbrev encFv (x : Fv) : List Value := [.string x.key, .bool false, .slice none 0 0, x.pv.1, u64 x.gen, int x.size]
theorem enFv : En encFv 6 := ⟨fun _ => rfl, fun x v hv => by
  simp [encFv] at hv; rcases hv with rfl | rfl | rfl | rfl | rfl | rfl
  all_goals first | rfl | exact x.pv.2⟩
structure Rfv (K : Hl) (x : Fv) (a : ByteArray × AV) : Prop where
  key : x.key = a.1
  gen : x.gen = a.2.gen
  size : x.size = a.2.size
  pl : RdS K 80 1 encI x.pv.1 a.2.places
theorem Rfv.mono {K K' : Hl} {x : Fv} {a : ByteArray × AV} (h : Rfv K x a) (hl : Le K K') : Rfv K' x a := ⟨h.key, h.gen, h.size, h.pl.mono hl⟩
structure Rfs (K : Hl) (xs : List Fv) (gs : List (ByteArray × AV)) : Prop where
  len : xs.length = gs.length
  at_ : ∀ (i : Nat) (x : Fv) (a : ByteArray × AV), xs[i]? = some x → gs[i]? = some a → Rfv K x a
theorem Rfs.mono {K K' : Hl} {xs : List Fv} {gs : List (ByteArray × AV)} (h : Rfs K xs gs) (hl : Le K K') : Rfs K' xs gs := ⟨h.len, fun i x a hx ha => (h.at_ i x a hx ha).mono hl⟩
theorem Rfs.nil {K : Hl} : Rfs K [] [] := ⟨rfl, fun i x a hx => by simp at hx⟩
theorem Rfs.snoc {K : Hl} {xs : List Fv} {gs : List (ByteArray × AV)} {x : Fv} {a : ByteArray × AV} (h : Rfs K xs gs) (h1 : Rfv K x a) : Rfs K (xs ++ [x]) (gs ++ [a]) := by
  refine ⟨by simp [h.len], fun i y b hy hb => ?_⟩
  rcases Nat.lt_or_ge i xs.length with hi | hi
  · rw [List.getElem?_append_left hi] at hy
    rw [List.getElem?_append_left (by rw [← h.len]; exact hi)] at hb
    exact h.at_ i y b hy hb
  · rw [List.getElem?_append_right hi] at hy
    rw [List.getElem?_append_right (by rw [← h.len]; exact hi)] at hb
    have : i - xs.length = 0 := by
      have := (List.getElem?_eq_some_iff.1 hy).1
      simp at this; omega
    rw [this] at hy
    rw [← h.len, this] at hb
    simp at hy hb
    subst hy hb
    exact h1

theorem T73 : SlT Pg 87 84 6 := slT_of (by kernel_rfl)
theorem a73 : aggT Pg 87 = some false := by kernel_rfl
theorem z73 : zeroL Pg 87 = some [.slice none 0 0] := by kernel_rfl
theorem bld134_2 (s : ByteArray) (g z : Int) (a : Option Addr) (n c : Nat) : bldV Pg 84 [(0, .string s), (3, .agg #[.slice a n c, u64 g, int z])] = some (.agg #[.string s, .bool false, .slice none 0 0, .slice a n c, u64 g, int z]) := by kernel_rfl
theorem st73 {b : Nat} {v u : Value} (h : Sat w F) (k : Nat) (hk : F[k]? = some (pt b [v] 87)) (hu : one u = true) : ∃ w', rawU Pg (Instr.storeAt 87 (ptr b 0) u) w = some (undef, w') ∧ Sat w' (F.set k (pt b [u] 87)) ∧ Sm w w' :=
  st_one (sz_of (by kernel_rfl)) h k hk (Nat.zero_lt_succ _) hu

/-- what a scan has found so far. -/
def outS (b bm ba : Nat) (m at' : Int) (K : Hl) (s : List (ByteArray × AV)) : HP := fun h => ∃ ov, ∃ xs, Rfs K xs s ∧ stars [pt b [ov] 87, slH 84 6 encFv ov xs, pt bm [int m] 3, pt ba [u64 at'] 23] h
theorem outS_open {b bm ba : Nat} {m at' : Int} {K : Hl} {s : List (ByteArray × AV)} (hs : Sat w (outS b bm ba m at' K s :: F)) : ∃ ov xs, Rfs K xs s ∧ Sat w (pt b [ov] 87 :: slH 84 6 encFv ov xs :: pt bm [int m] 3 :: pt ba [u64 at'] 23 :: F) := by
  obtain ⟨ov, h⟩ := Sat.ex.1 hs
  obtain ⟨xs, h⟩ := Sat.ex.1 h
  obtain ⟨h1, h⟩ := Sat.and.1 h
  exact ⟨ov, xs, h1, Sat.flat.1 h⟩
theorem outS_mk {b bm ba : Nat} {m at' : Int} {K : Hl} {s : List (ByteArray × AV)} {ov : Value} {xs : List Fv} (h1 : Rfs K xs s) (hs : Sat w (pt b [ov] 87 :: slH 84 6 encFv ov xs :: pt bm [int m] 3 :: pt ba [u64 at'] 23 :: F)) : Sat w (outS b bm ba m at' K s :: F) :=
  Sat.ex.2 ⟨ov, Sat.ex.2 ⟨xs, Sat.and.2 ⟨h1, (Sat.flat (G := [_, _, _, _])).2 hs⟩⟩⟩
theorem outS_mono {b bm ba : Nat} {m at' : Int} (K K' : Hl) (s : List (ByteArray × AV)) (h : Hl) (hl : Le K K') : outS b bm ba m at' K s h → outS b bm ba m at' K' s h := fun ⟨ov, xs, h1, h2⟩ => ⟨ov, xs, h1.mono hl, h2⟩

noncomputable def stepS (m at' : Int) (s : List (ByteArray × AV)) (x : KC) : List (ByteArray × AV) × Bool :=
  if m ≤ (s.length : Int) then (s, false) else if (valV x.2 at').2 = true then (s ++ [(x.1, (valV x.2 at').1)], true) else (s, true)

theorem scan_on {b bm ba n : Nat} {m at' : Int} (hn : n ≤ 2 ^ 27) : ROk 133 #[ptr b 0, ptr bm 0, ptr ba 0] (outS b bm ba m at') (stepS m at') List.length (2 ^ 29) n := by
  intro K s x l w F hsz hpl hll hr hs
  show Ok (Fn Pg 133 [.string x.1, x.2.1, ptr b 0, ptr bm 0, ptr ba 0] w) _
  rw [F133]; unfold S133
  obtain ⟨ov, xs, hx, h0⟩ := outS_open hs
  have hxl : xs.length = s.length := hx.len
  refine Ok.rd (ld1 a73 h0 0 rfl) (Ok.rd2 (sl_len T73 (h0.foc (k := 1) rfl) w) (Ok.rd (ld1 a3 h0 2 rfl) (Ok.rd2 bin_geq ?_)))
  rw [hxl]
  by_cases hm : m ≤ (s.length : Int)
  · refine Ok.ct (by simpa using hm) ?_
    have hst : stepS m at' s (x.1, l) = (s, false) := if_pos hm
    rw [hst]
    exact ⟨_, _, rfl, rfl, K, Le.refl K, hs, Sm.refl _⟩
  · refine Ok.cf (by simpa using hm) (Ok.rd (ld1 a64 h0 3 rfl) ?_)
    refine Ok.bind (value_ok (s := at') hpl hr (by omega) (h0.re [4, 0, 1, 2, 3] (by decide))) ?_
    rintro y w1 ⟨K1, u, l1, rfl, hu, h1, s1⟩
    obtain ⟨pv, rfl, hpv⟩ := hu.b
    refine Ok.rd rfl (Ok.rd rfl ?_)
    have h1 : Sat w1 (kn K1 :: pt b [ov] 87 :: slH 84 6 encFv ov xs :: pt bm [int m] 3 :: pt ba [u64 at'] 23 :: F) := h1
    refine go_tmpG (cs := #[pv.1, u64 (valV l at').1.gen, int (valV l at').1.size]) ty83 rfl (by simp; exact ⟨pv.2, rfl, rfl⟩) h1 fun nb w2 h2 s2 => ?_
    have h2 : Sat w2 (pt nb [pv.1, u64 (valV l at').1.gen, int (valV l at').1.size] 82 :: kn K1 :: pt b [ov] 87 :: slH 84 6 encFv ov xs :: pt bm [int m] 3 :: pt ba [u64 at'] 23 :: F) := h2
    cases hv : (valV l at').2 with
    | false =>
      have hst : stepS m at' s (x.1, l) = (s, true) := by
        unfold stepS
        rw [if_neg hm, if_neg (by rw [hv]; simp)]
      rw [hst]
      refine Ok.cf rfl ⟨_, _, rfl, rfl, K1, l1, ?_, s1.trans s2⟩
      exact outS_mk (hx.mono l1) ((h2.re [2, 3, 4, 5, 1, 0] (by decide)).re [5, 0, 1, 2, 3, 4] (by decide)).drop
    | true =>
      have hst : stepS m at' s (x.1, l) = (s ++ [(x.1, (valV l at').1)], true) := by
        unfold stepS
        rw [if_neg hm, if_pos hv]
      rw [hst]
      refine Ok.ct rfl (Ok.rd (ld1 a73 h2 2 rfl) (Ok.rd (ld_agg a83 ty83 rfl h2 0 rfl) ?_))
      obtain ⟨pa, pc, hpe⟩ := hpv.sl
      refine Ok.rd (a := .agg #[.string x.1, .bool false, .slice none 0 0, pv.1, u64 (valV l at').1.gen, int (valV l at').1.size]) (by rw [hpe]; exact bld134_2 _ _ _ _ _ _) ?_
      refine go_bs1 T73 enFv (by decide) (x := ⟨x.1, pv, (valV l at').1.gen, (valV l at').1.size⟩) rfl h2 fun nb2 w3 t3 hv3 s3 => ?_
      refine go_app T73 enFv t3 4 rfl hv3 (by simp; omega) fun a4 w4 t4 s4 => ?_
      obtain ⟨w5, m5, t5, s5⟩ := st73 (u := a4) t4 3 rfl (one_slH t4 4 rfl)
      refine Ok.rd2 m5 ⟨_, _, rfl, rfl, K1, l1, ?_, s1.trans (s2.trans (s3.trans (s4.trans s5)))⟩
      have hx2 := Rfs.snoc (x := ⟨x.1, pv, (valV l at').1.gen, (valV l at').1.size⟩) (a := (x.1, (valV l at').1)) (hx.mono l1) ⟨rfl, rfl, rfl, hpv⟩
      exact outS_mk hx2 ((t5.drop.drop).re [1, 2, 3, 4, 0] (by decide))

theorem scan_ok {K : Hl} {S : Nat} {L : List Ent} {last m at' : Int} {c : ByteArray → List AV} {n : Nat} {f t : ByteArray} (hn : n ≤ 2 ^ 27) (hc : StoR K L c) (hb : Bd c n) (hL : L.length ≤ 2 ^ 28) (hs : Sat w (kn K :: sto S L last :: F)) :
    Ok (Fn Pg 60 [ptr S 0, .agg #[.string f, .string t], u64 at', int m] w) fun v w' => ∃ K' xs, Le K K' ∧ RdS K' 87 6 encFv v xs ∧ Rfs K' xs (runC (stepS m at') [] (kc c (inL L f t))) ∧ Sat w' (kn K' :: sto S L last :: F) ∧ Sm w w' := by
  rw [F60]; unfold S60
  refine go_box (l := spC f t) rfl hs fun c4 w1 h1 s1 => ?_
  refine go_box (l := [u64 at']) rfl h1 fun ba w2 h2 s2 => ?_
  refine go_box (l := [int m]) rfl h2 fun bm w3 h3 s3 => ?_
  refine go_new z73 h3 fun b w4 h4 s4 => ?_
  refine Ok.rd (ldsp h4 3 rfl) ?_
  have h5 : Sat w4 (outS b bm ba m at' K [] :: kn K :: sto S L last :: pt c4 (spC f t) 25 :: F) := by
    have := (slH_nil (T := 84) (k := 6) (enc := encFv) none h4).re [1, 0, 2, 3, 5, 6, 4] (by decide)
    exact outS_mk Rfs.nil this
  refine Ok.bind (rows_ok (scan_on hn) (fun s x => ?_) outS_mono hc hb (by simp; omega) hL h5) ?_
  · unfold stepS
    split
    · simp
    · split <;> simp
  rintro y w5 ⟨K2, l2, h6, s5⟩
  obtain ⟨ov, xs, hx, h7⟩ := outS_open h6
  refine Ok.rd (ld1 a73 h7 0 rfl) ?_
  obtain ⟨K3, l3, hr, h8⟩ := share T73 enFv (h7.re [1, 4, 0, 2, 3, 5, 6] (by decide))
  have h8 : Sat w5 (kn K3 :: pt b [ov] 87 :: pt bm [int m] 3 :: pt ba [u64 at'] 23 :: sto S L last :: pt c4 (spC f t) 25 :: F) := h8
  exact ⟨_, _, rfl, K3, xs, l2.trans l3, hr, hx.mono l3, (h8.re [1, 2, 3, 5, 0, 4] (by decide)).drop.drop.drop.drop, s1.trans (s2.trans (s3.trans (s4.trans s5)))⟩
end Go.Cb

/-
  Sums over the rows: Versions, Live.
-/
set_option linter.unusedVariables false
set_option linter.unusedSimpArgs false
namespace Go.Cb
open Classical
variable {w : World} {F : List HP} {Q Q' : Value → World → Prop}

theorem a80 : aggT Pg 159 = some true := by kernel_rfl
theorem ty80 : tyB Pg 159 2 = true := by kernel_rfl
theorem i80 : ∃ i, Pg.info? 159 = some i ∧ i.size = 2 := sz_of (by kernel_rfl)
theorem fld80_1 (b o : Nat) : fldA Pg 159 (ptr b o) 1 = some (ptr b (o + 1)) := by kernel_rfl

/-- what a row is worth. -/
def Worth (g : FuncId) (wt : List AV → Nat) : Prop :=
  ∀ (K : Hl) (x : Ent) (l : List AV) (w : World) (F : List HP), l ≠ [] → Rc K x.2.1 l → Sat w (kn K :: F) → Ok (Fn Pg g [aggE x] w) fun v w' => v = int (wt l) ∧ Sat w' (kn K :: F) ∧ Sm w w'
def sumW (wt : List AV → Nat) (ls : List KC) : Nat := (ls.map fun x => wt x.2).sum

theorem added_loop {g : FuncId} {wt : List AV → Nat} (hw : Worth g wt) {K : Hl} {lv : Value} {xs : List Ent} {ls : List KC} (hr : RdS K 31 2 encE lv xs) (hx : Rks K xs ls) (hne : ∀ l ∈ ls, l.2 ≠ [] ∧ wt l.2 ≤ 2 ^ 28) (hl : ls.length ≤ 2 ^ 28) :
    ∀ (j i : Nat) (a : Nat) (e : Env) (w : World) (F : List HP), i + j = ls.length → a ≤ i * 2 ^ 28 → Sat w (kn K :: F) → e 1 = .func (.func g) #[] #[] → e 5 = int a → e 8 = lv → e 9 = int ls.length → e 10 = int i → e 21 = undef →
      Ok (evalLoop (cx130 (Fn Pg) (Rnd Pg)) (cdA Go.Proofs.Tryz.f130 [1, 1, 0, 1, 0, 0]) (K130_2 (Fn Pg) (Rnd Pg)) e w) fun v w' => v = int (a + sumW wt (ls.drop i) : Nat) ∧ Sat w' (kn K :: F) ∧ Sm w w' := by
  intro j
  induction j with
  | zero =>
    intro i a e w F hij ha hs e1 e5 e8 e9 e10 e21
    rw [S130_L1_eq]; unfold S130_L1
    rw [e5, e9, e10, e21]
    refine Ok.rd2 bin_lss (Ok.cf (by simp; omega) ?_)
    rw [List.drop_eq_nil_of_le (by omega)]
    exact ⟨_, _, rfl, by simp [sumW], hs, Sm.refl _⟩
  | succ j ih =>
    intro i a e w F hij ha hs e1 e5 e8 e9 e10 e21
    have hi : i < ls.length := by omega
    have hi2 : i < xs.length := by rw [hx.len]; exact hi
    obtain ⟨l, hl'⟩ : ∃ l, ls[i]? = some l := ⟨_, List.getElem?_eq_getElem hi⟩
    obtain ⟨x, hx'⟩ : ∃ x, xs[i]? = some x := ⟨_, List.getElem?_eq_getElem hi2⟩
    obtain ⟨q, h1, h2⟩ := hr.ix i x hx'
    obtain ⟨hk, hrc⟩ := hx.at_ i x l hx' hl'
    obtain ⟨hn1, hn2⟩ := hne l (List.mem_of_getElem? hl')
    obtain ⟨inf, hinf, hsz⟩ := i80
    rw [S130_L1_eq]; unfold S130_L1
    rw [e1, e5, e8, e9, e10, e21]
    refine Ok.rd2 bin_lss (Ok.ct (by simp; omega) (Ok.rd h1 ?_))
    refine Ok.rd (by rw [ldV_ag a80 hinf, hsz, h2 w (kn_on hs (j := 0) rfl)]; rfl : ldV Pg 159 (.pointer (some q)) w = some (aggE x)) ?_
    refine go_tmpG ty80 rfl (enE.one x) hs fun nb w1 t1 s1 => ?_
    refine Ok.rd (a := aggE x) (ld_agg a80 ty80 rfl t1 0 rfl) ?_
    have hcall : ∀ (a : Value) (w : World), callV (cx130 (Fn Pg) (Rnd Pg)) (.func (.func g) #[] #[]) [a] w = Fn Pg g [a] w := fun _ _ => rfl
    rw [hcall]
    refine Ok.bind (hw K x l.2 w1 _ hn1 hrc t1.sw) ?_
    rintro y w2 ⟨rfl, t2, s2⟩
    have hmul : (i + 1) * 2 ^ 28 = i * 2 ^ 28 + 2 ^ 28 := by omega
    refine Ok.rd2 (bin_addn (by omega)) (Ok.rd2 (bin_add1 (by omega)) ?_)
    have hdr : ls.drop i = l :: ls.drop (i + 1) := by rw [List.drop_eq_getElem_cons hi, (List.getElem?_eq_some_iff.1 hl').2]
    have t2 : Sat w2 (kn K :: F) := t2.sw.drop
    refine Ok.mono (ih (i + 1) (a + wt l.2) _ w2 F (by omega) (by omega) t2 ?_ ?_ ?_ ?_ ?_ ?_) ?_
    · exact e1
    · rfl
    · exact e8
    · exact e9
    · rfl
    · exact e21
    · rintro z w6 ⟨rfl, m2, m3⟩
      refine ⟨?_, m2, s1.trans (s2.trans m3)⟩
      rw [hdr]
      simp [sumW, Nat.add_assoc]
theorem added_ok {g : FuncId} {wt : List AV → Nat} (hw : Worth g wt) {K : Hl} {lv : Value} {xs : List Ent} {ls : List KC} (hr : RdS K 31 2 encE lv xs) (hx : Rks K xs ls) (hne : ∀ l ∈ ls, l.2 ≠ [] ∧ wt l.2 ≤ 2 ^ 28) (hl : ls.length ≤ 2 ^ 28) (hs : Sat w (kn K :: F)) :
    Ok (Fn Pg 130 [lv, .func (.func g) #[] #[]] w) fun v w' => v = int (sumW wt ls) ∧ Sat w' (kn K :: F) ∧ Sm w w' := by
  rw [F130]; unfold S130
  refine Ok.rd2 (hr.len T71 w) ?_
  rw [hx.len]
  refine Ok.mono (added_loop hw hr hx hne hl ls.length 0 0 _ w F (by omega) (by omega) hs rfl rfl rfl rfl rfl rfl) ?_
  rintro z w6 ⟨rfl, m2, m3⟩
  rw [List.drop_zero, Nat.zero_add]
  exact ⟨rfl, m2, m3⟩

theorem worth_n : Worth 132 fun l => l.length := by
  intro K x l w F hne hr hs
  rw [F132]; unfold S132
  refine go_box (l := encE x) rfl hs fun b w1 h1 s1 => ?_
  refine Ok.rd (fld80_1 _ _) (Ok.rd (lde_1 h1 0 rfl) (Ok.rd2 (hr.len w1) ?_))
  exact ⟨_, _, rfl, rfl, h1.drop, s1⟩
def liveN (l : List AV) : Nat := match l with
  | [] => 0
  | a :: _ => if a.dead then 0 else 1
theorem worth_l : Worth 131 liveN := by
  intro K x l w F hne hr hs
  rw [F131]; unfold S131
  obtain ⟨a, r, rfl⟩ := List.exists_cons_of_ne_nil hne
  obtain ⟨p, y, h1, hy, h2⟩ := hr.at (i := 0) (a := a) rfl
  refine go_box (l := encE x) rfl hs fun b w1 t1 s1 => ?_
  refine Ok.rd (fld80_1 _ _) (Ok.rd (lde_1 t1 0 rfl) (Ok.rd h1 (Ok.rd (fld85_1' _) (Ok.rd (h2 w1 (kn_on t1 (j := 1) rfl)).2.2 ?_))))
  have hl : liveN (a :: r) = if a.dead then 0 else 1 := rfl
  rw [hl]
  cases a.dead with
  | true => exact Ok.ct rfl ⟨_, _, rfl, rfl, t1.drop, s1⟩
  | false => exact Ok.cf rfl ⟨_, _, rfl, rfl, t1.drop, s1⟩

/-- all chains' parts that there are, of these keys. -/
noncomputable def allC (c : ByteArray → List AV) (L : List Ent) : List KC := (kc c L).map fun x => (x.1, allV x.2)
theorem allC_len (c : ByteArray → List AV) (L : List Ent) : (allC c L).length = L.length := by unfold allC kc; rw [List.length_map, List.length_map]
theorem allC_mem {K : Hl} {c : ByteArray → List AV} {L : List Ent} {n : Nat} (hc : StoR K L c) (hb : Bd c n) (ha : ∀ k, c k ≠ [] → allV (c k) ≠ []) : ∀ l ∈ allC c L, l.2 ≠ [] ∧ l.2.length ≤ n := by
  intro l hl
  simp only [allC, kc, List.map_map, List.mem_map] at hl
  obtain ⟨e, he, rfl⟩ := hl
  exact ⟨ha e.1 (hc.at_ e he).2, Nat.le_trans (keptL_len _ _) (hb.len e.1)⟩

theorem versions_ok {K : Hl} {S : Nat} {L : List Ent} {last : Int} {c : ByteArray → List AV} {n : Nat} (hn : n ≤ 2 ^ 27) (hc : StoR K L c) (hb : Bd c n) (hL : L.length ≤ 2 ^ 28) (ha : ∀ k, c k ≠ [] → allV (c k) ≠ []) (hs : Sat w (kn K :: sto S L last :: F)) :
    Ok (Fn Pg 59 [ptr S 0] w) fun v w' => v = int (sumW (fun l => l.length) (allC c L)) ∧ ∃ K', Le K K' ∧ Sat w' (kn K' :: sto S L last :: F) ∧ Sm w w' := by
  rw [F59]; unfold S59
  refine Ok.bind (rows33_ok hn hc hb hL hs) ?_
  rintro v w1 ⟨K1, xs, l1, hr, hx, h1, s1⟩
  refine Ok.bind (added_ok (ls := allC c L) worth_n hr hx (fun l hl => ⟨(allC_mem hc hb ha l hl).1, Nat.le_trans (allC_mem hc hb ha l hl).2 (by omega)⟩) (by rw [allC_len]; exact hL) h1) ?_
  rintro z w2 ⟨rfl, h2, s2⟩
  exact ⟨_, _, rfl, rfl, K1, l1, h2, s1.trans s2⟩
theorem liveN_le (l : List AV) : liveN l ≤ 1 := by
  cases l with
  | nil => simp [liveN]
  | cons a r => show (if a.dead then 0 else 1) ≤ 1; split <;> omega
theorem live_ok {K : Hl} {S : Nat} {L : List Ent} {last : Int} {c : ByteArray → List AV} {n : Nat} (hn : n ≤ 2 ^ 27) (hc : StoR K L c) (hb : Bd c n) (hL : L.length ≤ 2 ^ 28) (ha : ∀ k, c k ≠ [] → allV (c k) ≠ []) (hs : Sat w (kn K :: sto S L last :: F)) :
    Ok (Fn Pg 58 [ptr S 0] w) fun v w' => v = int (sumW liveN (allC c L)) ∧ ∃ K', Le K K' ∧ Sat w' (kn K' :: sto S L last :: F) ∧ Sm w w' := by
  rw [F58]; unfold S58
  refine Ok.bind (rows33_ok hn hc hb hL hs) ?_
  rintro v w1 ⟨K1, xs, l1, hr, hx, h1, s1⟩
  refine Ok.bind (added_ok (ls := allC c L) worth_l hr hx (fun l hl => ⟨(allC_mem hc hb ha l hl).1, Nat.le_trans (liveN_le _) (by omega)⟩) (by rw [allC_len]; exact hL) h1) ?_
  rintro z w2 ⟨rfl, h2, s2⟩
  exact ⟨_, _, rfl, rfl, K1, l1, h2, s1.trans s2⟩
end Go.Cb

/-
  Vacuum, Copy.
-/
set_option linter.unusedVariables false
set_option linter.unusedSimpArgs false
namespace Go.Cb
open Classical
variable {w : World} {F : List HP} {Q Q' : Value → World → Prop}

/-- the next key behind one. -/
def nextL (L : List Ent) (key : ByteArray) : Option Ent := (upps L key).head?
theorem next_mem {L : List Ent} {key : ByteArray} {e : Ent} (h : nextL L key = some e) : e ∈ L := (List.mem_filter.1 (List.mem_of_head? h)).1

/-- what Vacuum answers. -/
def VacQ (K : Hl) (S : Nat) (L : List Ent) (last : Int) (c : ByteArray → List AV) (key : ByteArray) (ss : List Int) (F : List HP) (w : World) (v : Value) (w' : World) : Prop :=
  ∃ K', Le K K' ∧ Sm w w' ∧ ((nextL L key = none ∧ v = .tuple #[.string noB, .slice none 0 0, .bool true] ∧ Sat w' (kn K' :: sto S L last :: F)) ∨
    ∃ e dv L', nextL L key = some e ∧ v = .tuple #[.string e.1, dv, .bool false] ∧ Rc K' dv (keptL (c e.1) fun i => ¬ keepP (c e.1) ss i) ∧ StoR K' L' (setC c e.1 (keptL (c e.1) (keepP (c e.1) ss))) ∧ L'.length ≤ L.length ∧ Sat w' (kn K' :: sto S L' last :: F))

theorem vacuum_ok {K : Hl} {S : Nat} {L : List Ent} {last : Int} {c : ByteArray → List AV} {n : Nat} {key : ByteArray} {sv : Value} {ss : List Int} (hn : n ≤ 2 ^ 28) (hk : key.size ≤ 2 ^ 62) (hc : StoR K L c) (hb : Bd c n) (hL : L.length ≤ 2 ^ 28)
    (hu : RdS K 37 1 encU sv ss) (hul : ss.length ≤ 2 ^ 28) (hs : Sat w (kn K :: sto S L last :: F)) :
    Ok (Fn Pg 14 [ptr S 0, .string key, sv] w) (VacQ K S L last c key ss F w) := by
  obtain ⟨T, h0⟩ := sto_open hs.sw
  rw [F14]; unfold S14
  refine Ok.rd2 (snone_ok h0 0 rfl) (Ok.cf rfl ?_)
  refine Ok.rd (nil_ptr _ _) (Ok.rd (fld95_0 _ _) (Ok.rd (lds_0 h0 0 rfl) ?_))
  refine Ok.bind (after_ok hk h0.sw) ?_
  rintro v w1 ⟨rfl, h1, s1⟩
  have h1 : Sat w1 (sto S L last :: kn K :: F) := sto_mk h1.sw
  unfold aftV
  cases hx : nextL L key with
  | none =>
    have hx' : (upps L key).head? = none := hx
    rw [hx']
    refine Ok.rd rfl (Ok.rd rfl (Ok.rd (un_not _) (Ok.ct rfl ?_)))
    exact ⟨_, _, rfl, K, Le.refl K, s1, .inl ⟨hx, rfl, h1.sw⟩⟩
  | some e =>
    have hx' : (upps L key).head? = some e := hx
    have he : e ∈ L := next_mem hx
    rw [hx']
    refine Ok.rd rfl (Ok.rd rfl (Ok.rd (un_not _) (Ok.cf rfl ?_)))
    refine Ok.bind (chain_ok hc h1) ?_
    rintro v w2 ⟨hr, h2, s2⟩
    refine Ok.bind (prune_ok (hb.pl e.1) (by have := hb.len e.1; omega) hul hr hu h2.sw) ?_
    rintro y w3 ⟨K3, kv, dv, l3, rfl, hkv, hdv, h3, s3⟩
    obtain ⟨T3, h4⟩ := sto_open h3.sw
    refine Ok.rd rfl (Ok.rd rfl (Ok.rd2 (hkv.len w3) (Ok.rd2 bin_eql ?_)))
    have sall := s1.trans (s2.trans s3)
    by_cases h0 : keptL (c e.1) (keepP (c e.1) ss) = []
    · refine Ok.ct (by rw [h0]; rfl) ?_
      refine Ok.rd (nil_ptr _ _) (Ok.rd (fld95_0 _ _) (Ok.rd (lds_0 h4 0 rfl) ?_))
      refine Ok.bind (delete_ok h4.sw (by omega)) ?_
      rintro z w4 ⟨rfl, h5, s5⟩
      have hd := del_len (tree_srt h4.sw) ⟨e, he, rfl⟩
      refine ⟨_, _, rfl, K3, l3, sall.trans s5, .inr ⟨e, dv, delL L e.1, hx, rfl, hdv, ?_, by omega, (sto_mk h5.sw).sw⟩⟩
      rw [h0]
      exact (hc.mono l3).del
    · refine Ok.cf (by simpa using h0) ?_
      refine Ok.rd (nil_ptr _ _) (Ok.rd (fld95_0 _ _) (Ok.rd (lds_0 h4 0 rfl) ?_))
      have hp := (put_len (tree_srt h4.sw) (e.1, (⟨kv, hkv.one⟩ : V1))).1 ⟨e, he, rfl⟩
      refine Ok.bind (put_ok (y := ⟨kv, hkv.one⟩) h4.sw (by omega) (bldE (x := (e.1, ⟨kv, hkv.one⟩)) hkv)) ?_
      rintro z w4 ⟨rfl, h5, s5⟩
      exact ⟨_, _, rfl, K3, l3, sall.trans s5, .inr ⟨e, dv, _, hx, rfl, hdv, (hc.mono l3).put (y := ⟨kv, hkv.one⟩) hkv h0, Nat.le_of_eq hp, (sto_mk h5.sw).sw⟩⟩

theorem scopy_ok {S : Nat} {L : List Ent} {last : Int} (hs : Sat w (sto S L last :: F)) : Ok (Fn Pg 17 [ptr S 0] w) fun v w' => ∃ U, v = ptr U 0 ∧ Sat w' (sto U L last :: sto S L last :: F) ∧ Sm w w' := by
  obtain ⟨T, h0⟩ := sto_open hs
  rw [F17]; unfold S17
  refine Ok.rd2 (snone_ok h0 0 rfl) (Ok.cf rfl ?_)
  have h0 : Sat (drw w) (pt S [ptr T 0, u64 last] 144 :: tree T L :: F) := h0
  refine Ok.rd (nil_ptr _ _) (Ok.rd (fld95_0 _ _) (Ok.rd (lds_0 h0 0 rfl) ?_))
  refine Ok.bind (tcopy_ok h0.sw) ?_
  rintro v w1 ⟨T2, rfl, h1, s1⟩
  have h1 : Sat w1 (tree T2 L :: tree T L :: pt S [ptr T 0, u64 last] 144 :: F) := h1
  refine Ok.rd (nil_ptr _ _) (Ok.rd (fld95_1 _ _) (Ok.rd (lds_1 h1 2 rfl) (Ok.chk (show ldV Pg 23 (ptr S (0 + 1)) (drw w) = some (u64 last) from lds_1 h0 0 rfl) ?_)))
  refine Ok.rd (bld95_2 _ _) ?_
  refine go_box (l := [ptr T2 0, u64 last]) rfl h1 fun U w2 h2 s2 => ?_
  refine ⟨_, _, rfl, U, rfl, ?_, s1.drw.trans s2⟩
  have := sto_mk h2
  exact (sto_mk (this.re [2, 1, 0] (by decide))).sw
end Go.Cb

/-
  Bytes as a text; one step of a walk, found by its form or by what is known.
-/
set_option linter.unusedVariables false
set_option linter.unusedSimpArgs false
set_option maxRecDepth 100000
namespace Go.Cb
variable {w w0 : World} {F : List HP} {Q Q' : Value → World → Prop}

/-! ### Bytes as a text -/
abbrev encB (n : Int) : List Value := [.int .u8 n]
theorem enB : En encB 1 := ⟨fun _ => rfl, fun x v hv => by simp [encB] at hv; subst hv; rfl⟩
instance : Sls 59 5 1 := ⟨slT_of (by kernel_rfl)⟩
def strB (bs : List Int) : ByteArray := bs.foldl (fun r n => r.push (UInt8.ofNat n.toNat)) ByteArray.empty
theorem u132 : Pg.underlying 59 = some (.slice 5) := by kernel_rfl
theorem u5 : Pg.underlying 5 = some (.int .u8) := by kernel_rfl
theorem flat_B (bs : List Int) : bs.flatMap encB = bs.map (Value.int .u8) := by
  induction bs with
  | nil => rfl
  | cons b bs ih => rw [List.flatMap_cons, ih]; rfl
theorem cv_bytes {st : Bool} {K : Hl} {v : Value} {bs : List Int} (hr : RdS K 59 1 encB v bs) (hon : K.on w) : cvG st Pg 59 9 v w = some (.string (strB bs), w) := by
  have hrun : (convert 59 9 v).run Pg w = .ok (.string (strB bs)) w := by
    have hs := hr.src w hon
    rcases hs with ⟨c, rfl, hn, hnil⟩ | ⟨a, c, rfl, hc⟩
    · rw [run_convert_bytes_string w _ _ _ _ _ _ u132 u5 u9s]
      have : bs = [] := List.length_eq_zero_iff.1 hn
      subst this
      simp [Conv.bytesToString, strB, Sem.run_pure]
    · rw [run_convert_bytes_string w _ _ _ _ _ _ u132 u5 u9s]
      refine run_bytesToString w a _ _ bs ?_
      rw [flat_B, Nat.mul_one] at hc
      simp [loadCells, cells_run w a _ _ _ _ hc]
  have hraw : rawV Pg (convert 59 9 v) w = some (.string (strB bs), w) := by simp [rawV, hrun]
  have hsm : sameW Pg (convert 59 9 v) w = some (.string (strB bs), w) := by simp [sameW, hrun]
  obtain ⟨a, c, rfl⟩ := hr.sl
  unfold cvG
  rw [u132, u9s]
  cases st
  · exact hraw
  · exact hsm
theorem Go.cvB {st : Bool} {K : Hl} {v : Value} {bs : List Int} {κ2 : Value → World → R} [h0 : Kn F K] (hr : RdS K 59 1 encB v bs) (h : Go w0 F w (κ2 (.string (strB bs)) w) Q) : Go w0 F w (Cb.rd2 (cvG st Pg 59 9 v w) κ2) Q := fun hs hm => Ok.rd2 (cv_bytes hr hs.kn) (h hs hm)

/-! ### One step -/
abbrev StepP (F : List HP) (w : World) (r r' : R) (w' : World) : Prop := ∀ {w0 : World} {Q : Value → World → Prop}, Go w0 F w' r' Q → Go w0 F w r Q
theorem Go.z {r r' : R} {w' : World} (h : Go w0 F w' r' Q) (hp : StepP F w r r' w' := by
  intro w0 Q h
  with_reducible first
  | refine Go.s ?_
  | refine Go.ad1 (by omega) ?_
  | refine Go.adn (by omega) ?_
  | refine Go.sb1 (by omega) (by omega) ?_
  | refine Go.sbn (by omega) (by omega) ?_
  | refine Go.ls (by with_unfolding_all rfl) ?_
  | refine Go.ex (by with_unfolding_all rfl) ?_
  | refine Go.lnR (by assumption) ?_
  | refine Go.lk (by assumption) (by with_unfolding_all rfl) ?_
  | refine Go.lk0 (by assumption) (by with_unfolding_all rfl) ?_
  | refine Go.lka (by assumption) (by with_unfolding_all rfl) ?_
  | refine Go.lkp (by assumption) ?_
  | refine Go.la (by with_unfolding_all rfl) ?_
  | refine Go.cvB (by assumption) ?_
  | refine Go.rd (by assumption) ?_
  | refine Go.rd2 (by assumption) ?_
  | refine Go.ck (hold_ld (ld_of (by assumption) (by with_unfolding_all rfl))) ?_
  | refine Go.ck (hold_ld (ldk_of (by assumption) (by assumption) (by with_unfolding_all rfl))) ?_
  with_reducible exact h
) : Go w0 F w r Q := hp h
end Go.Cb

/-
  A store that isn't there, or that nobody made.
-/
set_option linter.unusedVariables false
set_option linter.unusedSimpArgs false
namespace Go.Cb
open Classical
variable {w : World} {F : List HP} {Q Q' : Value → World → Prop} {s : Value} {A : HP}

/-- there is no store. -/
def NoS (s : Value) (A : HP) : Prop := ∀ (w : World) (F : List HP), Sat w (A :: F) → Fn Pg 62 [s] w = some (.bool true, w)
theorem noS_nil : NoS (.pointer none) emp := fun _ _ _ => snone_nil
theorem noS_zero (S : Nat) : NoS (ptr S 0) (pt S [.pointer none, u64 0] 144) := fun w F h => snone_ok h 0 rfl
theorem NoS.at {k : Nat} (hN : NoS s A) (hs : Sat w F) (hk : F[k]? = some A) : Fn Pg 62 [s] w = some (.bool true, w) := hN w _ (hs.foc hk)

theorem chain_no {key : ByteArray} (hN : NoS s A) (hs : Sat w (A :: F)) : Fn Pg 70 [s, .string key] w = some (.slice none 0 0, w) := by
  have : Ok (Fn Pg 70 [s, .string key] w) fun v w' => v = .slice none 0 0 ∧ w' = w := by
    rw [F70]; unfold S70
    exact Ok.rd2 (hN w F hs) (Ok.ct rfl ⟨_, _, rfl, rfl, rfl⟩)
  obtain ⟨v, w', h1, rfl, rfl⟩ := this
  exact h1
theorem right_nil : RightP [] := fun i a h => by simp at h
theorem at_nil (at' : Int) : atV [] at' = (zA, false) := by
  unfold atV
  rw [if_pos right_nil]; rfl
theorem read_no {K : Hl} {at' : Int} {key : ByteArray} (hN : NoS s A) (hs : Sat w (kn K :: A :: F)) :
    Ok (Fn Pg 57 [s, .string key, u64 at'] w) (VerQ K (zA, false) (A :: F) w) := by
  rw [F57]; unfold S57
  refine go_new z85 hs fun r w1 h1 s1 => ?_
  refine Ok.rd2 (chain_no hN (h1.re [2, 0, 1] (by decide))) ?_
  have h2 : Sat w1 (kn K :: A :: pt r [u64 0, .bool false, .slice none 0 0, u64 0, int 0] 137 :: F) := h1.re [1, 2, 0] (by decide)
  refine Ok.bind (at_ok (vs := []) (s := at') (fun a ha => by simp at ha) (Rc.nil none 0) (by simp) h2) ?_
  rintro y w3 ⟨K', x, hl, rfl, hx, h3, s3⟩
  rw [at_nil] at hx
  refine Ok.rd rfl (Ok.rd rfl ?_)
  obtain ⟨w4, m4, h4, s4⟩ := st_agg ty85 rfl (cs := #[u64 x.st, .bool x.dead, x.pv.1, u64 x.gen, int x.size]) rfl (ones_ver x) h3 2 rfl
  refine Ok.rd2 m4 ?_
  have h4 : Sat w4 (kn K' :: A :: pt r (encVer x) 137 :: F) := h4
  refine Ok.rd (ldv h4 2 rfl) ?_
  exact ⟨_, _, rfl, K', x, hl, by rw [at_nil]; rfl, hx, (h4.re [2, 0, 1] (by decide)).drop, s1.trans (s3.trans s4)⟩
theorem newest_no {K : Hl} {key : ByteArray} (hN : NoS s A) (hs : Sat w (kn K :: A :: F)) :
    Ok (Fn Pg 80 [s, .string key] w) (VerQ K (zA, false) (A :: F) w) := by
  rw [F80]; unfold S80
  refine go_new z85 hs fun r w1 h1 s1 => ?_
  refine Ok.rd2 (chain_no hN (h1.re [2, 0, 1] (by decide))) ?_
  have h2 : Sat w1 (kn K :: A :: pt r [u64 0, .bool false, .slice none 0 0, u64 0, int 0] 137 :: F) := h1.re [1, 2, 0] (by decide)
  refine Ok.rd2 (len_sl T76.u _ _ _ _) (Ok.rd2 bin_eql (Ok.ct rfl (Ok.rd bld85_0 ?_)))
  obtain ⟨w4, m4, h4, s4⟩ := st_agg ty85 rfl (cs := #[u64 zV.st, .bool zV.dead, zV.pv.1, u64 zV.gen, int zV.size]) rfl (ones_ver zV) h2 2 rfl
  refine Ok.rd2 m4 ?_
  have h4 : Sat w4 (kn K :: A :: pt r (encVer zV) 137 :: F) := h4
  refine Ok.rd (ldv h4 2 rfl) ?_
  exact ⟨_, _, rfl, K, zV, Le.refl K, rfl, zRv K, (h4.re [2, 0, 1] (by decide)).drop, s1.trans s4⟩
theorem last_no (hN : NoS s A) (hs : Sat w (A :: F)) : Fn Pg 20 [s] w = some (u64 0, w) := by
  have : Ok (Fn Pg 20 [s] w) fun v w' => v = u64 0 ∧ w' = w := by
    rw [F20]; unfold S20
    exact Ok.rd2 (hN w F hs) (Ok.ct rfl ⟨_, _, rfl, rfl, rfl⟩)
  obtain ⟨v, w', h1, rfl, rfl⟩ := this
  exact h1
theorem copy_no (hN : NoS s A) (hs : Sat w (A :: F)) : Fn Pg 17 [s] w = some (.pointer none, w) := by
  have : Ok (Fn Pg 17 [s] w) fun v w' => v = .pointer none ∧ w' = w := by
    rw [F17]; unfold S17
    exact Ok.rd2 (hN w F hs) (Ok.ct rfl ⟨_, _, rfl, rfl, rfl⟩)
  obtain ⟨v, w', h1, rfl, rfl⟩ := this
  exact h1
theorem vac_no {k sv : Value} (hN : NoS s A) (hs : Sat w (A :: F)) : Fn Pg 14 [s, k, sv] w = some (.tuple #[.string noB, .slice none 0 0, .bool true], w) := by
  have : Ok (Fn Pg 14 [s, k, sv] w) fun v w' => v = .tuple #[.string noB, .slice none 0 0, .bool true] ∧ w' = w := by
    rw [F14]; unfold S14
    exact Ok.rd2 (hN w F hs) (Ok.ct rfl ⟨_, _, rfl, rfl, rfl⟩)
  obtain ⟨v, w', h1, rfl, rfl⟩ := this
  exact h1
theorem apply_no {x y : Value} (hN : NoS s A) (hs : Sat w (A :: F)) : Ok (Fn Pg 12 [s, .agg #[x, y]] w) fun v w' => v = int 1 ∧ Sat w' (A :: F) ∧ Sm w w' := by
  rw [F12]; unfold S12
  refine go_box (l := [x, y]) rfl hs fun rb w1 h1 s1 => ?_
  exact Ok.rd2 (hN.at h1 (k := 1) rfl) (Ok.ct rfl ⟨_, _, rfl, rfl, h1.drop, s1⟩)
theorem rows_no {f t : ByteArray} {on : Value} (hN : NoS s A) (hs : Sat w (A :: F)) : Ok (Fn Pg 77 [s, .agg #[.string f, .string t], on] w) fun v w' => Sat w' (A :: F) ∧ Sm w w' := by
  rw [F77]; unfold S77
  refine go_box (l := spC f t) rfl hs fun rb w1 h1 s1 => ?_
  exact Ok.rd2 (hN.at h1 (k := 1) rfl) (Ok.ct rfl ⟨_, _, rfl, h1.drop, s1⟩)
theorem rows33_no (hN : NoS s A) (hs : Sat w (A :: F)) : Ok (Fn Pg 19 [s] w) fun v w' => v = .slice none 0 0 ∧ Sat w' (A :: F) ∧ Sm w w' := by
  rw [F19]; unfold S19
  refine go_new z71 hs fun b w1 h1 s1 => ?_
  refine Ok.rd bld36_0 ?_
  refine Ok.bind (rows_no hN h1.sw) ?_
  rintro y w2 ⟨h2, s2⟩
  exact Ok.rd (ld1 a71 h2 1 rfl) ⟨_, _, rfl, rfl, h2.sw.drop, s1.trans s2⟩
theorem scan_no {f t : ByteArray} {at' m : Int} (hN : NoS s A) (hs : Sat w (A :: F)) : Ok (Fn Pg 60 [s, .agg #[.string f, .string t], u64 at', int m] w) fun v w' => v = .slice none 0 0 ∧ Sat w' (A :: F) ∧ Sm w w' := by
  rw [F60]; unfold S60
  refine go_box (l := spC f t) rfl hs fun c4 w1 h1 s1 => ?_
  refine go_box (l := [u64 at']) rfl h1 fun ba w2 h2 s2 => ?_
  refine go_box (l := [int m]) rfl h2 fun bm w3 h3 s3 => ?_
  refine go_new z73 h3 fun b w4 h4 s4 => ?_
  refine Ok.rd (ldsp h4 3 rfl) ?_
  refine Ok.bind (rows_no hN (h4.re [4, 0, 1, 2, 3] (by decide))) ?_
  rintro y w5 ⟨h5, s5⟩
  have h5 : Sat w5 (A :: pt b [.slice none 0 0] 87 :: pt bm [int m] 3 :: pt ba [u64 at'] 23 :: pt c4 (spC f t) 25 :: F) := h5
  exact Ok.rd (ld1 a73 h5 1 rfl) ⟨_, _, rfl, rfl, (h5.re [1, 2, 3, 4, 0] (by decide)).drop.drop.drop.drop, s1.trans (s2.trans (s3.trans (s4.trans s5)))⟩
theorem versions_no {K : Hl} (hN : NoS s A) (hs : Sat w (kn K :: A :: F)) : Ok (Fn Pg 59 [s] w) fun v w' => v = int 0 ∧ Sat w' (kn K :: A :: F) ∧ Sm w w' := by
  rw [F59]; unfold S59
  refine Ok.bind (rows33_no hN hs.sw) ?_
  rintro v w1 ⟨rfl, h1, s1⟩
  refine Ok.bind (added_ok (ls := []) worth_n (RdS.nil none 0) Rks.nil (fun l hl => by simp at hl) (by simp) h1.sw) ?_
  rintro z w2 ⟨rfl, h2, s2⟩
  exact ⟨_, _, rfl, rfl, h2, s1.trans s2⟩
theorem live_no {K : Hl} (hN : NoS s A) (hs : Sat w (kn K :: A :: F)) : Ok (Fn Pg 58 [s] w) fun v w' => v = int 0 ∧ Sat w' (kn K :: A :: F) ∧ Sm w w' := by
  rw [F58]; unfold S58
  refine Ok.bind (rows33_no hN hs.sw) ?_
  rintro v w1 ⟨rfl, h1, s1⟩
  refine Ok.bind (added_ok (ls := []) worth_l (RdS.nil none 0) Rks.nil (fun l hl => by simp at hl) (by simp) h1.sw) ?_
  rintro z w2 ⟨rfl, h2, s2⟩
  exact ⟨_, _, rfl, rfl, h2, s1.trans s2⟩
end Go.Cb

/-
  Acts that come in; few.
-/
set_option linter.unusedVariables false
set_option linter.unusedSimpArgs false
namespace Go.Cb
open Classical
variable {w : World} {F : List HP} {Q Q' : Value → World → Prop}

theorem cellsAt_get : ∀ (k i : Nat) {w : World} {p : Addr} {l : List Value}, cellsAt w p i k = some l → ∀ j, j < k → w.cell? (p.add (i + j)) = l[j]?
  | 0, i, w, p, l, h, j, hj => absurd hj (Nat.not_lt_zero _)
  | k + 1, i, w, p, l, h, j, hj => by
    unfold cellsAt at h
    obtain ⟨x, hx, h⟩ := Option.bind_eq_some_iff.1 h
    obtain ⟨l', hl', rfl⟩ := Option.map_eq_some_iff.1 h
    cases j with
    | zero => simpa using hx
    | succ j =>
      have := cellsAt_get k (i + 1) hl' j (by omega)
      rw [show i + 1 + j = i + (j + 1) by omega] at this
      simpa using this

theorem fld116_0' (a : Addr) : fldA Pg 135 (.pointer (some a)) 0 = some (.pointer (some (a.add 0))) := by kernel_rfl
theorem fld116_2' (a : Addr) : fldA Pg 135 (.pointer (some a)) 2 = some (.pointer (some (a.add 2))) := by kernel_rfl
theorem fld83_0' (a : Addr) : fldA Pg 82 (.pointer (some a)) 0 = some (.pointer (some (a.add 0))) := by kernel_rfl

/-- few changes, and small ones. -/
def fewG (gs : List (ByteArray × AV)) : Prop := gs.length ≤ 30 ∧ ∀ a ∈ gs, a.2.places.length ≤ 402 ∧ a.1.size ≤ 100

theorem few60_loop {K : Hl} {rb : Nat} {s : Int} {y cv : Value} {cs : List Cg} {gs : List (ByteArray × AV)} (hr : RdS K 34 5 encCg cv cs) (hcs : Rcg K s cs gs) (hs : Sat w (pt rb [y, cv] 36 :: kn K :: F)) :
    ∀ (j i : Nat) (e : Env), i + j = 40 → (∀ (k : Nat) (a : ByteArray × AV), k < i → gs[k]? = some a → a.2.places.length ≤ 402 ∧ a.1.size ≤ 100) → e 3 = ptr rb 0 → e 5 = int i → e 62 = undef →
      Ok (evalLoop (cx56 (Fn Pg) (Rnd Pg)) (cdA Go.Proofs.Tryz.f56 [1, 0, 1, 0, 0]) (K56_2 (Fn Pg) (Rnd Pg)) e w) fun x w' => (∃ b, x = .bool b ∧ (b = true → fewG gs)) ∧ w' = w := by
  intro j
  induction j with
  | zero =>
    intro i e hij hsm e3 e5 e62
    have hi : i = 40 := by omega
    subst hi
    rw [S56_L1_eq]; unfold S56_L1
    rw [e3, e5, e62]
    refine Ok.rd (fld67_1 _ _) (Ok.rd (ldr_1 hs 0 rfl) (Ok.rd2 (hr.len T65 w) (Ok.rd2 bin_lss ?_)))
    rw [hcs.len]
    have fin : Ok (rd (fldA Pg 36 (ptr rb 0) 1) fun x211 => rd (ldV Pg 34 x211 w) fun x212 => rd2 (lenG false Pg .len #[34] 3 #[false] [x212] w) fun x213 w214 =>
        rd2 (binG false Pg .leq 3 (.tmp 0) (.const .nilFunc) x213 (.int .i64 30) w214) fun x215 w216 => shutK undef w216 fun w217 => some (x215, w217)) fun x w' => (∃ b, x = .bool b ∧ (b = true → fewG gs)) ∧ w' = w := by
      refine Ok.rd (fld67_1 _ _) (Ok.rd (ldr_1 hs 0 rfl) (Ok.rd2 (hr.len T65 w) (Ok.rd2 bin_leq ?_)))
      refine ⟨_, _, rfl, ⟨_, rfl, fun hb => ?_⟩, rfl⟩
      rw [hcs.len] at hb
      have hb : gs.length ≤ 30 := by simp at hb; omega
      refine ⟨hb, fun a ha => ?_⟩
      obtain ⟨k, hk⟩ := List.getElem?_of_mem ha
      have := (List.getElem?_eq_some_iff.1 hk).1
      exact hsm k a (by omega) hk
    cases hx : decide (((40 : Nat) : Int) < (gs.length : Int)) with
    | true => exact t_ok rfl rfl (t_ok rfl (gr2 bin_lss) (pk_t rfl (Ok.cf rfl fin)))
    | false => exact t_no rfl (t_no rfl (pk_f rfl (Ok.cf rfl fin)))
  | succ j ih =>
    intro i e hij hsm e3 e5 e62
    rw [S56_L1_eq]; unfold S56_L1
    rw [e3, e5, e62]
    refine Ok.rd (fld67_1 _ _) (Ok.rd (ldr_1 hs 0 rfl) (Ok.rd2 (hr.len T65 w) (Ok.rd2 bin_lss ?_)))
    rw [hcs.len]
    have bad : Ok (shutK undef w fun w208 => some ((.bool false), w208)) fun x w' => (∃ b, x = .bool b ∧ (b = true → fewG gs)) ∧ w' = w := ⟨_, _, rfl, ⟨false, rfl, fun h => by cases h⟩, rfl⟩
    by_cases hlt : i < gs.length
    · have hx : decide ((i : Int) < (gs.length : Int)) = true := by simp; omega
      refine t_ok hx rfl (t_ok hx (gr2 bin_lss) (pk_t hx (Ok.ct (by simp; omega) ?_)))
      obtain ⟨a, ha⟩ : ∃ a, gs[i]? = some a := ⟨_, List.getElem?_eq_getElem hlt⟩
      obtain ⟨x, hx'⟩ : ∃ x, cs[i]? = some x := ⟨_, List.getElem?_eq_getElem (by rw [hcs.len]; exact hlt)⟩
      obtain ⟨p, h1, h2⟩ := hr.ix i x hx'
      obtain ⟨hkey, hv⟩ := hcs.at_ i x a hx' ha
      have hcell := cellsAt_get 5 0 (h2 w (kn_on hs (j := 1) rfl))
      have c0 : w.cell? (p.add 0) = some (.string x.key) := hcell 0 (by decide)
      have c2 : w.cell? (p.add 2) = some x.pv.1 := hcell 2 (by decide)
      have l81 : ldV Pg 80 (.pointer (some ((p.add 2).add 0))) w = some x.pv.1 := (ldV_sc a81 _ _).trans c2
      have l9 : ldV Pg 9 (.pointer (some (p.add 0))) w = some (.string x.key) := (ldV_sc a9 _ _).trans c0
      have hpl : RdS K 80 1 encI x.pv.1 a.2.places := hv.pl
      refine Ok.rd (fld67_1 _ _) (Ok.rd (ldr_1 hs 0 rfl) (Ok.rd h1 (Ok.rd (fld116_2' _) (Ok.rd (fld83_0' _) (Ok.rd l81 (Ok.rd2 (hpl.len T81 w) (Ok.rd2 bin_gtr ?_)))))))
      cases hB : decide ((60 : Int) < (a.2.places.length : Int)) with
      | false =>
        refine t_no rfl (t_no rfl (t_no rfl (t_no rfl (t_no rfl (t_no rfl (t_no rfl (t_no rfl (t_no rfl (pk_f rfl ?_)))))))))
        refine f_ok rfl (gr (fld67_1 _ _)) (f_ok rfl (gr (ldr_1 hs 0 rfl)) (f_ok rfl rfl (f_ok rfl (gr h1) (f_ok rfl (gr (fld116_2' _)) (f_ok rfl (gr (fld83_0' _)) (f_ok rfl (gr l81) (f_ok rfl (gr2 (hpl.len T81 w)) (f_ok rfl (gr2 bin_gtr) (pk_f rfl ?_)))))))))
        cases hD : decide ((402 : Int) < (a.2.places.length : Int)) with
        | true => exact Ok.f0 (Ok.f0 (Ok.f0 (Ok.f0 (Ok.f0 (Ok.f0 (Ok.f0 (Ok.f0 (Ok.rd (pick_t _ _) (Ok.ct rfl bad)))))))))
        | false =>
          refine f_ok rfl (gr (fld67_1 _ _)) (f_ok rfl (gr (ldr_1 hs 0 rfl)) (f_ok rfl rfl (f_ok rfl (gr h1) (f_ok rfl (gr (fld116_0' _)) (f_ok rfl (gr l9) (f_ok rfl (gr2 (len_str u9s _ _)) (f_ok rfl (gr2 bin_gtr) (pk_f rfl ?_))))))))
          cases hE : decide ((100 : Int) < (x.key.size : Int)) with
          | true => exact Ok.ct rfl bad
          | false =>
            refine Ok.cf rfl (Ok.rd2 (bin_add1 (by omega)) ?_)
            refine ih (i + 1) _ (by omega) ?_ ?_ ?_ ?_
            · intro k b hk hb
              by_cases hki : k = i
              · subst hki
                rw [ha] at hb
                injection hb with hb
                subst hb
                have hD := of_decide_eq_false hD
                have hE := of_decide_eq_false hE
                rw [hkey] at hE
                exact ⟨by omega, by omega⟩
              · exact hsm k b (by omega) hb
            · exact e3
            · rfl
            · exact e62
      | true =>
        refine t_ok rfl (gr (fld67_1 _ _)) (t_ok rfl (gr (ldr_1 hs 0 rfl)) (t_ok rfl rfl (t_ok rfl (gr h1) (t_ok rfl (gr (fld116_2' _)) (t_ok rfl (gr (fld83_0' _)) (t_ok rfl (gr l81) (t_ok rfl (gr2 (hpl.len T81 w)) (t_ok rfl (gr2 bin_lss) (pk_t rfl ?_)))))))))
        cases hC : decide ((a.2.places.length : Int) < 400) with
        | false =>
          refine f_ok rfl (gr (fld67_1 _ _)) (f_ok rfl (gr (ldr_1 hs 0 rfl)) (f_ok rfl rfl (f_ok rfl (gr h1) (f_ok rfl (gr (fld116_2' _)) (f_ok rfl (gr (fld83_0' _)) (f_ok rfl (gr l81) (f_ok rfl (gr2 (hpl.len T81 w)) (f_ok rfl (gr2 bin_gtr) (pk_f rfl ?_)))))))))
          cases hD : decide ((402 : Int) < (a.2.places.length : Int)) with
          | true => exact Ok.f0 (Ok.f0 (Ok.f0 (Ok.f0 (Ok.f0 (Ok.f0 (Ok.f0 (Ok.f0 (Ok.rd (pick_t _ _) (Ok.ct rfl bad)))))))))
          | false =>
            refine f_ok rfl (gr (fld67_1 _ _)) (f_ok rfl (gr (ldr_1 hs 0 rfl)) (f_ok rfl rfl (f_ok rfl (gr h1) (f_ok rfl (gr (fld116_0' _)) (f_ok rfl (gr l9) (f_ok rfl (gr2 (len_str u9s _ _)) (f_ok rfl (gr2 bin_gtr) (pk_f rfl ?_))))))))
            cases hE : decide ((100 : Int) < (x.key.size : Int)) with
            | true => exact Ok.ct rfl bad
            | false =>
              refine Ok.cf rfl (Ok.rd2 (bin_add1 (by omega)) ?_)
              refine ih (i + 1) _ (by omega) ?_ ?_ ?_ ?_
              · intro k b hk hb
                by_cases hki : k = i
                · subst hki
                  rw [ha] at hb
                  injection hb with hb
                  subst hb
                  have hD := of_decide_eq_false hD
                  have hE := of_decide_eq_false hE
                  rw [hkey] at hE
                  exact ⟨by omega, by omega⟩
                · exact hsm k b (by omega) hb
              · exact e3
              · rfl
              · exact e62
        | true =>
          refine Ok.f0 (Ok.f0 (Ok.f0 (Ok.f0 (Ok.f0 (Ok.f0 (Ok.f0 (Ok.f0 (Ok.f0 (Ok.rd (pick_t _ _) ?_)))))))))
          exact Ok.f0 (Ok.f0 (Ok.f0 (Ok.f0 (Ok.f0 (Ok.f0 (Ok.f0 (Ok.f0 (Ok.rd (pick_t _ _) (Ok.ct rfl bad)))))))))
    · have hx : decide ((i : Int) < (gs.length : Int)) = false := by simp; omega
      refine t_no hx (t_no hx (pk_f hx (Ok.cf rfl ?_)))
      refine Ok.rd (fld67_1 _ _) (Ok.rd (ldr_1 hs 0 rfl) (Ok.rd2 (hr.len T65 w) (Ok.rd2 bin_leq ?_)))
      refine ⟨_, _, rfl, ⟨_, rfl, fun hb => ?_⟩, rfl⟩
      rw [hcs.len] at hb
      have hb : gs.length ≤ 30 := by simp at hb; omega
      refine ⟨hb, fun a ha => ?_⟩
      obtain ⟨k, hk⟩ := List.getElem?_of_mem ha
      have := (List.getElem?_eq_some_iff.1 hk).1
      exact hsm k a (by omega) hk
theorem few60_ok {K : Hl} {s : Int} {x y cv : Value} {cs : List Cg} {gs : List (ByteArray × AV)} (hr : RdS K 34 5 encCg cv cs) (hcs : Rcg K s cs gs) (hs : Sat w (kn K :: F)) :
    Ok (Fn Pg 56 [x, .agg #[y, cv]] w) fun v w' => (∃ b, v = .bool b ∧ (b = true → fewG gs)) ∧ Sat w' (kn K :: F) ∧ Sm w w' := by
  rw [F56]; unfold S56
  refine go_box (l := [y, cv]) rfl hs fun rb w1 h1 s1 => ?_
  refine Ok.mono (few60_loop hr hcs h1 40 0 _ rfl (fun k a hk => absurd hk (Nat.not_lt_zero _)) rfl rfl rfl) ?_
  rintro v w2 ⟨hb, rfl⟩
  exact ⟨hb, h1.drop, s1⟩

/-- an act. -/
structure MAct where
  kind : Int
  st : Int
  cv : V1
  key : ByteArray
  sv : V1
abbrev encAc (x : MAct) : List Value := [int x.kind, u64 x.st, x.cv.1, .string x.key, x.sv.1]
theorem enAc : En encAc 5 := ⟨fun _ => rfl, fun x v hv => by
  simp [encAc] at hv; rcases hv with rfl | rfl | rfl | rfl | rfl
  all_goals first | rfl | exact x.cv.2 | exact x.sv.2⟩
abbrev aggAc (x : MAct) : Value := .agg #[int x.kind, u64 x.st, x.cv.1, .string x.key, x.sv.1]
theorem T58 : SlT Pg 22 39 5 := slT_of (by kernel_rfl)
theorem a70 : aggT Pg 39 = some true := by kernel_rfl
theorem ty70 : tyB Pg 39 5 = true := by kernel_rfl
theorem i70 : ∃ i, Pg.info? 39 = some i ∧ i.size = 5 := sz_of (by kernel_rfl)
theorem i67 : ∃ i, Pg.info? 36 = some i ∧ i.size = 2 := sz_of (by kernel_rfl)
theorem a68 : aggT Pg 37 = some false := by kernel_rfl
theorem fld70_1' (a : Addr) : fldA Pg 39 (.pointer (some a)) 1 = some (.pointer (some (a.add 1))) := by kernel_rfl
theorem fld70_2' (a : Addr) : fldA Pg 39 (.pointer (some a)) 2 = some (.pointer (some (a.add 3))) := by kernel_rfl
theorem fld70_3' (a : Addr) : fldA Pg 39 (.pointer (some a)) 3 = some (.pointer (some (a.add 4))) := by kernel_rfl
/-- what an act says. -/
structure AAct where
  kind : Int
  st : Int
  gs : List (ByteArray × AV)
  key : ByteArray
  ss : List Int
structure Rac (K : Hl) (x : MAct) (a : AAct) : Prop where
  kind : x.kind = a.kind
  st : x.st = a.st
  key : x.key = a.key
  cs : ∃ cs, RdS K 34 5 encCg x.cv.1 cs ∧ Rcg K a.st cs a.gs
  ss : RdS K 37 1 encU x.sv.1 a.ss
theorem Rac.mono {K K' : Hl} {x : MAct} {a : AAct} (h : Rac K x a) (hl : Le K K') : Rac K' x a := ⟨h.kind, h.st, h.key, let ⟨cs, h1, h2⟩ := h.cs; ⟨cs, h1.mono hl, h2.mono hl⟩, h.ss.mono hl⟩
structure Racs (K : Hl) (xs : List MAct) (gs : List AAct) : Prop where
  len : xs.length = gs.length
  at_ : ∀ (i : Nat) (x : MAct) (a : AAct), xs[i]? = some x → gs[i]? = some a → Rac K x a
theorem Racs.mono {K K' : Hl} {xs : List MAct} {gs : List AAct} (h : Racs K xs gs) (hl : Le K K') : Racs K' xs gs := ⟨h.len, fun i x a hx ha => (h.at_ i x a hx ha).mono hl⟩
/-- a small act; few acts. -/
def fewAc (a : AAct) : Prop := fewG a.gs ∧ a.ss.length ≤ 20 ∧ a.key.size ≤ 60
def fewA (gs : List AAct) : Prop := gs.length ≤ 40 ∧ ∀ a ∈ gs, fewAc a

/-- what is read of an act. -/
theorem act_at {x : MAct} {p : Addr} (h : cellsAt w p 0 5 = some (encAc x)) :
    ldV Pg 39 (.pointer (some p)) w = some (aggAc x) ∧ ldV Pg 36 (.pointer (some (p.add 1))) w = some (.agg #[u64 x.st, x.cv.1]) ∧ ldV Pg 9 (.pointer (some (p.add 3))) w = some (.string x.key) ∧ ldV Pg 37 (.pointer (some (p.add 4))) w = some x.sv.1 := by
  have hcell := cellsAt_get 5 0 h
  obtain ⟨i, hi, hsz⟩ := i70
  obtain ⟨i', hi', hsz'⟩ := i67
  refine ⟨by rw [ldV_ag a70 hi, hsz, h]; rfl, ?_, (ldV_sc a9 _ _).trans (hcell 3 (by decide)), (ldV_sc a68 _ _).trans (hcell 4 (by decide))⟩
  rw [ldV_ag a67 hi', hsz']
  have c1 : w.cell? ((p.add 1).add 0) = some (u64 x.st) := hcell 1 (by decide)
  have c2 : w.cell? ((p.add 1).add 1) = some x.cv.1 := hcell 2 (by decide)
  simp only [cellsAt, Nat.zero_add]
  rw [c1, c2]
  rfl

theorem few29_loop {v : Value} {xs : List MAct} {gs : List AAct} {w0 : World} : ∀ (j i : Nat) (K : Hl) (e : Env) (w : World) (F : List HP), i + j = 60 → RdS K 22 5 encAc v xs → Racs K xs gs → (∀ (k : Nat) (a : AAct), k < i → gs[k]? = some a → fewAc a) → Sat w (kn K :: F) → e 0 = v → e 3 = int i → e 42 = undef →
      Ok (evalLoop (cx9 (Fn Pg) (Rnd Pg)) (cdA Go.Proofs.Tryz.f9 [1, 0, 1, 0, 0]) (K9_2 (Fn Pg) (Rnd Pg)) e w) fun x w' => (∃ b, x = .bool b ∧ (b = true → fewA gs)) ∧ Sat w' (kn K :: F) ∧ Sm w w' := by
  intro j
  induction j with
  | zero =>
    intro i K e w F hij hr hx hsm hs e0 e3 e42
    have hi : i = 60 := by omega
    subst hi
    rw [S9_L1_eq]; unfold S9_L1
    rw [e0, e3, e42]
    refine Ok.rd2 (hr.len T58 w) (Ok.rd2 bin_lss ?_)
    rw [hx.len]
    have fin : Ok (rd2 (lenG false Pg .len #[22] 3 #[false] [v] w) fun x165 w166 => rd2 (binG false Pg .leq 3 (.tmp 0) (.const .nilFunc) x165 (.int .i64 40) w166) fun x167 w168 => shutK undef w168 fun w169 => some (x167, w169))
        fun x w' => (∃ b, x = .bool b ∧ (b = true → fewA gs)) ∧ Sat w' (kn K :: F) ∧ Sm w w' := by
      refine Ok.rd2 (hr.len T58 w) (Ok.rd2 bin_leq ?_)
      refine ⟨_, _, rfl, ⟨_, rfl, fun hb => ?_⟩, hs, Sm.refl _⟩
      rw [hx.len] at hb
      have hb : gs.length ≤ 40 := by simp at hb; omega
      refine ⟨hb, fun a ha => ?_⟩
      obtain ⟨k, hk⟩ := List.getElem?_of_mem ha
      have := (List.getElem?_eq_some_iff.1 hk).1
      exact hsm k a (by omega) hk
    cases hh : decide (((60 : Nat) : Int) < (gs.length : Int)) with
    | true => exact t_ok rfl rfl (t_ok rfl (gr2 bin_lss) (pk_t rfl (Ok.cf rfl fin)))
    | false => exact t_no rfl (t_no rfl (pk_f rfl (Ok.cf rfl fin)))
  | succ j ih =>
    intro i K e w F hij hr hx hsm hs e0 e3 e42
    rw [S9_L1_eq]; unfold S9_L1
    rw [e0, e3, e42]
    refine Ok.rd2 (hr.len T58 w) (Ok.rd2 bin_lss ?_)
    rw [hx.len]
    have bad : ∀ w1, Sat w1 (kn K :: F) → Sm w w1 → Ok (shutK undef w1 fun w162 => some ((.bool false), w162)) fun x w' => (∃ b, x = .bool b ∧ (b = true → fewA gs)) ∧ Sat w' (kn K :: F) ∧ Sm w w' := fun w1 h1 s1 => ⟨_, _, rfl, ⟨false, rfl, fun h => by cases h⟩, h1, s1⟩
    by_cases hlt : i < gs.length
    · have hh : decide ((i : Int) < (gs.length : Int)) = true := by simp; omega
      refine t_ok hh rfl (t_ok hh (gr2 bin_lss) (pk_t hh (Ok.ct (by simp; omega) ?_)))
      obtain ⟨a, ha⟩ : ∃ a, gs[i]? = some a := ⟨_, List.getElem?_eq_getElem hlt⟩
      obtain ⟨x, hx'⟩ : ∃ x, xs[i]? = some x := ⟨_, List.getElem?_eq_getElem (by rw [hx.len]; exact hlt)⟩
      obtain ⟨p, h1, h2⟩ := hr.ix i x hx'
      have hra := hx.at_ i x a hx' ha
      obtain ⟨cs, hcs1, hcs2⟩ := hra.cs
      refine Ok.rd h1 (Ok.rd (fld70_1' _) (Ok.rd (act_at (h2 w (kn_on hs (j := 0) rfl))).2.1 ?_))
      refine Ok.bind (few60_ok hcs1 hcs2 hs) ?_
      rintro y w1 ⟨⟨b, rfl, hb⟩, t1, s1⟩
      obtain ⟨_, _, l9, l68⟩ := act_at (h2 w1 (kn_on t1 (j := 0) rfl))
      refine Ok.rd (un_not _) ?_
      cases b with
      | false => exact Ok.f0 (Ok.f0 (Ok.f0 (Ok.f0 (Ok.f0 (Ok.f0 (Ok.f0 (Ok.rd (pick_t _ _) (Ok.f0 (Ok.f0 (Ok.f0 (Ok.f0 (Ok.f0 (Ok.f0 (Ok.f0 (Ok.rd (pick_t _ _) (Ok.ct rfl (bad w1 t1 s1)))))))))))))))))
      | true =>
        refine f_ok rfl rfl (f_ok rfl rfl (f_ok rfl (gr h1) (f_ok rfl (gr (fld70_3' _)) (f_ok rfl (gr l68) (f_ok rfl (gr2 (hra.ss.len T68 w1)) (f_ok rfl (gr2 bin_gtr) (pk_f rfl ?_)))))))
        cases hD : decide ((20 : Int) < (a.ss.length : Int)) with
        | true => exact Ok.f0 (Ok.f0 (Ok.f0 (Ok.f0 (Ok.f0 (Ok.f0 (Ok.f0 (Ok.rd (pick_t _ _) (Ok.ct rfl (bad w1 t1 s1)))))))))
        | false =>
          refine f_ok rfl rfl (f_ok rfl rfl (f_ok rfl (gr h1) (f_ok rfl (gr (fld70_2' _)) (f_ok rfl (gr l9) (f_ok rfl (gr2 (len_str u9s _ _)) (f_ok rfl (gr2 bin_gtr) (pk_f rfl ?_)))))))
          cases hE : decide ((60 : Int) < (x.key.size : Int)) with
          | true => exact Ok.ct rfl (bad w1 t1 s1)
          | false =>
            refine Ok.cf rfl (Ok.rd2 (bin_add1 (by omega)) ?_)
            refine Ok.mono (ih (i + 1) K _ w1 F (by omega) hr hx ?_ t1 ?_ ?_ ?_) ?_
            · intro k b hk hb'
              by_cases hki : k = i
              · subst hki
                rw [ha] at hb'
                injection hb' with hb'
                subst hb'
                have hD := of_decide_eq_false hD
                have hE := of_decide_eq_false hE
                rw [hra.key] at hE
                exact ⟨hb rfl, by omega, by omega⟩
              · exact hsm k b (by omega) hb'
            · exact e0
            · rfl
            · exact e42
            · rintro z w6 ⟨m1, m2, m3⟩
              exact ⟨m1, m2, s1.trans m3⟩
    · have hh : decide ((i : Int) < (gs.length : Int)) = false := by simp; omega
      refine t_no hh (t_no hh (pk_f hh (Ok.cf rfl ?_)))
      refine Ok.rd2 (hr.len T58 w) (Ok.rd2 bin_leq ?_)
      refine ⟨_, _, rfl, ⟨_, rfl, fun hb => ?_⟩, hs, Sm.refl _⟩
      rw [hx.len] at hb
      have hb : gs.length ≤ 40 := by simp at hb; omega
      refine ⟨hb, fun a ha => ?_⟩
      obtain ⟨k, hk⟩ := List.getElem?_of_mem ha
      have := (List.getElem?_eq_some_iff.1 hk).1
      exact hsm k a (by omega) hk
theorem few29_ok {K : Hl} {v : Value} {xs : List MAct} {gs : List AAct} (hr : RdS K 22 5 encAc v xs) (hx : Racs K xs gs) (hs : Sat w (kn K :: F)) :
    Ok (Fn Pg 9 [v] w) fun x w' => (∃ b, x = .bool b ∧ (b = true → fewA gs)) ∧ Sat w' (kn K :: F) ∧ Sm w w' := by
  rw [F9]; unfold S9
  exact few29_loop (w0 := w) 60 0 K _ w F rfl hr hx (fun k a hk => absurd hk (Nat.not_lt_zero _)) hs rfl rfl rfl
end Go.Cb

/-
  What a store says, in plain words: chains, rows by keys.
-/
set_option linter.unusedVariables false
set_option linter.unusedSimpArgs false
namespace Go.Cb
open Classical
variable {w : World} {F : List HP} {Q Q' : Value → World → Prop}

theorem right_iff {vs : List AV} : RightP vs ↔ (∀ a ∈ vs, a.dead = true → bareA a = true) ∧ vs.Pairwise fun a b => b.st < a.st := by
  constructor
  · intro h
    refine ⟨fun a ha hd => ?_, ?_⟩
    · obtain ⟨i, hi⟩ := List.getElem?_of_mem ha
      exact (h i a hi).1 hd
    · rw [List.pairwise_iff_getElem]
      intro i j hi hj hij
      have := right_dec h (j - i - 1) i vs[i] vs[j] (List.getElem?_eq_getElem hi) (by rw [show i + (j - i - 1) + 1 = j by omega]; exact List.getElem?_eq_getElem hj)
      exact this
  · rintro ⟨h1, h2⟩ i a ha
    refine ⟨h1 a (List.mem_of_getElem? ha), fun b hpos hb => ?_⟩
    rw [List.pairwise_iff_getElem] at h2
    obtain ⟨hi, rfl⟩ := List.getElem?_eq_some_iff.1 ha
    obtain ⟨hj, rfl⟩ := List.getElem?_eq_some_iff.1 hb
    exact h2 (i - 1) i hj hi (by omega)
theorem kept_sub (vs : List AV) (p : Nat → Prop) : (keptL vs p).Sublist vs := by
  have h1 : (vs.zipIdx.filter fun x => decide (p x.2)).Sublist vs.zipIdx := List.filter_sublist
  have h2 := h1.map (·.1)
  have h3 : vs.zipIdx.map (·.1) = vs := List.zipIdx_map_fst 0 vs
  rw [h3] at h2
  exact h2
theorem right_sub {vs us : List AV} (h : RightP vs) (hs : us.Sublist vs) : RightP us := by
  rw [right_iff] at h ⊢
  exact ⟨fun a ha => h.1 a (hs.subset ha), h.2.sublist hs⟩
theorem kept_all {vs : List AV} {p : Nat → Prop} (h : ∀ i, i < vs.length → p i) : keptL vs p = vs := by
  unfold keptL
  rw [List.filter_eq_self.2, List.zipIdx_map_fst]
  rintro ⟨a, i⟩ hx
  have := List.mem_zipIdx hx
  exact decide_eq_true (h i (by omega))
/-- all versions are seen by somebody. -/
theorem allV_all {vs : List AV} (hR : RightP vs) (hp : ∀ a ∈ vs, 0 < a.st) : allV vs = vs := by
  refine kept_all fun i hi => .inr ⟨.inr ⟨vs[i].st, ?_, hi, ?_⟩, ?_⟩
  · exact List.mem_cons_of_mem _ (List.mem_map.2 ⟨_, List.getElem_mem hi, rfl⟩)
  · refine ⟨Nat.le_of_lt hi, fun k a hk ha => ?_, fun a ha => ?_⟩
    · have := right_dec hR (i - k - 1) k a vs[i] ha (by rw [show k + (i - k - 1) + 1 = i by omega]; exact List.getElem?_eq_getElem hi)
      omega
    · rw [List.getElem?_eq_getElem hi] at ha
      injection ha with ha
      subst ha
      exact Int.le_refl _
  · rintro ⟨a, h1, _, _, h4⟩
    exact h4 0 (by simp [everyS]) (hp a (List.mem_of_getElem? h1))

/-- chains as they should be. -/
structure Gd (c : ByteArray → List AV) (last : Int) : Prop where
  right : ∀ k, RightP (c k)
  st : ∀ k, ∀ a ∈ c k, 0 < a.st ∧ a.st ≤ last
  last : 0 ≤ last
  key : ∀ k, c k ≠ [] → keyR k
theorem Gd.new : Gd (fun _ => []) 0 := ⟨fun _ => right_nil, fun k a ha => by simp at ha, Int.le_refl _, fun k h => absurd rfl h⟩
theorem Gd.all {c : ByteArray → List AV} {last : Int} (h : Gd c last) (k : ByteArray) : allV (c k) = c k := allV_all (h.right k) fun a ha => (h.st k a ha).1

/-- rows, by keys. -/
def SrtK (X : List KC) : Prop := X.Pairwise fun a b => kl a.1 b.1 = true
theorem srtK_ext : ∀ {X Y : List KC}, SrtK X → SrtK Y → (∀ x, x ∈ X ↔ x ∈ Y) → X = Y
  | [], [], _, _, _ => rfl
  | [], b :: Y, _, _, h => absurd ((h b).2 (by simp)) (by simp)
  | a :: X, [], _, _, h => absurd ((h a).1 (by simp)) (by simp)
  | a :: X, b :: Y, hX, hY, h => by
    obtain ⟨h1, h2⟩ := List.pairwise_cons.1 hX
    obtain ⟨h3, h4⟩ := List.pairwise_cons.1 hY
    have hab : a = b := by
      rcases List.mem_cons.1 ((h a).1 (by simp)) with h5 | h5
      · exact h5
      · rcases List.mem_cons.1 ((h b).2 (by simp)) with h6 | h6
        · exact h6.symm
        · have h7 := h3 a h5
          have h8 := h1 b h6
          rw [kl_asym h7] at h8; cases h8
    subst hab
    congr 1
    refine srtK_ext h2 h4 fun x => ?_
    constructor
    · intro hx
      rcases List.mem_cons.1 ((h x).1 (List.mem_cons_of_mem _ hx)) with rfl | h5
      · have := h1 x hx
        rw [kl_irr] at this; cases this
      · exact h5
    · intro hx
      rcases List.mem_cons.1 ((h x).2 (List.mem_cons_of_mem _ hx)) with rfl | h5
      · have := h3 x hx
        rw [kl_irr] at this; cases this
      · exact h5
theorem kc_srt {c : ByteArray → List AV} {L : List Ent} (h : Srt L) : SrtK (kc c L) := List.pairwise_map.2 h
theorem kc_mem {K : Hl} {c : ByteArray → List AV} {L : List Ent} (hc : StoR K L c) (x : KC) : x ∈ kc c L ↔ c x.1 = x.2 ∧ x.2 ≠ [] := by
  unfold kc
  rw [List.mem_map]
  constructor
  · rintro ⟨e, he, rfl⟩
    exact ⟨rfl, (hc.at_ e he).2⟩
  · rintro ⟨h1, h2⟩
    by_cases hk : hasL L x.1
    · obtain ⟨e, he, hx⟩ := hk
      refine ⟨e, he, ?_⟩
      rw [hx, h1]
    · rw [hc.no x.1 hk] at h1
      exact absurd h1.symm h2
theorem kc_in (c : ByteArray → List AV) (L : List Ent) (f t : ByteArray) : kc c (inL L f t) = (kc c L).filter fun x => inB f t x.1 := by
  unfold kc inL
  rw [List.filter_map]; rfl
theorem allC_kc {c : ByteArray → List AV} {last : Int} (hg : Gd c last) (L : List Ent) : allC c L = kc c L := by
  unfold allC kc
  rw [List.map_map]
  refine List.map_congr_left fun e he => ?_
  show (e.1, allV (c e.1)) = (e.1, c e.1)
  rw [hg.all]
theorem sto_srt {S : Nat} {L : List Ent} {last : Int} {k : Nat} (hs : Sat w F) (hk : F[k]? = some (sto S L last)) : Srt L := by
  obtain ⟨T, h⟩ := sto_open (hs.foc hk)
  exact tree_srt h.sw
/-- the rows of these chains. -/
def RowsM (c : ByteArray → List AV) (X : List KC) : Prop := SrtK X ∧ ∀ x, x ∈ X ↔ c x.1 = x.2 ∧ x.2 ≠ []
theorem RowsM.eq {K : Hl} {c : ByteArray → List AV} {X : List KC} {L : List Ent} (h : RowsM c X) (hc : StoR K L c) (hL : Srt L) : kc c L = X :=
  srtK_ext (kc_srt hL) h.1 fun x => by rw [kc_mem hc, h.2]

/-- what a scan tells. -/
noncomputable def foundL (at' : Int) (X : List KC) : List (ByteArray × AV) := X.filterMap fun x => if (valV x.2 at').2 = true then some (x.1, (valV x.2 at').1) else none
theorem run_scan {m at' : Int} : ∀ (X : List KC) (s : List (ByteArray × AV)), runC (stepS m at') s X = s ++ (foundL at' X).take (m - s.length).toNat
  | [], s => by simp [runC, foundL]
  | x :: X, s => by
    show (if (stepS m at' s x).2 = true then runC (stepS m at') (stepS m at' s x).1 X else (stepS m at' s x).1) = _
    by_cases h : m ≤ (s.length : Int)
    · have : stepS m at' s x = (s, false) := if_pos h
      rw [this]
      have h0 : (m - s.length).toNat = 0 := by omega
      rw [h0]; simp
    · by_cases hv : (valV x.2 at').2 = true
      · have : stepS m at' s x = (s ++ [(x.1, (valV x.2 at').1)], true) := by unfold stepS; rw [if_neg h, if_pos hv]
        rw [this]
        simp only [if_true]
        rw [run_scan X]
        have hf : foundL at' (x :: X) = (x.1, (valV x.2 at').1) :: foundL at' X := by
          unfold foundL
          rw [List.filterMap_cons, if_pos hv]
        rw [hf]
        have h1 : (m - s.length).toNat = (m - (s ++ [(x.1, (valV x.2 at').1)]).length).toNat + 1 := by
          rw [List.length_append]
          simp only [List.length_cons, List.length_nil]
          omega
        rw [h1, List.take_succ_cons, List.append_assoc]; rfl
      · have : stepS m at' s x = (s, true) := by unfold stepS; rw [if_neg h, if_neg hv]
        rw [this]
        simp only [if_true]
        rw [run_scan X]
        have hf : foundL at' (x :: X) = foundL at' X := by
          unfold foundL
          rw [List.filterMap_cons, if_neg hv]
        rw [hf]
end Go.Cb

/-
  The page's example: holds.
-/
set_option linter.unusedVariables false
set_option linter.unusedSimpArgs false
namespace Go.Cb
open Classical
variable {w : World} {F : List HP} {Q Q' : Value → World → Prop}

abbrev kA : ByteArray := { data := #[97] }
theorem bld83_4 : bldV Pg 82 [(2, int 4)] = some (.agg #[.slice none 0 0, u64 0, int 4]) := by kernel_rfl
theorem bld116_a : bldV Pg 135 [(0, .string kA), (2, .agg #[.slice none 0 0, u64 0, int 4])] = some (.agg #[.string kA, .bool false, .slice none 0 0, u64 0, int 4]) := by kernel_rfl
theorem bld116_d : bldV Pg 135 [(0, .string kA), (1, .bool true)] = some (.agg #[.string kA, .bool true, .slice none 0 0, u64 0, int 0]) := by kernel_rfl
theorem bld67_2 (s : Int) (a : Option Addr) (n c : Nat) : bldV Pg 36 [(0, u64 s), (1, .slice a n c)] = some (.agg #[u64 s, .slice a n c]) := by kernel_rfl
theorem bld67_1 (s : Int) : bldV Pg 36 [(0, u64 s)] = some (.agg #[u64 s, .slice none 0 0]) := by kernel_rfl

def cg1 : Cg := ⟨kA, false, nilV1, 0, 4⟩
def cg2 : Cg := ⟨kA, true, nilV1, 0, 0⟩
def av1 : AV := ⟨1, false, [], 0, 4⟩
def av2 : AV := ⟨2, true, [], 0, 0⟩
theorem rcg1 (K : Hl) : Rcg K 1 [cg1] [(kA, av1)] := ⟨rfl, fun i x a hx ha => by
  cases i with
  | zero => simp at hx ha; subst hx ha; exact ⟨rfl, rfl, rfl, rfl, rfl, RdS.nil none 0⟩
  | succ i => simp at hx⟩
theorem rcg2 (K : Hl) : Rcg K 2 [cg2] [(kA, av2)] := ⟨rfl, fun i x a hx ha => by
  cases i with
  | zero => simp at hx ha; subst hx ha; exact ⟨rfl, rfl, rfl, rfl, rfl, RdS.nil none 0⟩
  | succ i => simp at hx⟩
theorem right1 : RightP [av1] := by
  rw [right_iff]; simp [av1]
theorem right2 : RightP [av2, av1] := by
  rw [right_iff]; simp [av1, av2, bareA]
theorem key_a : keyR kA := by unfold keyR; decide
theorem kl_a : kl noB kA = true := by
  unfold kl
  simp [ByteArray.toList, ByteArray.toList.loop, noB, kA, ByteArray.size, Op.bytesLess, ByteArray.get!]

/-- a slice of one, given away. -/
theorem one_cg1 {K : Hl} {x : Cg} {κ : Value → World → R} (hs : Sat w (kn K :: F)) (hκ : ∀ nb K' w', Le K K' → RdS K' 34 5 encCg (sl nb 0 1 1) [x] → Sat w' (kn K' :: F) → Sm w w' → Ok (κ (sl nb 0 1 1) w') Q) :
    Ok (rd2 (rawV Pg (Instr.buildSlice 34 1 #[(0, aggC x)]) w) κ) Q := by
  refine go_bs1 T65 enCg (by decide) (x := x) rfl hs fun nb w1 h1 _ s1 => ?_
  have h2 : Sat w1 (slH 135 5 encCg (sl nb 0 1 1) [x] :: kn K :: F) := slH_mk (l := encCg x) rfl rfl (by simp) (by simp [encCg]) h1
  obtain ⟨K', l1, hr, h3⟩ := share T65 enCg h2
  exact hκ nb K' w1 l1 hr h3 s1

theorem kn_emp (hs : Sat w F) : Sat w (kn (fun _ => none) :: F) := by
  have := Sat.emp.2 hs
  exact this.mono fun h hh => funext hh

theorem at1 : atV [av2, av1] 1 = (av1, true) := by
  unfold atV
  rw [if_pos right2]
  have : atA [av2, av1] 1 = some av1 := rfl
  rw [this]
theorem at2 : atV [av2, av1] 2 = (av2, true) := by
  unfold atV
  rw [if_pos right2]
  have : atA [av2, av1] 2 = some av2 := rfl
  rw [this]
theorem val1 : valV [av2, av1] 1 = (av1, true) := by
  unfold valV
  rw [at1, if_pos ⟨rfl, rfl⟩]
theorem val2 : valV [av2, av1] 2 = (zA, false) := by
  unfold valV
  rw [at2, if_neg]
  rintro ⟨_, h⟩
  cases h

noncomputable abbrev c1 : ByteArray → List AV := setC (fun _ => []) kA [av1]
noncomputable abbrev c2 : ByteArray → List AV := setC c1 kA (av2 :: c1 kA)
theorem c1_a : c1 kA = [av1] := if_pos rfl
theorem c2_a : c2 kA = [av2, av1] := by
  show (if kA = kA then _ else _) = _
  rw [if_pos rfl, c1_a]
theorem c2_k (k : ByteArray) : c2 k = [av2, av1] ∧ k = kA ∨ c2 k = [] ∧ k ≠ kA := by
  by_cases h : k = kA
  · subst h; exact .inl ⟨c2_a, rfl⟩
  · refine .inr ⟨?_, h⟩
    show (if k = kA then _ else if k = kA then _ else _) = _
    rw [if_neg h, if_neg h]
theorem rows2 : RowsM c2 [(kA, [av2, av1])] := by
  refine ⟨List.pairwise_singleton _ _, fun x => ?_⟩
  rw [List.mem_singleton]
  constructor
  · rintro rfl; exact ⟨c2_a, by simp⟩
  · rintro ⟨h1, h2⟩
    rcases c2_k x.1 with ⟨h3, h4⟩ | ⟨h3, h4⟩
    · rw [h3] at h1
      exact Prod.ext h4 h1.symm
    · rw [h3] at h1
      exact absurd h1.symm h2
theorem gd2 : Gd c2 2 := by
  refine ⟨fun k => ?_, fun k a ha => ?_, by decide, fun k h => ?_⟩
  · rcases c2_k k with ⟨h3, _⟩ | ⟨h3, _⟩
    · rw [h3]; exact right2
    · rw [h3]; exact right_nil
  · rcases c2_k k with ⟨h3, _⟩ | ⟨h3, _⟩
    · rw [h3] at ha
      simp at ha
      rcases ha with rfl | rfl <;> decide
    · rw [h3] at ha; simp at ha
  · rcases c2_k k with ⟨_, h4⟩ | ⟨h3, _⟩
    · rw [h4]; exact key_a
    · exact absurd h3 h
theorem bd2 : Bd c2 2 := by
  refine ⟨fun k a ha => ?_, fun k => ?_⟩
  · rcases c2_k k with ⟨h3, _⟩ | ⟨h3, _⟩
    · rw [h3] at ha
      simp at ha
      rcases ha with rfl | rfl <;> decide
    · rw [h3] at ha; simp at ha
  · rcases c2_k k with ⟨h3, _⟩ | ⟨h3, _⟩ <;> rw [h3] <;> simp
theorem c1_k (k : ByteArray) : c1 k = [av1] ∧ k = kA ∨ c1 k = [] ∧ k ≠ kA := by
  by_cases h : k = kA
  · subst h; exact .inl ⟨c1_a, rfl⟩
  · refine .inr ⟨?_, h⟩
    show (if k = kA then _ else _) = _
    rw [if_neg h]
theorem bd1 : Bd c1 2 := by
  refine ⟨fun k a ha => ?_, fun k => ?_⟩
  · rcases c1_k k with ⟨h3, _⟩ | ⟨h3, _⟩
    · rw [h3] at ha
      simp at ha
      subst ha; decide
    · rw [h3] at ha; simp at ha
  · rcases c1_k k with ⟨h3, _⟩ | ⟨h3, _⟩ <;> rw [h3] <;> simp
theorem bd0 : Bd (fun _ => []) 2 := ⟨fun k a ha => by simp at ha, fun k => by simp⟩

theorem holds_ok (hs : Sat w F) : Ok (Fn Pg 10 [] w) fun v w' => v = .bool true ∧ Sat w' F ∧ Sm w w' := by
  rw [F10]; unfold S10
  refine Ok.bind (snew_ok (kn_emp hs)) ?_
  rintro v w1 ⟨S, rfl, h1, s1⟩
  refine Ok.rd bld83_4 (Ok.rd bld116_a ?_)
  refine one_cg1 (x := cg1) h1.sw fun nb1 K1 w2 l1 hr1 h2 s2 => ?_
  refine Ok.rd (bld67_2 _ _ _ _) ?_
  refine Ok.bind (apply_ok (n := 2) (gs := [(kA, av1)]) bd0 (by decide) (by simp [av1]) (by simp) (by simp) (StoR.new K1) hr1 (rcg1 K1) h2) ?_
  rintro v w3 ⟨K3, l3, s3, hv⟩
  rcases hv with ⟨_, _, rfl, L1, hc1, hL1, h3⟩ | ⟨hno, _⟩
  rotate_left
  · exact absurd ⟨⟨right1, key_a, kl_a, trivial⟩, by decide⟩ hno
  have hc1 : StoR K3 L1 c1 := hc1
  refine Ok.rd bld116_d ?_
  refine one_cg1 (x := cg2) h3 fun nb2 K4 w4 l4 hr2 h4 s4 => ?_
  refine Ok.rd (bld67_2 _ _ _ _) ?_
  have hl1 : L1.length ≤ 1 := hL1
  refine Ok.bind (apply_ok (n := 2) (gs := [(kA, av2)]) bd1 (by decide) (by simp [av2]) (by simp) (by omega) (hc1.mono l4) hr2 (rcg2 K4) h4) ?_
  rintro v w5 ⟨K5, l5, s5, hv⟩
  rcases hv with ⟨_, _, rfl, L2, hc2, hL2, h5⟩ | ⟨hno, _⟩
  rotate_left
  · exact absurd ⟨⟨by rw [c1_a]; exact right2, key_a, kl_a, trivial⟩, by decide⟩ hno
  have hc2 : StoR K5 L2 c2 := hc2
  have hl2 : L2.length ≤ 2 := by have : L2.length ≤ L1.length + 1 := hL2; omega
  refine Ok.rd (bld67_1 _) ?_
  refine Ok.bind (apply_ok (n := 2) (gs := []) (cs := []) bd2 (by decide) (by simp) (by simp) (by omega) hc2 (RdS.nil none 0) ⟨rfl, fun i x a hx => by simp at hx⟩ h5) ?_
  rintro v w6 ⟨K6, l6, s6, hv⟩
  rcases hv with ⟨_, hlt, _⟩ | ⟨_, rfl, h6⟩
  · exact absurd hlt (by decide)
  have hc6 := hc2.mono l6
  have hL : Srt L2 := sto_srt (k := 1) h6 rfl
  have hrows : ∀ K, StoR K L2 c2 → kc c2 L2 = [(kA, [av2, av1])] := fun K h => rows2.eq h hL
  have hrw := hrows _ hc6
  have sA := s1.trans (s2.trans (s3.trans (s4.trans (s5.trans s6))))
  refine Ok.bind (read_ok (s := 1) (key := kA) hc6 bd2 (by decide) h6) ?_
  rintro v w7 ⟨K7, x, l7, rfl, hx, h7, s7⟩
  rw [c2_a, at1] at hx ⊢
  have hc7 := hc6.mono l7
  refine Ok.rd rfl (Ok.rd rfl ?_)
  refine go_tmpG ty85 rfl (ones_ver x) h7 fun nb w8 h8 s8 => ?_
  have h8 : Sat w8 (pt nb (encVer x) 137 :: kn K7 :: sto S L2 2 :: F) := h8
  refine Ok.rd2 bin_eql (t_ok rfl rfl (t_ok rfl (gr2 bin_eql) (pk_t rfl ?_)))
  refine t_ok rfl rfl (t_ok rfl (gr2 bin_eql) (pk_t rfl ?_))
  refine t_ok rfl rfl (pk_t rfl ?_)
  refine t_ok rfl (gr (fld85_2 _ _)) (t_ok rfl (gr (fld83_2 _ _)) (t_ok rfl (gr (ldv_4 h8 0 rfl)) (t_ok rfl (gr2 bin_eql) (pk_t rfl ?_))))
  rw [hx.size]
  have hall : allC c2 L2 = [(kA, [av2, av1])] := (allC_kc gd2 L2).trans hrw
  have hne : ∀ k, c2 k ≠ [] → allV (c2 k) ≠ [] := fun k h => by rw [gd2.all]; exact h
  refine t_ok rfl rfl (t_call rfl (live_ok (n := 2) (by decide) hc7 bd2 (by omega) hne (h8.re [1, 2, 0] (by decide))) ?_)
  rintro v w9 ⟨rfl, K9, l9, h9, s9⟩
  rw [hall]
  refine t_ok rfl (gr2 bin_eql) (pk_t rfl ?_)
  have hc9 := hc7.mono l9
  refine t_ok rfl rfl (t_call rfl (versions_ok (n := 2) (by decide) hc9 bd2 (by omega) hne h9) ?_)
  rintro v w10 ⟨rfl, K10, l10, h10, s10⟩
  rw [hall]
  refine t_ok rfl (gr2 bin_eql) (pk_t rfl ?_)
  have hc10 := hc9.mono l10
  refine t_ok rfl rfl (t_ok rfl (gr2 (slast_ok h10 1 rfl)) (t_ok rfl (gr2 bin_eq64) (pk_t rfl ?_)))
  refine t_ok rfl rfl (t_ok rfl (gr bld36_0) (t_call rfl (scan_ok (n := 2) (at' := 1) (m := 9) (f := noB) (t := noB) (by decide) hc10 bd2 (by omega) h10) ?_))
  rintro v w11 ⟨K11, xs, l11, hr11, hf11, h11, s11⟩
  rw [in_all, hrw, run_scan] at hf11
  have hx1 : xs.length = 1 := by
    rw [hf11.len]
    have : foundL 1 [(kA, [av2, av1])] = [(kA, av1)] := by
      unfold foundL
      rw [List.filterMap_cons]
      rw [val1]; rfl
    rw [this]; rfl
  refine t_ok rfl (gr2 (hr11.len T73 w11)) (t_ok rfl (gr2 bin_eql) ?_)
  rw [hx1]
  refine pk_t rfl ?_
  have hc11 := hc10.mono l11
  refine t_ok rfl rfl (t_ok rfl (gr bld36_0) (t_call rfl (scan_ok (n := 2) (at' := 2) (m := 9) (f := noB) (t := noB) (by decide) hc11 bd2 (by omega) h11) ?_))
  rintro v w12 ⟨K12, ys, l12, hr12, hf12, h12, s12⟩
  rw [in_all, hrw, run_scan] at hf12
  have hx2 : ys.length = 0 := by
    rw [hf12.len]
    have : foundL 2 [(kA, [av2, av1])] = [] := by
      unfold foundL
      rw [List.filterMap_cons]
      rw [val2]; rfl
    rw [this]; rfl
  refine t_ok rfl (gr2 (hr12.len T73 w12)) (t_ok rfl (gr2 bin_eql) ?_)
  rw [hx2]
  refine pk_t rfl ?_
  exact ⟨_, _, rfl, rfl, h12.drop.drop.drop, sA.trans (s7.trans (s8.trans (s9.trans (s10.trans (s11.trans s12)))))⟩
end Go.Cb

/-
  The same blob; the same that was found.
-/
set_option linter.unusedVariables false
set_option linter.unusedSimpArgs false
set_option maxRecDepth 100000
namespace Go.Cb
open Classical
variable {w w0 : World} {F : List HP} {Q Q' : Value → World → Prop}

/-! ### ref15.Same -/

theorem same77_loop {K : Hl} {b1 b2 : Nat} {x y : V1} {g1 g2 z1 z2 : Int} {pa pb : List Int} (ha : RdS K 80 1 encI x.1 pa) (hb : RdS K 80 1 encI y.1 pb) (hl : pa.length = pb.length) (hm : pa.length ≤ 2 ^ 60) :
    ∀ (j i : Nat) (e : Env) (w : World), i + j = pa.length → pa.take i = pb.take i → e 2 = ptr b1 0 → e 3 = ptr b2 0 → e 5 = int i → e 45 = undef →
      Go w0 (pt b2 [y.1, u64 g2, int z2] 82 :: pt b1 [x.1, u64 g1, int z1] 82 :: kn K :: F) w (evalLoop (cx43 (Fn Pg) (Rnd Pg)) (cdA Go.Proofs.Tryz.f43 [1, 1, 0, 1, 0, 0]) (K43_2 (Fn Pg) (Rnd Pg)) e w) fun v w' => v = .bool (decide (pa = pb)) ∧ Sat w' (kn K :: F) ∧ Sm w0 w' := by
  intro j
  induction j with
  | zero =>
    intro i e w hij ht e2 e3 e5 e45
    have hi : i = pa.length := by omega
    rw [S43_L2_eq]; unfold S43_L2
    rw [e2, e3, e5, e45]
    repeat refine Go.z ?_
    refine Go.ci (fun h => absurd (of_decide_eq_true h) (by omega)) fun _ => ?_
    repeat refine Go.z ?_
    refine Go.ret fun hs hm => ⟨?_, hs.drop.drop, hm⟩
    rw [hi, List.take_length] at ht
    rw [hl, List.take_length] at ht
    rw [decide_eq_true ht]
  | succ j ih =>
    intro i e w hij ht e2 e3 e5 e45
    have hi : i < pa.length := by omega
    obtain ⟨p, hp⟩ : ∃ p, pa[i]? = some p := ⟨_, List.getElem?_eq_getElem hi⟩
    obtain ⟨q, hq⟩ : ∃ q, pb[i]? = some q := ⟨_, List.getElem?_eq_getElem (by omega)⟩
    rw [S43_L2_eq]; unfold S43_L2
    rw [e2, e3, e5, e45]
    repeat refine Go.z ?_
    refine Go.ci (fun _ => ?_) fun h => absurd (of_decide_eq_false h) (by omega)
    repeat refine Go.z ?_
    refine Go.ixr ha hp rfl fun a1 k1 => ?_
    repeat refine Go.z ?_
    refine Go.ixr hb hq rfl fun a2 k2 => ?_
    repeat refine Go.z ?_
    refine Go.ci (fun h => ?_) fun h => ?_
    · repeat refine Go.z ?_
      refine Go.ret fun hs hm => ⟨?_, hs.drop.drop, hm⟩
      rw [decide_eq_false]
      intro he
      subst he
      rw [hp] at hq
      injection hq with hq
      subst hq
      simp at h
    · have hpq : p = q := by simpa using h
      subst hpq
      repeat refine Go.z ?_
      refine ih (i + 1) _ _ (by omega) ?_ ?_ ?_ ?_ ?_
      · rw [List.take_add_one, List.take_add_one, ht, hp, hq]
      · exact e2
      · exact e3
      · rfl
      · exact e45


theorem same77_j {K : Hl} {b1 b2 : Nat} {x y : V1} {g1 g2 z1 z2 : Int} {pa pb : List Int} (ha : RdS K 80 1 encI x.1 pa) (hb : RdS K 80 1 encI y.1 pb) (hm : pa.length ≤ 2 ^ 60) {e : Env} (e2 : e 2 = ptr b1 0) (e3 : e 3 = ptr b2 0) (e45 : e 45 = undef) :
    Go w0 (pt b2 [y.1, u64 g2, int z2] 82 :: pt b1 [x.1, u64 g1, int z1] 82 :: kn K :: F) w (evalCode (cx43 (Fn Pg) (Rnd Pg)) (cdA Go.Proofs.Tryz.f43 [1]) (K43_0 (Fn Pg) (Rnd Pg)) e w) fun v w' => v = .bool (decide (z1 = z2 ∧ g1 = g2 ∧ pa = pb)) ∧ Sat w' (kn K :: F) ∧ Sm w0 w' := by
  rw [S43_J1_eq]; unfold S43_J1
  rw [e2, e3, e45]
  have fin : ∀ v, Go w0 (pt b2 [y.1, u64 g2, int z2] 82 :: pt b1 [x.1, u64 g1, int z1] 82 :: kn K :: F) w (some (.bool v, w)) fun v' w' => v' = .bool v ∧ Sat w' (kn K :: F) ∧ Sm w0 w' := fun v => Go.ret fun hs hm => ⟨rfl, hs.drop.drop, hm⟩
  repeat refine Go.z ?_
  by_cases hz : z1 = z2
  · have h1 : (!decide (z1 = z2)) = false := by simp [hz]
    rw [h1]
    repeat refine Go.z ?_
    by_cases hg : g1 = g2
    · have h2 : (!decide (g1 = g2)) = false := by simp [hg]
      rw [h2]
      repeat refine Go.z ?_
      refine Go.ci (fun h => ?_) fun h => ?_
      · repeat refine Go.z ?_
        have : ¬ (z1 = z2 ∧ g1 = g2 ∧ pa = pb) := fun hh => by rw [hh.2.2] at h; simp at h
        rw [decide_eq_false this]
        exact fin false
      · have hl : pa.length = pb.length := by simp at h; omega
        have hd : decide (z1 = z2 ∧ g1 = g2 ∧ pa = pb) = decide (pa = pb) := by simp [hz, hg]
        rw [hd]
        refine same77_loop ha hb hl hm pa.length 0 _ w (by omega) (by simp) ?_ ?_ ?_ ?_
        · exact e2
        · exact e3
        · rfl
        · exact e45
    · have h2 : (!decide (g1 = g2)) = true := by simp [hg]
      rw [h2]
      repeat refine Go.z ?_
      rw [decide_eq_false fun hh => hg hh.2.1]
      exact fin false
  · have h1 : (!decide (z1 = z2)) = true := by simp [hz]
    rw [h1]
    repeat refine Go.z ?_
    rw [decide_eq_false fun hh => hz hh.1]
    exact fin false
theorem same77_ok {K : Hl} {x y : V1} {g1 g2 z1 z2 : Int} {pa pb : List Int} (ha : RdS K 80 1 encI x.1 pa) (hb : RdS K 80 1 encI y.1 pb) (hm : pa.length ≤ 2 ^ 60) (hs : Sat w (kn K :: F)) :
    Ok (Fn Pg 43 [.agg #[x.1, u64 g1, int z1], .agg #[y.1, u64 g2, int z2]] w) fun v w' => v = .bool (decide (z1 = z2 ∧ g1 = g2 ∧ pa = pb)) ∧ Sat w' (kn K :: F) ∧ Sm w w' := by
  rw [F43]; unfold S43
  refine Ok.go hs (Sm.refl w) ?_
  repeat (first | refine Go.z ?_ | (with_reducible first | (refine Go.bxa  ?_; intro nb w') | (refine Go.bxs  ?_; intro nb w') | (refine Go.al  ?_; intro nb w') | (refine Go.sta (by with_unfolding_all rfl) (by with_unfolding_all rfl) ?_; intro w') | (refine Go.st (by first | with_unfolding_all decide | simp) ?_; intro w')))
  exact same77_j ha hb hm rfl rfl rfl

/-! ### ref24.SameFound -/

/-- what is found, gs it lies. -/
structure Fg where
  key : ByteArray
  own : Bool
  vv : V1
  pv : V1
  gen : Int
  size : Int
abbrev encFg (x : Fg) : List Value := [.string x.key, .bool x.own, x.vv.1, x.pv.1, u64 x.gen, int x.size]
theorem enFg : En encFg 6 := ⟨fun _ => rfl, fun x v hv => by
  simp [encFg] at hv; rcases hv with rfl | rfl | rfl | rfl | rfl | rfl
  all_goals first | rfl | exact x.pv.2 | exact x.vv.2⟩
/-- what it says. -/
structure AF where
  key : ByteArray
  own : Bool
  val : List Int
  places : List Int
  gen : Int
  size : Int
structure Rfg (K : Hl) (x : Fg) (a : AF) : Prop where
  key : x.key = a.key
  own : x.own = a.own
  gen : x.gen = a.gen
  size : x.size = a.size
  val : RdS K 59 1 encB x.vv.1 a.val
  pl : RdS K 80 1 encI x.pv.1 a.places
theorem Rfg.mono {K K' : Hl} {x : Fg} {a : AF} (h : Rfg K x a) (hl : Le K K') : Rfg K' x a := ⟨h.key, h.own, h.gen, h.size, h.val.mono hl, h.pl.mono hl⟩
structure Rfgs (K : Hl) (xs : List Fg) (gs : List AF) : Prop where
  len : xs.length = gs.length
  at_ : ∀ (i : Nat) (x : Fg) (a : AF), xs[i]? = some x → gs[i]? = some a → Rfg K x a
theorem Rfgs.mono {K K' : Hl} {xs : List Fg} {gs : List AF} (h : Rfgs K xs gs) (hl : Le K K') : Rfgs K' xs gs := ⟨h.len, fun i x a hx ha => (h.at_ i x a hx ha).mono hl⟩
def sameF (a b : AF) : Prop := a.key = b.key ∧ a.own = b.own ∧ strB a.val = strB b.val ∧ a.size = b.size ∧ a.gen = b.gen ∧ a.places = b.places
def sameFs (fa fb : List AF) : Prop := fa.length = fb.length ∧ ∀ (i : Nat) (a b : AF), fa[i]? = some a → fb[i]? = some b → sameF a b

theorem same39_loop {K : Hl} {v1 v2 : Value} {xs ys : List Fg} {fa fb : List AF} (hr : RdS K 87 6 encFg v1 xs) (hr' : RdS K 87 6 encFg v2 ys) (hx : Rfgs K xs fa) (hy : Rfgs K ys fb) (hl : fa.length = fb.length) (hm : fa.length ≤ 2 ^ 60) (hp : ∀ a ∈ fa, a.places.length ≤ 2 ^ 60) :
    ∀ (j i : Nat) (e : Env) (w : World), i + j = fa.length → (∀ (k : Nat) (a b : AF), k < i → fa[k]? = some a → fb[k]? = some b → sameF a b) → e 0 = v1 → e 1 = v2 → e 5 = int i → e 70 = undef →
      Go w0 (kn K :: F) w (evalLoop (cx82 (Fn Pg) (Rnd Pg)) (cdA Go.Proofs.Tryz.f82 [1, 1, 0, 1, 0, 0]) (K82_2 (Fn Pg) (Rnd Pg)) e w) fun v w' => v = .bool (decide (sameFs fa fb)) ∧ Sat w' (kn K :: F) ∧ Sm w0 w' := by
  intro j
  induction j with
  | zero =>
    intro i e w hij hsm e0 e1 e5 e70
    rw [S82_L1_eq]; unfold S82_L1
    rw [e0, e1, e5, e70]
    repeat refine Go.z ?_
    rw [hx.len]
    refine Go.ci (fun h => absurd (of_decide_eq_true h) (by omega)) fun _ => ?_
    repeat refine Go.z ?_
    refine Go.ret fun hs hm => ⟨?_, hs, hm⟩
    have hq : sameFs fa fb := ⟨hl, fun k a b ha hb => hsm k a b (by have := (List.getElem?_eq_some_iff.1 ha).1; omega) ha hb⟩
    rw [decide_eq_true hq]
  | succ j ih =>
    intro i e w hij hsm e0 e1 e5 e70
    have hi : i < fa.length := by omega
    obtain ⟨a, ha⟩ : ∃ p, fa[i]? = some p := ⟨_, List.getElem?_eq_getElem hi⟩
    obtain ⟨b, hb⟩ : ∃ p, fb[i]? = some p := ⟨_, List.getElem?_eq_getElem (by omega)⟩
    obtain ⟨x, hx'⟩ : ∃ p, xs[i]? = some p := ⟨_, List.getElem?_eq_getElem (by rw [hx.len]; omega)⟩
    obtain ⟨y, hy'⟩ : ∃ p, ys[i]? = some p := ⟨_, List.getElem?_eq_getElem (by rw [hy.len]; omega)⟩
    obtain ⟨p, g1, k1⟩ := hr.get hx' rfl
    obtain ⟨q, g2, k2⟩ := hr'.get hy' rfl
    have hxa := hx.at_ i x a hx' ha
    have hyb := hy.at_ i y b hy' hb
    have c1 := hxa.val
    have c2 := hyb.val
    have fin : ∀ w1 : World, ¬ sameF a b → Go w0 (kn K :: F) w1 (some (.bool false, w1)) fun v w' => v = .bool (decide (sameFs fa fb)) ∧ Sat w' (kn K :: F) ∧ Sm w0 w' := fun w1 hno => Go.ret fun hs hm => ⟨by
      rw [decide_eq_false]
      exact fun h => hno (h.2 i a b ha hb), hs, hm⟩
    rw [S82_L1_eq]; unfold S82_L1
    rw [e0, e1, e5, e70]
    repeat refine Go.z ?_
    rw [hx.len]
    refine Go.ci (fun _ => ?_) fun h => absurd (of_decide_eq_false h) (by omega)
    repeat refine Go.z ?_
    rw [hxa.key, hyb.key]
    cases h1 : (!decide (a.key = b.key)) with
    | true =>
      repeat refine Go.z ?_
      exact fin _ fun h => by simp [h.1] at h1
    | false =>
      repeat refine Go.z ?_
      rw [hxa.own, hyb.own]
      cases h2 : (!(a.own == b.own)) with
      | true =>
        repeat refine Go.z ?_
        exact fin _ fun h => by simp [h.2.1] at h2
      | false =>
        repeat refine Go.z ?_
        cases h3 : (!decide (strB a.val = strB b.val)) with
        | true =>
          repeat refine Go.z ?_
          exact fin _ fun h => by simp [h.2.2.1] at h3
        | false =>
          repeat refine Go.z ?_
          refine Go.ok fun hs hm => Ok.bind (same77_ok hxa.pl hyb.pl (hp a (List.mem_of_getElem? ha)) hs) ?_
          rintro v w1 ⟨rfl, t1, s1⟩
          refine Ok.go t1 (hm.trans s1) ?_
          rw [hxa.gen, hxa.size, hyb.gen, hyb.size]
          cases h4 : decide (a.size = b.size ∧ a.gen = b.gen ∧ a.places = b.places) with
          | false =>
            repeat refine Go.z ?_
            exact fin _ fun h => by simp [h.2.2.2] at h4
          | true =>
            repeat refine Go.z ?_
            refine ih (i + 1) _ _ (by omega) ?_ ?_ ?_ ?_ ?_
            · intro k a' b' hk ha' hb'
              by_cases hki : k = i
              · subst hki
                rw [ha] at ha'; rw [hb] at hb'
                injection ha' with ha'; injection hb' with hb'
                subst ha' hb'
                simp at h1 h2 h3 h4
                exact ⟨h1, h2, h3, h4⟩
              · exact hsm k a' b' (by omega) ha' hb'
            · exact e0
            · exact e1
            · rfl
            · exact e70
theorem same39_ok {K : Hl} {v1 v2 : Value} {xs ys : List Fg} {fa fb : List AF} (hr : RdS K 87 6 encFg v1 xs) (hr' : RdS K 87 6 encFg v2 ys) (hx : Rfgs K xs fa) (hy : Rfgs K ys fb) (hm : fa.length ≤ 2 ^ 60) (hp : ∀ a ∈ fa, a.places.length ≤ 2 ^ 60) (hs : Sat w (kn K :: F)) :
    Ok (Fn Pg 82 [v1, v2] w) fun v w' => v = .bool (decide (sameFs fa fb)) ∧ Sat w' (kn K :: F) ∧ Sm w w' := by
  rw [F82]; unfold S82
  refine Ok.go hs (Sm.refl w) ?_
  repeat refine Go.z ?_
  rw [hx.len, hy.len]
  refine Go.ci (fun h => ?_) fun h => ?_
  · repeat refine Go.z ?_
    refine Go.ret fun hs hm => ⟨?_, hs, hm⟩
    rw [decide_eq_false]
    intro hh
    simp [hh.1] at h
  · exact same39_loop hr hr' hx hy (by simp at h; omega) hm hp fa.length 0 _ w (by omega) (fun k a b hk => absurd hk (Nat.not_lt_zero _)) rfl rfl rfl rfl
end Go.Cb

/-
  What Apply and Vacuum make of chains as they should be.
-/
set_option linter.unusedVariables false
set_option linter.unusedSimpArgs false
namespace Go.Cb
open Classical

theorem fold_setC : ∀ (l : List KC) (f : ByteArray → List AV) (k : ByteArray), (l.Pairwise fun a b => a.1 ≠ b.1) → (∃ x ∈ l, x.1 = k ∧ l.foldl (fun f x => setC f x.1 x.2) f k = x.2) ∨ ((∀ x ∈ l, x.1 ≠ k) ∧ l.foldl (fun f x => setC f x.1 x.2) f k = f k)
  | [], f, k, _ => .inr ⟨fun x hx => (by cases hx), rfl⟩
  | y :: l, f, k, hp => by
    obtain ⟨h1, h2⟩ := List.pairwise_cons.1 hp
    rcases fold_setC l (setC f y.1 y.2) k h2 with ⟨x, hx, hk, h⟩ | ⟨hn, h⟩
    · exact .inl ⟨x, by simp [hx], hk, h⟩
    · by_cases hk : y.1 = k
      · refine .inl ⟨y, by simp, hk, ?_⟩
        show l.foldl _ (setC f y.1 y.2) k = _
        rw [h]; unfold setC; rw [if_pos hk.symm]
      · refine .inr ⟨fun x hx => ?_, ?_⟩
        · rcases List.mem_cons.1 hx with rfl | hx
          · exact hk
          · exact hn x hx
        · show l.foldl _ (setC f y.1 y.2) k = _
          rw [h]; unfold setC; rw [if_neg (Ne.symm hk)]

theorem okCh_mem {c : ByteArray → List AV} : ∀ {gs : List (ByteArray × AV)} {p : ByteArray}, okCh c p gs → (∀ a ∈ gs, RightP (a.2 :: c a.1) ∧ keyR a.1 ∧ kl p a.1 = true) ∧ gs.Pairwise fun a b => kl a.1 b.1 = true
  | [], p, _ => ⟨fun a ha => (by cases ha), .nil⟩
  | x :: gs, p, ⟨h1, h2, h3, h4⟩ => by
    obtain ⟨g1, g2⟩ := okCh_mem h4
    refine ⟨fun a ha => ?_, List.pairwise_cons.2 ⟨fun b hb => (g1 b hb).2.2, g2⟩⟩
    rcases List.mem_cons.1 ha with rfl | ha
    · exact ⟨h1, h2, h3⟩
    · exact ⟨(g1 a ha).1, (g1 a ha).2.1, kl_tr h3 (g1 a ha).2.2⟩
theorem appC_cases {c : ByteArray → List AV} {gs : List (ByteArray × AV)} {p : ByteArray} (h : okCh c p gs) (k : ByteArray) : (∃ a ∈ gs, a.1 = k ∧ appC c gs k = a.2 :: c k) ∨ ((∀ a ∈ gs, a.1 ≠ k) ∧ appC c gs k = c k) := by
  have hp : (chL c gs).Pairwise fun a b => a.1 ≠ b.1 := by
    unfold chL
    rw [List.pairwise_map]
    exact (okCh_mem h).2.imp fun h => kl_ne h
  rcases fold_setC (chL c gs) c k hp with ⟨x, hx, hk, h⟩ | ⟨hn, h⟩
  · unfold chL at hx
    obtain ⟨a, ha, rfl⟩ := List.mem_map.1 hx
    refine .inl ⟨a, ha, hk, ?_⟩
    have hk : a.1 = k := hk
    subst hk
    exact h
  · exact .inr ⟨fun a ha => hn _ (List.mem_map.2 ⟨a, ha, rfl⟩), h⟩

theorem gd_app {c : ByteArray → List AV} {gs : List (ByteArray × AV)} {last s : Int} (hg : Gd c last) (hok : okCh c noB gs) (hlt : last < s) (hst : ∀ a ∈ gs, a.2.st = s) : Gd (appC c gs) s := by
  obtain ⟨g1, g2⟩ := okCh_mem hok
  refine ⟨fun k => ?_, fun k a ha => ?_, Int.le_of_lt (Int.lt_of_le_of_lt hg.last hlt), fun k hk => ?_⟩
  · rcases appC_cases hok k with ⟨a, ha, rfl, h⟩ | ⟨_, h⟩
    · rw [h]; exact (g1 a ha).1
    · rw [h]; exact hg.right k
  · have hl := hg.last
    rcases appC_cases hok k with ⟨b, hb, rfl, h⟩ | ⟨_, h⟩
    · rw [h] at ha
      rcases List.mem_cons.1 ha with rfl | ha
      · rw [hst _ hb]; omega
      · have := hg.st _ a ha; omega
    · rw [h] at ha
      have := hg.st _ a ha; omega
  · rcases appC_cases hok k with ⟨b, hb, rfl, h⟩ | ⟨_, h⟩
    · exact (g1 b hb).2.1
    · rw [h] at hk; exact hg.key k hk
theorem bd_app {c : ByteArray → List AV} {gs : List (ByteArray × AV)} {n : Nat} (hb : Bd c n) (hok : okCh c noB gs) (hp : ∀ a ∈ gs, a.2.places.length ≤ 2 ^ 29) : Bd (appC c gs) (n + 1) := by
  refine ⟨fun k a ha => ?_, fun k => ?_⟩
  · rcases appC_cases hok k with ⟨b, hb', rfl, h⟩ | ⟨_, h⟩
    · rw [h] at ha
      rcases List.mem_cons.1 ha with rfl | ha
      · exact hp _ hb'
      · exact hb.pl _ a ha
    · rw [h] at ha; exact hb.pl _ a ha
  · have := hb.len k
    rcases appC_cases hok k with ⟨b, hb', rfl, h⟩ | ⟨_, h⟩
    · rw [h]; simp; omega
    · rw [h]; omega
theorem bd_mono {c : ByteArray → List AV} {n m : Nat} (hb : Bd c n) (h : n ≤ m) : Bd c m := ⟨hb.pl, fun k => Nat.le_trans (hb.len k) h⟩

/-- chains of which only some versions are left. -/
def SubC (c' c : ByteArray → List AV) : Prop := ∀ k, (c' k).Sublist (c k)
theorem gd_sub {c c' : ByteArray → List AV} {last : Int} (hg : Gd c last) (h : SubC c' c) : Gd c' last := by
  refine ⟨fun k => right_sub (hg.right k) (h k), fun k a ha => hg.st k a ((h k).subset ha), hg.last, fun k hk => hg.key k fun h0 => hk ?_⟩
  have := h k
  rw [h0] at this
  exact List.sublist_nil.1 this
theorem bd_sub {c c' : ByteArray → List AV} {n : Nat} (hb : Bd c n) (h : SubC c' c) : Bd c' n := ⟨fun k a ha => hb.pl k a ((h k).subset ha), fun k => Nat.le_trans (h k).length_le (hb.len k)⟩
theorem sub_set {c : ByteArray → List AV} {k : ByteArray} {p : Nat → Prop} : SubC (setC c k (keptL (c k) p)) c := by
  intro q
  unfold setC
  by_cases h : q = k
  · rw [if_pos h, h]; exact kept_sub _ _
  · rw [if_neg h]; exact List.Sublist.refl _

/-- what a vacuum without starts leaves. -/
def vacL (vs : List AV) : List AV := match vs with
  | [] => []
  | a :: _ => if a.dead then [] else [a]
theorem seen_nil {vs : List AV} {i : Nat} : seenP vs [] i ↔ i = 0 := by
  unfold seenP
  constructor
  · rintro (h | ⟨s, hs, _⟩)
    · exact h
    · cases hs
  · exact .inl
theorem kept_nil {vs : List AV} (hR : RightP vs) : keptL vs (keepP vs []) = vacL vs := by
  cases vs with
  | nil => rfl
  | cons a r =>
    have hn : noneP (a :: r) [] ↔ a.dead = true := by
      constructor
      · rintro ⟨b, hb, hd, _⟩
        simp at hb
        subst hb; exact hd
      · intro hd
        exact ⟨a, rfl, hd, fun i hi => seen_nil.1 hi, fun s hs => (by cases hs)⟩
    have hk : ∀ i, keepP (a :: r) [] i ↔ (i = 0 ∧ ¬ a.dead = true) := by
      intro i
      unfold keepP
      rw [seen_nil, hn]
      constructor
      · rintro (h | h)
        · exact absurd hR h
        · exact h
      · exact .inr
    unfold keptL vacL
    rw [List.zipIdx_cons]
    have hrest : (r.zipIdx 1).filter (fun x => decide (keepP (a :: r) [] x.2)) = [] := by
      rw [List.filter_eq_nil_iff]
      rintro ⟨b, i⟩ hb
      have := List.mem_zipIdx hb
      rw [decide_eq_true_iff, hk]
      have h1 := this.1
      rintro ⟨h2, _⟩
      have h2 : i = 0 := h2
      omega
    cases hd : a.dead with
    | true =>
      rw [List.filter_cons, if_neg (by rw [decide_eq_true_iff, hk, hd]; simp)]
      simp only [Nat.zero_add]
      rw [hrest]; simp [hd]
    | false =>
      rw [List.filter_cons, if_pos (by rw [decide_eq_true_iff, hk, hd]; simp)]
      simp only [Nat.zero_add]
      rw [hrest]; simp [hd]
theorem filt_two {α : Type} (p q : α → Prop) (hq : ∀ x, q x ↔ ¬ p x) : ∀ z : List α, (z.filter fun x => decide (p x)).length + (z.filter fun x => decide (q x)).length = z.length
  | [] => rfl
  | x :: z => by
    have ih := filt_two p q hq z
    by_cases h : p x
    · rw [List.filter_cons_of_pos (by simpa using h), List.filter_cons_of_neg (by simpa using fun h' => (hq x).1 h' h), List.length_cons, List.length_cons]; omega
    · rw [List.filter_cons_of_neg (by simpa using h), List.filter_cons_of_pos (by simpa using (hq x).2 h), List.length_cons, List.length_cons]; omega
theorem kept_len (l : List AV) (p : Nat → Prop) : (keptL l p).length + (keptL l fun i => ¬ p i).length = l.length := by
  unfold keptL
  rw [List.length_map, List.length_map]
  have h := filt_two (fun x : AV × Nat => p x.2) (fun x => ¬ p x.2) (fun _ => Iff.rfl) l.zipIdx
  rw [List.length_zipIdx] at h
  exact h

/-! the next key -/
theorem hasL_iff {K : Hl} {L : List Ent} {c : ByteArray → List AV} (hc : StoR K L c) (k : ByteArray) : hasL L k ↔ c k ≠ [] := by
  constructor
  · rintro ⟨e, he, rfl⟩
    exact (hc.at_ e he).2
  · intro h
    apply Classical.byContradiction
    intro hn
    exact h (hc.no k hn)
theorem next_key {K : Hl} {L : List Ent} {c : ByteArray → List AV} (hc : StoR K L c) (hs : Srt L) {key k : ByteArray} (hk : c k ≠ []) (hlt : kl key k = true) (hmin : ∀ q, c q ≠ [] → kl key q = true → q = k ∨ kl k q = true) : ∃ e, nextL L key = some e ∧ e.1 = k := by
  obtain ⟨e, he, rfl⟩ := (hasL_iff hc k).2 hk
  have hm : e ∈ upps L key := List.mem_filter.2 ⟨he, hlt⟩
  unfold nextL
  have hsu : Srt (upps L key) := hs.sublist List.filter_sublist
  cases hu : upps L key with
  | nil => rw [hu] at hm; cases hm
  | cons x r =>
    refine ⟨x, rfl, ?_⟩
    have hx : x ∈ upps L key := by rw [hu]; simp
    obtain ⟨hx1, hx2⟩ := List.mem_filter.1 hx
    rw [hu] at hm hsu
    rcases List.mem_cons.1 hm with rfl | hm
    · rfl
    · have h1 := (List.pairwise_cons.1 hsu).1 e hm
      rcases hmin x.1 (hc.at_ x hx1).2 hx2 with h | h
      · exact h
      · rw [kl_asym h1] at h; cases h
theorem next_none {K : Hl} {L : List Ent} {c : ByteArray → List AV} (hc : StoR K L c) {key : ByteArray} (hno : ∀ q, c q ≠ [] → kl key q = false) : nextL L key = none := by
  unfold nextL
  have : upps L key = [] := List.filter_eq_nil_iff.2 fun e he => by rw [hno e.1 (hc.at_ e he).2]; simp
  rw [this]; rfl

/-! what is seen -/
theorem atA_head {vs : List AV} {a : AV} {s : Int} (h : vs[0]? = some a) (hs : a.st ≤ s) : atA vs s = some a := by
  cases vs with
  | nil => cases h
  | cons b r =>
    simp at h
    subst h
    unfold atA
    rw [List.find?_cons_of_pos (by simpa using hs)]
theorem valV_head {vs : List AV} {a : AV} {s : Int} (hR : RightP vs) (h : vs[0]? = some a) (hs : a.st ≤ s) : valV vs s = if a.dead then (zA, false) else (a, true) := by
  unfold valV atV
  rw [if_pos hR, atA_head h hs]
  cases hd : a.dead with
  | true => simp [hd]
  | false => simp [hd]
end Go.Cb

/-
  What came about by acts; what is seen; the same version.
-/
set_option linter.unusedVariables false
set_option linter.unusedSimpArgs false
set_option maxRecDepth 100000
namespace Go.Cb
open Classical
variable {w w0 : World} {F : List HP} {Q Q' : Value → World → Prop}

/-- a store that came about by acts. -/
structure Came (K : Hl) (L : List Ent) (c : ByteArray → List AV) (last : Int) (n : Nat) : Prop where
  st : StoR K L c
  gd : Gd c last
  bd : Bd c n
  len : L.length ≤ 30 * n
theorem Came.mono {K K' : Hl} {L : List Ent} {c : ByteArray → List AV} {last : Int} {n : Nat} (h : Came K L c last n) (hl : Le K K') : Came K' L c last n := ⟨h.st.mono hl, h.gd, h.bd, h.len⟩
theorem Came.new (K : Hl) : Came K [] (fun _ => []) 0 0 := ⟨StoR.new K, Gd.new, ⟨fun k a ha => by simp at ha, fun k => by simp⟩, by simp⟩
theorem Came.more {K : Hl} {L : List Ent} {c : ByteArray → List AV} {last : Int} {n m : Nat} (h : Came K L c last n) (hl : n ≤ m) : Came K L c last m := ⟨h.st, h.gd, bd_mono h.bd hl, by have := h.len; omega⟩

/-- a record is applied. -/
theorem came_app {K : Hl} {S n : Nat} {L : List Ent} {last s : Int} {c : ByteArray → List AV} {gs : List (ByteArray × AV)} {cv : Value} {cs : List Cg} (hc : Came K L c last n) (hn : n ≤ 1000) (hf : fewG gs) (hr : RdS K 34 5 encCg cv cs) (hcs : Rcg K s cs gs) (hs : Sat w (kn K :: sto S L last :: F)) :
    Ok (Fn Pg 12 [ptr S 0, .agg #[u64 s, cv]] w) fun v w' => ∃ K' L' c' last' z, v = int z ∧ Le K K' ∧ Came K' L' c' last' (n + 1) ∧ ((z = 0 ∧ okCh c noB gs ∧ last < s ∧ last' = s ∧ c' = appC c gs) ∨ (z = 2 ∧ ¬ (okCh c noB gs ∧ last < s) ∧ last' = last ∧ c' = c)) ∧ Sat w' (kn K' :: sto S L' last' :: F) ∧ Sm w w' := by
  have hp : ∀ a ∈ gs, a.2.places.length ≤ 2 ^ 29 := fun a ha => by have := (hf.2 a ha).1; omega
  have hl := hc.len
  have hgl := hf.1
  have hst : ∀ a ∈ gs, a.2.st = s := fun a ha => by
    obtain ⟨i, hi⟩ := List.getElem?_of_mem ha
    obtain ⟨x, hx⟩ : ∃ x, cs[i]? = some x := ⟨_, List.getElem?_eq_getElem (by rw [hcs.len]; exact (List.getElem?_eq_some_iff.1 hi).1)⟩
    exact (hcs.at_ i x a hx hi).2.st.symm
  refine Ok.mono (apply_ok hc.bd (by omega) hp (by omega) (by omega) hc.st hr hcs hs) ?_
  rintro v w1 ⟨K1, l1, s1, ⟨hok, hlt, rfl, L1, hc1, hL1, t1⟩ | ⟨hno, rfl, t1⟩⟩
  · exact ⟨K1, L1, _, s, 0, rfl, l1, ⟨hc1, gd_app hc.gd hok hlt hst, bd_app hc.bd hok hp, by omega⟩, .inl ⟨rfl, hok, hlt, rfl, rfl⟩, t1, s1⟩
  · exact ⟨K1, L, c, last, 2, rfl, l1, (hc.mono l1).more (by omega), .inr ⟨rfl, hno, rfl, rfl⟩, t1, s1⟩

theorem kl_noB (k : ByteArray) : kl k noB = false := by
  unfold kl
  show Op.bytesLess k.toList noB.toList = false
  have : noB.toList = [] := by simp [ByteArray.toList, ByteArray.toList.loop, noB, ByteArray.size]
  rw [this]
  cases k.toList <;> rfl
theorem kl_key {k : ByteArray} (h : keyR k) : kl noB k = true := by
  cases hk : kl noB k with
  | true => rfl
  | false =>
    have := kl_tot hk (kl_noB k)
    subst this
    exact absurd h.1 (by decide)
theorem srt_get {X : List KC} (hs : SrtK X) {i j : Nat} {x y : KC} (hi : X[i]? = some x) (hj : X[j]? = some y) (hij : i < j) : kl x.1 y.1 = true := by
  obtain ⟨h1, rfl⟩ := List.getElem?_eq_some_iff.1 hi
  obtain ⟨h2, rfl⟩ := List.getElem?_eq_some_iff.1 hj
  exact List.pairwise_iff_getElem.1 hs i j h1 h2 hij
theorem rows_of {c : ByteArray → List AV} {X : List KC} (hX : RowsM c X) {k : ByteArray} (hk : c k ≠ []) : ∃ (j : Nat) (x : KC), X[j]? = some x ∧ x.1 = k := by
  have := (hX.2 (k, c k)).2 ⟨rfl, hk⟩
  obtain ⟨j, hj⟩ := List.getElem?_of_mem this
  exact ⟨j, _, hj, rfl⟩
theorem sub_ne {c' c : ByteArray → List AV} (h : SubC c' c) {k : ByteArray} (hk : c' k ≠ []) : c k ≠ [] := by
  intro h0
  have := h k
  rw [h0] at this
  exact hk (List.sublist_nil.1 this)
theorem found_mem {at' : Int} {X : List KC} {p : ByteArray × AV} (h : p ∈ foundL at' X) : ∃ x ∈ X, p.1 = x.1 ∧ p.2 ∈ x.2 := by
  unfold foundL at h
  obtain ⟨x, hx, he⟩ := List.mem_filterMap.1 h
  refine ⟨x, hx, ?_⟩
  split at he
  · rename_i hv
    injection he with he
    subst he
    refine ⟨rfl, ?_⟩
    show (valV x.2 at').1 ∈ x.2
    unfold valV at hv ⊢
    split at hv
    · rename_i h2
      rw [if_pos h2]
      have h3 := h2.1
      show (atV x.2 at').1 ∈ x.2
      unfold atV at h3 ⊢
      split at h3
      · rename_i hR
        rw [if_pos hR]
        cases ha : atA x.2 at' with
        | none => rw [ha] at h3; cases h3
        | some a => exact List.mem_of_find?_eq_some ha
      · cases h3
    · cases hv
  · cases he

def toG (x : Fv) : Fg := ⟨x.key, false, nilV1, x.pv, x.gen, x.size⟩
def toF (p : ByteArray × AV) : AF := ⟨p.1, false, [], p.2.places, p.2.gen, p.2.size⟩
theorem rds_map {K : Hl} {t k : Nat} {α β : Type} {enc : α → List Value} {enc' : β → List Value} {f : α → β} (hf : ∀ x, enc' (f x) = enc x) {v : Value} {xs : List α} (h : RdS K t k enc v xs) : RdS K t k enc' v (xs.map f) := by
  have hfl : (xs.map f).flatMap enc' = xs.flatMap enc := by
    clear h
    induction xs with
    | nil => rfl
    | cons x xs ih => rw [List.map_cons, List.flatMap_cons, List.flatMap_cons, hf, ih]
  refine ⟨?_, fun i y hy => ?_, fun w hw => ?_⟩
  · rw [List.length_map]; exact h.sl
  · rw [List.getElem?_map] at hy
    obtain ⟨x, hx, rfl⟩ := Option.map_eq_some_iff.1 hy
    rw [hf]
    exact h.ix i x hx
  · rw [List.length_map, hfl]
    exact h.src w hw
theorem toG_rd {K : Hl} {v : Value} {xs : List Fv} (h : RdS K 87 6 encFv v xs) : RdS K 87 6 encFg v (xs.map toG) := rds_map (fun _ => rfl) h
theorem toG_fs {K : Hl} {xs : List Fv} {gs : List (ByteArray × AV)} (h : Rfs K xs gs) : Rfgs K (xs.map toG) (gs.map toF) := by
  refine ⟨by simp [h.len], fun i x a hx ha => ?_⟩
  rw [List.getElem?_map] at hx ha
  obtain ⟨x', hx', rfl⟩ := Option.map_eq_some_iff.1 hx
  obtain ⟨a', ha', rfl⟩ := Option.map_eq_some_iff.1 ha
  have := h.at_ i x' a' hx' ha'
  exact ⟨this.key, rfl, this.gen, this.size, RdS.nil none 0, this.pl⟩
theorem sameFs_refl (l : List AF) : sameFs l l := ⟨rfl, fun i a b ha hb => by rw [ha] at hb; injection hb with hb; subst hb; exact ⟨rfl, rfl, rfl, rfl, rfl, rfl⟩⟩

/-- a law's answer: true, and nothing that was known is turned. -/
def LawQ (K0 : Hl) (w0 : World) (F : List HP) (v : Value) (w' : World) : Prop := v = .bool true ∧ ∃ K', Le K0 K' ∧ Sat w' (kn K' :: F) ∧ Sm w0 w'

theorem rows_ne {c : ByteArray → List AV} {X : List KC} (hX : RowsM c X) : ∀ x ∈ X, x.2 ≠ [] := fun x hx => ((hX.2 x).1 hx).2
theorem rows_right {c : ByteArray → List AV} {last : Int} {X : List KC} (hg : Gd c last) (hX : RowsM c X) : ∀ x ∈ X, RightP x.2 ∧ ∀ a ∈ x.2, a.st ≤ last := fun x hx => by
  have := ((hX.2 x).1 hx).1
  refine ⟨by rw [← this]; exact hg.right _, fun a ha => ?_⟩
  rw [← this] at ha
  exact (hg.st _ a ha).2
theorem found_small {c : ByteArray → List AV} {n : Nat} {s : Int} {X : List KC} (hb : Bd c n) (hX : RowsM c X) : ∀ a ∈ ((foundL s X).take 1000).map toF, a.places.length ≤ 2 ^ 60 := by
  intro a ha
  obtain ⟨p, hp, rfl⟩ := List.mem_map.1 ha
  obtain ⟨x, hx, _, h2⟩ := found_mem (List.mem_of_mem_take hp)
  have := ((hX.2 x).1 hx).1
  rw [← this] at h2
  have := hb.pl _ _ h2
  show p.2.places.length ≤ 2 ^ 60
  omega

theorem AV.ext' {a b : AV} : a = b ↔ a.st = b.st ∧ a.dead = b.dead ∧ a.size = b.size ∧ a.gen = b.gen ∧ a.places = b.places := by
  constructor
  · rintro rfl; exact ⟨rfl, rfl, rfl, rfl, rfl⟩
  · obtain ⟨_, _, _, _, _⟩ := a
    obtain ⟨_, _, _, _, _⟩ := b
    rintro ⟨h1, h2, h3, h4, h5⟩
    simp at h1 h2 h3 h4 h5
    subst h1 h2 h3 h4 h5
    rfl

theorem same42_j {K : Hl} {b1 b2 : Nat} {x y : Ver} {a b : AV} (hx : Rv K x a) (hy : Rv K y b) (hm : a.places.length ≤ 2 ^ 60) {e : Env} (e2 : e 2 = ptr b1 0) (e3 : e 3 = ptr b2 0) (e24 : e 24 = undef) :
    Go w0 (pt b2 (encVer y) 137 :: pt b1 (encVer x) 137 :: kn K :: F) w (evalCode (cx73 (Fn Pg) (Rnd Pg)) (cdA Go.Proofs.Tryz.f73 [1]) (K73_0 (Fn Pg) (Rnd Pg)) e w) fun v w' => v = .bool (decide (a = b)) ∧ Sat w' (kn K :: F) ∧ Sm w0 w' := by
  have fin : ∀ w1 : World, a ≠ b → Go w0 (pt b2 (encVer y) 137 :: pt b1 (encVer x) 137 :: kn K :: F) w1 (some (.bool false, w1)) fun v w' => v = .bool (decide (a = b)) ∧ Sat w' (kn K :: F) ∧ Sm w0 w' := fun w1 hne => Go.ret fun hs hm => ⟨by rw [decide_eq_false hne], hs.drop.drop, hm⟩
  rw [S73_J1_eq]; unfold S73_J1
  rw [e2, e3, e24]
  repeat refine Go.z ?_
  rw [hx.st, hy.st]
  cases h1 : decide (a.st = b.st) with
  | false =>
    repeat refine Go.z ?_
    exact fin w fun h => by simp [h] at h1
  | true =>
    repeat refine Go.z ?_
    rw [hx.dead, hy.dead]
    cases h2 : (a.dead == b.dead) with
    | false =>
      repeat refine Go.z ?_
      exact fin w fun h => by simp [h] at h2
    | true =>
      repeat refine Go.z ?_
      refine Go.ok fun hs hm' => ?_
      refine Ok.bind (same77_ok hx.pl hy.pl hm (hs.re [2, 0, 1] (by decide))) ?_
      rintro v w1 ⟨rfl, t1, s1⟩
      have t1 : Sat w1 (pt b2 (encVer y) 137 :: pt b1 (encVer x) 137 :: kn K :: F) := t1.re [1, 2, 0] (by decide)
      refine Ok.go t1 (hm'.trans s1) ?_
      rw [hx.gen, hx.size, hy.gen, hy.size]
      repeat refine Go.z ?_
      refine Go.ret fun hs hm => ⟨?_, hs.drop.drop, hm⟩
      refine congrArg Value.bool (decide_eq_decide.2 ?_)
      rw [AV.ext']
      simp at h1 h2
      exact ⟨fun h => ⟨h1, h2, h⟩, fun h => h.2.2⟩
theorem same42_ok {K : Hl} {x y : Ver} {a b : AV} (hx : Rv K x a) (hy : Rv K y b) (hm : a.places.length ≤ 2 ^ 60) (hs : Sat w (kn K :: F)) :
    Ok (Fn Pg 73 [aggV x, aggV y] w) fun v w' => v = .bool (decide (a = b)) ∧ Sat w' (kn K :: F) ∧ Sm w w' := by
  rw [F73]; unfold S73
  refine Ok.go hs (Sm.refl w) ?_
  repeat (first | refine Go.z ?_ | (with_reducible first | (refine Go.bxa  ?_; intro nb w') | (refine Go.bxs  ?_; intro nb w') | (refine Go.al  ?_; intro nb w') | (refine Go.sta (by with_unfolding_all rfl) (by with_unfolding_all rfl) ?_; intro w') | (refine Go.st (by first | with_unfolding_all decide | simp) ?_; intro w')))
  exact same42_j hx hy hm rfl rfl rfl

/-! ### Plain -/

/-- of those that are left the one that is seen is the same. -/
theorem find_kept (q : AV → Bool) (p : Nat → Bool) : ∀ l : List (AV × Nat), (∀ x, l.find? (fun x => q x.1) = some x → p x.2 = true) → ((l.filter fun x => p x.2).map (·.1)).find? q = (l.map (·.1)).find? q
  | [], _ => rfl
  | x :: l, h => by
    by_cases hq : q x.1 = true
    · have hp : p x.2 = true := h x (by simp [hq])
      simp [hp, hq]
    · have ih := find_kept q p l fun y hy => h y (by simpa [hq] using hy)
      have hq : q x.1 = false := by simpa using hq
      cases hp : p x.2 with
      | true => simp only [List.filter_cons, hp, if_true, List.map_cons, List.find?_cons, hq]; exact ih
      | false => simp only [List.filter_cons, hp, List.map_cons, List.find?_cons, hq]; exact ih
theorem atA_kept {vs : List AV} {s : Int} {p : Nat → Prop} (hp : ∀ i, i < vs.length → PlaceP vs s i → p i) : atA (keptL vs p) s = atA vs s := by
  unfold atA keptL
  have := find_kept (fun a => decide (a.st ≤ s)) (fun i => decide (p i)) vs.zipIdx fun x hx => by
    rw [List.find?_eq_some_iff_getElem] at hx
    obtain ⟨hq, i, hi, hix, hlt⟩ := hx
    have hi' : i < vs.length := by simpa using hi
    rw [List.getElem_zipIdx] at hix
    subst hix
    refine decide_eq_true (hp _ (by simpa using hi') ⟨by simp; omega, fun k a hk ha hst => ?_, fun a ha => ?_⟩)
    · have hk' : k < i := by simpa using hk
      have := hlt k hk'
      rw [List.getElem_zipIdx] at this
      obtain ⟨hk2, rfl⟩ := List.getElem?_eq_some_iff.1 ha
      simp at this
      omega
    · have ha' : vs[i]? = some a := by simpa using ha
      obtain ⟨_, rfl⟩ := List.getElem?_eq_some_iff.1 ha'
      simpa using hq
  rw [List.zipIdx_map_fst] at this
  exact this
theorem valV_dead {vs : List AV} {a : AV} {s : Int} (hR : RightP vs) (h : atA vs s = some a) (hd : a.dead = true) : valV vs s = (zA, false) := by
  unfold valV atV
  rw [if_pos hR, h, if_neg]
  rintro ⟨_, h2⟩
  rw [hd] at h2; cases h2
theorem valV_congr {vs us : List AV} {s : Int} (hR : RightP vs) (hR' : RightP us) (h : atA vs s = atA us s) : valV vs s = valV us s := by
  unfold valV atV
  rw [if_pos hR, if_pos hR', h]
theorem keepP_iff {vs : List AV} {ss : List Int} (hR : RightP vs) (i : Nat) : keepP vs ss i ↔ seenP vs ss i ∧ ¬ noneP vs ss := by
  unfold keepP
  exact ⟨fun h => h.resolve_left fun h => h hR, .inr⟩
theorem val_vac {vs : List AV} {ss : List Int} {s : Int} (hR : RightP vs) (hs : s ∈ ss) : valV (keptL vs (keepP vs ss)) s = valV vs s := by
  have hR' := right_sub hR (kept_sub vs (keepP vs ss))
  by_cases hn : noneP vs ss
  · obtain ⟨a, h0, hd, _, h4⟩ := hn
    have hn : noneP vs ss := ⟨a, h0, hd, by assumption, h4⟩
    have hst : a.st ≤ s := by have := h4 s hs; omega
    rw [valV_dead hR (atA_head h0 hst) hd]
    have : keptL vs (keepP vs ss) = [] := by
      unfold keptL
      rw [List.map_eq_nil_iff, List.filter_eq_nil_iff]
      intro x _
      rw [decide_eq_true_iff, keepP_iff hR]
      exact fun h => h.2 hn
    rw [this]
    unfold valV
    rw [at_nil, if_neg (by simp)]
  · refine valV_congr hR' hR (atA_kept fun i hi hp => ?_)
    rw [keepP_iff hR]
    exact ⟨.inr ⟨s, hs, hi, hp⟩, hn⟩
theorem val_add {vs : List AV} {a : AV} {s : Int} (hR : RightP (a :: vs)) (h : s < a.st) : valV (a :: vs) s = valV vs s := by
  refine valV_congr hR (right_sub hR (List.sublist_cons_self _ _)) ?_
  unfold atA
  rw [List.find?_cons_of_neg (by simp; omega)]

/-- lists that rise, of the same. -/
theorem srt_ext {β : Type} : ∀ {X Y : List (ByteArray × β)}, (X.Pairwise fun a b => kl a.1 b.1 = true) → (Y.Pairwise fun a b => kl a.1 b.1 = true) → (∀ x, x ∈ X ↔ x ∈ Y) → X = Y
  | [], [], _, _, _ => rfl
  | [], b :: Y, _, _, h => absurd ((h b).2 (by simp)) (by simp)
  | a :: X, [], _, _, h => absurd ((h a).1 (by simp)) (by simp)
  | a :: X, b :: Y, hX, hY, h => by
    obtain ⟨h1, h2⟩ := List.pairwise_cons.1 hX
    obtain ⟨h3, h4⟩ := List.pairwise_cons.1 hY
    have hab : a = b := by
      rcases List.mem_cons.1 ((h a).1 (by simp)) with h5 | h5
      · exact h5
      · rcases List.mem_cons.1 ((h b).2 (by simp)) with h6 | h6
        · exact h6.symm
        · have h7 := h3 a h5
          have h8 := h1 b h6
          rw [kl_asym h7] at h8; cases h8
    subst hab
    congr 1
    refine srt_ext h2 h4 fun x => ?_
    constructor
    · intro hx
      rcases List.mem_cons.1 ((h x).1 (List.mem_cons_of_mem _ hx)) with rfl | h5
      · have := h1 x hx
        rw [kl_irr] at this; cases this
      · exact h5
    · intro hx
      rcases List.mem_cons.1 ((h x).2 (List.mem_cons_of_mem _ hx)) with rfl | h5
      · have := h3 x hx
        rw [kl_irr] at this; cases this
      · exact h5
theorem found_srt {s : Int} : ∀ {X : List KC}, SrtK X → (foundL s X).Pairwise fun a b => kl a.1 b.1 = true
  | [], _ => .nil
  | x :: X, h => by
    obtain ⟨h1, h2⟩ := List.pairwise_cons.1 h
    unfold foundL
    rw [List.filterMap_cons]
    split
    · exact found_srt h2
    · rename_i y hy
      split at hy
      · injection hy with hy
        subst hy
        refine List.pairwise_cons.2 ⟨fun z hz => ?_, found_srt h2⟩
        obtain ⟨q, hq, hk, _⟩ := found_mem (at' := s) hz
        show kl x.1 z.1 = true
        rw [hk]
        exact h1 q hq
      · cases hy
theorem found_iff {c : ByteArray → List AV} {X : List KC} {s : Int} (hX : RowsM c X) (p : ByteArray × AV) : p ∈ foundL s X ↔ valV (c p.1) s = (p.2, true) := by
  unfold foundL
  rw [List.mem_filterMap]
  constructor
  · rintro ⟨x, hx, h⟩
    split at h
    · rename_i hv
      injection h with h
      subst h
      rw [((hX.2 x).1 hx).1]
      exact Prod.ext rfl hv
    · cases h
  · intro h
    have hne : c p.1 ≠ [] := by
      intro h0
      rw [h0] at h
      unfold valV at h
      rw [at_nil, if_neg (by simp)] at h
      have := congrArg Prod.snd h
      cases this
    refine ⟨(p.1, c p.1), (hX.2 _).2 ⟨rfl, hne⟩, ?_⟩
    show (if (valV (c p.1) s).2 = true then some (p.1, (valV (c p.1) s).1) else none) = some p
    rw [h, if_pos rfl]
theorem found_eq {c c' : ByteArray → List AV} {X Y : List KC} {s : Int} (hX : RowsM c X) (hY : RowsM c' Y) (h : ∀ k, valV (c k) s = valV (c' k) s) : foundL s X = foundL s Y :=
  srt_ext (found_srt hX.1) (found_srt hY.1) fun p => by rw [found_iff hX, found_iff hY, h]

theorem val_app {c : ByteArray → List AV} {gs : List (ByteArray × AV)} {s start : Int} (hok : okCh c noB gs) (hst : ∀ a ∈ gs, a.2.st = s) (h : start < s) (k : ByteArray) : valV (appC c gs k) start = valV (c k) start := by
  obtain ⟨g1, _⟩ := okCh_mem hok
  rcases appC_cases hok k with ⟨a, ha, rfl, hc⟩ | ⟨_, hc⟩
  · rw [hc]
    exact val_add (g1 a ha).1 (by rw [hst a ha]; exact h)
  · rw [hc]

/-! ### Vacuum, with starts -/
theorem came_vac {K : Hl} {S n : Nat} {L : List Ent} {last : Int} {c : ByteArray → List AV} {key : ByteArray} {sv : Value} {ss : List Int} (hc : Came K L c last n) (hn : n ≤ 1000) (hk : key.size ≤ 2 ^ 62) (hu : RdS K 37 1 encU sv ss) (hul : ss.length ≤ 2 ^ 28) (hs : Sat w (kn K :: sto S L last :: F)) :
    Ok (Fn Pg 14 [ptr S 0, .string key, sv] w) fun v w' => ∃ K' L' c', Le K K' ∧ Came K' L' c' last n ∧ (∀ s ∈ ss, ∀ k, valV (c' k) s = valV (c k) s) ∧ Sat w' (kn K' :: sto S L' last :: F) ∧ Sm w w' := by
  have hl := hc.len
  refine Ok.mono (vacuum_ok (n := n) (by omega) hk hc.st hc.bd (by omega) hu hul hs) ?_
  rintro v w1 ⟨K1, l1, s1, ⟨_, _, t1⟩ | ⟨e, dv, L1, hn1, _, hdv, hst, hL1, t1⟩⟩
  · exact ⟨K1, L, c, l1, hc.mono l1, fun _ _ _ => rfl, t1, s1⟩
  · refine ⟨K1, L1, _, l1, ⟨hst, gd_sub hc.gd sub_set, bd_sub hc.bd sub_set, by omega⟩, fun s hs k => ?_, t1, s1⟩
    unfold setC
    by_cases hk : k = e.1
    · rw [if_pos hk, hk]; exact val_vac (hc.gd.right _) hs
    · rw [if_neg hk]
end Go.Cb
