/-
  The document's list: place, Get, Put, Delete, After, Walk, Copy.
-/
import Derived.Test.YtialecgadoepjaaAf
set_option linter.unusedVariables false
set_option linter.unusedSimpArgs false
namespace Go.Cb
open Classical
variable {w : World} {F : List HP} {Q Q' : Value → World → Prop}

theorem T47 : SlT Pg 47 112 2 := slT_of (by kernel_rfl)
theorem a47 : aggT Pg 47 = some false := by kernel_rfl
theorem a112 : aggT Pg 112 = some true := by kernel_rfl
theorem fld49_0 (b o : Nat) : fldA Pg 49 (ptr b o) 0 = some (ptr b o) := by kernel_rfl
theorem fld112_0 (b o : Nat) : fldA Pg 112 (ptr b o) 0 = some (ptr b o) := by kernel_rfl
theorem fld112_1 (b o : Nat) : fldA Pg 112 (ptr b o) 1 = some (ptr b (o + 1)) := by kernel_rfl

/-- a list of the document's. -/
def rl (X : Nat) (L : List Ent) : HP := fun h => ∃ lv, stars [pt X [lv] 49, slH 112 2 encE lv L] h
theorem rl_open {X : Nat} {L : List Ent} (hs : Sat w (rl X L :: F)) : ∃ lv, Sat w (pt X [lv] 49 :: slH 112 2 encE lv L :: F) := by
  obtain ⟨lv, h⟩ := Sat.ex.1 hs
  exact ⟨lv, Sat.flat.1 h⟩
theorem rl_mk {X : Nat} {L : List Ent} {lv : Value} (h : Sat w (pt X [lv] 49 :: slH 112 2 encE lv L :: F)) : Sat w (rl X L :: F) := Sat.ex.2 ⟨lv, Sat.flat.2 h⟩
theorem ldL {X : Nat} {lv : Value} (h : Sat w F) (k : Nat) (hk : F[k]? = some (pt X [lv] 49)) : ldV Pg 47 (ptr X 0) w = some lv := (ldV_sc a47 _ _).trans ((h.foc hk).at.cell 0)
theorem stL {X : Nat} {lv v : Value} (h : Sat w F) (k : Nat) (hk : F[k]? = some (pt X [lv] 49)) (hv : one v = true) : ∃ w', rawU Pg (Instr.storeAt 47 (ptr X 0) v) w = some (undef, w') ∧ Sat w' (F.set k (pt X [v] 49)) ∧ Sm w w' :=
  st_one (sz_of (by kernel_rfl)) h k hk (Nat.zero_lt_succ _) hv

theorem ix_r {lv : Value} {l : List Ent} (h : Sat w F) (k : Nat) (hk : F[k]? = some (slH 112 2 encE lv l)) {i : Nat} {e : Ent} (hi : l[i]? = some e) :
    ∃ b o, ixA Pg 47 lv (int i) = some (ptr b o) ∧ ldV Pg 112 (ptr b o) w = some (aggE e) ∧ ldV Pg 9 (ptr b o) w = some (.string e.1) ∧ ldV Pg 3 (ptr b (o + 1)) w = some e.2.1 := by
  obtain ⟨hl, rfl⟩ := List.getElem?_eq_some_iff.1 hi
  obtain ⟨b, c, h1, h2, h3, h4⟩ := sl_ix T47 enE (h.foc hk) hl
  refine ⟨b, _, h1, ?_, ?_, ?_⟩
  · obtain ⟨i', hi', hs⟩ : ∃ i', Pg.info? 112 = some i' ∧ i'.size = 2 := let ⟨i', _, a, b, _⟩ := T47.i; ⟨i', a, b⟩
    rw [at_load h2 h3 a112 hi' hs, h4]; rfl
  · rw [ldV_sc a9, h2.cell]
    have := congrArg (·[0]?) h4
    simpa [encE, List.getElem?_take, List.getElem?_drop] using this
  · rw [ldV_sc a3, h2.cell]
    have := congrArg (·[1]?) h4
    simpa [encE, List.getElem?_take, List.getElem?_drop] using this

/-- what is read of such a list. -/
theorem rl_facts {X k : Nat} {L : List Ent} (hs : Sat w F) (hk : F[k]? = some (rl X L)) : ∃ lv, ldV Pg 47 (ptr X 0) w = some lv ∧
    (∀ (i : Nat) (e : Ent), L[i]? = some e → ∃ b o, ixA Pg 47 lv (int i) = some (ptr b o) ∧ ldV Pg 112 (ptr b o) w = some (aggE e) ∧ ldV Pg 9 (ptr b o) w = some (.string e.1) ∧ ldV Pg 3 (ptr b (o + 1)) w = some e.2.1) ∧
    (∀ (st : Bool) (rt : TypeId) (cs : Array Bool) (w' : World), lenG st Pg .len #[47] rt cs [lv] w' = some (int L.length, w')) := by
  obtain ⟨lv, h⟩ := rl_open (hs.foc hk)
  exact ⟨lv, ldL h 0 rfl, fun i e hi => ix_r h 1 rfl hi, fun st rt cs w' => sl_len T47 (h.foc (k := 1) rfl) w'⟩

theorem place_loop {X : Nat} {L : List Ent} {key : ByteArray} : ∀ (l2 l1 : List Ent) (e : Env) (w : World) (k : Nat) (F : List HP), F[k]? = some (rl X L) → Sat w F → L = l1 ++ l2 → (∀ x ∈ l1, kl x.1 key = true) → L.length ≤ 2 ^ 30 →
    e 0 = ptr X 0 → e 1 = .string key → e 6 = int l1.length → e 42 = undef →
    Ok (evalLoop (cx58 (Fn Pg) (Rnd Pg)) (cdA Go.Proofs.Try.f58 [1, 0, 1, 0, 0]) (K58_2 (Fn Pg) (Rnd Pg)) e w) fun v w' => ∃ l1 l2 b, L = l1 ++ l2 ∧ Fits key l1 l2 b ∧ v = .tuple #[int l1.length, .bool b] ∧ Sat w' F ∧ Sm w w' := by
  intro l2
  induction l2 with
  | nil =>
    intro l1 e w k F hk hs hl hb hlen e0 e1 e6 e42
    obtain ⟨lv, f1, f2, f3⟩ := rl_facts hs hk
    rw [S58_L1_eq]; unfold S58_L1
    rw [e0, e1, e6, e42]
    refine Ok.rd (nil_ptr _ _) (Ok.rd (fld49_0 _ _) (Ok.rd f1 (Ok.rd2 (f3 _ _ _ _) (Ok.rd2 bin_lss (Ok.cf (by rw [hl]; simp) ?_)))))
    refine Ok.rd (nil_ptr _ _) (Ok.rd (fld49_0 _ _) (Ok.rd f1 (Ok.rd2 (f3 _ _ _ _) ?_)))
    refine ⟨_, _, rfl, l1, [], false, hl, ⟨hb, .inl ⟨rfl, rfl⟩⟩, ?_, hs, Sm.refl _⟩
    rw [hl]; simp
  | cons y l2 ih =>
    intro l1 e w k F hk hs hl hb hlen e0 e1 e6 e42
    obtain ⟨lv, f1, f2, f3⟩ := rl_facts hs hk
    obtain ⟨b, o, g1, _, g2, _⟩ := f2 l1.length y (by rw [hl]; simp)
    rw [S58_L1_eq]; unfold S58_L1
    rw [e0, e1, e6, e42]
    refine Ok.rd (nil_ptr _ _) (Ok.rd (fld49_0 _ _) (Ok.rd f1 (Ok.rd2 (f3 _ _ _ _) (Ok.rd2 bin_lss (Ok.ct (by rw [hl]; simp; omega) ?_)))))
    refine Ok.rd (nil_ptr _ _) (Ok.rd (fld49_0 _ _) (Ok.rd f1 (Ok.rd g1 (Ok.rd (fld112_0 _ _) (Ok.rd g2 (Ok.rd2 bin_sgeq ?_))))))
    cases hy : kl y.1 key with
    | false =>
      refine Ok.ct rfl ?_
      have hd := hs.drw
      obtain ⟨lv', f1', f2', f3'⟩ := rl_facts hd hk
      obtain ⟨b', o', g1', _, g2', _⟩ := f2' l1.length y (by rw [hl]; simp)
      refine Ok.rd (nil_ptr _ _) (Ok.rd (fld49_0 _ _) (Ok.rd f1' (Ok.rd g1' (Ok.rd (fld112_0 _ _) (Ok.rd g2' (Ok.rd2 bin_seql ?_))))))
      exact ⟨_, _, rfl, l1, y :: l2, _, hl, ⟨hb, .inr ⟨y, l2, rfl, hy, rfl⟩⟩, rfl, hd, ⟨rfl, rfl, rfl, fun _ => rfl⟩⟩
    | true =>
      refine Ok.cf rfl (Ok.rd2 (bin_add1 (by rw [hl] at hlen; simp at hlen; omega)) ?_)
      refine ih (l1 ++ [y]) _ w k F hk hs (by rw [hl]; simp) ?_ hlen ?_ ?_ ?_ ?_
      · intro x hx
        rcases List.mem_append.1 hx with hx | hx
        · exact hb x hx
        · simp at hx; subst hx; exact hy
      · exact e0
      · exact e1
      · show int _ = int _; simp
      · exact e42
theorem place_ok {X k : Nat} {L : List Ent} {key : ByteArray} (hs : Sat w F) (hk : F[k]? = some (rl X L)) (hl : L.length ≤ 2 ^ 30) :
    Ok (Fn Pg 58 [ptr X 0, .string key] w) fun v w' => ∃ l1 l2 b, L = l1 ++ l2 ∧ Fits key l1 l2 b ∧ v = .tuple #[int l1.length, .bool b] ∧ Sat w' F ∧ Sm w w' := by
  rw [F58]; unfold S58
  exact place_loop L [] _ w k F hk hs rfl (by simp) hl rfl rfl rfl rfl

/-! ### Slices, as steps -/

theorem go_app {t e k : Nat} {α : Type} {enc : α → List Value} (hT : SlT Pg t e k) (hE : En enc k) {v x : Value} {xs ys : List α} {rt : TypeId} {cs : Array Bool} {κ : Value → World → R} (h : Sat w F) (j : Nat) (hj : F[j]? = some (slH e k enc v xs)) (hx : Src w x ys.length k (ys.flatMap enc)) (hb : xs.length + ys.length ≤ 2 ^ 30)
    (hκ : ∀ v w', Sat w' (F.set j (slH e k enc v (xs ++ ys))) → Sm w w' → Ok (κ v w') Q) : Ok (rd2 (lenG false Pg .append #[t, t] rt cs [v, x] w) κ) Q :=
  Ok.bind (sl_append' hT hE (h.foc hj) hx hb) fun v w' hq => hκ v w' (Sat.unf hj hq.1) hq.2
theorem go_bs1 {t e k : Nat} {α : Type} {enc : α → List Value} (hT : SlT Pg t e k) (hE : En enc k) (hk : k ≤ 1000) {x : α} {v : Value} (hv : v.cells.toList = enc x) (h : Sat w F) {κ : Value → World → R} (hκ : ∀ nb w', Sat w' (pt nb (enc x) e :: F) → Src w' (sl nb 0 1 1) [x].length k ([x].flatMap enc) → Sm w w' → Ok (κ (sl nb 0 1 1) w') Q) :
    Ok (rd2 (rawV Pg (Instr.buildSlice t 1 #[(0, v)]) w) κ) Q := by
  obtain ⟨i, z, h1, h2, h3, _⟩ := hT.i
  have hl : v.cells.size = k := by rw [← Array.length_toList, hv, hE.len]
  refine Ok.rd2 (slice1_ok (v := v) hT.u h1 h3 (by rw [hl, h2]) (by rw [h2]; exact hT.k0) (by rw [h2]; exact hk)) ?_
  have hs := h.new (l' := enc x) (T' := e) (Ext.push (fun _ => False) w (.cells v.cells e)) (fun _ _ hf => hf) (by have := At.new w v.cells.toList e; rw [hv] at this; simpa [← hv] using this) (Nat.le_refl _)
  refine hκ _ _ hs ?_ (Ext.push (fun _ => False) w _).sm
  have := src_at (o := 0) (n := 1) (k := k) (c := 1) hs.at (by rw [hE.len]; omega)
  rw [List.drop_zero, Nat.one_mul, List.take_of_length_le (by rw [hE.len]; exact Nat.le_refl _)] at this
  simpa using this
theorem go_bs0 {t e k : Nat} {α : Type} {enc : α → List Value} (hT : SlT Pg t e k) (h : Sat w F) {κ : Value → World → R} (hκ : ∀ v w', Sat w' (slH e k enc v ([] : List α) :: F) → Sm w w' → Ok (κ v w') Q) :
    Ok (rd2 (rawV Pg (Instr.buildSlice t 0 #[]) w) κ) Q := by
  obtain ⟨i, z, h1, h2, h3, _⟩ := hT.i
  refine Ok.rd2 (slice0_ok hT.u h1) ?_
  exact hκ _ _ (slH_nil _ (h.ext (Ext.push (fun _ => False) w (.cells #[] e)) (fun _ _ hf => hf))) (Ext.push (fun _ => False) w _).sm
theorem go_pre {t e k : Nat} {α : Type} {enc : α → List Value} (hT : SlT Pg t e k) (hE : En enc k) {v : Value} {xs : List α} {κ : Value → R} (h : Sat w F) (j : Nat) (hj : F[j]? = some (slH e k enc v xs)) {hi : Nat} (hh : hi ≤ xs.length) (hκ : ∀ v', Src w v' (xs.take hi).length k ((xs.take hi).flatMap enc) → Ok (κ v') Q) :
    Ok (rd (slV Pg t v none (some (int hi)) none) κ) Q := by
  obtain ⟨v', h1, h2⟩ := sl_pre hT hE (h.foc hj) hh
  exact Ok.rd h1 (hκ v' (slH_src h2))
theorem go_suf {t e k : Nat} {α : Type} {enc : α → List Value} (hT : SlT Pg t e k) (hE : En enc k) {v : Value} {xs : List α} {κ : Value → R} (h : Sat w F) (j : Nat) (hj : F[j]? = some (slH e k enc v xs)) {lo : Nat} (hh : lo ≤ xs.length) (hκ : ∀ v', Src w v' (xs.drop lo).length k ((xs.drop lo).flatMap enc) → Ok (κ v') Q) :
    Ok (rd (slV Pg t v (some (int lo)) none none) κ) Q := by
  obtain ⟨v', h1, h2⟩ := sl_suf hT hE (h.foc hj) hh
  exact Ok.rd h1 (hκ v' h2)
theorem one_slH {e k : Nat} {α : Type} {enc : α → List Value} {v : Value} {xs : List α} (h : Sat w F) (j : Nat) (hj : F[j]? = some (slH e k enc v xs)) : one v = true := by
  obtain ⟨a, c, rfl, _⟩ := slH_len (h.foc hj)
  rfl
theorem bld112_i (s : ByteArray) (n : Int) : bldV Pg 112 [(0, .string s), (1, int n)] = some (.agg #[.string s, int n]) := by kernel_rfl
theorem bld49_0 : bldV Pg 49 [] = some (.agg #[.slice none 0 0]) := by kernel_rfl
theorem bld49_1 (a : Option Addr) (n c : Nat) : bldV Pg 49 [(0, .slice a n c)] = some (.agg #[.slice a n c]) := by kernel_rfl

/-! ### Put -/

theorem putL_fits {L l1 l2 : List Ent} {key : ByteArray} {b : Bool} {y : V1} (hL : L = l1 ++ l2) (hf : Fits key l1 l2 b) (hs : Srt L) :
    b = decide (hasL L key) ∧ putL L (key, y) = l1 ++ (key, y) :: (if b then l2.drop 1 else l2) ∧ delL L key = l1 ++ (if b then l2.drop 1 else l2) := by
  subst hL
  obtain ⟨h1, h2⟩ := fits_has hf hs
  cases b with
  | true =>
    obtain ⟨e, r, rfl, he⟩ := h1 rfl
    obtain ⟨m1, m2⟩ := srt_mid hs
    rw [he] at m1 m2
    refine ⟨?_, ?_, ?_⟩
    · symm; rw [decide_eq_true_iff]; exact ⟨e, by simp, he⟩
    · rw [put_set (x := e) (e := (key, y)) m1 m2 he]; simp
    · rw [del_one m1 m2 he]; simp
  | false =>
    obtain ⟨h3, h4⟩ := h2 rfl
    have habv : abv l2 key := by
      match l2, h4, (srt_app.1 hs).2.1 with
      | [], _, _ => intro e he; simp at he
      | z :: r, h4, hr =>
        intro e he
        rcases List.mem_cons.1 he with rfl | he
        · exact h4 _ rfl
        · exact kl_tr (h4 z rfl) ((srt_cons.1 hr).1 e he)
    refine ⟨?_, ?_, ?_⟩
    · symm; rw [decide_eq_false_iff_not]; exact h3
    · rw [put_one (e := (key, y)) hf.1 habv]; simp
    · have := del_mid (X := []) hf.1 habv
      simp only [List.append_nil] at this
      rw [this]; simp [delL, lows, upps]

theorem rput_ok {X : Nat} {L : List Ent} {key : ByteArray} {n : Int} (hs : Sat w (rl X L :: F)) (hsr : Srt L) (hb : L.length ≤ 2 ^ 28) :
    Ok (Fn Pg 55 [ptr X 0, .string key, int n] w) fun v w' => v = .bool (decide (¬ hasL L key)) ∧ Sat w' (rl X (putL L (key, vI n)) :: F) ∧ Sm w w' := by
  rw [F55]; unfold S55
  refine Ok.bind (place_ok hs (k := 0) rfl (by omega)) ?_
  rintro v w1 ⟨l1, l2, b, hL, hf, rfl, h1, s1⟩
  obtain ⟨hb1, hp, _⟩ := putL_fits (y := vI n) hL hf hsr
  refine Ok.rd rfl (Ok.rd rfl ?_)
  obtain ⟨lv, h1⟩ := rl_open h1
  refine go_bs0 T47 (enc := encE) h1 fun a w2 h2 s2 => ?_
  refine Ok.rd (nil_ptr _ _) (Ok.rd (fld49_0 _ _) (Ok.rd (ldL h2 1 rfl) ?_))
  have hlen : l1.length ≤ L.length := by rw [hL]; simp
  refine go_pre T47 enE h2 2 rfl hlen fun v3 hv3 => ?_
  have ht : L.take l1.length = l1 := by rw [hL]; simp
  rw [ht] at hv3
  refine go_app T47 enE h2 0 rfl hv3 (by simp; omega) fun a3 w3 h3 s3 => ?_
  refine Ok.rd (bld112_i _ _) ?_
  refine go_bs1 T47 enE (by decide) (x := (key, vI n)) rfl h3 fun nb w4 h4 hv4 s4 => ?_
  refine go_app T47 enE h4 1 rfl hv4 (by simp; omega) fun a5 w5 h5 s5 => ?_
  have h5 : Sat w5 (pt nb (encE (key, vI n)) 112 :: slH 112 2 encE a5 ([] ++ l1 ++ [(key, vI n)]) :: pt X [lv] 49 :: slH 112 2 encE lv L :: F) := h5
  have hdrop : L.drop l1.length = l2 := by rw [hL]; simp
  have fin : ∀ (lo : Nat) (r : List Ent), L.drop lo = r → lo ≤ L.length → putL L (key, vI n) = l1 ++ (key, vI n) :: r → ∀ {κ : World → R}, (∀ w', κ w' = some (.bool !b, w')) → Ok (rd (nilV (ptr X 0)) fun x34 =>
    rd (fldA Pg 49 x34 0) fun x35 => rd (ldV Pg 47 x35 w5) fun x36 => rd (slV Pg 47 x36 (some (int lo)) none none) fun x37 =>
    rd2 (lenG false Pg .append #[47, 47] 47 #[false, false] [a5, x37] w5) fun x38 w39 =>
    rd (nilV (ptr X 0)) fun x40 => rd (fldA Pg 49 x40 0) fun x41 => rd2 (rawU Pg (Instr.storeAt 47 x41 x38) w39) fun x43 w42 => κ w42) fun v w' => v = .bool (decide (¬ hasL L key)) ∧ Sat w' (rl X (putL L (key, vI n)) :: F) ∧ Sm w w' := by
    intro lo r hr hlo hput κ hκ
    refine Ok.rd (nil_ptr _ _) (Ok.rd (fld49_0 _ _) (Ok.rd (ldL h5 2 rfl) ?_))
    refine go_suf T47 enE h5 3 rfl hlo fun v6 hv6 => ?_
    rw [hr] at hv6
    have hrl : r.length ≤ L.length := by rw [← hr, List.length_drop]; omega
    refine go_app T47 enE h5 1 rfl hv6 (by simp; omega) fun a6 w6 h6 s6 => ?_
    refine Ok.rd (nil_ptr _ _) (Ok.rd (fld49_0 _ _) ?_)
    obtain ⟨w7, g7, h7, s7⟩ := stL h6 2 rfl (one_slH h6 1 rfl)
    refine Ok.rd2 g7 ?_
    rw [hκ]
    have h7 : Sat w7 (pt nb (encE (key, vI n)) 112 :: slH 112 2 encE a6 ([] ++ l1 ++ [(key, vI n)] ++ r) :: pt X [a6] 49 :: slH 112 2 encE lv L :: F) := h7
    have h8 := (h7.drop.re [2, 1, 0] (by decide)).drop.sw
    have h8 : Sat w7 (pt X [a6] 49 :: slH 112 2 encE a6 ([] ++ l1 ++ [(key, vI n)] ++ r) :: F) := by
      have := (h7.re [0, 3, 2, 1] (by decide)).drop.drop
      exact this
    refine ⟨_, _, rfl, ?_, rl_mk (lv := a6) ?_, s1.trans (s2.trans (s3.trans (s4.trans (s5.trans (s6.trans s7)))))⟩
    · rw [hb1]; simp
    · have : [] ++ l1 ++ [(key, vI n)] ++ r = putL L (key, vI n) := by rw [hput]; simp
      rw [← this]; exact h8
  cases b with
  | true =>
    obtain ⟨e, r, rfl, _⟩ := (fits_has hf (by rw [← hL]; exact hsr)).1 rfl
    refine Ok.ct rfl (Ok.rd2 (bin_add1 (by omega)) ?_)
    refine fin (l1.length + 1) r (by rw [hL]; simp) (by rw [hL]; simp) (by rw [hp]; simp) fun w' => rfl
  | false =>
    refine Ok.cf rfl ?_
    exact fin l1.length l2 hdrop hlen (by rw [hp]; simp) fun w' => rfl
end Go.Cb
