/-
  The law TreeWalks.
-/
import Derived.Test.YtialecgadoepjaaWq
set_option linter.unusedVariables false
set_option linter.unusedSimpArgs false
namespace Go.Cb
open Classical
variable {w : World} {F : List HP} {Q Q' : Value → World → Prop}

theorem add_zB {key : ByteArray} (hk : key.size ≤ 2 ^ 62) : binG false Pg .add 9 (.tmp 0) (.const .nilFunc) (.string key) (.string zB) w = some (.string (key ++ zB), w) := by
  unfold binG binV
  have h1 : ¬ ((key.size + zB.size : Nat) : Int) > IntKind.i64.max := by
    have h2 : zB.size = 1 := rfl
    have h3 : IntKind.i64.max = 9223372036854775807 := rfl
    rw [h2, h3]; omega
  simp only [h1, if_false]

def tyB (P : Program) (t : TypeId) (k : Nat) : Bool :=
  match P.info? t with
  | some i => Nat.beq i.size k && (match i.zero with
    | some z => Nat.beq z.cells.size k
    | none => false)
  | none => false
theorem ty_of {t k : Nat} (h : tyB Pg t k = true) : ∃ i z, Pg.info? t = some i ∧ i.size = k ∧ i.zero = some z ∧ z.cells.size = k := by
  unfold tyB at h
  split at h
  · rename_i i hi
    simp only [Bool.and_eq_true] at h
    obtain ⟨h1, h⟩ := h
    split at h
    · rename_i z hz
      exact ⟨i, z, hi, Nat.eq_of_beq_eq_true h1, hz, Nat.eq_of_beq_eq_true h⟩
    · cases h
  · cases h
/-- a struct laid aside. -/
theorem go_tmpG {t k : Nat} (hT : tyB Pg t k = true) {cs : Array Value} (hk : cs.size = k) (h1' : ∀ v ∈ cs.toList, one v = true) {κ : Value → Value → World → R} (h : Sat w F) (hκ : ∀ nb w', Sat w' (pt nb cs.toList t :: F) → Sm w w' → Ok (κ (ptr nb 0) undef w') Q) :
    Ok (rd2 (rawV Pg (Instr.alloc t true (.tuple #[])) w) fun x w' => rd2 (rawU Pg (Instr.storeAt t x (.agg cs)) w') fun u w'' => κ x u w'') Q := by
  obtain ⟨i, z, h1, h2, h3, h4⟩ := ty_of hT
  refine Ok.rd2 (alloc_ok h1 h3) ?_
  have s1 := h.new (l' := z.cells.toList) (T' := t) (Ext.push (fun _ => False) w (.cells z.cells t)) (fun _ _ hf => hf) (by have := At.new w z.cells.toList t; simpa using this) (Nat.le_refl _)
  obtain ⟨w', g1, g2, g3⟩ := storeAt_ok (P := Pg) h1 s1.hp (k := 0) rfl (o := 0) (v := .agg cs) (by rw [h2]; exact hk) (by rw [Array.length_toList, h4, h2]; omega) (fun x hx => h1' x (by simpa [Value.cells] using hx))
  refine Ok.rd2 g1 (hκ _ _ ?_ ((Ext.push (fun _ => False) w _).sm.trans g3.sm))
  refine s1.put g3 (fun _ _ hd => hd) ?_ (.inl rfl)
  have := g2.get (k := 0) rfl
  have hl : lay z.cells.toList 0 (Value.agg cs).cells.toList = cs.toList := by
    have hz2 : z.cells.toList.length = k := by rw [Array.length_toList, h4]
    have hc : (Value.agg cs).cells.toList = cs.toList := rfl
    have hc2 : cs.toList.length = k := by rw [Array.length_toList, hk]
    rw [hc, lay_eq _ _ _ (by rw [hz2, hc2]; omega)]
    rw [List.drop_eq_nil_of_le (by rw [hz2, hc2]; omega)]
    simp
  rw [hl] at this
  exact this

/-- the same entry. -/
theorem eg40 : Pg.eqGuardType Pg.depth 40 = false := by kernel_rfl
theorem ev40 (s s' : ByteArray) (n n' : Int) : eqV Pg 10000 40 (.agg #[.string s, int n]) (.agg #[.string s', int n']) = cond (s == s') (cond (n == n') (some true) (some false)) (some false) := by kernel_rfl
theorem bin_eneq {st : Bool} {ox oy : Operand} {s : ByteArray} {n : Int} {w : World} : binG st Pg .neq 40 ox oy (.agg #[.string s, int n]) (.agg #[.string s, int n]) w = some (.bool false, w) := by
  have h : cmpV Pg .neq 40 (.agg #[.string s, int n]) (.agg #[.string s, int n]) = some (.bool false) := by
    unfold cmpV
    have hss : (s == s) = true := by
      obtain ⟨⟨x⟩⟩ := s
      show ((⟨x⟩ : Array UInt8) == ⟨x⟩) = true
      simp
    simp only [eg40, cond_false, ev40, cmpO, hss]
    simp
  unfold binG
  rw [h]; rfl

/-- is this piece the last? -/
theorem brk_ok {c k : Nat} {f t : ByteArray} {b : Bool} (hs : Sat w F) (hk : F[k]? = some (pt c (spC f t) 36)) {κ : Value → Value → Value → Value → Value → Value → Value → Value → Value → Value → Value → World → R}
    (hκ : ∀ y1 y2 y3 y4 y5 y6 y7 y8 y9 y10, Ok (κ y1 y2 y3 y4 y5 y6 y7 y8 y9 y10 (.bool (b || (!decide (t = noB) && !kl f t))) w) Q) :
    Ok (rd2 (gate (.bool b) false (fun _ => rd (fldA Pg 36 (ptr c 0) 1) fun y => some (y, w)) w) fun x1 w1 => rd2 (gate (.bool b) false (fun _ => rd (ldV Pg 9 x1 w1) fun y => some (y, w1)) w1) fun x2 w2 =>
      rd2 (gate (.bool b) false (fun _ => rd2 (binG false Pg .neq 9 (.tmp 0) (.const .nilFunc) x2 (.string { data := #[] }) w2) fun y w => some (y, w)) w2) fun x3 w3 => rd2 (gate (.bool b) false (fun _ => some (x3, w3)) w3) fun x4 w4 =>
      rd2 (gate x4 true (fun _ => rd (fldA Pg 36 (ptr c 0) 0) fun y => some (y, w4)) w4) fun x5 w5 => rd2 (gate x4 true (fun _ => rd (ldV Pg 9 x5 w5) fun y => some (y, w5)) w5) fun x6 w6 =>
      rd2 (gate x4 true (fun _ => rd (fldA Pg 36 (ptr c 0) 1) fun y => some (y, w6)) w6) fun x7 w7 => rd2 (gate x4 true (fun _ => rd (ldV Pg 9 x7 w7) fun y => some (y, w7)) w7) fun x8 w8 =>
      rd2 (gate x4 true (fun _ => rd2 (binG false Pg .geq 9 (.tmp 0) (.tmp 0) x6 x8 w8) fun y w => some (y, w)) w8) fun x9 w9 => rd2 (gate (.bool b) false (fun _ => rd (pickV x4 x9 (.bool false)) fun y => some (y, w9)) w9) fun x10 w10 =>
      rd (pickV (.bool b) (.bool true) x10) fun x11 => κ x1 x2 x3 x4 x5 x6 x7 x8 x9 x10 x11 w10) Q := by
  cases b with
  | true =>
    refine Ok.f0 (Ok.f0 (Ok.f0 (Ok.f0 ?_)))
    refine Ok.rd2 (v := undef) (w := w) rfl (Ok.rd2 (v := undef) (w := w) rfl (Ok.rd2 (v := undef) (w := w) rfl (Ok.rd2 (v := undef) (w := w) rfl (Ok.rd2 (v := undef) (w := w) rfl ?_))))
    refine Ok.f0 (Ok.rd (pick_t _ _) ?_)
    exact hκ _ _ _ _ _ _ _ _ _ _
  | false =>
    refine f_ok rfl (by rw [fld36_1]; rfl) (f_ok rfl (by rw [ldsp1 hs k hk]; rfl) (f_ok rfl (gr2 bin_sneq) (f_ok rfl rfl ?_)))
    cases ht : !decide (t = noB) with
    | true =>
      refine t_ok rfl (by rw [fld36_0]; rfl) (t_ok rfl (by rw [ldsp0 hs k hk]; rfl) (t_ok rfl (by rw [fld36_1]; rfl) (t_ok rfl (by rw [ldsp1 hs k hk]; rfl) (t_ok rfl (gr2 bin_sgeq) ?_))))
      refine f_ok rfl (by rw [pick_t]; rfl) (pk_f rfl ?_)
      have := hκ (ptr c (0 + 1)) (.string t) (.bool true) (.bool true) (ptr c 0) (.string f) (ptr c (0 + 1)) (.string t) (.bool !kl f t) (.bool !kl f t)
      rw [ht] at this
      exact this
    | false =>
      refine t_no rfl (t_no rfl (t_no rfl (t_no rfl (t_no rfl ?_))))
      refine f_ok rfl (by rw [pick_f]; rfl) (pk_f rfl ?_)
      have := hκ (ptr c (0 + 1)) (.string t) (.bool false) (.bool false) undef undef undef undef undef (.bool false)
      rw [ht] at this
      exact this

/-! ### Each entry -/

theorem wlk3 {X : HP} {T s4 : Nat} {L W : List Ent} {f t : ByteArray} {wv pv : Value} (hsrt : Srt L) (hI : Ints L) (hk : ∀ e ∈ L, e.1.size ≤ 60) (hL : L.length ≤ 200) (hW : W = filB L f t) :
    ∀ (j i : Nat) (e : Env) (w : World) (F : List HP), i + j = W.length → Sat w (tree T L :: slH 40 2 encE pv W :: slH 40 2 encE wv W :: pt s4 (spC f t) 36 :: X :: F) →
    e 4 = ptr s4 0 → e 7 = ptr T 0 → e 9 = wv → e 10 = pv → e 14 = int i → e 203 = undef →
    Ok (evalLoop (cx4 (Fn Pg) (Rnd Pg)) (cdA Go.Proofs.Try.f4 [1, 1, 1, 1, 1, 1, 1, 1, 1, 0, 1, 0, 0]) (K4_6 (Fn Pg) (Rnd Pg)) e w) fun x w' => x = .bool true ∧ Sat w' (X :: F) ∧ Sm w w' := by
  have hWL : W.length ≤ L.length := by rw [hW]; exact List.length_filter_le _ _
  intro j
  induction j with
  | zero =>
    intro i e w F hij hs e4 e7 e9 e10 e14 e203
    rw [S4_L3_eq]; unfold S4_L3
    rw [e4, e7, e9, e10, e14, e203]
    refine Ok.rd2 (sl_len T37 (hs.foc (k := 2) rfl) w) (Ok.rd2 bin_lss (Ok.cf (by simp; omega) ?_))
    refine Ok.bind (grows_ok hs) ?_
    rintro x w1 ⟨rfl, g1, g2⟩
    exact ⟨_, _, rfl, rfl, g1.drop.drop.drop.drop, g2⟩
  | succ j ih =>
    intro i e w F hij hs e4 e7 e9 e10 e14 e203
    have hi : i < W.length := by omega
    obtain ⟨y, hy⟩ : ∃ y, W[i]? = some y := ⟨_, List.getElem?_eq_getElem hi⟩
    have hyW : y ∈ W := List.mem_of_getElem? hy
    have hyL : y ∈ L := by rw [hW] at hyW; exact (List.mem_filter.1 hyW).1
    have hyin : inB f t y.1 = true := by rw [hW] at hyW; exact (List.mem_filter.1 hyW).2
    obtain ⟨n, hn⟩ := hI y hyL
    have hg := get_some hsrt hyL
    rw [S4_L3_eq]; unfold S4_L3
    rw [e4, e7, e9, e10, e14, e203]
    refine Ok.rd2 (sl_len T37 (hs.foc (k := 2) rfl) w) (Ok.rd2 bin_lss (Ok.ct (by simp; omega) ?_))
    obtain ⟨b1, o1, g1, _, g2, _⟩ := ix_l hs 2 rfl hy
    refine Ok.rd g1 (Ok.rd (fld40_0 _ _) (Ok.rd g2 ?_))
    refine Ok.bind (get_ok hs) ?_
    rintro x w1 ⟨hx, h1, s1⟩
    have hx : x = .tuple #[int n, .bool true] := by rw [hx, hg, hn]; rfl
    subst hx
    have hd := h1.drw
    obtain ⟨b2, o2, p1, p2, _⟩ := ix_l hd 1 rfl hy
    obtain ⟨b3, o3, q1, q2, q3, q4⟩ := ix_l hd 2 rfl hy
    rw [hn] at q4
    have hag : aggE y = .agg #[.string y.1, int n] := by rw [aggE, hn]; rfl
    rw [hag] at p2 q2
    refine Ok.rd rfl (Ok.rd rfl (Ok.rd p1 (Ok.rd p2 (Ok.rd q1 (Ok.rd q2 (Ok.rd2 bin_eneq ?_))))))
    have hyf : kl y.1 f = false := by
      cases h : kl y.1 f with
      | false => rfl
      | true => simp [inB, h] at hyin
    refine f_ok rfl rfl (f_ok rfl (by rw [fld36_0]; rfl) (f_ok rfl (by rw [ldsp0 hd 3 rfl]; rfl) (f_ok rfl (gr2 bin_slss) (pk_f rfl ?_))))
    refine f_ok hyf (by rw [fld36_1]; rfl) (f_ok hyf (by rw [ldsp1 hd 3 rfl]; rfl) (f_ok hyf (gr2 bin_sneq) (f_ok hyf rfl ?_)))
    have hgo : ∀ {Q : Value → World → Prop} {κ : Value → Value → Value → Value → Value → World → R}, (∀ y1 y2 y3 y4, Ok (κ y1 y2 y3 y4 (.bool false) (drw w1)) Q) → Ok (rd2 (gate (.bool !decide (t = noB)) true (fun _ =>  some (.string y.1, drw w1)) (drw w1)) fun x143 _ =>
        rd2 (gate (.bool !decide (t = noB)) true (fun _ => rd (fldA Pg 36 (ptr s4 0) 1) fun x145 => some (x145, (drw w1))) (drw w1)) fun x146 _ =>
        rd2 (gate (.bool !decide (t = noB)) true (fun _ => rd (ldV Pg 9 x146 (drw w1)) fun x148 => some (x148, (drw w1))) (drw w1)) fun x149 _ =>
        rd2 (gate (.bool !decide (t = noB)) true (fun _ => rd2 (binG true Pg .geq 9 (.tmp 0) (.tmp 0) x143 x149 (drw w1)) fun x151 w152 => some (x151, w152)) (drw w1)) fun x153 _ =>
        rd2 (gate (.bool (kl y.1 f)) false (fun _ => rd (pickV (.bool !decide (t = noB)) x153 (.bool false)) fun x155 => some (x155, (drw w1))) (drw w1)) fun x156 w157 => κ x143 x146 x149 x153 x156 w157) Q := by
      intro Q κ hκ
      cases ht : !decide (t = noB) with
      | false =>
        refine t_no rfl (t_no rfl (t_no rfl (t_no rfl (f_ok hyf (by rw [pick_f]; rfl) ?_))))
        exact hκ _ _ _ _
      | true =>
        have hyt : kl y.1 t = true := by
          have h0 : decide (t = ByteArray.empty) = false := by
            have : decide (t = noB) = false := by simpa using ht
            exact this
          unfold inB at hyin
          rw [hyf, h0] at hyin
          simpa using hyin
        refine t_ok rfl rfl (t_ok rfl (by rw [fld36_1]; rfl) (t_ok rfl (by rw [ldsp1 hd 3 rfl]; rfl) (t_ok rfl (gr2 bin_sgeq) ?_)))
        rw [hyt]
        refine f_ok hyf (by rw [pick_t]; rfl) ?_
        exact hκ _ _ _ _
    refine hgo fun y1 y2 y3 y4 => ?_
    refine pk_f hyf (f_ok rfl rfl (f_ok rfl (v := .bool false) (w' := drw w1) rfl (pk_f rfl ?_)))
    refine f_ok rfl rfl (f_ok rfl rfl (f_ok rfl rfl (f_ok rfl (by rw [q1]; rfl) (f_ok rfl (by rw [fld40_1]; rfl) (f_ok rfl (by rw [q4]; rfl) (f_ok rfl (gr2 bin_neq) (pk_f rfl ?_)))))))
    refine Ok.cf (by simp) (Ok.rd2 bin_gtr ?_)
    by_cases h0 : i = 0
    · refine Ok.cf (by simp; omega) (Ok.rd2 (bin_add1 (by omega)) ?_)
      refine Ok.mono (ih (i + 1) _ (drw w1) F (by omega) hd ?_ ?_ ?_ ?_ ?_ ?_) ?_
      · exact e4
      · exact e7
      · exact e9
      · exact e10
      · rfl
      · exact e203
      · rintro x w2 ⟨m1, m2, m3⟩
        exact ⟨m1, m2, s1.trans m3.drw⟩
    · obtain ⟨x, hx⟩ : ∃ x, W[i - 1]? = some x := ⟨_, List.getElem?_eq_getElem (by omega)⟩
      have hxL : x ∈ L := by have := List.mem_of_getElem? hx; rw [hW] at this; exact (List.mem_filter.1 this).1
      have hsplit : filB L f t = W.take (i - 1) ++ x :: y :: W.drop (i + 1) := by
        rw [← hW]
        obtain ⟨l1, rfl⟩ := List.getElem?_eq_some_iff.1 hx
        obtain ⟨l2, rfl⟩ := List.getElem?_eq_some_iff.1 hy
        have e1 := List.drop_eq_getElem_cons l1
        have e2 := List.drop_eq_getElem_cons l2
        rw [show i - 1 + 1 = i by omega] at e1
        rw [← e2, ← e1, List.take_append_drop]
      have haft := aft_next hsrt hsplit
      obtain ⟨b4, o4, r1, _, r2, _⟩ := ix_l hd 2 rfl hx
      refine Ok.ct (by simp; omega) (Ok.rd2 (bin_sub1 (by omega) (by omega)) ?_)
      refine Ok.rd r1 (Ok.rd (fld40_0 _ _) (Ok.rd r2 ?_))
      refine Ok.bind (after_ok (by have := hk x hxL; omega) hd) ?_
      rintro v w2 ⟨hv, h2, s2⟩
      rw [haft] at hv
      subst hv
      refine Ok.rd rfl (Ok.rd rfl (Ok.rd (un_not _) ?_))
      refine f_ok rfl rfl (f_ok rfl rfl (f_ok rfl (gr2 bin_sneq) (pk_f rfl ?_)))
      refine Ok.cf (by simp) (Ok.rd2 (bin_add1 (by omega)) ?_)
      refine Ok.mono (ih (i + 1) _ w2 F (by omega) h2 ?_ ?_ ?_ ?_ ?_ ?_) ?_
      · exact e4
      · exact e7
      · exact e9
      · exact e10
      · rfl
      · exact e203
      · rintro x w2 ⟨m1, m2, m3⟩
        exact ⟨m1, m2, s1.trans (s2.drw.trans m3)⟩

/-! ### Piece by piece -/

theorem wlk2 {X : HP} {T s4 c11 : Nat} {L W : List Ent} {f t : ByteArray} {m : Int} {wv : Value} (hsrt : Srt L) (hI : Ints L) (hk : ∀ e ∈ L, e.1.size ≤ 60) (hL : L.length ≤ 200) (hW : W = filB L f t) (hm : 1 ≤ m) :
    ∀ (j i n : Nat) (f' : ByteArray) (pv : Value) (e : Env) (w : World) (F : List HP), i + j = L.length + 1 → i ≤ n → Pcs L W t f' n → Sat w (tree T L :: slH 40 2 encE pv (W.take n) :: slH 40 2 encE wv W :: pt s4 (spC f t) 36 :: pt c11 (spC f' t) 36 :: X :: F) →
    e 2 = int m → e 4 = ptr s4 0 → e 7 = ptr T 0 → e 9 = wv → e 10 = pv → e 11 = ptr c11 0 → e 12 = int i → e 203 = undef →
    Ok (evalLoop (cx4 (Fn Pg) (Rnd Pg)) (cdA Go.Proofs.Try.f4 [1, 1, 1, 1, 1, 1, 1, 0, 1, 0, 0]) (K4_4 (Fn Pg) (Rnd Pg)) e w) fun x w' => x = .bool true ∧ Sat w' (X :: F) ∧ Sm w w' := by
  have hWL : W.length ≤ L.length := by rw [hW]; exact List.length_filter_le _ _
  intro j
  induction j with
  | zero =>
    intro i n f' pv e w F hij hin hp
    have := hp.le
    omega
  | succ j ih =>
    intro i n f' pv e w F hij hin hp hs e2 e4 e7 e9 e10 e11 e12 e203
    have hnW := hp.le
    obtain ⟨q1, q2, q3, q4, q5⟩ := pcs_step hsrt hW hp hm
    have fin : ∀ (pv : Value) (e : Env) (w1 : World) (f'' : ByteArray) (n' : Nat), n' = W.length → Sm w w1 → Sat w1 (tree T L :: slH 40 2 encE pv (W.take n') :: slH 40 2 encE wv W :: pt s4 (spC f t) 36 :: pt c11 (spC f'' t) 36 :: X :: F) →
        e 4 = ptr s4 0 → e 7 = ptr T 0 → e 9 = wv → e 10 = pv → e 14 = int 0 → e 203 = undef →
        Ok (evalLoop (cx4 (Fn Pg) (Rnd Pg)) (cdA Go.Proofs.Try.f4 [1, 1, 1, 1, 1, 1, 1, 1, 1, 0, 1, 0, 0]) (K4_6 (Fn Pg) (Rnd Pg)) e w1) fun x w' => x = .bool true ∧ Sat w' (X :: F) ∧ Sm w w' := by
      intro pv e w1 f'' n' hn s1 h1 a4 a7 a9 a10 a14 a203
      rw [hn, List.take_length] at h1
      have h2 : Sat w1 (tree T L :: slH 40 2 encE pv W :: slH 40 2 encE wv W :: pt s4 (spC f t) 36 :: X :: F) := (h1.re [4, 0, 1, 2, 3] (by decide)).drop
      refine Ok.mono (wlk3 hsrt hI hk hL hW W.length 0 e w1 F (by omega) h2 a4 a7 a9 a10 a14 a203) ?_
      rintro x w2 ⟨m1, m2, m3⟩
      exact ⟨m1, m2, s1.trans m3⟩
    rw [S4_L2_eq]; unfold S4_L2
    rw [e2, e7, e9, e10, e11, e12, e203]
    refine Ok.rd2 (len_ok hs) (Ok.rd2 bin_leq (Ok.ct (by simp; omega) ?_))
    refine Ok.rd (ldsp hs 4 rfl) ?_
    refine Ok.bind (twalk_ok hs (by omega)) ?_
    rintro qv w1 ⟨h1, s1⟩
    have h1 : Sat w1 (slH 40 2 encE qv (walkL L f' t m) :: tree T L :: slH 40 2 encE pv (W.take n) :: slH 40 2 encE wv W :: pt s4 (spC f t) 36 :: pt c11 (spC f' t) 36 :: X :: F) := h1
    have hml : (m.toNat : Int) = m := Int.toNat_of_nonneg (by omega)
    refine Ok.rd2 (sl_len T37 h1 w1) (Ok.rd2 bin_gtr (Ok.cf (by simp; omega) ?_))
    have hlt : (W.take n).length ≤ W.length := by rw [List.length_take]; omega
    refine go_app T37 enE h1 2 rfl (slH_src h1) (by omega) fun av w2 h2 s2 => ?_
    rw [q3] at h2
    have h2 : Sat w2 (slH 40 2 encE qv (walkL L f' t m) :: tree T L :: slH 40 2 encE av (W.take (n + (walkL L f' t m).length)) :: slH 40 2 encE wv W :: pt s4 (spC f t) 36 :: pt c11 (spC f' t) 36 :: X :: F) := h2
    refine Ok.rd2 (sl_len T37 h2 w2) (Ok.rd2 bin_gtr ?_)
    rcases q4 with ⟨hp0, hn⟩ | ⟨p0, x, hpx, hp'⟩
    · refine Ok.cf (by rw [hp0]; simp) ?_
      refine Ok.rd2 (sl_len T37 h2 w2) (Ok.rd2 bin_lss ?_)
      refine brk_ok (h2) (k := 5) rfl fun y1 y2 y3 y4 y5 y6 y7 y8 y9 y10 => ?_
      have hb : decide (((walkL L f' t m).length : Int) < m) = true := decide_eq_true (by rw [hp0]; simp; omega)
      rw [hb, Bool.true_or]
      refine Ok.ct rfl ?_
      refine Ok.rd2 (sl_len T37 (h2.foc (k := 2) rfl) w2) (Ok.rd2 (sl_len T37 (h2.foc (k := 3) rfl) w2) (Ok.rd2 bin_neq ?_))
      have hnn : n + (walkL L f' t m).length = W.length := by rw [hp0]; simp; exact hn
      rw [hnn, List.take_length]
      refine Ok.cf (by simp) ?_
      rw [hnn] at h2
      refine fin av _ w2 f' W.length rfl (s1.trans s2) h2.drop ?_ ?_ ?_ ?_ ?_ ?_
      · exact e4
      · exact e7
      · exact e9
      · rfl
      · rfl
      · exact e203
    · have hpl : (walkL L f' t m).length = p0.length + 1 := by rw [hpx]; simp
      have hxW : x ∈ W := by
        have : x ∈ W.take (n + (walkL L f' t m).length) := by rw [← q3, hpx]; simp
        exact List.mem_of_mem_take this
      have hxL : x ∈ L := by rw [hW] at hxW; exact (List.mem_filter.1 hxW).1
      refine Ok.ct (by rw [hpl]; simp) ?_
      refine Ok.rd2 (sl_len T37 h2 w2) (Ok.rd2 (bin_sub1 (by omega) (by omega)) ?_)
      obtain ⟨b, o, g1, _, g2, _⟩ := ix_l h2 0 rfl (i := p0.length) (e := x) (by rw [hpx]; simp)
      rw [show (walkL L f' t m).length - 1 = p0.length by omega]
      refine Ok.rd g1 (Ok.rd (fld40_0 _ _) (Ok.rd g2 (Ok.rd2 (add_zB (by have := hk x hxL; omega)) (Ok.rd (fld36_0 _ _) ?_))))
      obtain ⟨w3, m3, h3, s3⟩ := st_one (P := Pg) (t := 9) (sz_of (by kernel_rfl)) h2 5 rfl (o := 0) (v := .string (x.1 ++ zB)) (by simp) rfl
      refine Ok.rd2 m3 ?_
      have h3 : Sat w3 (slH 40 2 encE qv (walkL L f' t m) :: tree T L :: slH 40 2 encE av (W.take (n + (walkL L f' t m).length)) :: slH 40 2 encE wv W :: pt s4 (spC f t) 36 :: pt c11 (spC (x.1 ++ zB) t) 36 :: X :: F) := h3
      refine Ok.rd2 (sl_len T37 h3 w3) (Ok.rd2 bin_lss ?_)
      refine brk_ok h3 (k := 5) rfl fun y1 y2 y3 y4 y5 y6 y7 y8 y9 y10 => ?_
      refine Ok.ci (fun hb => ?_) (fun hb => ?_)
      · have hnn : n + (walkL L f' t m).length = W.length := by
          rcases Bool.or_eq_true _ _ ▸ hb with hb | hb
          · have := of_decide_eq_true hb
            exact q5 (by omega)
          · have hb := Bool.and_eq_true _ _ ▸ hb
            have h8 : filB L (x.1 ++ zB) t = [] := fil_over (by simpa using hb.1) (by simpa using hb.2)
            have h9 := hp'.rest
            rw [h8] at h9
            have h10 := congrArg List.length h9
            rw [List.length_drop] at h10
            have := hp'.le
            simp at h10
            omega
        refine Ok.rd2 (sl_len T37 (h3.foc (k := 2) rfl) w3) (Ok.rd2 (sl_len T37 (h3.foc (k := 3) rfl) w3) (Ok.rd2 bin_neq ?_))
        rw [hnn, List.take_length]
        refine Ok.cf (by simp) ?_
        rw [hnn] at h3
        refine fin av _ w3 _ W.length rfl (s1.trans (s2.trans s3)) h3.drop ?_ ?_ ?_ ?_ ?_ ?_
        · exact e4
        · exact e7
        · exact e9
        · rfl
        · rfl
        · exact e203
      · refine Ok.rd2 (bin_add1 (by omega)) ?_
        refine Ok.mono (ih (i + 1) _ _ av _ w3 F (by omega) (by omega) hp' h3.drop ?_ ?_ ?_ ?_ ?_ ?_ ?_ ?_) ?_
        · exact e2
        · exact e4
        · exact e7
        · exact e9
        · rfl
        · exact e11
        · rfl
        · exact e203
        · rintro x w4 ⟨m1, m2, m4⟩
          exact ⟨m1, m2, s1.trans (s2.trans (s3.trans m4))⟩

/-! ### The acts -/

theorem fld28_0' (a : Addr) : fldA Pg 28 (.pointer (some a)) 0 = some (.pointer (some (a.add 0))) := by kernel_rfl
theorem fld28_2' (a : Addr) : fldA Pg 28 (.pointer (some a)) 2 = some (.pointer (some (a.add 2))) := by kernel_rfl
theorem act_parts {p : Addr} {a : Act} (h : ldV Pg 28 (.pointer (some p)) w = some (aggA a)) : ldV Pg 3 (.pointer (some (p.add 0))) w = some (int a.1) ∧ ldV Pg 9 (.pointer (some (p.add 1))) w = some (.string a.2.1) ∧ ldV Pg 3 (.pointer (some (p.add 2))) w = some (int a.2.2) := by
  obtain ⟨i', z, hi', hs, _⟩ := T22.i
  rw [ldV_ag a28' hi', hs] at h
  obtain ⟨l, hl, he⟩ := Option.map_eq_some_iff.1 h
  have hl2 : l = [int a.1, .string a.2.1, int a.2.2] := by
    simp only [Value.agg.injEq] at he
    have := congrArg Array.toList he
    simpa using this
  subst hl2
  simp only [cellsAt, Option.bind_eq_some_iff, Option.map_eq_some_iff] at hl
  obtain ⟨v0, h0, l1, ⟨v1, h1, l2, ⟨v2, h2, l3, h3, rfl⟩, rfl⟩, he⟩ := hl
  simp at he
  obtain ⟨rfl, rfl, rfl, _⟩ := he
  exact ⟨(ldV_sc a3 _ _).trans h0, (ldV_sc a9 _ _).trans h1, (ldV_sc a3 _ _).trans h2⟩

/-- keys that are short. -/
def Shk (L : List Ent) : Prop := ∀ e ∈ L, e.1.size ≤ 60
theorem shk_put {L : List Ent} (h : Shk L) {k : ByteArray} (y : V1) (hk : k.size ≤ 60) : Shk (putL L (k, y)) := by
  intro e he
  unfold putL at he
  rcases List.mem_append.1 he with he | he
  · exact h e (List.mem_filter.1 he).1
  · rcases List.mem_cons.1 he with rfl | he
    · exact hk
    · exact h e (List.mem_filter.1 he).1
theorem del_mem {L : List Ent} {k : ByteArray} : ∀ e ∈ delL L k, e ∈ L := by
  intro e he
  unfold delL at he
  rcases List.mem_append.1 he with he | he
  · exact (List.mem_filter.1 he).1
  · exact (List.mem_filter.1 he).1

theorem wlk1 {v : Value} {acts : List Act} {X : HP} {f t : ByteArray} {m : Int} {s4 : Nat} (hm : 1 ≤ m) (hX : ∀ {w : World} {F : List HP} (k : Nat), Sat w F → F[k]? = some X → ActsF v acts w) (h200 : acts.length ≤ 200) (h60 : ∀ a ∈ acts, a.2.1.size ≤ 60) :
    ∀ (j i T : Nat) (L : List Ent) (e : Env) (w : World) (F : List HP), i + j = acts.length → L.length ≤ i → Ints L → Shk L → Sat w (tree T L :: pt s4 (spC f t) 36 :: X :: F) →
    e 0 = v → e 2 = int m → e 4 = ptr s4 0 → e 7 = ptr T 0 → e 8 = int i → e 203 = undef →
    Ok (evalLoop (cx4 (Fn Pg) (Rnd Pg)) (cdA Go.Proofs.Try.f4 [1, 1, 1, 0, 1, 0, 0]) (K4_2 (Fn Pg) (Rnd Pg)) e w) fun x w' => x = .bool true ∧ Sat w' (X :: F) ∧ Sm w w' := by
  intro j
  induction j with
  | zero =>
    intro i T L e w F hij hL hI hS hs e0 e2 e4 e7 e8 e203
    have hf := hX 2 hs rfl
    have hsrt : Srt L := by obtain ⟨_, _, _, _, _, _, h4, _⟩ := tree_open hs; exact h4
    rw [S4_L1_eq]; unfold S4_L1
    rw [e0, e4, e7, e8]
    refine Ok.rd2 (hf.len _ _ _ _) (Ok.rd2 bin_lss (Ok.cf (by simp; omega) ?_))
    refine Ok.rd (ldsp hs 1 rfl) ?_
    refine Ok.bind (twalk_ok hs (by omega)) ?_
    rintro wv w1 ⟨h1, s1⟩
    have hWL : (filB L f t).length ≤ L.length := List.length_filter_le _ _
    have hww : walkL L f t 1000 = filB L f t := by
      rw [walk_fil]
      exact List.take_of_length_le (by show _ ≤ 1000; omega)
    rw [hww] at h1
    refine Ok.rd (ldsp h1 2 rfl) ?_
    refine go_tmpG (by kernel_rfl) (k := 2) (cs := #[.string f, .string t]) rfl (by simp; exact ⟨rfl, rfl⟩) h1 fun c11 w2 h2 s2 => ?_
    have h2 : Sat w2 (pt c11 (spC f t) 36 :: slH 40 2 encE wv (filB L f t) :: tree T L :: pt s4 (spC f t) 36 :: X :: F) := h2
    have h3 := (slH_nil (T := 40) (k := 2) (enc := encE) none h2).re [3, 0, 2, 4, 1, 5] (by decide)
    refine Ok.mono (wlk2 hsrt hI hS (by omega) rfl hm (L.length + 1) 0 0 f (.slice none 0 0) _ w2 F (by omega) (Nat.le_refl _) ⟨Nat.zero_le _, by simp⟩ h3 ?_ ?_ ?_ ?_ ?_ ?_ ?_ ?_) ?_
    · exact e2
    · exact e4
    · exact e7
    · rfl
    · rfl
    · rfl
    · rfl
    · exact e203
    · rintro x w3 ⟨m1, m2, m3⟩
      exact ⟨m1, m2, s1.trans (s2.trans m3)⟩
  | succ j ih =>
    intro i T L e w F hij hL hI hS hs e0 e2 e4 e7 e8 e203
    have hf := hX 2 hs rfl
    have hsrt : Srt L := by obtain ⟨_, _, _, _, _, _, h4, _⟩ := tree_open hs; exact h4
    have hi : i < acts.length := by omega
    obtain ⟨p, x1, x2, _⟩ := hf.at_ i _ (List.getElem?_eq_getElem hi)
    have hka := h60 acts[i] (List.getElem_mem hi)
    rw [S4_L1_eq]; unfold S4_L1
    rw [e0, e4, e7, e8]
    obtain ⟨p0, p1, p2⟩ := act_parts x2
    refine Ok.rd2 (hf.len _ _ _ _) (Ok.rd2 bin_lss (Ok.ct (by simp; omega) ?_))
    refine Ok.rd x1 (Ok.rd (fld28_0' _) (Ok.rd p0 (Ok.rd2 bin_leq ?_)))
    refine Ok.ci (fun _ => ?_) (fun _ => ?_)
    · have hfd := hX 2 hs.drw rfl
      obtain ⟨p', y1, y2, _⟩ := hfd.at_ i _ (List.getElem?_eq_getElem hi)
      have : p' = p := by
        rw [x1] at y1
        simpa using y1.symm
      subst this
      obtain ⟨d0, d1, d2⟩ := act_parts y2
      refine Ok.rd x1 (Ok.rd (fld28_1' _) (Ok.rd d1 (Ok.rd x1 (Ok.rd (fld28_2' _) (Ok.rd d2 ?_)))))
      refine Ok.bind (put_ok (y := vI acts[i].2.2) hs.drw (by omega) (bld40_i _ _)) ?_
      rintro x w1 ⟨_, h1, s1⟩
      refine Ok.rd2 (bin_add1 (by omega)) ?_
      have hpl := put_le hsrt (acts[i].2.1, vI acts[i].2.2)
      refine Ok.mono (ih (i + 1) T _ _ w1 F (by omega) (by omega) (ints_put hI _ _) (shk_put hS _ hka) h1 ?_ ?_ ?_ ?_ ?_ ?_) ?_
      · exact e0
      · exact e2
      · exact e4
      · exact e7
      · rfl
      · exact e203
      · rintro x w3 ⟨m1, m2, m3⟩
        exact ⟨m1, m2, s1.drw.trans m3⟩
    · refine Ok.rd x1 (Ok.rd (fld28_1' _) (Ok.rd p1 ?_))
      refine Ok.bind (delete_ok hs (by omega)) ?_
      rintro x w1 ⟨_, h1, s1⟩
      refine Ok.rd2 (bin_add1 (by omega)) ?_
      have hdl := del_le L hsrt acts[i].2.1
      refine Ok.mono (ih (i + 1) T _ _ w1 F (by omega) (by omega) (ints_sub hI del_mem) (fun e he => hS e (del_mem e he)) h1 ?_ ?_ ?_ ?_ ?_ ?_) ?_
      · exact e0
      · exact e2
      · exact e4
      · exact e7
      · rfl
      · exact e203
      · rintro x w3 ⟨m1, m2, m3⟩
        exact ⟨m1, m2, s1.trans m3⟩

theorem walks_ok {v : Value} {acts : List Act} {X : HP} {f t : ByteArray} {m : Int} (hX : ∀ {w : World} {F : List HP} (k : Nat), Sat w F → F[k]? = some X → ActsF v acts w) (hs : Sat w (X :: F)) :
    Ok (Fn Pg 4 [v, .agg #[.string f, .string t], int m] w) fun x w' => x = .bool true ∧ Sat w' (X :: F) ∧ Sm w w' := by
  rw [F4]; unfold S4
  refine go_box (l := spC f t) rfl hs fun s4 w1 h1 s1 => ?_
  obtain ⟨b, hb, hlen⟩ := few_ok (hX 1 h1 rfl)
  have fin : ∀ {κ : Value → World → R}, (∀ x w, κ x w = some (x, w)) → Ok (rd2 (Fn Pg 12 [] w1) κ) fun x w' => x = .bool true ∧ Sat w' (X :: F) ∧ Sm w w' := by
    intro κ hκ
    refine Ok.bind (grows_ok h1) ?_
    rintro x w2 ⟨rfl, g1, g2⟩
    rw [hκ]
    exact ⟨_, _, rfl, rfl, g1.drop, s1.trans g2⟩
  refine Ok.rd2 hb (Ok.rd (un_not _) ?_)
  cases b with
  | false =>
    refine Ok.f0 (Ok.f0 (Ok.f0 (Ok.f0 (Ok.rd (pick_t _ _) (Ok.f0 (Ok.f0 (Ok.f0 (Ok.f0 (Ok.rd (pick_t _ _) (Ok.f0 (Ok.f0 (Ok.rd (pick_t _ _) (Ok.ct rfl ?_)))))))))))))
    exact fin fun _ _ => rfl
  | true =>
    refine f_ok rfl (by rw [fld36_0]; rfl) (f_ok rfl (by rw [ldsp0 h1 0 rfl]; rfl) (f_ok rfl (gr2 (len_str u9 _ _)) (f_ok rfl (gr2 bin_gtr) (pk_f rfl ?_))))
    by_cases hf : (60 : Int) < (f.size : Int)
    · have hf' : decide ((60 : Int) < (f.size : Int)) = true := decide_eq_true hf
      rw [hf']
      refine Ok.f0 (Ok.f0 (Ok.f0 (Ok.f0 (Ok.rd (pick_t _ _) (Ok.f0 (Ok.f0 (Ok.rd (pick_t _ _) (Ok.ct rfl ?_))))))))
      exact fin fun _ _ => rfl
    have hf' : decide ((60 : Int) < (f.size : Int)) = false := decide_eq_false hf
    rw [hf']
    refine f_ok rfl (by rw [fld36_1]; rfl) (f_ok rfl (by rw [ldsp1 h1 0 rfl]; rfl) (f_ok rfl (gr2 (len_str u9 _ _)) (f_ok rfl (gr2 bin_gtr) (pk_f rfl ?_))))
    by_cases ht : (60 : Int) < (t.size : Int)
    · have ht' : decide ((60 : Int) < (t.size : Int)) = true := decide_eq_true ht
      rw [ht']
      refine Ok.f0 (Ok.f0 (Ok.rd (pick_t _ _) (Ok.ct rfl ?_)))
      exact fin fun _ _ => rfl
    have ht' : decide ((60 : Int) < (t.size : Int)) = false := decide_eq_false ht
    rw [ht']
    refine f_ok rfl rfl (f_ok rfl (gr2 bin_lss) (pk_f rfl ?_))
    by_cases hm : m < 1
    · exact Ok.ct (decide_eq_true hm) (fin fun _ _ => rfl)
    refine Ok.cf (decide_eq_false hm) ?_
    refine Ok.bind (new_ok h1) ?_
    rintro x w2 ⟨T, rfl, h2, s2⟩
    refine Ok.mono (wlk1 (by omega) hX (hlen rfl).1 (hlen rfl).2 acts.length 0 T [] _ w2 F (by omega) (Nat.zero_le _) (fun _ h => by simp at h) (fun _ h => by simp at h) h2 rfl rfl rfl rfl rfl rfl) ?_
    rintro x w' ⟨m1, m2, m3⟩
    exact ⟨m1, m2, s1.trans (s2.trans m3)⟩
end Go.Cb
