import Derived.Test.YtialecgadoepjaaMZC
/-
  What is known of memory that nobody turns; slices that are read there.
-/
set_option linter.unusedVariables false
set_option linter.unusedSimpArgs false
namespace Go.Cb
variable {w : World} {F : List HP} {Q Q' : Value → World → Prop}

/-- just these blocks. -/
def kn (K : Hl) : HP := fun h => h = K
theorem kn_on {K : Hl} {j : Nat} (hs : Sat w F) (hj : F[j]? = some (kn K)) : K.on w := by
  obtain ⟨x, hx, h1, h2, hd, rfl, hA, hF⟩ := hs.foc hj
  have hA : h1 = K := hA
  subst hA
  exact fun b o hb => hx b o (un_l hb)
/-- more is known. -/
def Le (K K' : Hl) : Prop := ∀ w, K'.on w → K.on w
theorem Le.refl (K : Hl) : Le K K := fun _ h => h
theorem Le.trans {K K1 K2 : Hl} (h : Le K K1) (h' : Le K1 K2) : Le K K2 := fun w hw => h w (h' w hw)

/-- a slice that is read. -/
structure RdS (K : Hl) (t k : Nat) {α : Type} (enc : α → List Value) (v : Value) (xs : List α) : Prop where
  sl : ∃ a c, v = .slice a xs.length c
  ix : ∀ (i : Nat) (x : α), xs[i]? = some x → ∃ p : Addr, ixA Pg t v (int i) = some (.pointer (some p)) ∧ ∀ w, K.on w → cellsAt w p 0 k = some (enc x)
  src : ∀ w, K.on w → Src w v xs.length k (xs.flatMap enc)
theorem RdS.mono {K K' : Hl} {t k : Nat} {α : Type} {enc : α → List Value} {v : Value} {xs : List α} (h : RdS K t k enc v xs) (hl : Le K K') : RdS K' t k enc v xs :=
  ⟨h.sl, fun i x hx => let ⟨p, h1, h2⟩ := h.ix i x hx; ⟨p, h1, fun w hw => h2 w (hl w hw)⟩, fun w hw => h.src w (hl w hw)⟩
theorem RdS.nil {K : Hl} {t k : Nat} {α : Type} {enc : α → List Value} (a : Option Addr) (c : Nat) : RdS K t k enc (.slice a 0 c) ([] : List α) :=
  ⟨⟨a, c, rfl⟩, fun i x hx => by simp at hx, fun w hw => by
    cases a with
    | none => exact .inl ⟨_, rfl, rfl, rfl⟩
    | some a => exact .inr ⟨_, _, rfl, by simp [cellsAt]⟩⟩
theorem RdS.len {K : Hl} {t k e : Nat} {α : Type} {enc : α → List Value} {v : Value} {xs : List α} (hT : SlT Pg t e k) (h : RdS K t k enc v xs) {st : Bool} {rt : TypeId} {cs : Array Bool} (w' : World) : lenG st Pg .len #[t] rt cs [v] w' = some (int xs.length, w') := by
  obtain ⟨a, c, rfl⟩ := h.sl
  exact len_sl hT.u _ _ _ _
theorem RdS.one {K : Hl} {t k : Nat} {α : Type} {enc : α → List Value} {v : Value} {xs : List α} (h : RdS K t k enc v xs) : Cb.one v = true := by
  obtain ⟨a, c, rfl⟩ := h.sl; rfl

/-- what was ours is given away. -/
theorem share {T t k : Nat} {α : Type} {enc : α → List Value} {v : Value} {xs : List α} {K : Hl} (hT : SlT Pg t T k) (hE : En enc k) (hs : Sat w (slH T k enc v xs :: kn K :: F)) :
    ∃ K', Le K K' ∧ RdS K' t k enc v xs ∧ Sat w (kn K' :: F) := by
  obtain ⟨inf, z, hi, hk, _⟩ := hT.i
  rcases slH_cases hs with ⟨a, rfl, rfl, h⟩ | ⟨b, c, l, rfl, h1, h2, h3, h⟩
  · exact ⟨K, Le.refl K, RdS.nil a 0, h⟩
  · obtain ⟨x, hx, g1, g2, hd, rfl, hA, g3, g4, hd2, rfl, hB, hF⟩ := h
    have hB : g3 = K := hB
    subst hB
    have hat : ∀ w', (un g1 g3).on w' → At w' b l T := fun w' hw' => hw' b _ (un_l (by rw [hA]; simp))
    have hmul : xs.length * k ≤ c * k := Nat.mul_le_mul_right k h2
    refine ⟨un g1 g3, ?_, ⟨⟨_, c, rfl⟩, ?_, ?_⟩, ?_⟩
    · intro w' hw' b' o hb'
      exact hw' b' o (un_r (dj_un.1 hd).1 hb')
    · intro i y hy
      obtain ⟨hlt, rfl⟩ := List.getElem?_eq_some_iff.1 hy
      have h4 : i * k + k ≤ xs.length * k := by rw [← Nat.succ_mul]; exact Nat.mul_le_mul_right k hlt
      refine ⟨ad b (0 + i * inf.size), ix_sl hT.u hi hlt, fun w' hw' => ?_⟩
      have hc := (hat w' hw').cells (0 + i * inf.size) k 0 (by rw [hk]; omega)
      rw [hc]
      refine congrArg some ?_
      rw [hk, Nat.zero_add, Nat.add_zero]
      have h5 : (l.drop (i * k)).take k = ((l.take (xs.length * k)).drop (i * k)).take k := by
        rw [List.drop_take, List.take_take, Nat.min_eq_left (by omega)]
      rw [h5, h3]
      rw [flat_drop hE.len, List.drop_eq_getElem_cons hlt, List.flatMap_cons]
      rw [List.take_append_of_le_length (by rw [hE.len]; exact Nat.le_refl _), List.take_of_length_le (by rw [hE.len]; exact Nat.le_refl _)]
    · intro w' hw'
      have := src_at (w := w') (o := 0) (n := xs.length) (k := k) (c := c) (hat w' hw') (by omega)
      rw [List.drop_zero, h3] at this
      exact this
    · refine ⟨_, hx, un g1 g3, g4, ?_, (un_assoc _ _ _).symm, rfl, hF⟩
      exact (dj_un.2 ⟨(dj_un.1 hd).2.symm, hd2.symm⟩).symm
end Go.Cb

/-
  Versions and chains: own, bare, Right, Add.
-/
set_option linter.unusedVariables false
set_option linter.unusedSimpArgs false
namespace Go.Cb
variable {w : World} {F : List HP} {Q Q' : Value → World → Prop}

/-! ### A struct, laid, read and stored whole -/

def tyB (P : Program) (t : TypeId) (k : Nat) : Bool :=
  match P.info? t with
  | some i => Nat.beq i.size k && (match i.zero with
    | some z => Nat.beq z.cells.size k
    | none => false)
  | none => false
theorem ty_of {t k : Nat} (h : tyB Pg t k = true) : ∃ i z, Pg.info? t = some i ∧ i.size = k ∧ i.zero = some z ∧ z.cells.size = k := by
  unfold tyB at h
  split at h
  · rename_i i hi
    simp only [Bool.and_eq_true] at h
    obtain ⟨h1, h⟩ := h
    split at h
    · rename_i z hz
      exact ⟨i, z, hi, Nat.eq_of_beq_eq_true h1, hz, Nat.eq_of_beq_eq_true h⟩
    · cases h
  · cases h
theorem ld_agg {t n b : Nat} {l : List Value} {T : TypeId} (ha : aggT Pg t = some true) (hT : tyB Pg t n = true) (hl : l.length = n) (h : Sat w F) (k : Nat) (hk : F[k]? = some (pt b l T)) : ldV Pg t (ptr b 0) w = some (.agg l.toArray) := by
  obtain ⟨i, z, h1, h2, _⟩ := ty_of hT
  rw [at_load (h.foc hk).at (o := 0) (n := n) (by omega) ha h1 h2, List.drop_zero, List.take_of_length_le (by omega)]
theorem st_agg {t n b : Nat} {l : List Value} {T : TypeId} {cs : Array Value} (hT : tyB Pg t n = true) (hl : l.length = n) (hc : cs.size = n) (h1' : ∀ v ∈ cs.toList, one v = true) (h : Sat w F) (k : Nat) (hk : F[k]? = some (pt b l T)) :
    ∃ w', rawU Pg (Instr.storeAt t (ptr b 0) (.agg cs)) w = some (undef, w') ∧ Sat w' (F.set k (pt b cs.toList T)) ∧ Sm w w' := by
  obtain ⟨i, z, h1, h2, h3, h4⟩ := ty_of hT
  obtain ⟨w', g1, g2, g3⟩ := storeAt_ok (P := Pg) h1 (h.foc hk).hp (k := 0) rfl (o := 0) (v := .agg cs) (by rw [h2]; exact hc) (by rw [h2, hl]; omega) (fun x hx => h1' x (by simpa [Value.cells] using hx))
  refine ⟨w', g1, Sat.unf hk ((h.foc hk).put g3 (fun _ _ hd => hd) ?_ (.inl rfl)), g3.sm⟩
  have := g2.get (k := 0) rfl
  have hlay : lay l 0 (Value.agg cs).cells.toList = cs.toList := by
    have hcc : (Value.agg cs).cells.toList = cs.toList := rfl
    have hc2 : cs.toList.length = n := by rw [Array.length_toList, hc]
    rw [hcc, lay_eq _ _ _ (by rw [hl, hc2]; omega)]
    rw [List.drop_eq_nil_of_le (by rw [hl, hc2]; omega)]
    simp
  rw [hlay] at this
  exact this
/-- a struct laid aside. -/
theorem go_tmpG {t k : Nat} (hT : tyB Pg t k = true) {cs : Array Value} (hk : cs.size = k) (h1' : ∀ v ∈ cs.toList, one v = true) {κ : Value → Value → World → R} (h : Sat w F) (hκ : ∀ nb w', Sat w' (pt nb cs.toList t :: F) → Sm w w' → Ok (κ (ptr nb 0) undef w') Q) :
    Ok (rd2 (rawV Pg (Instr.alloc t true (.tuple #[])) w) fun x w' => rd2 (rawU Pg (Instr.storeAt t x (.agg cs)) w') fun u w'' => κ x u w'') Q := by
  obtain ⟨i, z, h1, h2, h3, h4⟩ := ty_of hT
  refine go_new (l := z.cells.toList) (by simp [zeroL, h1, h3]) h fun nb w1 t1 s1 => ?_
  obtain ⟨w2, g1, g2, g3⟩ := st_agg hT (by rw [Array.length_toList, h4]) hk h1' t1 0 rfl
  exact Ok.rd2 g1 (hκ nb w2 g2 (s1.trans g3))

/-! ### Versions -/

structure Ver where
  st : Int
  dead : Bool
  pv : V1
  gen : Int
  size : Int
abbrev u64 (n : Int) : Value := .int .u64 n
abbrev encVer (x : Ver) : List Value := [u64 x.st, .bool x.dead, x.pv.1, u64 x.gen, int x.size]
abbrev aggV (x : Ver) : Value := .agg #[u64 x.st, .bool x.dead, x.pv.1, u64 x.gen, int x.size]
theorem enVer : En encVer 5 := ⟨fun _ => rfl, fun x v hv => by
  simp [encVer] at hv
  rcases hv with rfl | rfl | rfl | rfl | rfl
  · rfl
  · rfl
  · exact x.pv.2
  · rfl
  · rfl⟩
abbrev encI (n : Int) : List Value := [int n]
theorem enI : En encI 1 := ⟨fun _ => rfl, fun x v hv => by simp [encI] at hv; subst hv; rfl⟩
theorem T81 : SlT Pg 81 3 1 := slT_of (by kernel_rfl)
theorem T76 : SlT Pg 76 85 5 := slT_of (by kernel_rfl)
theorem a85 : aggT Pg 85 = some true := by kernel_rfl
theorem a81 : aggT Pg 81 = some false := by kernel_rfl
theorem a64 : aggT Pg 64 = some false := by kernel_rfl
theorem ty85 : tyB Pg 85 5 = true := by kernel_rfl
theorem fld85_0 (b o : Nat) : fldA Pg 85 (ptr b o) 0 = some (ptr b o) := by kernel_rfl
theorem fld85_1 (b o : Nat) : fldA Pg 85 (ptr b o) 1 = some (ptr b (o + 1)) := by kernel_rfl
theorem fld85_2 (b o : Nat) : fldA Pg 85 (ptr b o) 2 = some (ptr b (o + 2)) := by kernel_rfl
theorem fld83_0 (b o : Nat) : fldA Pg 83 (ptr b o) 0 = some (ptr b o) := by kernel_rfl
theorem fld83_1 (b o : Nat) : fldA Pg 83 (ptr b o) 1 = some (ptr b (o + 1)) := by kernel_rfl
theorem fld83_2 (b o : Nat) : fldA Pg 83 (ptr b o) 2 = some (ptr b (o + 2)) := by kernel_rfl
theorem z85 : zeroL Pg 85 = some [u64 0, .bool false, .slice none 0 0, u64 0, int 0] := by kernel_rfl

theorem bin_eq64 {st : Bool} {t : TypeId} {ox oy : Operand} {a b : Int} {w : World} : binG st Pg .eql t ox oy (u64 a) (u64 b) w = some (.bool (a == b), w) := rfl
theorem bin_le64 {st : Bool} {t : TypeId} {ox oy : Operand} {a b : Int} {w : World} : binG st Pg .leq t ox oy (u64 a) (u64 b) w = some (.bool (decide (a ≤ b)), w) := rfl
theorem bin_ge64 {st : Bool} {t : TypeId} {ox oy : Operand} {a b : Int} {w : World} : binG st Pg .geq t ox oy (u64 a) (u64 b) w = some (.bool (decide (a ≥ b)), w) := rfl

/-- what a version says. -/
structure AV where
  st : Int
  dead : Bool
  places : List Int
  gen : Int
  size : Int
structure Rv (K : Hl) (x : Ver) (a : AV) : Prop where
  st : x.st = a.st
  dead : x.dead = a.dead
  gen : x.gen = a.gen
  size : x.size = a.size
  pl : RdS K 81 1 encI x.pv.1 a.places
theorem Rv.mono {K K' : Hl} {x : Ver} {a : AV} (h : Rv K x a) (hl : Le K K') : Rv K' x a := ⟨h.st, h.dead, h.gen, h.size, h.pl.mono hl⟩

section
variable {b : Nat} {x : Ver}
theorem ldv_0 (h : Sat w F) (k : Nat) (hk : F[k]? = some (pt b (encVer x) 85)) : ldV Pg 64 (ptr b 0) w = some (u64 x.st) := (ldV_sc a64 _ _).trans ((h.foc hk).at.cell 0)
theorem ldv_1 (h : Sat w F) (k : Nat) (hk : F[k]? = some (pt b (encVer x) 85)) : ldV Pg 4 (ptr b (0 + 1)) w = some (.bool x.dead) := (ldV_sc a4 _ _).trans ((h.foc hk).at.cell 1)
theorem ldv_2 (h : Sat w F) (k : Nat) (hk : F[k]? = some (pt b (encVer x) 85)) : ldV Pg 81 (ptr b (0 + 2)) w = some x.pv.1 := (ldV_sc a81 _ _).trans ((h.foc hk).at.cell 2)
theorem ldv_3 (h : Sat w F) (k : Nat) (hk : F[k]? = some (pt b (encVer x) 85)) : ldV Pg 64 (ptr b (0 + 2 + 1)) w = some (u64 x.gen) := (ldV_sc a64 _ _).trans ((h.foc hk).at.cell 3)
theorem ldv_4 (h : Sat w F) (k : Nat) (hk : F[k]? = some (pt b (encVer x) 85)) : ldV Pg 3 (ptr b (0 + 2 + 2)) w = some (int x.size) := (ldV_sc a3 _ _).trans ((h.foc hk).at.cell 4)
theorem ldv (h : Sat w F) (k : Nat) (hk : F[k]? = some (pt b (encVer x) 85)) : ldV Pg 85 (ptr b 0) w = some (aggV x) := ld_agg a85 ty85 rfl h k hk
end
theorem ones_ver (x : Ver) : ∀ v ∈ (#[u64 x.st, .bool x.dead, x.pv.1, u64 x.gen, int x.size] : Array Value).toList, one v = true := enVer.one x

theorem own_ok {K : Hl} {x : Ver} {a : AV} {j : Nat} (hx : Rv K x a) (hb : a.places.length ≤ 2 ^ 29) (hs : Sat w (kn K :: F)) :
    Ok (Fn Pg 104 [aggV x] w) fun v w' => ∃ K' x', Le K K' ∧ v = aggV x' ∧ Rv K' x' a ∧ Sat w' (kn K' :: F) ∧ Sm w w' := by
  rw [F104]; unfold S104
  refine go_box (l := encVer x) rfl hs fun b w1 h1 s1 => ?_
  refine go_new z85 h1 fun r w2 h2 s2 => ?_
  refine Ok.rd (fld85_2 _ _) (Ok.rd (fld83_0 _ _) (Ok.rd (ldv_2 h2 1 rfl) ?_))
  have h3 := slH_nil (T := 3) (k := 1) (enc := encI) none h2
  have hsrc := hx.pl.src w2 (kn_on h2 (j := 2) rfl)
  refine go_app T81 enI h3 0 rfl hsrc (by simp; omega) fun av w4 h4 s4 => ?_
  refine Ok.rd (fld85_2 _ _) (Ok.rd (fld83_0 _ _) ?_)
  have h4 : Sat w4 (slH 3 1 encI av a.places :: pt r [u64 0, .bool false, .slice none 0 0, u64 0, int 0] 85 :: pt b (encVer x) 85 :: kn K :: F) := h4
  have hone := one_slH h4 0 rfl
  obtain ⟨w5, m5, h5, s5⟩ := st_one (P := Pg) (t := 81) (sz_of (by kernel_rfl)) h4 2 rfl (o := 0 + 2) (v := av) (by simp [encVer]) hone
  refine Ok.rd2 m5 ?_
  have h5 : Sat w5 (slH 3 1 encI av a.places :: pt r [u64 0, .bool false, .slice none 0 0, u64 0, int 0] 85 :: pt b (encVer ⟨x.st, x.dead, ⟨av, hone⟩, x.gen, x.size⟩) 85 :: kn K :: F) := h5
  refine Ok.rd (ldv h5 2 rfl) ?_
  obtain ⟨w6, m6, h6, s6⟩ := st_agg ty85 rfl (cs := #[u64 x.st, .bool x.dead, av, u64 x.gen, int x.size]) rfl (ones_ver ⟨x.st, x.dead, ⟨av, hone⟩, x.gen, x.size⟩) h5 1 rfl
  refine Ok.rd2 m6 ?_
  have h6 : Sat w6 (slH 3 1 encI av a.places :: pt r (encVer ⟨x.st, x.dead, ⟨av, hone⟩, x.gen, x.size⟩) 85 :: pt b (encVer ⟨x.st, x.dead, ⟨av, hone⟩, x.gen, x.size⟩) 85 :: kn K :: F) := h6
  refine Ok.rd (ldv h6 1 rfl) ?_
  have h7 := (h6.re [1, 2, 0, 3] (by decide)).drop.drop
  obtain ⟨K', hl, hr, h8⟩ := share T81 enI h7
  exact ⟨_, _, rfl, K', ⟨x.st, x.dead, ⟨av, hone⟩, x.gen, x.size⟩, hl, rfl, ⟨hx.st, hx.dead, hx.gen, hx.size, hr⟩, h8, s1.trans (s2.trans (s4.trans (s5.trans s6)))⟩

/-- does it name no value? -/
def bareA (a : AV) : Bool := a.size == 0 && a.gen == 0 && decide (a.places.length = 0)
theorem bare_ok {K : Hl} {x : Ver} {a : AV} (hx : Rv K x a) (hs : Sat w F) : Ok (Fn Pg 121 [aggV x] w) fun v w' => v = .bool (bareA a) ∧ Sat w' F ∧ Sm w w' := by
  rw [F121]; unfold S121
  refine go_box (l := encVer x) rfl hs fun b w1 h1 s1 => ?_
  refine Ok.rd (fld85_2 _ _) (Ok.rd (fld83_2 _ _) (Ok.rd (ldv_4 h1 0 rfl) (Ok.rd2 bin_eql ?_)))
  unfold bareA
  rw [hx.size]
  cases h2 : a.size == 0 with
  | false =>
    refine t_no rfl (t_no rfl (t_no rfl (t_no rfl (pk_f rfl (t_no rfl (t_no rfl (t_no rfl (t_no rfl (t_no rfl (pk_f rfl ?_))))))))))
    exact ⟨_, _, rfl, rfl, h1.drop, s1⟩
  | true =>
    refine t_ok rfl (by rw [fld85_2]; rfl) (t_ok rfl (by rw [fld83_1]; rfl) (t_ok rfl (by rw [ldv_3 h1 0 rfl]; rfl) (t_ok rfl (gr2 bin_eq64) (pk_t rfl ?_))))
    rw [hx.gen]
    cases h3 : a.gen == 0 with
    | false =>
      refine t_no rfl (t_no rfl (t_no rfl (t_no rfl (t_no rfl (pk_f rfl ?_)))))
      exact ⟨_, _, rfl, rfl, h1.drop, s1⟩
    | true =>
      refine t_ok rfl (by rw [fld85_2]; rfl) (t_ok rfl (by rw [fld83_0]; rfl) (t_ok rfl (by rw [ldv_2 h1 0 rfl]; rfl) (t_ok rfl (gr2 (hx.pl.len T81 w1)) (t_ok rfl (gr2 bin_eql) (pk_t rfl ?_)))))
      refine ⟨_, _, rfl, congrArg Value.bool ?_, h1.drop, s1⟩
      rw [Bool.true_and, Bool.true_and, Bool.eq_iff_iff, beq_iff_eq, decide_eq_true_iff]; omega
end Go.Cb

/-
  Chains: Right, Add.
-/
set_option linter.unusedVariables false
set_option linter.unusedSimpArgs false
namespace Go.Cb
open Classical
variable {w : World} {F : List HP} {Q Q' : Value → World → Prop}

/-- versions, vs they lie. -/
structure Rvs (K : Hl) (xs : List Ver) (vs : List AV) : Prop where
  len : xs.length = vs.length
  at_ : ∀ (i : Nat) (x : Ver) (a : AV), xs[i]? = some x → vs[i]? = some a → Rv K x a
theorem Rvs.mono {K K' : Hl} {xs : List Ver} {vs : List AV} (h : Rvs K xs vs) (hl : Le K K') : Rvs K' xs vs := ⟨h.len, fun i x a hx ha => (h.at_ i x a hx ha).mono hl⟩
theorem Rvs.nil {K : Hl} : Rvs K [] [] := ⟨rfl, fun i x a hx => by simp at hx⟩
theorem Rvs.snoc {K : Hl} {xs : List Ver} {vs : List AV} {x : Ver} {a : AV} (h : Rvs K xs vs) (hx : Rv K x a) : Rvs K (xs ++ [x]) (vs ++ [a]) := by
  refine ⟨by simp [h.len], fun i y b hy hb => ?_⟩
  rcases Nat.lt_or_ge i xs.length with hi | hi
  · rw [List.getElem?_append_left hi] at hy
    rw [List.getElem?_append_left (by rw [← h.len]; exact hi)] at hb
    exact h.at_ i y b hy hb
  · rw [List.getElem?_append_right hi] at hy
    rw [List.getElem?_append_right (by rw [← h.len]; exact hi)] at hb
    have : i - xs.length = 0 := by
      have := (List.getElem?_eq_some_iff.1 hy).1
      simp at this; omega
    rw [this] at hy
    rw [← h.len, this] at hb
    simp at hy hb
    subst hy hb
    exact hx

/-- a chain. -/
def Rc (K : Hl) (v : Value) (vs : List AV) : Prop := ∃ xs, RdS K 76 5 encVer v xs ∧ Rvs K xs vs
theorem Rc.mono {K K' : Hl} {v : Value} {vs : List AV} (h : Rc K v vs) (hl : Le K K') : Rc K' v vs := let ⟨xs, h1, h2⟩ := h; ⟨xs, h1.mono hl, h2.mono hl⟩
theorem Rc.nil {K : Hl} (a : Option Addr) (c : Nat) : Rc K (.slice a 0 c) [] := ⟨[], RdS.nil a c, Rvs.nil⟩
theorem Rc.len {K : Hl} {v : Value} {vs : List AV} (h : Rc K v vs) {st : Bool} {rt : TypeId} {cs : Array Bool} (w' : World) : lenG st Pg .len #[76] rt cs [v] w' = some (int vs.length, w') := by
  obtain ⟨xs, h1, h2⟩ := h
  rw [← h2.len]
  exact h1.len T76 w'
theorem Rc.one {K : Hl} {v : Value} {vs : List AV} (h : Rc K v vs) : Cb.one v = true := let ⟨_, h1, _⟩ := h; h1.one
theorem Rc.sl {K : Hl} {v : Value} {vs : List AV} (h : Rc K v vs) : ∃ a c, v = .slice a vs.length c := by
  obtain ⟨xs, h1, h2⟩ := h
  rw [← h2.len]; exact h1.sl
theorem i85 : ∃ i, Pg.info? 85 = some i ∧ i.size = 5 := sz_of (by kernel_rfl)
theorem fld85_0' (a : Addr) : fldA Pg 85 (.pointer (some a)) 0 = some (.pointer (some (a.add 0))) := by kernel_rfl
theorem fld85_1' (a : Addr) : fldA Pg 85 (.pointer (some a)) 1 = some (.pointer (some (a.add 1))) := by kernel_rfl
theorem Rc.at {K : Hl} {v : Value} {vs : List AV} (h : Rc K v vs) {i : Nat} {a : AV} (hi : vs[i]? = some a) : ∃ (p : Addr) (x : Ver), ixA Pg 76 v (int i) = some (.pointer (some p)) ∧ Rv K x a ∧
    ∀ w, K.on w → ldV Pg 85 (.pointer (some p)) w = some (aggV x) ∧ ldV Pg 64 (.pointer (some (p.add 0))) w = some (u64 a.st) ∧ ldV Pg 4 (.pointer (some (p.add 1))) w = some (.bool a.dead) := by
  obtain ⟨xs, h1, h2⟩ := h
  have hlt : i < xs.length := by rw [h2.len]; exact (List.getElem?_eq_some_iff.1 hi).1
  have hx : xs[i]? = some xs[i] := List.getElem?_eq_getElem hlt
  obtain ⟨p, h3, h4⟩ := h1.ix i _ hx
  have hr := h2.at_ i _ _ hx hi
  refine ⟨p, xs[i], h3, hr, fun w hw => ?_⟩
  have hc := h4 w hw
  obtain ⟨inf, hinf, hsz⟩ := i85
  refine ⟨by rw [ldV_ag a85 hinf, hsz, hc]; rfl, ?_, ?_⟩
  · rw [ldV_sc a64]
    simp only [cellsAt, encVer, Option.bind_eq_some_iff, Option.map_eq_some_iff] at hc
    obtain ⟨v0, g0, l, _, he⟩ := hc
    simp at he
    rw [g0, he.1, hr.st]
  · rw [ldV_sc a4]
    simp only [cellsAt, encVer, Option.bind_eq_some_iff, Option.map_eq_some_iff] at hc
    obtain ⟨v0, g0, l, ⟨v1, g1, l1, _, hl⟩, he⟩ := hc
    subst hl
    simp at he
    rw [g1, he.2.1, hr.dead]

/-! ### Right -/

def okA (vs : List AV) (i : Nat) : Prop := ∀ a, vs[i]? = some a → (a.dead = true → bareA a = true) ∧ ∀ b, 0 < i → vs[i - 1]? = some b → a.st < b.st
def RightP (vs : List AV) : Prop := ∀ i, okA vs i

theorem dead_ok {x110 : Bool} {x : Ver} {a : AV} {K : Hl} {nb : Nat} (hd : x110 = a.dead) (hx : Rv K x a) (hs : Sat w (pt nb (encVer x) 85 :: F)) {κ : Value → Value → Value → Value → World → R}
    (hκ : ∀ y1 y2 y3 w', Sat w' (pt nb (encVer x) 85 :: F) → Sm w w' → Ok (κ y1 y2 y3 (.bool (a.dead && !bareA a)) w') Q) :
    Ok (rd2 (gate (.bool x110) true (fun _ => rd (ldV Pg 85 (ptr nb 0) w) fun x111 => some (x111, w)) w) fun x112 _ =>
      rd2 (gate (.bool x110) true (fun _ => rd2 (Fn Pg 121 [x112] w) fun x114 w115 => some (x114, w115)) w) fun x116 w117 =>
      rd2 (gate (.bool x110) true (fun _ => rd (unV .not x116) fun x118 => some (x118, w117)) w117) fun x119 _ =>
      rd (pickV (.bool x110) x119 (.bool false)) fun x121 => κ x112 x116 x119 x121 w117) Q := by
  subst hd
  cases hdd : a.dead with
  | false =>
    refine t_no rfl (t_no rfl (t_no rfl (pk_f rfl ?_)))
    have := hκ undef undef undef w hs (Sm.refl _)
    rw [hdd] at this
    exact this
  | true =>
    refine t_ok rfl (by rw [ldv hs 0 rfl]; rfl) ?_
    refine t_call rfl (bare_ok hx hs) ?_
    rintro v w1 ⟨rfl, h1, s1⟩
    refine t_ok rfl (by rw [un_not]; rfl) (pk_t rfl ?_)
    have := hκ (aggV x) (.bool (bareA a)) (.bool !bareA a) w1 h1 s1
    rw [hdd] at this
    exact this

theorem right_loop {K : Hl} {v : Value} {vs : List AV} (hr : Rc K v vs) (hb : vs.length ≤ 2 ^ 30) : ∀ (j i : Nat) (e : Env) (w : World) (F : List HP), i + j = vs.length → (∀ k, k < i → okA vs k) → Sat w (kn K :: F) →
    e 0 = v → e 5 = v → e 6 = int vs.length → e 7 = int i → e 35 = undef →
    Ok (evalLoop (cx101 (Fn Pg) (Rnd Pg)) (cdA Go.Proofs.Try.f101 [1, 0, 1, 0, 0]) (K101_2 (Fn Pg) (Rnd Pg)) e w) fun x w' => x = .bool (decide (RightP vs)) ∧ Sat w' (kn K :: F) ∧ Sm w w' := by
  intro j
  induction j with
  | zero =>
    intro i e w F hij hok hs e0 e5 e6 e7 e35
    rw [S101_L1_eq]; unfold S101_L1
    rw [e0, e5, e6, e7, e35]
    refine Ok.rd2 bin_lss (Ok.cf (by simp; omega) ?_)
    refine ⟨_, _, rfl, ?_, hs, Sm.refl _⟩
    have : RightP vs := fun k => by
      rcases Nat.lt_or_ge k i with h | h
      · exact hok k h
      · intro a ha
        have := (List.getElem?_eq_some_iff.1 ha).1
        omega
    rw [decide_eq_true this]
  | succ j ih =>
    intro i e w F hij hok hs e0 e5 e6 e7 e35
    have hi : i < vs.length := by omega
    obtain ⟨a, ha⟩ : ∃ a, vs[i]? = some a := ⟨_, List.getElem?_eq_getElem hi⟩
    obtain ⟨p, x, h1, hx, h2⟩ := hr.at ha
    rw [S101_L1_eq]; unfold S101_L1
    rw [e0, e5, e6, e7, e35]
    refine Ok.rd2 bin_lss (Ok.ct (by simp; omega) ?_)
    refine Ok.rd h1 (Ok.rd (h2 w (kn_on hs (j := 0) rfl)).1 ?_)
    refine go_tmpG ty85 rfl (ones_ver x) hs fun nb w1 t1 s1 => ?_
    have t1 : Sat (drw w1) (pt nb (encVer x) 85 :: kn K :: F) := t1.drw
    refine Ok.rd (fld85_1 _ _) (Ok.rd (ldv_1 t1 0 rfl) ?_)
    refine dead_ok hx.dead hx t1 fun y1 y2 y3 w2 t2 s2 => ?_
    have snow := s1.trans s2.drw
    have fail : ¬ RightP vs → ∀ w', Sat w' (pt nb (encVer x) 85 :: kn K :: F) → Sm w w' → Ok (some (.bool false, w')) fun x w' => x = .bool (decide (RightP vs)) ∧ Sat w' (kn K :: F) ∧ Sm w w' := by
      intro hn w' hw hm
      exact ⟨_, _, rfl, by rw [decide_eq_false hn], hw.drop, hm⟩
    cases hd : (a.dead && !bareA a) with
    | true =>
      refine Ok.f0 (Ok.f0 (Ok.f0 ?_))
      refine Ok.rd2 (v := undef) (w := w2) rfl (Ok.rd2 (v := undef) (w := w2) rfl (Ok.rd2 (v := undef) (w := w2) rfl (Ok.rd2 (v := undef) (w := w2) rfl (Ok.rd2 (v := undef) (w := w2) rfl (Ok.rd2 (v := undef) (w := w2) rfl (Ok.rd2 (v := undef) (w := w2) rfl (Ok.rd2 (v := undef) (w := w2) rfl (Ok.rd2 (v := undef) (w := w2) rfl ?_))))))))
      refine Ok.f0 (Ok.rd (pick_t _ _) (Ok.ct rfl ?_))
      refine fail (fun hR => ?_) w2 t2 snow
      have hd := Bool.and_eq_true _ _ ▸ hd
      have := (hR i a ha).1 hd.1
      rw [this] at hd
      exact absurd hd.2 (by simp)
    | false =>
      have hdb : a.dead = true → bareA a = true := by
        intro h
        rw [h] at hd
        simpa using hd
      have next : okA vs i → Ok (rd2 (binG false Pg .add 3 (.tmp 0) (.const .nilFunc) (int i) (.int .i64 1) w2) fun x162 w163 => some (x162, w163)) fun x w' => x = int (i + 1 : Nat) ∧ w' = w2 := fun _ => Ok.rd2 (bin_add1 (by omega)) ⟨_, _, rfl, rfl, rfl⟩
      refine f_ok rfl rfl (f_ok rfl (gr2 bin_gtr) (f_ok rfl rfl ?_))
      by_cases h0 : i = 0
      · have hg : decide ((0 : Int) < (i : Int)) = false := by simp; omega
        rw [hg]
        refine t_no rfl (t_no rfl (t_no rfl (t_no rfl (t_no rfl (t_no rfl (t_no rfl (t_no rfl (t_no rfl ?_))))))))
        refine f_ok rfl (by rw [pick_f]; rfl) (pk_f rfl (Ok.cf rfl (Ok.rd2 (bin_add1 (by omega)) ?_)))
        have hoki : okA vs i := fun b hb => by
          rw [ha] at hb; injection hb with hb; subst hb
          exact ⟨hdb, fun b hpos => by omega⟩
        refine Ok.mono (ih (i + 1) _ w2 F (by omega) (fun k hk => by
          rcases Nat.lt_or_ge k i with h | h
          · exact hok k h
          · have : k = i := by omega
            rw [this]; exact hoki) t2.drop ?_ ?_ ?_ ?_ ?_) ?_
        · exact e0
        · exact e5
        · exact e6
        · rfl
        · exact e35
        · rintro y w3 ⟨m1, m2, m3⟩
          exact ⟨m1, m2, snow.trans m3⟩
      · have hg : decide ((0 : Int) < (i : Int)) = true := by simp; omega
        rw [hg]
        obtain ⟨b, hb'⟩ : ∃ b, vs[i - 1]? = some b := ⟨_, List.getElem?_eq_getElem (by omega)⟩
        obtain ⟨p', x', q1, hx', q2⟩ := hr.at hb'
        refine t_ok rfl (by rw [fld85_0]; rfl) (t_ok rfl (by rw [ldv_0 t2 0 rfl]; rfl) (t_ok rfl rfl (t_ok rfl rfl ?_)))
        refine t_ok rfl (gr2 (bin_sub1 (by omega) (by omega))) (t_ok rfl (by rw [q1]; rfl) (t_ok rfl (by rw [fld85_0']; rfl) (t_ok rfl (by rw [(q2 w2 (kn_on t2 (j := 1) rfl)).2.1]; rfl) (t_ok rfl (gr2 bin_ge64) ?_))))
        refine f_ok rfl (by rw [pick_t]; rfl) (pk_f rfl ?_)
        rw [hx.st]
        by_cases hge : a.st ≥ b.st
        · refine Ok.ct (decide_eq_true hge) ?_
          refine fail (fun hR => ?_) w2 t2 snow
          have := (hR i a ha).2 b (by omega) hb'
          omega
        · refine Ok.cf (decide_eq_false hge) (Ok.rd2 (bin_add1 (by omega)) ?_)
          have hoki : okA vs i := fun c hc => by
            rw [ha] at hc; injection hc with hc; subst hc
            refine ⟨hdb, fun d hpos hd' => ?_⟩
            rw [hb'] at hd'; injection hd' with hd'; subst hd'
            omega
          refine Ok.mono (ih (i + 1) _ w2 F (by omega) (fun k hk => by
            rcases Nat.lt_or_ge k i with h | h
            · exact hok k h
            · have : k = i := by omega
              rw [this]; exact hoki) t2.drop ?_ ?_ ?_ ?_ ?_) ?_
          · exact e0
          · exact e5
          · exact e6
          · rfl
          · exact e35
          · rintro y w3 ⟨m1, m2, m3⟩
            exact ⟨m1, m2, snow.trans m3⟩

theorem right_ok {K : Hl} {v : Value} {vs : List AV} (hr : Rc K v vs) (hb : vs.length ≤ 2 ^ 30) (hs : Sat w (kn K :: F)) :
    Ok (Fn Pg 101 [v] w) fun x w' => x = .bool (decide (RightP vs)) ∧ Sat w' (kn K :: F) ∧ Sm w w' := by
  rw [F101]; unfold S101
  refine Ok.rd2 (hr.len w) ?_
  exact right_loop hr hb vs.length 0 _ w F (by omega) (fun k hk => absurd hk (Nat.not_lt_zero _)) hs rfl rfl rfl rfl rfl
end Go.Cb

/-
  make of a slice without elements.
-/
set_option linter.unusedVariables false
set_option linter.unusedSimpArgs false
namespace Go.Cb
open Classical
variable {w : World} {F : List HP} {Q Q' : Value → World → Prop}

theorem go_make0 {t e k : Nat} {α : Type} {enc : α → List Value} (hT : SlT Pg t e k) {c : Nat} (hc : c ≤ 2 ^ 29) (h : Sat w F) {κ : Value → World → R} (hκ : ∀ v w', Sat w' (slH e k enc v ([] : List α) :: F) → Sm w w' → Ok (κ v w') Q) :
    Ok (rd2 (rawV Pg (Instr.makeSlice t (int 0) (int c)) w) κ) Q := by
  obtain ⟨i, z, h1, h2, h3, h4, h5, h6, _⟩ := hT.i
  have hw0 : IntKind.i64.wrap 0 = 0 := rfl
  have hwc : IntKind.i64.wrap (c : Int) = c := w64 (by omega) (by omega)
  have hb1 : ¬ ((c : Int) < 0) := by omega
  have hmul : i.bytes * c ≤ 1000 * 2 ^ 29 := Nat.mul_le_mul h5 hc
  have hb2 : ¬ ((i.bytes : Int) * (c : Int) > 2 ^ 48) := by
    rw [← Int.natCast_mul]
    omega
  have hrun : ∃ l : List Value, l.length = c * k ∧ rawV Pg (Instr.makeSlice t (int 0) (int c)) w = some (sl w.heap.size 0 0 c, { w with heap := w.heap.push (.cells l.toArray e) }) := by
    have hA : ∀ w, (asInt (int 0)).run Pg w = .ok 0 w := fun _ => rfl
    have hB : ∀ w, (asInt (int (c : Int))).run Pg w = .ok (c : Int) w := fun _ => rfl
    have hb3 : ¬ ((i.bytes : Int) * (0 : Int) > 2 ^ 48) := by simp
    by_cases hn : c * k = 0
    · refine ⟨[], by simp [hn], ?_⟩
      simp [rawV, Instr.makeSlice, und_run hT.u, inf_run h1, siz_run h1, hA, hB, hw0, hwc, hb1, h2, hn, newRow]
      rw [if_neg (by omega)]
      simp [hn]
      rw [show (Array.range 0).map (fun _ => (default : Value)) = #[] by apply Array.ext <;> simp]
    · refine ⟨((Array.range (c * k)).map (fun x => z.cells[x % z.cells.size]!)).toList, by simp, ?_⟩
      simp [rawV, Instr.makeSlice, und_run hT.u, inf_run h1, siz_run h1, hA, hB, hw0, hwc, hb1, h2, hn, newRow, zero_ok h1 h3]
      rw [if_neg (by omega)]
      simp [hn]
      rw [show (Array.range (c * k)).map (fun x => z.cells[x % z.cells.size]!) = ((List.range (c * k)).map (fun x => z.cells[x % z.cells.size]!)).toArray by apply Array.ext' ; simp]
  obtain ⟨l, hl, hr⟩ := hrun
  refine Ok.rd2 hr (hκ _ _ ?_ (Ext.push (fun _ => False) w _).sm)
  have := h.new (l' := l) (T' := e) (Ext.push (fun _ => False) w (.cells l.toArray e)) (fun _ _ hf => hf) (At.new w l e) (Nat.le_refl _)
  exact slH_mk (by simp) hl (by simp) (by simp) this
end Go.Cb

/-
  Chains: Add; what is seen at a stamp.
-/
set_option linter.unusedVariables false
set_option linter.unusedSimpArgs false
namespace Go.Cb
open Classical
variable {w : World} {F : List HP} {Q Q' : Value → World → Prop}

/-- places that aren't too many. -/
def PlB (vs : List AV) : Prop := ∀ a ∈ vs, a.places.length ≤ 2 ^ 29

/-- what Add answers. -/
def AddQ (K : Hl) (a : AV) (vs : List AV) (F : List HP) (w : World) (x : Value) (w' : World) : Prop :=
  ∃ K', Le K K' ∧ Sat w' (kn K' :: F) ∧ Sm w w' ∧ ((RightP (a :: vs) ∧ ∃ v', x = .tuple #[v', int 0] ∧ Rc K' v' (a :: vs)) ∨ (¬ RightP (a :: vs) ∧ x = .tuple #[.slice none 0 0, int 2]))

theorem add_loop {v : Value} {a : AV} {vs : List AV} (hpb : PlB (a :: vs)) (hb : vs.length ≤ 2 ^ 28) : ∀ (j i : Nat) (K : Hl) (xs : List Ver) (ov : Value) (e : Env) (w : World) (F : List HP), i + j = vs.length → Rc K v vs → Rvs K xs (a :: vs.take i) → Sat w (slH 85 5 encVer ov xs :: kn K :: F) →
    e 6 = ov → e 18 = v → e 19 = int vs.length → e 20 = int i → e 34 = undef →
    Ok (evalLoop (cx92 (Fn Pg) (Rnd Pg)) (cdA Go.Proofs.Try.f92 [1, 1, 1, 0, 1, 0, 0]) (K92_2 (Fn Pg) (Rnd Pg)) e w) (AddQ K a vs F w) := by
  intro j
  induction j with
  | zero =>
    intro i K xs ov e w F hij hr hxs hs e6 e18 e19 e20 e34
    rw [S92_L1_eq]; unfold S92_L1
    rw [e6, e18, e19, e20, e34]
    refine Ok.rd2 bin_lss (Ok.cf (by simp; omega) ?_)
    obtain ⟨K', hl, hrd, h1⟩ := share T76 enVer hs
    have hi : i = vs.length := by omega
    rw [hi, List.take_length] at hxs
    have hrc : Rc K' ov (a :: vs) := ⟨xs, hrd, hxs.mono hl⟩
    refine Ok.bind (right_ok hrc (by simp; omega) h1) ?_
    rintro x w1 ⟨rfl, h2, s2⟩
    refine Ok.rd (un_not _) ?_
    by_cases hR : RightP (a :: vs)
    · refine Ok.cf (by simp [hR]) ?_
      exact ⟨_, _, rfl, K', hl, h2, s2, .inl ⟨hR, ov, rfl, hrc⟩⟩
    · refine Ok.ct (by simp [hR]) ?_
      exact ⟨_, _, rfl, K', hl, h2, s2, .inr ⟨hR, rfl⟩⟩
  | succ j ih =>
    intro i K xs ov e w F hij hr hxs hs e6 e18 e19 e20 e34
    have hi : i < vs.length := by omega
    obtain ⟨c, hc⟩ : ∃ c, vs[i]? = some c := ⟨_, List.getElem?_eq_getElem hi⟩
    obtain ⟨p, x, h1, hx, h2⟩ := hr.at hc
    rw [S92_L1_eq]; unfold S92_L1
    rw [e6, e18, e19, e20, e34]
    refine Ok.rd2 bin_lss (Ok.ct (by simp; omega) ?_)
    refine Ok.rd h1 (Ok.rd (h2 w (kn_on hs (j := 1) rfl)).1 ?_)
    refine go_tmpG ty85 rfl (ones_ver x) hs fun nb w1 t1 s1 => ?_
    refine Ok.rd (ldv t1 0 rfl) ?_
    refine Ok.bind (own_ok (j := 0) hx (hpb c (by simp; exact .inr (List.mem_of_getElem? hc))) (t1.re [2, 0, 1] (by decide))) ?_
    rintro y w2 ⟨K', x', hl, rfl, hx', t2, s2⟩
    have t2 : Sat w2 (kn K' :: pt nb (encVer x) 85 :: slH 85 5 encVer ov xs :: F) := t2
    refine go_bs1 T76 enVer (by decide) (x := x') rfl t2 fun b w3 t3 hv3 s3 => ?_
    have hxl : xs.length ≤ vs.length + 1 := by rw [hxs.len]; simp; omega
    refine go_app T76 enVer t3 3 rfl hv3 (by simp; omega) fun a4 w4 t4 s4 => ?_
    have t4 : Sat w4 (pt b (encVer x') 85 :: kn K' :: pt nb (encVer x) 85 :: slH 85 5 encVer a4 (xs ++ [x']) :: F) := t4
    refine Ok.rd2 (bin_add1 (by omega)) ?_
    have hxs' : Rvs K' (xs ++ [x']) (a :: vs.take (i + 1)) := by
      have : a :: vs.take (i + 1) = (a :: vs.take i) ++ [c] := by
        rw [List.take_add_one, hc]; simp
      rw [this]
      exact (hxs.mono hl).snoc hx'
    refine Ok.mono (ih (i + 1) K' _ a4 _ w4 F (by omega) (hr.mono hl) hxs' ((t4.re [0, 2, 3, 1] (by decide)).drop.drop) ?_ ?_ ?_ ?_ ?_) ?_
    · rfl
    · exact e18
    · exact e19
    · rfl
    · exact e34
    · rintro y w5 ⟨K2, l2, m1, m2, m3⟩
      exact ⟨K2, hl.trans l2, m1, s1.trans (s2.trans (s3.trans (s4.trans m2))), m3⟩

theorem add_ok {K : Hl} {v : Value} {a : AV} {x : Ver} {vs : List AV} (hpb : PlB (a :: vs)) (hb : vs.length ≤ 2 ^ 28) (hr : Rc K v vs) (hx : Rv K x a) (hs : Sat w (kn K :: F)) :
    Ok (Fn Pg 92 [v, aggV x] w) (AddQ K a vs F w) := by
  rw [F92]; unfold S92
  refine go_box (l := encVer x) rfl hs fun b w1 h1 s1 => ?_
  refine Ok.rd2 (hr.len w1) (Ok.rd2 (bin_add1 (by omega)) ?_)
  refine go_make0 (enc := encVer) T76 (by omega) h1 fun ov w2 h2 s2 => ?_
  refine Ok.rd (ldv h2 1 rfl) ?_
  refine Ok.bind (own_ok (j := 0) hx (hpb a (by simp)) (h2.re [2, 0, 1] (by decide))) ?_
  rintro y w3 ⟨K', x', hl, rfl, hx', t3, s3⟩
  have t3 : Sat w3 (kn K' :: slH 85 5 encVer ov ([] : List Ver) :: pt b (encVer x) 85 :: F) := t3
  refine go_bs1 T76 enVer (by decide) (x := x') rfl t3 fun nb w4 t4 hv4 s4 => ?_
  refine go_app T76 enVer t4 2 rfl hv4 (by simp) fun a5 w5 t5 s5 => ?_
  have t5 : Sat w5 (pt nb (encVer x') 85 :: kn K' :: slH 85 5 encVer a5 [x'] :: pt b (encVer x) 85 :: F) := t5
  refine Ok.rd2 (hr.len w5) ?_
  have hxs : Rvs K' [x'] (a :: vs.take 0) := Rvs.nil.snoc hx'
  refine Ok.mono (add_loop hpb hb vs.length 0 K' [x'] a5 _ w5 F (by omega) (hr.mono hl) hxs ((t5.re [0, 3, 2, 1] (by decide)).drop.drop) rfl rfl rfl rfl rfl) ?_
  rintro y w6 ⟨K2, l2, m1, m2, m3⟩
  exact ⟨K2, hl.trans l2, m1, s1.trans (s2.trans (s3.trans (s4.trans (s5.trans m2)))), m3⟩
end Go.Cb

/-
  Chains: what is seen at a stamp.
-/
set_option linter.unusedVariables false
set_option linter.unusedSimpArgs false
namespace Go.Cb
open Classical
variable {w : World} {F : List HP} {Q Q' : Value → World → Prop}

theorem a76' : aggT Pg 76 = some false := by kernel_rfl
/-- the place that is seen at a stamp. -/
structure PlaceP (vs : List AV) (s : Int) (p : Nat) : Prop where
  le : p ≤ vs.length
  ahead : ∀ (k : Nat) (a : AV), k < p → vs[k]? = some a → ¬ a.st ≤ s
  here : ∀ a, vs[p]? = some a → a.st ≤ s
def atA (vs : List AV) (s : Int) : Option AV := vs.find? fun a => decide (a.st ≤ s)
theorem at_place : ∀ {vs : List AV} {s : Int} {p : Nat}, PlaceP vs s p → atA vs s = vs[p]?
  | [], s, p, h => by simp [atA]
  | a :: r, s, 0, h => by
    have := h.here a rfl
    simp [atA, this]
  | a :: r, s, p + 1, h => by
    have h0 := h.ahead 0 a (by omega) rfl
    have := at_place (vs := r) (s := s) (p := p) ⟨by have := h.le; simp at this; exact this, fun k b hk hb => h.ahead (k + 1) b (by omega) (by simpa using hb), fun b hb => h.here b (by simpa using hb)⟩
    have h1 : atA (a :: r) s = atA r s := by
      unfold atA
      rw [List.find?_cons_of_neg (by simpa using h0)]
    rw [h1, this]; simp

theorem right_dec {vs : List AV} (h : RightP vs) : ∀ (d i : Nat) (a b : AV), vs[i]? = some a → vs[i + d + 1]? = some b → b.st < a.st
  | 0, i, a, b, ha, hb => (h (i + 1) b hb).2 a (by omega) (by simpa using ha)
  | d + 1, i, a, b, ha, hb => by
    have hlt := (List.getElem?_eq_some_iff.1 hb).1
    obtain ⟨c, hc⟩ : ∃ c, vs[i + d + 1]? = some c := ⟨_, List.getElem?_eq_getElem (by omega)⟩
    have h1 := right_dec h d i a c ha hc
    have h2 := (h (i + (d + 1) + 1) b hb).2 c (by omega) (by rw [show i + (d + 1) + 1 - 1 = i + d + 1 by omega]; exact hc)
    omega

theorem u195 : Pg.underlying 195 = some (.int .u64) := by kernel_rfl
theorem u3 : Pg.underlying 3 = some (.int .i64) := by kernel_rfl
theorem wu64 {n : Int} (h1 : 0 ≤ n) (h2 : n ≤ 2 ^ 62) : IntKind.u64.wrap n = n := by
  simp only [IntKind.wrap, IntKind.signed, IntKind.bits, IntKind.min, IntKind.max]
  simp
  omega
theorem cv_1 {n : Nat} (h : n ≤ 2 ^ 40) : cvG false Pg 3 195 (int (n : Int)) w = some (.int .u64 n, w) := by
  unfold cvG
  rw [u3, u195]
  simp only [wu64 (n := (n : Int)) (by omega) (by omega)]
theorem cv_2 {n : Nat} (h : n ≤ 2 ^ 40) : cvG false Pg 195 3 (.int .u64 (n : Int)) w = some (int (n : Int), w) := by
  unfold cvG
  rw [u3, u195]
  simp only [w64 (n := (n : Int)) (by omega) (by omega)]
theorem shr_1 {n : Nat} : binG false Pg .shr 195 (.tmp 0) (.const .nilFunc) (.int .u64 (n : Int)) (.int .u64 1) w = some (.int .u64 (n / 2 : Nat), w) := by
  have h : binV .shr (.int .u64 (n : Int)) (.int .u64 1) = some (.int .u64 (n / 2 : Nat)) := by
    simp only [binV]
    have h0 : ¬ ((1 : Int) < 0) := by omega
    rw [if_neg h0]
    have h1 : min (1 : Int).toNat IntKind.u64.bits = 1 := rfl
    rw [h1]
    congr 2
    rw [Int.fdiv_eq_ediv_of_nonneg _ (by decide)]
    omega
  unfold binG
  rw [h]

theorem less_ok {K : Hl} {v : Value} {vs : List AV} {s : Int} {b1 b2 i : Nat} {a : AV} (hr : Rc K v vs) (hi : vs[i]? = some a) (hs : Sat w (pt b2 [u64 s] 64 :: pt b1 [v] 76 :: kn K :: F)) :
    Fn Pg 123 [int i, ptr b1 0, ptr b2 0] w = some (.bool (decide (a.st ≤ s)), drw w) := by
  have : Ok (Fn Pg 123 [int i, ptr b1 0, ptr b2 0] w) fun x w' => x = .bool (decide (a.st ≤ s)) ∧ w' = drw w := by
    rw [F123]; unfold S123
    have hd := hs.drw
    obtain ⟨p, x, h1, hx, h2⟩ := hr.at hi
    refine Ok.rd (ld1 a76' hd 1 rfl) (Ok.rd h1 (Ok.rd (fld85_0' _) (Ok.rd (h2 _ (kn_on hd (j := 2) rfl)).2.1 (Ok.rd (ld1 a64 hd 0 rfl) (Ok.rd2 bin_le64 ?_)))))
    exact ⟨_, _, rfl, rfl, rfl⟩
  obtain ⟨x, w', h1, rfl, rfl⟩ := this
  exact h1

theorem search_loop {K : Hl} {v : Value} {vs : List AV} {s : Int} {b1 b2 : Nat} (hr : Rc K v vs) (hb : vs.length ≤ 2 ^ 30) : ∀ (d i j : Nat) (e : Env) (w : World) (F : List HP), j - i ≤ d → i ≤ j → j ≤ vs.length →
    (RightP vs → ∀ (k : Nat) (a : AV), k < i → vs[k]? = some a → ¬ a.st ≤ s) → (RightP vs → ∀ (k : Nat) (a : AV), j ≤ k → vs[k]? = some a → a.st ≤ s) → Sat w (pt b2 [u64 s] 64 :: pt b1 [v] 76 :: kn K :: F) →
    e 1 = .func (.func 123) #[] #[ptr b1 0, ptr b2 0] → e 5 = int i → e 6 = int j → e 26 = undef →
    Ok (evalLoop (cx122 (Fn Pg) (Rnd Pg)) (cdA Go.Proofs.Try.f122 [1, 1, 0, 0, 0]) (K122_2 (Fn Pg) (Rnd Pg)) e w) fun x w' => (∃ p : Nat, x = int p ∧ p ≤ vs.length ∧ (RightP vs → PlaceP vs s p)) ∧ Sat w' (pt b2 [u64 s] 64 :: pt b1 [v] 76 :: kn K :: F) ∧ Sm w w' := by
  intro d
  induction d with
  | zero =>
    intro i j e w F hd hij hj hlo hhi hs e1 e5 e6 e26
    have : i = j := by omega
    subst this
    rw [S122_L1_eq]; unfold S122_L1
    rw [e1, e5, e6, e26]
    refine Ok.rd2 bin_lss (Ok.cf (by simp) ?_)
    exact ⟨_, _, rfl, ⟨i, rfl, hj, fun hR => ⟨hj, hlo hR, fun a ha => hhi hR i a (Nat.le_refl _) ha⟩⟩, hs, Sm.refl _⟩
  | succ d ih =>
    intro i j e w F hd hij hj hlo hhi hs e1 e5 e6 e26
    by_cases hlt : i < j
    · rw [S122_L1_eq]; unfold S122_L1
      rw [e1, e5, e6, e26]
      refine Ok.rd2 bin_lss (Ok.ct (by simp; omega) ?_)
      refine Ok.rd2 (bin_add (by omega) (by omega)) ?_
      rw [show ((i : Int) + (j : Int)) = ((i + j : Nat) : Int) by omega]
      refine Ok.rd2 (cv_1 (by omega)) (Ok.rd2 shr_1 (Ok.rd2 (cv_2 (by omega)) ?_))
      obtain ⟨a, ha⟩ : ∃ a, vs[(i + j) / 2]? = some a := ⟨_, List.getElem?_eq_getElem (by omega)⟩
      have hcall : callV (cx122 (Fn Pg) (Rnd Pg)) (.func (.func 123) #[] #[ptr b1 0, ptr b2 0]) [int ((i + j) / 2 : Nat)] w = some (.bool (decide (a.st ≤ s)), drw w) := less_ok hr ha hs
      refine Ok.rd2 hcall (Ok.rd (un_not _) ?_)
      by_cases hp : a.st ≤ s
      · refine Ok.cf (by simp [hp]) ?_
        refine Ok.mono (ih i ((i + j) / 2) _ (drw w) F (by omega) (by omega) (by omega) hlo (fun hR k b hk hb => ?_) hs.drw ?_ ?_ ?_ ?_) ?_
        · rcases Nat.lt_or_ge ((i + j) / 2) k with h | h
          · have := right_dec hR (k - (i + j) / 2 - 1) ((i + j) / 2) a b ha (by rw [show (i + j) / 2 + (k - (i + j) / 2 - 1) + 1 = k by omega]; exact hb)
            omega
          · have : k = (i + j) / 2 := by omega
            rw [this, ha] at hb
            injection hb with hb; subst hb; exact hp
        · exact e1
        · exact e5
        · rfl
        · exact e26
        · rintro x w' ⟨m1, m2, m3⟩
          exact ⟨m1, m2, m3.drw⟩
      · refine Ok.ct (by simp [hp]) (Ok.rd2 (bin_add1 (by omega)) ?_)
        refine Ok.mono (ih ((i + j) / 2 + 1) j _ (drw w) F (by omega) (by omega) (by omega) (fun hR k b hk hb => ?_) hhi hs.drw ?_ ?_ ?_ ?_) ?_
        · rcases Nat.lt_or_ge k ((i + j) / 2) with h | h
          · have := right_dec hR ((i + j) / 2 - k - 1) k b a hb (by rw [show k + ((i + j) / 2 - k - 1) + 1 = (i + j) / 2 by omega]; exact ha)
            omega
          · have : k = (i + j) / 2 := by omega
            rw [this, ha] at hb
            injection hb with hb; subst hb; exact hp
        · exact e1
        · rfl
        · exact e6
        · exact e26
        · rintro x w' ⟨m1, m2, m3⟩
          exact ⟨m1, m2, m3.drw⟩
    · exact ih i j e w F (by omega) hij hj hlo hhi hs e1 e5 e6 e26

theorem place_any {K : Hl} {v : Value} {vs : List AV} {s : Int} (hr : Rc K v vs) (hb : vs.length ≤ 2 ^ 30) (hs : Sat w (kn K :: F)) :
    Ok (Fn Pg 102 [v, u64 s] w) fun x w' => (∃ p : Nat, x = int p ∧ p ≤ vs.length ∧ (RightP vs → PlaceP vs s p)) ∧ Sat w' (kn K :: F) ∧ Sm w w' := by
  rw [F102]; unfold S102
  refine go_box (l := [v]) (by rw [cells_one hr.one]) hs fun b1 w1 h1 s1 => ?_
  refine go_box (l := [u64 s]) rfl h1 fun b2 w2 h2 s2 => ?_
  refine Ok.rd (ld1 a76' h2 1 rfl) (Ok.rd2 (hr.len w2) ?_)
  refine Ok.bind (Q := fun x w' => (∃ p : Nat, x = int p ∧ p ≤ vs.length ∧ (RightP vs → PlaceP vs s p)) ∧ Sat w' (pt b2 [u64 s] 64 :: pt b1 [v] 76 :: kn K :: F) ∧ Sm w2 w') ?_ ?_
  · rw [F122]; unfold S122
    exact search_loop hr hb vs.length 0 vs.length _ w2 F (by omega) (Nat.zero_le _) (Nat.le_refl _) (fun _ k a hk => absurd hk (Nat.not_lt_zero _)) (fun _ k a hk ha => by have := (List.getElem?_eq_some_iff.1 ha).1; omega) h2 rfl rfl rfl rfl
  · rintro x w3 ⟨m1, m2, m3⟩
    exact ⟨_, _, rfl, m1, m2.drop.drop, s1.trans (s2.trans m3)⟩
theorem place_ok {K : Hl} {v : Value} {vs : List AV} {s : Int} (hr : Rc K v vs) (hR : RightP vs) (hb : vs.length ≤ 2 ^ 30) (hs : Sat w (kn K :: F)) :
    Ok (Fn Pg 102 [v, u64 s] w) fun x w' => (∃ p : Nat, x = int p ∧ PlaceP vs s p) ∧ Sat w' (kn K :: F) ∧ Sm w w' :=
  Ok.mono (place_any hr hb hs) fun x w' ⟨⟨p, h1, _, h2⟩, h3, h4⟩ => ⟨⟨p, h1, h2 hR⟩, h3, h4⟩
end Go.Cb

/-
  Chains: At, Value.
-/
set_option linter.unusedVariables false
set_option linter.unusedSimpArgs false
namespace Go.Cb
open Classical
variable {w : World} {F : List HP} {Q Q' : Value → World → Prop}

def nilV1 : V1 := ⟨.slice none 0 0, rfl⟩
def zV : Ver := ⟨0, false, nilV1, 0, 0⟩
def zA : AV := ⟨0, false, [], 0, 0⟩
theorem zRv (K : Hl) : Rv K zV zA := ⟨rfl, rfl, rfl, rfl, RdS.nil none 0⟩
theorem bld85_0 : bldV Pg 85 [] = some (aggV zV) := by kernel_rfl
theorem bld83_0 : bldV Pg 83 [] = some (.agg #[.slice none 0 0, u64 0, int 0]) := by kernel_rfl

/-- what At answers. -/
noncomputable def atV (vs : List AV) (s : Int) : AV × Bool := if RightP vs then (match atA vs s with | some a => (a, true) | none => (zA, false)) else (zA, false)
def AtQ (K : Hl) (vs : List AV) (s : Int) (F : List HP) (w : World) (v : Value) (w' : World) : Prop :=
  ∃ K' x, Le K K' ∧ v = .tuple #[aggV x, .bool (atV vs s).2] ∧ Rv K' x (atV vs s).1 ∧ Sat w' (kn K' :: F) ∧ Sm w w'

theorem at_ok {K : Hl} {v : Value} {vs : List AV} {s : Int} (hpb : PlB vs) (hr : Rc K v vs) (hb : vs.length ≤ 2 ^ 30) (hs : Sat w (kn K :: F)) :
    Ok (Fn Pg 79 [v, u64 s] w) (AtQ K vs s F w) := by
  rw [F79]; unfold S79
  refine go_new z85 hs fun r w1 h1 s1 => ?_
  refine Ok.bind (right_ok hr hb h1.sw) ?_
  rintro x w2 ⟨rfl, h2, s2⟩
  have h2 : Sat w2 (kn K :: pt r [u64 0, .bool false, .slice none 0 0, u64 0, int 0] 85 :: F) := h2
  have none' : ∀ {w3 : World}, (atV vs s) = (zA, false) → Sm w w3 → Sat w3 (kn K :: pt r [u64 0, .bool false, .slice none 0 0, u64 0, int 0] 85 :: F) →
      Ok (rd (bldV Pg 85 []) fun x8 => rd2 (rawU Pg (Instr.storeAt 85 (ptr r 0) x8) w3) fun x10 w9 => rd (ldV Pg 85 (ptr r 0) w9) fun x11 => some ((.tuple #[x11, (.bool false)]), w9)) (AtQ K vs s F w) := by
    intro w3 ha hm h3
    refine Ok.rd bld85_0 ?_
    obtain ⟨w4, m4, h4, s4⟩ := st_agg ty85 rfl (cs := #[u64 zV.st, .bool zV.dead, zV.pv.1, u64 zV.gen, int zV.size]) rfl (ones_ver zV) h3 1 rfl
    refine Ok.rd2 m4 ?_
    have h4 : Sat w4 (kn K :: pt r (encVer zV) 85 :: F) := h4
    refine Ok.rd (ldv h4 1 rfl) ?_
    refine ⟨_, _, rfl, K, zV, Le.refl K, ?_, ?_, h4.sw.drop, hm.trans s4⟩
    · rw [ha]
    · rw [ha]; exact zRv K
  refine Ok.rd (un_not _) ?_
  by_cases hR : RightP vs
  · refine Ok.cf (by simp [hR]) ?_
    refine Ok.bind (place_ok hr hR hb h2) ?_
    rintro x w3 ⟨⟨p, rfl, hp⟩, h3, s3⟩
    have hat := at_place hp
    refine Ok.rd2 (hr.len w3) (Ok.rd2 bin_eql ?_)
    by_cases hpn : p = vs.length
    · refine Ok.ct (by simp [hpn]) ?_
      refine none' ?_ (s1.trans (s2.trans s3)) h3
      unfold atV
      rw [if_pos hR, hat, hpn]
      simp
    · have hlt : p < vs.length := by have := hp.le; omega
      obtain ⟨a, ha⟩ : ∃ a, vs[p]? = some a := ⟨_, List.getElem?_eq_getElem hlt⟩
      have hatv : atV vs s = (a, true) := by
        unfold atV
        rw [if_pos hR, hat, ha]
      refine Ok.cf (by simp; omega) ?_
      obtain ⟨q, x, g1, hx, g2⟩ := hr.at ha
      refine Ok.rd g1 (Ok.rd (g2 w3 (kn_on h3 (j := 0) rfl)).1 ?_)
      refine Ok.bind (own_ok (j := 0) hx (hpb a (List.mem_of_getElem? ha)) h3) ?_
      rintro y w4 ⟨K', x', hl, rfl, hx', h4, s4⟩
      obtain ⟨w5, m5, h5, s5⟩ := st_agg ty85 rfl (cs := #[u64 x'.st, .bool x'.dead, x'.pv.1, u64 x'.gen, int x'.size]) rfl (ones_ver x') h4 1 rfl
      refine Ok.rd2 m5 ?_
      have h5 : Sat w5 (kn K' :: pt r (encVer x') 85 :: F) := h5
      refine Ok.rd (ldv h5 1 rfl) ?_
      refine ⟨_, _, rfl, K', x', hl, ?_, ?_, h5.sw.drop, s1.trans (s2.trans (s3.trans (s4.trans s5)))⟩
      · rw [hatv]
      · rw [hatv]; exact hx'
  · refine Ok.ct (by simp [hR]) ?_
    refine none' ?_ (s1.trans s2) h2
    unfold atV
    rw [if_neg hR]

/-- a blob, and what it says. -/
structure Rb (K : Hl) (v : Value) (a : AV) : Prop where
  b : ∃ pv : V1, v = .agg #[pv.1, u64 a.gen, int a.size] ∧ RdS K 81 1 encI pv.1 a.places
/-- what Value answers. -/
noncomputable def valV (vs : List AV) (s : Int) : AV × Bool := if (atV vs s).2 = true ∧ (atV vs s).1.dead = false then ((atV vs s).1, true) else (zA, false)
theorem a83 : aggT Pg 83 = some true := by kernel_rfl
theorem ty83 : tyB Pg 83 3 = true := by kernel_rfl
theorem z83 : zeroL Pg 83 = some [.slice none 0 0, u64 0, int 0] := by kernel_rfl
theorem ldv_b {b : Nat} {x : Ver} (h : Sat w F) (k : Nat) (hk : F[k]? = some (pt b (encVer x) 85)) : ldV Pg 83 (ptr b (0 + 2)) w = some (.agg #[x.pv.1, u64 x.gen, int x.size]) := by
  obtain ⟨i, z, h1, h2, _⟩ := ty_of ty83
  rw [at_load (h.foc hk).at (o := 0 + 2) (n := 3) (by simp [encVer]) a83 h1 h2]; rfl

theorem value_ok {K : Hl} {v : Value} {vs : List AV} {s : Int} (hpb : PlB vs) (hr : Rc K v vs) (hb : vs.length ≤ 2 ^ 30) (hs : Sat w (kn K :: F)) :
    Ok (Fn Pg 73 [v, u64 s] w) fun x w' => ∃ K' y, Le K K' ∧ x = .tuple #[y, .bool (valV vs s).2] ∧ Rb K' y (valV vs s).1 ∧ Sat w' (kn K' :: F) ∧ Sm w w' := by
  rw [F73]; unfold S73
  refine go_new z83 hs fun r w1 h1 s1 => ?_
  refine Ok.bind (at_ok hpb hr hb h1.sw) ?_
  rintro y w2 ⟨K', x, hl, rfl, hx, h2, s2⟩
  refine Ok.rd rfl (Ok.rd rfl ?_)
  refine go_tmpG ty85 rfl (ones_ver x) h2 fun nb w3 h3 s3 => ?_
  have h3 : Sat w3 (pt nb (encVer x) 85 :: kn K' :: pt r [.slice none 0 0, u64 0, int 0] 83 :: F) := h3
  have sall := s1.trans (s2.trans s3)
  have none' : valV vs s = (zA, false) → Ok (rd (bldV Pg 83 []) fun x21 => rd2 (rawU Pg (Instr.storeAt 83 (ptr r 0) x21) w3) fun x23 w22 => rd (ldV Pg 83 (ptr r 0) w22) fun x24 => some ((.tuple #[x24, (.bool false)]), w22))
      fun x w' => ∃ K' y, Le K K' ∧ x = .tuple #[y, .bool (valV vs s).2] ∧ Rb K' y (valV vs s).1 ∧ Sat w' (kn K' :: F) ∧ Sm w w' := by
    intro hv
    refine Ok.rd bld83_0 ?_
    obtain ⟨w4, m4, h4, s4⟩ := st_agg ty83 rfl (cs := #[.slice none 0 0, u64 0, int 0]) rfl (by simp; exact ⟨rfl, rfl, rfl⟩) h3 2 rfl
    refine Ok.rd2 m4 ?_
    refine Ok.rd (ld_agg a83 ty83 rfl h4 2 rfl) ?_
    refine ⟨_, _, rfl, K', .agg #[.slice none 0 0, u64 0, int 0], hl, by rw [hv], ?_, (h4.re [0, 2, 1] (by decide)).drop.drop, sall.trans s4⟩
    rw [hv]; exact ⟨nilV1, rfl, RdS.nil none 0⟩
  refine Ok.rd (un_not _) ?_
  cases ha : (atV vs s).2 with
  | false =>
    refine Ok.f0 (Ok.f0 (Ok.rd (pick_t _ _) (Ok.ct rfl (none' ?_))))
    unfold valV
    rw [if_neg (by rw [ha]; simp)]
  | true =>
    refine f_ok rfl (by rw [fld85_1]; rfl) (f_ok rfl (by rw [ldv_1 h3 0 rfl]; rfl) (pk_f rfl ?_))
    rw [hx.dead]
    cases hd : (atV vs s).1.dead with
    | true =>
      refine Ok.ct rfl (none' ?_)
      unfold valV
      rw [if_neg (by rw [hd]; simp)]
    | false =>
      have hv : valV vs s = ((atV vs s).1, true) := by
        unfold valV
        rw [if_pos ⟨ha, hd⟩]
      refine Ok.cf rfl (Ok.rd (fld85_2 _ _) (Ok.rd (ldv_b h3 0 rfl) ?_))
      obtain ⟨w4, m4, h4, s4⟩ := st_agg ty83 rfl (cs := #[x.pv.1, u64 x.gen, int x.size]) rfl (by simp; exact ⟨x.pv.2, rfl, rfl⟩) h3 2 rfl
      refine Ok.rd2 m4 ?_
      refine Ok.rd (ld_agg a83 ty83 rfl h4 2 rfl) ?_
      refine ⟨_, _, rfl, K', .agg #[x.pv.1, u64 x.gen, int x.size], hl, by rw [hv], ?_, (h4.re [0, 2, 1] (by decide)).drop.drop, sall.trans s4⟩
      rw [hv, hx.gen, hx.size]
      exact ⟨x.pv, rfl, hx.pl⟩
end Go.Cb
