import Derived.Test.YtialecgadoepjaaGreatZB
import Derived.Maps.RangeRun
/-
  What is known of memory that nobody turns; slices that are read there.
-/
set_option linter.unusedVariables false
set_option linter.unusedSimpArgs false
namespace Go.Cb
variable {w : World} {F : List HP} {Q Q' : Value → World → Prop}

/-- just these blocks. -/
def kn (K : Hl) : HP := fun h => h = K
theorem kn_on {K : Hl} {j : Nat} (hs : Sat w F) (hj : F[j]? = some (kn K)) : K.on w := by
  obtain ⟨x, hx, h1, h2, hd, rfl, hA, hF⟩ := hs.foc hj
  have hA : h1 = K := hA
  subst hA
  exact fun b o hb => hx b o (un_l hb)
/-- more is known. -/
def Le (K K' : Hl) : Prop := ∀ w, K'.on w → K.on w
theorem Le.refl (K : Hl) : Le K K := fun _ h => h
theorem Le.trans {K K1 K2 : Hl} (h : Le K K1) (h' : Le K1 K2) : Le K K2 := fun w hw => h w (h' w hw)

/-- a slice that is read. -/
structure RdS (K : Hl) (t k : Nat) {α : Type} (enc : α → List Value) (v : Value) (xs : List α) : Prop where
  sl : ∃ a c, v = .slice a xs.length c
  ix : ∀ (i : Nat) (x : α), xs[i]? = some x → ∃ p : Addr, ixA Pg t v (int i) = some (.pointer (some p)) ∧ ∀ w, K.on w → cellsAt w p 0 k = some (enc x)
  src : ∀ w, K.on w → Src w v xs.length k (xs.flatMap enc)
theorem RdS.mono {K K' : Hl} {t k : Nat} {α : Type} {enc : α → List Value} {v : Value} {xs : List α} (h : RdS K t k enc v xs) (hl : Le K K') : RdS K' t k enc v xs :=
  ⟨h.sl, fun i x hx => let ⟨p, h1, h2⟩ := h.ix i x hx; ⟨p, h1, fun w hw => h2 w (hl w hw)⟩, fun w hw => h.src w (hl w hw)⟩
theorem RdS.nil {K : Hl} {t k : Nat} {α : Type} {enc : α → List Value} (a : Option Addr) (c : Nat) : RdS K t k enc (.slice a 0 c) ([] : List α) :=
  ⟨⟨a, c, rfl⟩, fun i x hx => by simp at hx, fun w hw => by
    cases a with
    | none => exact .inl ⟨_, rfl, rfl, rfl⟩
    | some a => exact .inr ⟨_, _, rfl, by simp [cellsAt]⟩⟩
theorem RdS.len {K : Hl} {t k e : Nat} {α : Type} {enc : α → List Value} {v : Value} {xs : List α} (hT : SlT Pg t e k) (h : RdS K t k enc v xs) {st : Bool} {rt : TypeId} {cs : Array Bool} (w' : World) : lenG st Pg .len #[t] rt cs [v] w' = some (int xs.length, w') := by
  obtain ⟨a, c, rfl⟩ := h.sl
  exact len_sl hT.u _ _ _ _
theorem RdS.one {K : Hl} {t k : Nat} {α : Type} {enc : α → List Value} {v : Value} {xs : List α} (h : RdS K t k enc v xs) : Cb.one v = true := by
  obtain ⟨a, c, rfl⟩ := h.sl; rfl

/-- what was ours is given away. -/
theorem share {T t k : Nat} {α : Type} {enc : α → List Value} {v : Value} {xs : List α} {K : Hl} (hT : SlT Pg t T k) (hE : En enc k) (hs : Sat w (slH T k enc v xs :: kn K :: F)) :
    ∃ K', Le K K' ∧ RdS K' t k enc v xs ∧ Sat w (kn K' :: F) := by
  obtain ⟨inf, z, hi, hk, _⟩ := hT.i
  rcases slH_cases hs with ⟨a, rfl, rfl, h⟩ | ⟨b, c, l, rfl, h1, h2, h3, h⟩
  · exact ⟨K, Le.refl K, RdS.nil a 0, h⟩
  · obtain ⟨x, hx, g1, g2, hd, rfl, hA, g3, g4, hd2, rfl, hB, hF⟩ := h
    have hB : g3 = K := hB
    subst hB
    have hat : ∀ w', (un g1 g3).on w' → At w' b l T := fun w' hw' => hw' b _ (un_l (by rw [hA]; simp))
    have hmul : xs.length * k ≤ c * k := Nat.mul_le_mul_right k h2
    refine ⟨un g1 g3, ?_, ⟨⟨_, c, rfl⟩, ?_, ?_⟩, ?_⟩
    · intro w' hw' b' o hb'
      exact hw' b' o (un_r (dj_un.1 hd).1 hb')
    · intro i y hy
      obtain ⟨hlt, rfl⟩ := List.getElem?_eq_some_iff.1 hy
      have h4 : i * k + k ≤ xs.length * k := by rw [← Nat.succ_mul]; exact Nat.mul_le_mul_right k hlt
      refine ⟨ad b (0 + i * inf.size), ix_sl hT.u hi hlt, fun w' hw' => ?_⟩
      have hc := (hat w' hw').cells (0 + i * inf.size) k 0 (by rw [hk]; omega)
      rw [hc]
      refine congrArg some ?_
      rw [hk, Nat.zero_add, Nat.add_zero]
      have h5 : (l.drop (i * k)).take k = ((l.take (xs.length * k)).drop (i * k)).take k := by
        rw [List.drop_take, List.take_take, Nat.min_eq_left (by omega)]
      rw [h5, h3]
      rw [flat_drop hE.len, List.drop_eq_getElem_cons hlt, List.flatMap_cons]
      rw [List.take_append_of_le_length (by rw [hE.len]; exact Nat.le_refl _), List.take_of_length_le (by rw [hE.len]; exact Nat.le_refl _)]
    · intro w' hw'
      have := src_at (w := w') (o := 0) (n := xs.length) (k := k) (c := c) (hat w' hw') (by omega)
      rw [List.drop_zero, h3] at this
      exact this
    · refine ⟨_, hx, un g1 g3, g4, ?_, (un_assoc _ _ _).symm, rfl, hF⟩
      exact (dj_un.2 ⟨(dj_un.1 hd).2.symm, hd2.symm⟩).symm
end Go.Cb

/-
  Versions and chains: own, bare, Right, Add.
-/
set_option linter.unusedVariables false
set_option linter.unusedSimpArgs false
namespace Go.Cb
variable {w : World} {F : List HP} {Q Q' : Value → World → Prop}

/-! ### A struct, laid, read and stored whole -/

def tyB (P : Program) (t : TypeId) (k : Nat) : Bool :=
  match P.info? t with
  | some i => Nat.beq i.size k && (match i.zero with
    | some z => Nat.beq z.cells.size k
    | none => false)
  | none => false
theorem ty_of {t k : Nat} (h : tyB Pg t k = true) : ∃ i z, Pg.info? t = some i ∧ i.size = k ∧ i.zero = some z ∧ z.cells.size = k := by
  unfold tyB at h
  split at h
  · rename_i i hi
    simp only [Bool.and_eq_true] at h
    obtain ⟨h1, h⟩ := h
    split at h
    · rename_i z hz
      exact ⟨i, z, hi, Nat.eq_of_beq_eq_true h1, hz, Nat.eq_of_beq_eq_true h⟩
    · cases h
  · cases h
theorem ld_agg {t n b : Nat} {l : List Value} {T : TypeId} (ha : aggT Pg t = some true) (hT : tyB Pg t n = true) (hl : l.length = n) (h : Sat w F) (k : Nat) (hk : F[k]? = some (pt b l T)) : ldV Pg t (ptr b 0) w = some (.agg l.toArray) := by
  obtain ⟨i, z, h1, h2, _⟩ := ty_of hT
  rw [at_load (h.foc hk).at (o := 0) (n := n) (by omega) ha h1 h2, List.drop_zero, List.take_of_length_le (by omega)]
theorem st_agg {t n b : Nat} {l : List Value} {T : TypeId} {cs : Array Value} (hT : tyB Pg t n = true) (hl : l.length = n) (hc : cs.size = n) (h1' : ∀ v ∈ cs.toList, one v = true) (h : Sat w F) (k : Nat) (hk : F[k]? = some (pt b l T)) :
    ∃ w', rawU Pg (Instr.storeAt t (ptr b 0) (.agg cs)) w = some (undef, w') ∧ Sat w' (F.set k (pt b cs.toList T)) ∧ Sm w w' := by
  obtain ⟨i, z, h1, h2, h3, h4⟩ := ty_of hT
  obtain ⟨w', g1, g2, g3⟩ := storeAt_ok (P := Pg) h1 (h.foc hk).hp (k := 0) rfl (o := 0) (v := .agg cs) (by rw [h2]; exact hc) (by rw [h2, hl]; omega) (fun x hx => h1' x (by simpa [Value.cells] using hx))
  refine ⟨w', g1, Sat.unf hk ((h.foc hk).put g3 (fun _ _ hd => hd) ?_ (.inl rfl)), g3.sm⟩
  have := g2.get (k := 0) rfl
  have hlay : lay l 0 (Value.agg cs).cells.toList = cs.toList := by
    have hcc : (Value.agg cs).cells.toList = cs.toList := rfl
    have hc2 : cs.toList.length = n := by rw [Array.length_toList, hc]
    rw [hcc, lay_eq _ _ _ (by rw [hl, hc2]; omega)]
    rw [List.drop_eq_nil_of_le (by rw [hl, hc2]; omega)]
    simp
  rw [hlay] at this
  exact this
/-- a struct laid aside. -/
theorem go_tmpG {t k : Nat} (hT : tyB Pg t k = true) {cs : Array Value} (hk : cs.size = k) (h1' : ∀ v ∈ cs.toList, one v = true) {κ : Value → Value → World → R} (h : Sat w F) (hκ : ∀ nb w', Sat w' (pt nb cs.toList t :: F) → Sm w w' → Ok (κ (ptr nb 0) undef w') Q) :
    Ok (rd2 (rawV Pg (Instr.alloc t true (.tuple #[])) w) fun x w' => rd2 (rawU Pg (Instr.storeAt t x (.agg cs)) w') fun u w'' => κ x u w'') Q := by
  obtain ⟨i, z, h1, h2, h3, h4⟩ := ty_of hT
  refine go_new (l := z.cells.toList) (by simp [zeroL, h1, h3]) h fun nb w1 t1 s1 => ?_
  obtain ⟨w2, g1, g2, g3⟩ := st_agg hT (by rw [Array.length_toList, h4]) hk h1' t1 0 rfl
  exact Ok.rd2 g1 (hκ nb w2 g2 (s1.trans g3))

/-! ### Versions -/

structure Ver where
  st : Int
  dead : Bool
  pv : V1
  gen : Int
  size : Int
abbrev u64 (n : Int) : Value := .int .u64 n
abbrev encVer (x : Ver) : List Value := [u64 x.st, .bool x.dead, x.pv.1, u64 x.gen, int x.size]
abbrev aggV (x : Ver) : Value := .agg #[u64 x.st, .bool x.dead, x.pv.1, u64 x.gen, int x.size]
theorem enVer : En encVer 5 := ⟨fun _ => rfl, fun x v hv => by
  simp [encVer] at hv
  rcases hv with rfl | rfl | rfl | rfl | rfl
  · rfl
  · rfl
  · exact x.pv.2
  · rfl
  · rfl⟩
abbrev encI (n : Int) : List Value := [int n]
theorem enI : En encI 1 := ⟨fun _ => rfl, fun x v hv => by simp [encI] at hv; subst hv; rfl⟩
theorem T81 : SlT Pg 80 3 1 := slT_of (by kernel_rfl)
theorem T76 : SlT Pg 43 137 5 := slT_of (by kernel_rfl)
theorem a85 : aggT Pg 137 = some true := by kernel_rfl
theorem a81 : aggT Pg 80 = some false := by kernel_rfl
theorem a64 : aggT Pg 23 = some false := by kernel_rfl
theorem ty85 : tyB Pg 137 5 = true := by kernel_rfl
theorem fld85_0 (b o : Nat) : fldA Pg 137 (ptr b o) 0 = some (ptr b o) := by kernel_rfl
theorem fld85_1 (b o : Nat) : fldA Pg 137 (ptr b o) 1 = some (ptr b (o + 1)) := by kernel_rfl
theorem fld85_2 (b o : Nat) : fldA Pg 137 (ptr b o) 2 = some (ptr b (o + 2)) := by kernel_rfl
theorem fld83_0 (b o : Nat) : fldA Pg 82 (ptr b o) 0 = some (ptr b o) := by kernel_rfl
theorem fld83_1 (b o : Nat) : fldA Pg 82 (ptr b o) 1 = some (ptr b (o + 1)) := by kernel_rfl
theorem fld83_2 (b o : Nat) : fldA Pg 82 (ptr b o) 2 = some (ptr b (o + 2)) := by kernel_rfl
theorem z85 : zeroL Pg 137 = some [u64 0, .bool false, .slice none 0 0, u64 0, int 0] := by kernel_rfl

theorem bin_eq64 {st : Bool} {t : TypeId} {ox oy : Operand} {a b : Int} {w : World} : binG st Pg .eql t ox oy (u64 a) (u64 b) w = some (.bool (a == b), w) := rfl
theorem bin_le64 {st : Bool} {t : TypeId} {ox oy : Operand} {a b : Int} {w : World} : binG st Pg .leq t ox oy (u64 a) (u64 b) w = some (.bool (decide (a ≤ b)), w) := rfl
theorem bin_ge64 {st : Bool} {t : TypeId} {ox oy : Operand} {a b : Int} {w : World} : binG st Pg .geq t ox oy (u64 a) (u64 b) w = some (.bool (decide (a ≥ b)), w) := rfl

/-- what a version says. -/
structure AV where
  st : Int
  dead : Bool
  places : List Int
  gen : Int
  size : Int
structure Rv (K : Hl) (x : Ver) (a : AV) : Prop where
  st : x.st = a.st
  dead : x.dead = a.dead
  gen : x.gen = a.gen
  size : x.size = a.size
  pl : RdS K 80 1 encI x.pv.1 a.places
theorem Rv.mono {K K' : Hl} {x : Ver} {a : AV} (h : Rv K x a) (hl : Le K K') : Rv K' x a := ⟨h.st, h.dead, h.gen, h.size, h.pl.mono hl⟩

section
variable {b : Nat} {x : Ver}
theorem ldv_0 (h : Sat w F) (k : Nat) (hk : F[k]? = some (pt b (encVer x) 137)) : ldV Pg 23 (ptr b 0) w = some (u64 x.st) := (ldV_sc a64 _ _).trans ((h.foc hk).at.cell 0)
theorem ldv_1 (h : Sat w F) (k : Nat) (hk : F[k]? = some (pt b (encVer x) 137)) : ldV Pg 4 (ptr b (0 + 1)) w = some (.bool x.dead) := (ldV_sc a4 _ _).trans ((h.foc hk).at.cell 1)
theorem ldv_2 (h : Sat w F) (k : Nat) (hk : F[k]? = some (pt b (encVer x) 137)) : ldV Pg 80 (ptr b (0 + 2)) w = some x.pv.1 := (ldV_sc a81 _ _).trans ((h.foc hk).at.cell 2)
theorem ldv_3 (h : Sat w F) (k : Nat) (hk : F[k]? = some (pt b (encVer x) 137)) : ldV Pg 23 (ptr b (0 + 2 + 1)) w = some (u64 x.gen) := (ldV_sc a64 _ _).trans ((h.foc hk).at.cell 3)
theorem ldv_4 (h : Sat w F) (k : Nat) (hk : F[k]? = some (pt b (encVer x) 137)) : ldV Pg 3 (ptr b (0 + 2 + 2)) w = some (int x.size) := (ldV_sc a3 _ _).trans ((h.foc hk).at.cell 4)
theorem ldv (h : Sat w F) (k : Nat) (hk : F[k]? = some (pt b (encVer x) 137)) : ldV Pg 137 (ptr b 0) w = some (aggV x) := ld_agg a85 ty85 rfl h k hk
end
theorem ones_ver (x : Ver) : ∀ v ∈ (#[u64 x.st, .bool x.dead, x.pv.1, u64 x.gen, int x.size] : Array Value).toList, one v = true := enVer.one x

theorem own_ok {K : Hl} {x : Ver} {a : AV} {j : Nat} (hx : Rv K x a) (hb : a.places.length ≤ 2 ^ 29) (hs : Sat w (kn K :: F)) :
    Ok (Fn Pg 147 [aggV x] w) fun v w' => ∃ K' x', Le K K' ∧ v = aggV x' ∧ Rv K' x' a ∧ Sat w' (kn K' :: F) ∧ Sm w w' := by
  rw [F147]; unfold S147
  refine go_box (l := encVer x) rfl hs fun b w1 h1 s1 => ?_
  refine go_new z85 h1 fun r w2 h2 s2 => ?_
  refine Ok.rd (fld85_2 _ _) (Ok.rd (fld83_0 _ _) (Ok.rd (ldv_2 h2 1 rfl) ?_))
  have h3 := slH_nil (T := 3) (k := 1) (enc := encI) none h2
  have hsrc := hx.pl.src w2 (kn_on h2 (j := 2) rfl)
  refine go_app T81 enI h3 0 rfl hsrc (by simp; omega) fun av w4 h4 s4 => ?_
  refine Ok.rd (fld85_2 _ _) (Ok.rd (fld83_0 _ _) ?_)
  have h4 : Sat w4 (slH 3 1 encI av a.places :: pt r [u64 0, .bool false, .slice none 0 0, u64 0, int 0] 137 :: pt b (encVer x) 137 :: kn K :: F) := h4
  have hone := one_slH h4 0 rfl
  obtain ⟨w5, m5, h5, s5⟩ := st_one (P := Pg) (t := 80) (sz_of (by kernel_rfl)) h4 2 rfl (o := 0 + 2) (v := av) (by simp [encVer]) hone
  refine Ok.rd2 m5 ?_
  have h5 : Sat w5 (slH 3 1 encI av a.places :: pt r [u64 0, .bool false, .slice none 0 0, u64 0, int 0] 137 :: pt b (encVer ⟨x.st, x.dead, ⟨av, hone⟩, x.gen, x.size⟩) 137 :: kn K :: F) := h5
  refine Ok.rd (ldv h5 2 rfl) ?_
  obtain ⟨w6, m6, h6, s6⟩ := st_agg ty85 rfl (cs := #[u64 x.st, .bool x.dead, av, u64 x.gen, int x.size]) rfl (ones_ver ⟨x.st, x.dead, ⟨av, hone⟩, x.gen, x.size⟩) h5 1 rfl
  refine Ok.rd2 m6 ?_
  have h6 : Sat w6 (slH 3 1 encI av a.places :: pt r (encVer ⟨x.st, x.dead, ⟨av, hone⟩, x.gen, x.size⟩) 137 :: pt b (encVer ⟨x.st, x.dead, ⟨av, hone⟩, x.gen, x.size⟩) 137 :: kn K :: F) := h6
  refine Ok.rd (ldv h6 1 rfl) ?_
  have h7 := (h6.re [1, 2, 0, 3] (by decide)).drop.drop
  obtain ⟨K', hl, hr, h8⟩ := share T81 enI h7
  exact ⟨_, _, rfl, K', ⟨x.st, x.dead, ⟨av, hone⟩, x.gen, x.size⟩, hl, rfl, ⟨hx.st, hx.dead, hx.gen, hx.size, hr⟩, h8, s1.trans (s2.trans (s4.trans (s5.trans s6)))⟩

/-- does it name no value? -/
def bareA (a : AV) : Bool := a.size == 0 && a.gen == 0 && decide (a.places.length = 0)
theorem bare_ok {K : Hl} {x : Ver} {a : AV} (hx : Rv K x a) (hs : Sat w F) : Ok (Fn Pg 200 [aggV x] w) fun v w' => v = .bool (bareA a) ∧ Sat w' F ∧ Sm w w' := by
  rw [F200]; unfold S200
  refine go_box (l := encVer x) rfl hs fun b w1 h1 s1 => ?_
  refine Ok.rd (fld85_2 _ _) (Ok.rd (fld83_2 _ _) (Ok.rd (ldv_4 h1 0 rfl) (Ok.rd2 bin_eql ?_)))
  unfold bareA
  rw [hx.size]
  cases h2 : a.size == 0 with
  | false =>
    refine t_no rfl (t_no rfl (t_no rfl (t_no rfl (pk_f rfl (t_no rfl (t_no rfl (t_no rfl (t_no rfl (t_no rfl (pk_f rfl ?_))))))))))
    exact ⟨_, _, rfl, rfl, h1.drop, s1⟩
  | true =>
    refine t_ok rfl (by rw [fld85_2]; rfl) (t_ok rfl (by rw [fld83_1]; rfl) (t_ok rfl (by rw [ldv_3 h1 0 rfl]; rfl) (t_ok rfl (gr2 bin_eq64) (pk_t rfl ?_))))
    rw [hx.gen]
    cases h3 : a.gen == 0 with
    | false =>
      refine t_no rfl (t_no rfl (t_no rfl (t_no rfl (t_no rfl (pk_f rfl ?_)))))
      exact ⟨_, _, rfl, rfl, h1.drop, s1⟩
    | true =>
      refine t_ok rfl (by rw [fld85_2]; rfl) (t_ok rfl (by rw [fld83_0]; rfl) (t_ok rfl (by rw [ldv_2 h1 0 rfl]; rfl) (t_ok rfl (gr2 (hx.pl.len T81 w1)) (t_ok rfl (gr2 bin_eql) (pk_t rfl ?_)))))
      refine ⟨_, _, rfl, congrArg Value.bool ?_, h1.drop, s1⟩
      rw [Bool.true_and, Bool.true_and, Bool.eq_iff_iff, beq_iff_eq, decide_eq_true_iff]; omega
end Go.Cb

/-
  Chains: Right, Add.
-/
set_option linter.unusedVariables false
set_option linter.unusedSimpArgs false
namespace Go.Cb
open Classical
variable {w : World} {F : List HP} {Q Q' : Value → World → Prop}

/-- versions, vs they lie. -/
structure Rvs (K : Hl) (xs : List Ver) (vs : List AV) : Prop where
  len : xs.length = vs.length
  at_ : ∀ (i : Nat) (x : Ver) (a : AV), xs[i]? = some x → vs[i]? = some a → Rv K x a
theorem Rvs.mono {K K' : Hl} {xs : List Ver} {vs : List AV} (h : Rvs K xs vs) (hl : Le K K') : Rvs K' xs vs := ⟨h.len, fun i x a hx ha => (h.at_ i x a hx ha).mono hl⟩
theorem Rvs.nil {K : Hl} : Rvs K [] [] := ⟨rfl, fun i x a hx => by simp at hx⟩
theorem Rvs.snoc {K : Hl} {xs : List Ver} {vs : List AV} {x : Ver} {a : AV} (h : Rvs K xs vs) (hx : Rv K x a) : Rvs K (xs ++ [x]) (vs ++ [a]) := by
  refine ⟨by simp [h.len], fun i y b hy hb => ?_⟩
  rcases Nat.lt_or_ge i xs.length with hi | hi
  · rw [List.getElem?_append_left hi] at hy
    rw [List.getElem?_append_left (by rw [← h.len]; exact hi)] at hb
    exact h.at_ i y b hy hb
  · rw [List.getElem?_append_right hi] at hy
    rw [List.getElem?_append_right (by rw [← h.len]; exact hi)] at hb
    have : i - xs.length = 0 := by
      have := (List.getElem?_eq_some_iff.1 hy).1
      simp at this; omega
    rw [this] at hy
    rw [← h.len, this] at hb
    simp at hy hb
    subst hy hb
    exact hx

/-- a chain. -/
def Rc (K : Hl) (v : Value) (vs : List AV) : Prop := ∃ xs, RdS K 43 5 encVer v xs ∧ Rvs K xs vs
theorem Rc.mono {K K' : Hl} {v : Value} {vs : List AV} (h : Rc K v vs) (hl : Le K K') : Rc K' v vs := let ⟨xs, h1, h2⟩ := h; ⟨xs, h1.mono hl, h2.mono hl⟩
theorem Rc.nil {K : Hl} (a : Option Addr) (c : Nat) : Rc K (.slice a 0 c) [] := ⟨[], RdS.nil a c, Rvs.nil⟩
theorem Rc.len {K : Hl} {v : Value} {vs : List AV} (h : Rc K v vs) {st : Bool} {rt : TypeId} {cs : Array Bool} (w' : World) : lenG st Pg .len #[43] rt cs [v] w' = some (int vs.length, w') := by
  obtain ⟨xs, h1, h2⟩ := h
  rw [← h2.len]
  exact h1.len T76 w'
theorem Rc.one {K : Hl} {v : Value} {vs : List AV} (h : Rc K v vs) : Cb.one v = true := let ⟨_, h1, _⟩ := h; h1.one
theorem Rc.sl {K : Hl} {v : Value} {vs : List AV} (h : Rc K v vs) : ∃ a c, v = .slice a vs.length c := by
  obtain ⟨xs, h1, h2⟩ := h
  rw [← h2.len]; exact h1.sl
theorem i85 : ∃ i, Pg.info? 137 = some i ∧ i.size = 5 := sz_of (by kernel_rfl)
theorem fld85_0' (a : Addr) : fldA Pg 137 (.pointer (some a)) 0 = some (.pointer (some (a.add 0))) := by kernel_rfl
theorem fld85_1' (a : Addr) : fldA Pg 137 (.pointer (some a)) 1 = some (.pointer (some (a.add 1))) := by kernel_rfl
theorem Rc.at {K : Hl} {v : Value} {vs : List AV} (h : Rc K v vs) {i : Nat} {a : AV} (hi : vs[i]? = some a) : ∃ (p : Addr) (x : Ver), ixA Pg 43 v (int i) = some (.pointer (some p)) ∧ Rv K x a ∧
    ∀ w, K.on w → ldV Pg 137 (.pointer (some p)) w = some (aggV x) ∧ ldV Pg 23 (.pointer (some (p.add 0))) w = some (u64 a.st) ∧ ldV Pg 4 (.pointer (some (p.add 1))) w = some (.bool a.dead) := by
  obtain ⟨xs, h1, h2⟩ := h
  have hlt : i < xs.length := by rw [h2.len]; exact (List.getElem?_eq_some_iff.1 hi).1
  have hx : xs[i]? = some xs[i] := List.getElem?_eq_getElem hlt
  obtain ⟨p, h3, h4⟩ := h1.ix i _ hx
  have hr := h2.at_ i _ _ hx hi
  refine ⟨p, xs[i], h3, hr, fun w hw => ?_⟩
  have hc := h4 w hw
  obtain ⟨inf, hinf, hsz⟩ := i85
  refine ⟨by rw [ldV_ag a85 hinf, hsz, hc]; rfl, ?_, ?_⟩
  · rw [ldV_sc a64]
    simp only [cellsAt, encVer, Option.bind_eq_some_iff, Option.map_eq_some_iff] at hc
    obtain ⟨v0, g0, l, _, he⟩ := hc
    simp at he
    rw [g0, he.1, hr.st]
  · rw [ldV_sc a4]
    simp only [cellsAt, encVer, Option.bind_eq_some_iff, Option.map_eq_some_iff] at hc
    obtain ⟨v0, g0, l, ⟨v1, g1, l1, _, hl⟩, he⟩ := hc
    subst hl
    simp at he
    rw [g1, he.2.1, hr.dead]

/-! ### Right -/

def okA (vs : List AV) (i : Nat) : Prop := ∀ a, vs[i]? = some a → (a.dead = true → bareA a = true) ∧ ∀ b, 0 < i → vs[i - 1]? = some b → a.st < b.st
def RightP (vs : List AV) : Prop := ∀ i, okA vs i

theorem dead_ok {x110 : Bool} {x : Ver} {a : AV} {K : Hl} {nb : Nat} (hd : x110 = a.dead) (hx : Rv K x a) (hs : Sat w (pt nb (encVer x) 137 :: F)) {κ : Value → Value → Value → Value → World → R}
    (hκ : ∀ y1 y2 y3 w', Sat w' (pt nb (encVer x) 137 :: F) → Sm w w' → Ok (κ y1 y2 y3 (.bool (a.dead && !bareA a)) w') Q) :
    Ok (rd2 (gate (.bool x110) true (fun _ => rd (ldV Pg 137 (ptr nb 0) w) fun x111 => some (x111, w)) w) fun x112 _ =>
      rd2 (gate (.bool x110) true (fun _ => rd2 (Fn Pg 200 [x112] w) fun x114 w115 => some (x114, w115)) w) fun x116 w117 =>
      rd2 (gate (.bool x110) true (fun _ => rd (unV .not x116) fun x118 => some (x118, w117)) w117) fun x119 _ =>
      rd (pickV (.bool x110) x119 (.bool false)) fun x121 => κ x112 x116 x119 x121 w117) Q := by
  subst hd
  cases hdd : a.dead with
  | false =>
    refine t_no rfl (t_no rfl (t_no rfl (pk_f rfl ?_)))
    have := hκ undef undef undef w hs (Sm.refl _)
    rw [hdd] at this
    exact this
  | true =>
    refine t_ok rfl (by rw [ldv hs 0 rfl]; rfl) ?_
    refine t_call rfl (bare_ok hx hs) ?_
    rintro v w1 ⟨rfl, h1, s1⟩
    refine t_ok rfl (by rw [un_not]; rfl) (pk_t rfl ?_)
    have := hκ (aggV x) (.bool (bareA a)) (.bool !bareA a) w1 h1 s1
    rw [hdd] at this
    exact this

theorem right_loop {K : Hl} {v : Value} {vs : List AV} (hr : Rc K v vs) (hb : vs.length ≤ 2 ^ 30) : ∀ (j i : Nat) (e : Env) (w : World) (F : List HP), i + j = vs.length → (∀ k, k < i → okA vs k) → Sat w (kn K :: F) →
    e 0 = v → e 5 = v → e 6 = int vs.length → e 7 = int i → e 35 = undef →
    Ok (evalLoop (cx144 (Fn Pg) (Rnd Pg)) (cdA Go.Proofs.Tryz.f144 [1, 0, 1, 0, 0]) (K144_2 (Fn Pg) (Rnd Pg)) e w) fun x w' => x = .bool (decide (RightP vs)) ∧ Sat w' (kn K :: F) ∧ Sm w w' := by
  intro j
  induction j with
  | zero =>
    intro i e w F hij hok hs e0 e5 e6 e7 e35
    rw [S144_L1_eq]; unfold S144_L1
    rw [e0, e5, e6, e7, e35]
    refine Ok.rd2 bin_lss (Ok.cf (by simp; omega) ?_)
    refine ⟨_, _, rfl, ?_, hs, Sm.refl _⟩
    have : RightP vs := fun k => by
      rcases Nat.lt_or_ge k i with h | h
      · exact hok k h
      · intro a ha
        have := (List.getElem?_eq_some_iff.1 ha).1
        omega
    rw [decide_eq_true this]
  | succ j ih =>
    intro i e w F hij hok hs e0 e5 e6 e7 e35
    have hi : i < vs.length := by omega
    obtain ⟨a, ha⟩ : ∃ a, vs[i]? = some a := ⟨_, List.getElem?_eq_getElem hi⟩
    obtain ⟨p, x, h1, hx, h2⟩ := hr.at ha
    rw [S144_L1_eq]; unfold S144_L1
    rw [e0, e5, e6, e7, e35]
    refine Ok.rd2 bin_lss (Ok.ct (by simp; omega) ?_)
    refine Ok.rd h1 (Ok.rd (h2 w (kn_on hs (j := 0) rfl)).1 ?_)
    refine go_tmpG ty85 rfl (ones_ver x) hs fun nb w1 t1 s1 => ?_
    have t1 : Sat (drw w1) (pt nb (encVer x) 137 :: kn K :: F) := t1.drw
    refine Ok.rd (fld85_1 _ _) (Ok.rd (ldv_1 t1 0 rfl) ?_)
    refine dead_ok hx.dead hx t1 fun y1 y2 y3 w2 t2 s2 => ?_
    have snow := s1.trans s2.drw
    have fail : ¬ RightP vs → ∀ w', Sat w' (pt nb (encVer x) 137 :: kn K :: F) → Sm w w' → Ok (some (.bool false, w')) fun x w' => x = .bool (decide (RightP vs)) ∧ Sat w' (kn K :: F) ∧ Sm w w' := by
      intro hn w' hw hm
      exact ⟨_, _, rfl, by rw [decide_eq_false hn], hw.drop, hm⟩
    cases hd : (a.dead && !bareA a) with
    | true =>
      refine Ok.f0 (Ok.f0 (Ok.f0 ?_))
      refine Ok.rd2 (v := undef) (w := w2) rfl (Ok.rd2 (v := undef) (w := w2) rfl (Ok.rd2 (v := undef) (w := w2) rfl (Ok.rd2 (v := undef) (w := w2) rfl (Ok.rd2 (v := undef) (w := w2) rfl (Ok.rd2 (v := undef) (w := w2) rfl (Ok.rd2 (v := undef) (w := w2) rfl (Ok.rd2 (v := undef) (w := w2) rfl (Ok.rd2 (v := undef) (w := w2) rfl ?_))))))))
      refine Ok.f0 (Ok.rd (pick_t _ _) (Ok.ct rfl ?_))
      refine fail (fun hR => ?_) w2 t2 snow
      have hd := Bool.and_eq_true _ _ ▸ hd
      have := (hR i a ha).1 hd.1
      rw [this] at hd
      exact absurd hd.2 (by simp)
    | false =>
      have hdb : a.dead = true → bareA a = true := by
        intro h
        rw [h] at hd
        simpa using hd
      have next : okA vs i → Ok (rd2 (binG false Pg .add 3 (.tmp 0) (.const .nilFunc) (int i) (.int .i64 1) w2) fun x162 w163 => some (x162, w163)) fun x w' => x = int (i + 1 : Nat) ∧ w' = w2 := fun _ => Ok.rd2 (bin_add1 (by omega)) ⟨_, _, rfl, rfl, rfl⟩
      refine f_ok rfl rfl (f_ok rfl (gr2 bin_gtr) (f_ok rfl rfl ?_))
      by_cases h0 : i = 0
      · have hg : decide ((0 : Int) < (i : Int)) = false := by simp; omega
        rw [hg]
        refine t_no rfl (t_no rfl (t_no rfl (t_no rfl (t_no rfl (t_no rfl (t_no rfl (t_no rfl (t_no rfl ?_))))))))
        refine f_ok rfl (by rw [pick_f]; rfl) (pk_f rfl (Ok.cf rfl (Ok.rd2 (bin_add1 (by omega)) ?_)))
        have hoki : okA vs i := fun b hb => by
          rw [ha] at hb; injection hb with hb; subst hb
          exact ⟨hdb, fun b hpos => by omega⟩
        refine Ok.mono (ih (i + 1) _ w2 F (by omega) (fun k hk => by
          rcases Nat.lt_or_ge k i with h | h
          · exact hok k h
          · have : k = i := by omega
            rw [this]; exact hoki) t2.drop ?_ ?_ ?_ ?_ ?_) ?_
        · exact e0
        · exact e5
        · exact e6
        · rfl
        · exact e35
        · rintro y w3 ⟨m1, m2, m3⟩
          exact ⟨m1, m2, snow.trans m3⟩
      · have hg : decide ((0 : Int) < (i : Int)) = true := by simp; omega
        rw [hg]
        obtain ⟨b, hb'⟩ : ∃ b, vs[i - 1]? = some b := ⟨_, List.getElem?_eq_getElem (by omega)⟩
        obtain ⟨p', x', q1, hx', q2⟩ := hr.at hb'
        refine t_ok rfl (by rw [fld85_0]; rfl) (t_ok rfl (by rw [ldv_0 t2 0 rfl]; rfl) (t_ok rfl rfl (t_ok rfl rfl ?_)))
        refine t_ok rfl (gr2 (bin_sub1 (by omega) (by omega))) (t_ok rfl (by rw [q1]; rfl) (t_ok rfl (by rw [fld85_0']; rfl) (t_ok rfl (by rw [(q2 w2 (kn_on t2 (j := 1) rfl)).2.1]; rfl) (t_ok rfl (gr2 bin_ge64) ?_))))
        refine f_ok rfl (by rw [pick_t]; rfl) (pk_f rfl ?_)
        rw [hx.st]
        by_cases hge : a.st ≥ b.st
        · refine Ok.ct (decide_eq_true hge) ?_
          refine fail (fun hR => ?_) w2 t2 snow
          have := (hR i a ha).2 b (by omega) hb'
          omega
        · refine Ok.cf (decide_eq_false hge) (Ok.rd2 (bin_add1 (by omega)) ?_)
          have hoki : okA vs i := fun c hc => by
            rw [ha] at hc; injection hc with hc; subst hc
            refine ⟨hdb, fun d hpos hd' => ?_⟩
            rw [hb'] at hd'; injection hd' with hd'; subst hd'
            omega
          refine Ok.mono (ih (i + 1) _ w2 F (by omega) (fun k hk => by
            rcases Nat.lt_or_ge k i with h | h
            · exact hok k h
            · have : k = i := by omega
              rw [this]; exact hoki) t2.drop ?_ ?_ ?_ ?_ ?_) ?_
          · exact e0
          · exact e5
          · exact e6
          · rfl
          · exact e35
          · rintro y w3 ⟨m1, m2, m3⟩
            exact ⟨m1, m2, snow.trans m3⟩

theorem right_ok {K : Hl} {v : Value} {vs : List AV} (hr : Rc K v vs) (hb : vs.length ≤ 2 ^ 30) (hs : Sat w (kn K :: F)) :
    Ok (Fn Pg 144 [v] w) fun x w' => x = .bool (decide (RightP vs)) ∧ Sat w' (kn K :: F) ∧ Sm w w' := by
  rw [F144]; unfold S144
  refine Ok.rd2 (hr.len w) ?_
  exact right_loop hr hb vs.length 0 _ w F (by omega) (fun k hk => absurd hk (Nat.not_lt_zero _)) hs rfl rfl rfl rfl rfl
end Go.Cb

/-
  make of a slice without elements.
-/
set_option linter.unusedVariables false
set_option linter.unusedSimpArgs false
namespace Go.Cb
open Classical
variable {w : World} {F : List HP} {Q Q' : Value → World → Prop}

theorem go_make0 {t e k : Nat} {α : Type} {enc : α → List Value} (hT : SlT Pg t e k) {c : Nat} (hc : c ≤ 2 ^ 29) (h : Sat w F) {κ : Value → World → R} (hκ : ∀ v w', Sat w' (slH e k enc v ([] : List α) :: F) → Sm w w' → Ok (κ v w') Q) :
    Ok (rd2 (rawV Pg (Instr.makeSlice t (int 0) (int c)) w) κ) Q := by
  obtain ⟨i, z, h1, h2, h3, h4, h5, h6, _⟩ := hT.i
  have hw0 : IntKind.i64.wrap 0 = 0 := rfl
  have hwc : IntKind.i64.wrap (c : Int) = c := w64 (by omega) (by omega)
  have hb1 : ¬ ((c : Int) < 0) := by omega
  have hmul : i.bytes * c ≤ 1000 * 2 ^ 29 := Nat.mul_le_mul h5 hc
  have hb2 : ¬ ((i.bytes : Int) * (c : Int) > 2 ^ 48) := by
    rw [← Int.natCast_mul]
    omega
  have hrun : ∃ l : List Value, l.length = c * k ∧ rawV Pg (Instr.makeSlice t (int 0) (int c)) w = some (sl w.heap.size 0 0 c, { w with heap := w.heap.push (.cells l.toArray e) }) := by
    have hA : ∀ w, (asInt (int 0)).run Pg w = .ok 0 w := fun _ => rfl
    have hB : ∀ w, (asInt (int (c : Int))).run Pg w = .ok (c : Int) w := fun _ => rfl
    have hb3 : ¬ ((i.bytes : Int) * (0 : Int) > 2 ^ 48) := by simp
    by_cases hn : c * k = 0
    · refine ⟨[], by simp [hn], ?_⟩
      simp [rawV, Instr.makeSlice, und_run hT.u, inf_run h1, siz_run h1, hA, hB, hw0, hwc, hb1, h2, hn, newRow]
      rw [if_neg (by omega)]
      simp [hn]
      rw [show (Array.range 0).map (fun _ => (default : Value)) = #[] by apply Array.ext <;> simp]
    · refine ⟨((Array.range (c * k)).map (fun x => z.cells[x % z.cells.size]!)).toList, by simp, ?_⟩
      simp [rawV, Instr.makeSlice, und_run hT.u, inf_run h1, siz_run h1, hA, hB, hw0, hwc, hb1, h2, hn, newRow, zero_ok h1 h3]
      rw [if_neg (by omega)]
      simp [hn]
      rw [show (Array.range (c * k)).map (fun x => z.cells[x % z.cells.size]!) = ((List.range (c * k)).map (fun x => z.cells[x % z.cells.size]!)).toArray by apply Array.ext' ; simp]
  obtain ⟨l, hl, hr⟩ := hrun
  refine Ok.rd2 hr (hκ _ _ ?_ (Ext.push (fun _ => False) w _).sm)
  have := h.new (l' := l) (T' := e) (Ext.push (fun _ => False) w (.cells l.toArray e)) (fun _ _ hf => hf) (At.new w l e) (Nat.le_refl _)
  exact slH_mk (by simp) hl (by simp) (by simp) this
end Go.Cb

/-
  Chains: Add; what is seen at a stamp.
-/
set_option linter.unusedVariables false
set_option linter.unusedSimpArgs false
namespace Go.Cb
open Classical
variable {w : World} {F : List HP} {Q Q' : Value → World → Prop}

/-- places that aren't too many. -/
def PlB (vs : List AV) : Prop := ∀ a ∈ vs, a.places.length ≤ 2 ^ 29

/-- what Add answers. -/
def AddQ (K : Hl) (a : AV) (vs : List AV) (F : List HP) (w : World) (x : Value) (w' : World) : Prop :=
  ∃ K', Le K K' ∧ Sat w' (kn K' :: F) ∧ Sm w w' ∧ ((RightP (a :: vs) ∧ ∃ v', x = .tuple #[v', int 0] ∧ Rc K' v' (a :: vs)) ∨ (¬ RightP (a :: vs) ∧ x = .tuple #[.slice none 0 0, int 2]))

theorem add_loop {v : Value} {a : AV} {vs : List AV} (hpb : PlB (a :: vs)) (hb : vs.length ≤ 2 ^ 28) : ∀ (j i : Nat) (K : Hl) (xs : List Ver) (ov : Value) (e : Env) (w : World) (F : List HP), i + j = vs.length → Rc K v vs → Rvs K xs (a :: vs.take i) → Sat w (slH 137 5 encVer ov xs :: kn K :: F) →
    e 6 = ov → e 18 = v → e 19 = int vs.length → e 20 = int i → e 34 = undef →
    Ok (evalLoop (cx135 (Fn Pg) (Rnd Pg)) (cdA Go.Proofs.Tryz.f135 [1, 1, 1, 0, 1, 0, 0]) (K135_2 (Fn Pg) (Rnd Pg)) e w) (AddQ K a vs F w) := by
  intro j
  induction j with
  | zero =>
    intro i K xs ov e w F hij hr hxs hs e6 e18 e19 e20 e34
    rw [S135_L1_eq]; unfold S135_L1
    rw [e6, e18, e19, e20, e34]
    refine Ok.rd2 bin_lss (Ok.cf (by simp; omega) ?_)
    obtain ⟨K', hl, hrd, h1⟩ := share T76 enVer hs
    have hi : i = vs.length := by omega
    rw [hi, List.take_length] at hxs
    have hrc : Rc K' ov (a :: vs) := ⟨xs, hrd, hxs.mono hl⟩
    refine Ok.bind (right_ok hrc (by simp; omega) h1) ?_
    rintro x w1 ⟨rfl, h2, s2⟩
    refine Ok.rd (un_not _) ?_
    by_cases hR : RightP (a :: vs)
    · refine Ok.cf (by simp [hR]) ?_
      exact ⟨_, _, rfl, K', hl, h2, s2, .inl ⟨hR, ov, rfl, hrc⟩⟩
    · refine Ok.ct (by simp [hR]) ?_
      exact ⟨_, _, rfl, K', hl, h2, s2, .inr ⟨hR, rfl⟩⟩
  | succ j ih =>
    intro i K xs ov e w F hij hr hxs hs e6 e18 e19 e20 e34
    have hi : i < vs.length := by omega
    obtain ⟨c, hc⟩ : ∃ c, vs[i]? = some c := ⟨_, List.getElem?_eq_getElem hi⟩
    obtain ⟨p, x, h1, hx, h2⟩ := hr.at hc
    rw [S135_L1_eq]; unfold S135_L1
    rw [e6, e18, e19, e20, e34]
    refine Ok.rd2 bin_lss (Ok.ct (by simp; omega) ?_)
    refine Ok.rd h1 (Ok.rd (h2 w (kn_on hs (j := 1) rfl)).1 ?_)
    refine go_tmpG ty85 rfl (ones_ver x) hs fun nb w1 t1 s1 => ?_
    refine Ok.rd (ldv t1 0 rfl) ?_
    refine Ok.bind (own_ok (j := 0) hx (hpb c (by simp; exact .inr (List.mem_of_getElem? hc))) (t1.re [2, 0, 1] (by decide))) ?_
    rintro y w2 ⟨K', x', hl, rfl, hx', t2, s2⟩
    have t2 : Sat w2 (kn K' :: pt nb (encVer x) 137 :: slH 137 5 encVer ov xs :: F) := t2
    refine go_bs1 T76 enVer (by decide) (x := x') rfl t2 fun b w3 t3 hv3 s3 => ?_
    have hxl : xs.length ≤ vs.length + 1 := by rw [hxs.len]; simp; omega
    refine go_app T76 enVer t3 3 rfl hv3 (by simp; omega) fun a4 w4 t4 s4 => ?_
    have t4 : Sat w4 (pt b (encVer x') 137 :: kn K' :: pt nb (encVer x) 137 :: slH 137 5 encVer a4 (xs ++ [x']) :: F) := t4
    refine Ok.rd2 (bin_add1 (by omega)) ?_
    have hxs' : Rvs K' (xs ++ [x']) (a :: vs.take (i + 1)) := by
      have : a :: vs.take (i + 1) = (a :: vs.take i) ++ [c] := by
        rw [List.take_add_one, hc]; simp
      rw [this]
      exact (hxs.mono hl).snoc hx'
    refine Ok.mono (ih (i + 1) K' _ a4 _ w4 F (by omega) (hr.mono hl) hxs' ((t4.re [0, 2, 3, 1] (by decide)).drop.drop) ?_ ?_ ?_ ?_ ?_) ?_
    · rfl
    · exact e18
    · exact e19
    · rfl
    · exact e34
    · rintro y w5 ⟨K2, l2, m1, m2, m3⟩
      exact ⟨K2, hl.trans l2, m1, s1.trans (s2.trans (s3.trans (s4.trans m2))), m3⟩

theorem add_ok {K : Hl} {v : Value} {a : AV} {x : Ver} {vs : List AV} (hpb : PlB (a :: vs)) (hb : vs.length ≤ 2 ^ 28) (hr : Rc K v vs) (hx : Rv K x a) (hs : Sat w (kn K :: F)) :
    Ok (Fn Pg 135 [v, aggV x] w) (AddQ K a vs F w) := by
  rw [F135]; unfold S135
  refine go_box (l := encVer x) rfl hs fun b w1 h1 s1 => ?_
  refine Ok.rd2 (hr.len w1) (Ok.rd2 (bin_add1 (by omega)) ?_)
  refine go_make0 (enc := encVer) T76 (by omega) h1 fun ov w2 h2 s2 => ?_
  refine Ok.rd (ldv h2 1 rfl) ?_
  refine Ok.bind (own_ok (j := 0) hx (hpb a (by simp)) (h2.re [2, 0, 1] (by decide))) ?_
  rintro y w3 ⟨K', x', hl, rfl, hx', t3, s3⟩
  have t3 : Sat w3 (kn K' :: slH 137 5 encVer ov ([] : List Ver) :: pt b (encVer x) 137 :: F) := t3
  refine go_bs1 T76 enVer (by decide) (x := x') rfl t3 fun nb w4 t4 hv4 s4 => ?_
  refine go_app T76 enVer t4 2 rfl hv4 (by simp) fun a5 w5 t5 s5 => ?_
  have t5 : Sat w5 (pt nb (encVer x') 137 :: kn K' :: slH 137 5 encVer a5 [x'] :: pt b (encVer x) 137 :: F) := t5
  refine Ok.rd2 (hr.len w5) ?_
  have hxs : Rvs K' [x'] (a :: vs.take 0) := Rvs.nil.snoc hx'
  refine Ok.mono (add_loop hpb hb vs.length 0 K' [x'] a5 _ w5 F (by omega) (hr.mono hl) hxs ((t5.re [0, 3, 2, 1] (by decide)).drop.drop) rfl rfl rfl rfl rfl) ?_
  rintro y w6 ⟨K2, l2, m1, m2, m3⟩
  exact ⟨K2, hl.trans l2, m1, s1.trans (s2.trans (s3.trans (s4.trans (s5.trans m2)))), m3⟩
end Go.Cb

/-
  Chains: what is seen at a stamp.
-/
set_option linter.unusedVariables false
set_option linter.unusedSimpArgs false
namespace Go.Cb
open Classical
variable {w : World} {F : List HP} {Q Q' : Value → World → Prop}

theorem a76' : aggT Pg 43 = some false := by kernel_rfl
/-- the place that is seen at a stamp. -/
structure PlaceP (vs : List AV) (s : Int) (p : Nat) : Prop where
  le : p ≤ vs.length
  ahead : ∀ (k : Nat) (a : AV), k < p → vs[k]? = some a → ¬ a.st ≤ s
  here : ∀ a, vs[p]? = some a → a.st ≤ s
def atA (vs : List AV) (s : Int) : Option AV := vs.find? fun a => decide (a.st ≤ s)
theorem at_place : ∀ {vs : List AV} {s : Int} {p : Nat}, PlaceP vs s p → atA vs s = vs[p]?
  | [], s, p, h => by simp [atA]
  | a :: r, s, 0, h => by
    have := h.here a rfl
    simp [atA, this]
  | a :: r, s, p + 1, h => by
    have h0 := h.ahead 0 a (by omega) rfl
    have := at_place (vs := r) (s := s) (p := p) ⟨by have := h.le; simp at this; exact this, fun k b hk hb => h.ahead (k + 1) b (by omega) (by simpa using hb), fun b hb => h.here b (by simpa using hb)⟩
    have h1 : atA (a :: r) s = atA r s := by
      unfold atA
      rw [List.find?_cons_of_neg (by simpa using h0)]
    rw [h1, this]; simp

theorem right_dec {vs : List AV} (h : RightP vs) : ∀ (d i : Nat) (a b : AV), vs[i]? = some a → vs[i + d + 1]? = some b → b.st < a.st
  | 0, i, a, b, ha, hb => (h (i + 1) b hb).2 a (by omega) (by simpa using ha)
  | d + 1, i, a, b, ha, hb => by
    have hlt := (List.getElem?_eq_some_iff.1 hb).1
    obtain ⟨c, hc⟩ : ∃ c, vs[i + d + 1]? = some c := ⟨_, List.getElem?_eq_getElem (by omega)⟩
    have h1 := right_dec h d i a c ha hc
    have h2 := (h (i + (d + 1) + 1) b hb).2 c (by omega) (by rw [show i + (d + 1) + 1 - 1 = i + d + 1 by omega]; exact hc)
    omega

theorem u195 : Pg.underlying 348 = some (.int .u64) := by kernel_rfl
theorem u3 : Pg.underlying 3 = some (.int .i64) := by kernel_rfl
theorem wu64 {n : Int} (h1 : 0 ≤ n) (h2 : n ≤ 2 ^ 62) : IntKind.u64.wrap n = n := by
  simp only [IntKind.wrap, IntKind.signed, IntKind.bits, IntKind.min, IntKind.max]
  simp
  omega
theorem cv_1 {n : Nat} (h : n ≤ 2 ^ 40) : cvG false Pg 3 348 (int (n : Int)) w = some (.int .u64 n, w) := by
  unfold cvG
  rw [u3, u195]
  simp only [wu64 (n := (n : Int)) (by omega) (by omega)]
theorem cv_2 {n : Nat} (h : n ≤ 2 ^ 40) : cvG false Pg 348 3 (.int .u64 (n : Int)) w = some (int (n : Int), w) := by
  unfold cvG
  rw [u3, u195]
  simp only [w64 (n := (n : Int)) (by omega) (by omega)]
theorem shr_1 {n : Nat} : binG false Pg .shr 348 (.tmp 0) (.const .nilFunc) (.int .u64 (n : Int)) (.int .u64 1) w = some (.int .u64 (n / 2 : Nat), w) := by
  have h : binV .shr (.int .u64 (n : Int)) (.int .u64 1) = some (.int .u64 (n / 2 : Nat)) := by
    simp only [binV]
    have h0 : ¬ ((1 : Int) < 0) := by omega
    rw [if_neg h0]
    have h1 : min (1 : Int).toNat IntKind.u64.bits = 1 := rfl
    rw [h1]
    congr 2
    rw [Int.fdiv_eq_ediv_of_nonneg _ (by decide)]
    omega
  unfold binG
  rw [h]

theorem less_ok {K : Hl} {v : Value} {vs : List AV} {s : Int} {b1 b2 i : Nat} {a : AV} (hr : Rc K v vs) (hi : vs[i]? = some a) (hs : Sat w (pt b2 [u64 s] 23 :: pt b1 [v] 43 :: kn K :: F)) :
    Fn Pg 202 [int i, ptr b1 0, ptr b2 0] w = some (.bool (decide (a.st ≤ s)), drw w) := by
  have : Ok (Fn Pg 202 [int i, ptr b1 0, ptr b2 0] w) fun x w' => x = .bool (decide (a.st ≤ s)) ∧ w' = drw w := by
    rw [F202]; unfold S202
    have hd := hs.drw
    obtain ⟨p, x, h1, hx, h2⟩ := hr.at hi
    refine Ok.rd (ld1 a76' hd 1 rfl) (Ok.rd h1 (Ok.rd (fld85_0' _) (Ok.rd (h2 _ (kn_on hd (j := 2) rfl)).2.1 (Ok.rd (ld1 a64 hd 0 rfl) (Ok.rd2 bin_le64 ?_)))))
    exact ⟨_, _, rfl, rfl, rfl⟩
  obtain ⟨x, w', h1, rfl, rfl⟩ := this
  exact h1

theorem search_loop {K : Hl} {v : Value} {vs : List AV} {s : Int} {b1 b2 : Nat} (hr : Rc K v vs) (hb : vs.length ≤ 2 ^ 30) : ∀ (d i j : Nat) (e : Env) (w : World) (F : List HP), j - i ≤ d → i ≤ j → j ≤ vs.length →
    (RightP vs → ∀ (k : Nat) (a : AV), k < i → vs[k]? = some a → ¬ a.st ≤ s) → (RightP vs → ∀ (k : Nat) (a : AV), j ≤ k → vs[k]? = some a → a.st ≤ s) → Sat w (pt b2 [u64 s] 23 :: pt b1 [v] 43 :: kn K :: F) →
    e 1 = .func (.func 202) #[] #[ptr b1 0, ptr b2 0] → e 5 = int i → e 6 = int j → e 26 = undef →
    Ok (evalLoop (cx201 (Fn Pg) (Rnd Pg)) (cdA Go.Proofs.Tryz.f201 [1, 1, 0, 0, 0]) (K201_2 (Fn Pg) (Rnd Pg)) e w) fun x w' => (∃ p : Nat, x = int p ∧ p ≤ vs.length ∧ (RightP vs → PlaceP vs s p)) ∧ Sat w' (pt b2 [u64 s] 23 :: pt b1 [v] 43 :: kn K :: F) ∧ Sm w w' := by
  intro d
  induction d with
  | zero =>
    intro i j e w F hd hij hj hlo hhi hs e1 e5 e6 e26
    have : i = j := by omega
    subst this
    rw [S201_L1_eq]; unfold S201_L1
    rw [e1, e5, e6, e26]
    refine Ok.rd2 bin_lss (Ok.cf (by simp) ?_)
    exact ⟨_, _, rfl, ⟨i, rfl, hj, fun hR => ⟨hj, hlo hR, fun a ha => hhi hR i a (Nat.le_refl _) ha⟩⟩, hs, Sm.refl _⟩
  | succ d ih =>
    intro i j e w F hd hij hj hlo hhi hs e1 e5 e6 e26
    by_cases hlt : i < j
    · rw [S201_L1_eq]; unfold S201_L1
      rw [e1, e5, e6, e26]
      refine Ok.rd2 bin_lss (Ok.ct (by simp; omega) ?_)
      refine Ok.rd2 (bin_add (by omega) (by omega)) ?_
      rw [show ((i : Int) + (j : Int)) = ((i + j : Nat) : Int) by omega]
      refine Ok.rd2 (cv_1 (by omega)) (Ok.rd2 shr_1 (Ok.rd2 (cv_2 (by omega)) ?_))
      obtain ⟨a, ha⟩ : ∃ a, vs[(i + j) / 2]? = some a := ⟨_, List.getElem?_eq_getElem (by omega)⟩
      have hcall : callV (cx201 (Fn Pg) (Rnd Pg)) (.func (.func 202) #[] #[ptr b1 0, ptr b2 0]) [int ((i + j) / 2 : Nat)] w = some (.bool (decide (a.st ≤ s)), drw w) := less_ok hr ha hs
      refine Ok.rd2 hcall (Ok.rd (un_not _) ?_)
      by_cases hp : a.st ≤ s
      · refine Ok.cf (by simp [hp]) ?_
        refine Ok.mono (ih i ((i + j) / 2) _ (drw w) F (by omega) (by omega) (by omega) hlo (fun hR k b hk hb => ?_) hs.drw ?_ ?_ ?_ ?_) ?_
        · rcases Nat.lt_or_ge ((i + j) / 2) k with h | h
          · have := right_dec hR (k - (i + j) / 2 - 1) ((i + j) / 2) a b ha (by rw [show (i + j) / 2 + (k - (i + j) / 2 - 1) + 1 = k by omega]; exact hb)
            omega
          · have : k = (i + j) / 2 := by omega
            rw [this, ha] at hb
            injection hb with hb; subst hb; exact hp
        · exact e1
        · exact e5
        · rfl
        · exact e26
        · rintro x w' ⟨m1, m2, m3⟩
          exact ⟨m1, m2, m3.drw⟩
      · refine Ok.ct (by simp [hp]) (Ok.rd2 (bin_add1 (by omega)) ?_)
        refine Ok.mono (ih ((i + j) / 2 + 1) j _ (drw w) F (by omega) (by omega) (by omega) (fun hR k b hk hb => ?_) hhi hs.drw ?_ ?_ ?_ ?_) ?_
        · rcases Nat.lt_or_ge k ((i + j) / 2) with h | h
          · have := right_dec hR ((i + j) / 2 - k - 1) k b a hb (by rw [show k + ((i + j) / 2 - k - 1) + 1 = (i + j) / 2 by omega]; exact ha)
            omega
          · have : k = (i + j) / 2 := by omega
            rw [this, ha] at hb
            injection hb with hb; subst hb; exact hp
        · exact e1
        · rfl
        · exact e6
        · exact e26
        · rintro x w' ⟨m1, m2, m3⟩
          exact ⟨m1, m2, m3.drw⟩
    · exact ih i j e w F (by omega) hij hj hlo hhi hs e1 e5 e6 e26

theorem place_any {K : Hl} {v : Value} {vs : List AV} {s : Int} (hr : Rc K v vs) (hb : vs.length ≤ 2 ^ 30) (hs : Sat w (kn K :: F)) :
    Ok (Fn Pg 145 [v, u64 s] w) fun x w' => (∃ p : Nat, x = int p ∧ p ≤ vs.length ∧ (RightP vs → PlaceP vs s p)) ∧ Sat w' (kn K :: F) ∧ Sm w w' := by
  rw [F145]; unfold S145
  refine go_box (l := [v]) (by rw [cells_one hr.one]) hs fun b1 w1 h1 s1 => ?_
  refine go_box (l := [u64 s]) rfl h1 fun b2 w2 h2 s2 => ?_
  refine Ok.rd (ld1 a76' h2 1 rfl) (Ok.rd2 (hr.len w2) ?_)
  refine Ok.bind (Q := fun x w' => (∃ p : Nat, x = int p ∧ p ≤ vs.length ∧ (RightP vs → PlaceP vs s p)) ∧ Sat w' (pt b2 [u64 s] 23 :: pt b1 [v] 43 :: kn K :: F) ∧ Sm w2 w') ?_ ?_
  · rw [F201]; unfold S201
    exact search_loop hr hb vs.length 0 vs.length _ w2 F (by omega) (Nat.zero_le _) (Nat.le_refl _) (fun _ k a hk => absurd hk (Nat.not_lt_zero _)) (fun _ k a hk ha => by have := (List.getElem?_eq_some_iff.1 ha).1; omega) h2 rfl rfl rfl rfl
  · rintro x w3 ⟨m1, m2, m3⟩
    exact ⟨_, _, rfl, m1, m2.drop.drop, s1.trans (s2.trans m3)⟩
theorem place_ok {K : Hl} {v : Value} {vs : List AV} {s : Int} (hr : Rc K v vs) (hR : RightP vs) (hb : vs.length ≤ 2 ^ 30) (hs : Sat w (kn K :: F)) :
    Ok (Fn Pg 145 [v, u64 s] w) fun x w' => (∃ p : Nat, x = int p ∧ PlaceP vs s p) ∧ Sat w' (kn K :: F) ∧ Sm w w' :=
  Ok.mono (place_any hr hb hs) fun x w' ⟨⟨p, h1, _, h2⟩, h3, h4⟩ => ⟨⟨p, h1, h2 hR⟩, h3, h4⟩
end Go.Cb

/-
  Chains: At, Value.
-/
set_option linter.unusedVariables false
set_option linter.unusedSimpArgs false
namespace Go.Cb
open Classical
variable {w : World} {F : List HP} {Q Q' : Value → World → Prop}

def nilV1 : V1 := ⟨.slice none 0 0, rfl⟩
def zV : Ver := ⟨0, false, nilV1, 0, 0⟩
def zA : AV := ⟨0, false, [], 0, 0⟩
theorem zRv (K : Hl) : Rv K zV zA := ⟨rfl, rfl, rfl, rfl, RdS.nil none 0⟩
theorem bld85_0 : bldV Pg 137 [] = some (aggV zV) := by kernel_rfl
theorem bld83_0 : bldV Pg 82 [] = some (.agg #[.slice none 0 0, u64 0, int 0]) := by kernel_rfl

/-- what At answers. -/
noncomputable def atV (vs : List AV) (s : Int) : AV × Bool := if RightP vs then (match atA vs s with | some a => (a, true) | none => (zA, false)) else (zA, false)
def AtQ (K : Hl) (vs : List AV) (s : Int) (F : List HP) (w : World) (v : Value) (w' : World) : Prop :=
  ∃ K' x, Le K K' ∧ v = .tuple #[aggV x, .bool (atV vs s).2] ∧ Rv K' x (atV vs s).1 ∧ Sat w' (kn K' :: F) ∧ Sm w w'

theorem at_ok {K : Hl} {v : Value} {vs : List AV} {s : Int} (hpb : PlB vs) (hr : Rc K v vs) (hb : vs.length ≤ 2 ^ 30) (hs : Sat w (kn K :: F)) :
    Ok (Fn Pg 129 [v, u64 s] w) (AtQ K vs s F w) := by
  rw [F129]; unfold S129
  refine go_new z85 hs fun r w1 h1 s1 => ?_
  refine Ok.bind (right_ok hr hb h1.sw) ?_
  rintro x w2 ⟨rfl, h2, s2⟩
  have h2 : Sat w2 (kn K :: pt r [u64 0, .bool false, .slice none 0 0, u64 0, int 0] 137 :: F) := h2
  have none' : ∀ {w3 : World}, (atV vs s) = (zA, false) → Sm w w3 → Sat w3 (kn K :: pt r [u64 0, .bool false, .slice none 0 0, u64 0, int 0] 137 :: F) →
      Ok (rd (bldV Pg 137 []) fun x8 => rd2 (rawU Pg (Instr.storeAt 137 (ptr r 0) x8) w3) fun x10 w9 => rd (ldV Pg 137 (ptr r 0) w9) fun x11 => some ((.tuple #[x11, (.bool false)]), w9)) (AtQ K vs s F w) := by
    intro w3 ha hm h3
    refine Ok.rd bld85_0 ?_
    obtain ⟨w4, m4, h4, s4⟩ := st_agg ty85 rfl (cs := #[u64 zV.st, .bool zV.dead, zV.pv.1, u64 zV.gen, int zV.size]) rfl (ones_ver zV) h3 1 rfl
    refine Ok.rd2 m4 ?_
    have h4 : Sat w4 (kn K :: pt r (encVer zV) 137 :: F) := h4
    refine Ok.rd (ldv h4 1 rfl) ?_
    refine ⟨_, _, rfl, K, zV, Le.refl K, ?_, ?_, h4.sw.drop, hm.trans s4⟩
    · rw [ha]
    · rw [ha]; exact zRv K
  refine Ok.rd (un_not _) ?_
  by_cases hR : RightP vs
  · refine Ok.cf (by simp [hR]) ?_
    refine Ok.bind (place_ok hr hR hb h2) ?_
    rintro x w3 ⟨⟨p, rfl, hp⟩, h3, s3⟩
    have hat := at_place hp
    refine Ok.rd2 (hr.len w3) (Ok.rd2 bin_eql ?_)
    by_cases hpn : p = vs.length
    · refine Ok.ct (by simp [hpn]) ?_
      refine none' ?_ (s1.trans (s2.trans s3)) h3
      unfold atV
      rw [if_pos hR, hat, hpn]
      simp
    · have hlt : p < vs.length := by have := hp.le; omega
      obtain ⟨a, ha⟩ : ∃ a, vs[p]? = some a := ⟨_, List.getElem?_eq_getElem hlt⟩
      have hatv : atV vs s = (a, true) := by
        unfold atV
        rw [if_pos hR, hat, ha]
      refine Ok.cf (by simp; omega) ?_
      obtain ⟨q, x, g1, hx, g2⟩ := hr.at ha
      refine Ok.rd g1 (Ok.rd (g2 w3 (kn_on h3 (j := 0) rfl)).1 ?_)
      refine Ok.bind (own_ok (j := 0) hx (hpb a (List.mem_of_getElem? ha)) h3) ?_
      rintro y w4 ⟨K', x', hl, rfl, hx', h4, s4⟩
      obtain ⟨w5, m5, h5, s5⟩ := st_agg ty85 rfl (cs := #[u64 x'.st, .bool x'.dead, x'.pv.1, u64 x'.gen, int x'.size]) rfl (ones_ver x') h4 1 rfl
      refine Ok.rd2 m5 ?_
      have h5 : Sat w5 (kn K' :: pt r (encVer x') 137 :: F) := h5
      refine Ok.rd (ldv h5 1 rfl) ?_
      refine ⟨_, _, rfl, K', x', hl, ?_, ?_, h5.sw.drop, s1.trans (s2.trans (s3.trans (s4.trans s5)))⟩
      · rw [hatv]
      · rw [hatv]; exact hx'
  · refine Ok.ct (by simp [hR]) ?_
    refine none' ?_ (s1.trans s2) h2
    unfold atV
    rw [if_neg hR]

/-- a blob, and what it says. -/
structure Rb (K : Hl) (v : Value) (a : AV) : Prop where
  b : ∃ pv : V1, v = .agg #[pv.1, u64 a.gen, int a.size] ∧ RdS K 80 1 encI pv.1 a.places
/-- what Value answers. -/
noncomputable def valV (vs : List AV) (s : Int) : AV × Bool := if (atV vs s).2 = true ∧ (atV vs s).1.dead = false then ((atV vs s).1, true) else (zA, false)
theorem a83 : aggT Pg 82 = some true := by kernel_rfl
theorem ty83 : tyB Pg 82 3 = true := by kernel_rfl
theorem z83 : zeroL Pg 82 = some [.slice none 0 0, u64 0, int 0] := by kernel_rfl
theorem ldv_b {b : Nat} {x : Ver} (h : Sat w F) (k : Nat) (hk : F[k]? = some (pt b (encVer x) 137)) : ldV Pg 82 (ptr b (0 + 2)) w = some (.agg #[x.pv.1, u64 x.gen, int x.size]) := by
  obtain ⟨i, z, h1, h2, _⟩ := ty_of ty83
  rw [at_load (h.foc hk).at (o := 0 + 2) (n := 3) (by simp [encVer]) a83 h1 h2]; rfl

theorem value_ok {K : Hl} {v : Value} {vs : List AV} {s : Int} (hpb : PlB vs) (hr : Rc K v vs) (hb : vs.length ≤ 2 ^ 30) (hs : Sat w (kn K :: F)) :
    Ok (Fn Pg 134 [v, u64 s] w) fun x w' => ∃ K' y, Le K K' ∧ x = .tuple #[y, .bool (valV vs s).2] ∧ Rb K' y (valV vs s).1 ∧ Sat w' (kn K' :: F) ∧ Sm w w' := by
  rw [F134]; unfold S134
  refine go_new z83 hs fun r w1 h1 s1 => ?_
  refine Ok.bind (at_ok hpb hr hb h1.sw) ?_
  rintro y w2 ⟨K', x, hl, rfl, hx, h2, s2⟩
  refine Ok.rd rfl (Ok.rd rfl ?_)
  refine go_tmpG ty85 rfl (ones_ver x) h2 fun nb w3 h3 s3 => ?_
  have h3 : Sat w3 (pt nb (encVer x) 137 :: kn K' :: pt r [.slice none 0 0, u64 0, int 0] 82 :: F) := h3
  have sall := s1.trans (s2.trans s3)
  have none' : valV vs s = (zA, false) → Ok (rd (bldV Pg 82 []) fun x21 => rd2 (rawU Pg (Instr.storeAt 82 (ptr r 0) x21) w3) fun x23 w22 => rd (ldV Pg 82 (ptr r 0) w22) fun x24 => some ((.tuple #[x24, (.bool false)]), w22))
      fun x w' => ∃ K' y, Le K K' ∧ x = .tuple #[y, .bool (valV vs s).2] ∧ Rb K' y (valV vs s).1 ∧ Sat w' (kn K' :: F) ∧ Sm w w' := by
    intro hv
    refine Ok.rd bld83_0 ?_
    obtain ⟨w4, m4, h4, s4⟩ := st_agg ty83 rfl (cs := #[.slice none 0 0, u64 0, int 0]) rfl (by simp; exact ⟨rfl, rfl, rfl⟩) h3 2 rfl
    refine Ok.rd2 m4 ?_
    refine Ok.rd (ld_agg a83 ty83 rfl h4 2 rfl) ?_
    refine ⟨_, _, rfl, K', .agg #[.slice none 0 0, u64 0, int 0], hl, by rw [hv], ?_, (h4.re [0, 2, 1] (by decide)).drop.drop, sall.trans s4⟩
    rw [hv]; exact ⟨nilV1, rfl, RdS.nil none 0⟩
  refine Ok.rd (un_not _) ?_
  cases ha : (atV vs s).2 with
  | false =>
    refine Ok.f0 (Ok.f0 (Ok.rd (pick_t _ _) (Ok.ct rfl (none' ?_))))
    unfold valV
    rw [if_neg (by rw [ha]; simp)]
  | true =>
    refine f_ok rfl (by rw [fld85_1]; rfl) (f_ok rfl (by rw [ldv_1 h3 0 rfl]; rfl) (pk_f rfl ?_))
    rw [hx.dead]
    cases hd : (atV vs s).1.dead with
    | true =>
      refine Ok.ct rfl (none' ?_)
      unfold valV
      rw [if_neg (by rw [hd]; simp)]
    | false =>
      have hv : valV vs s = ((atV vs s).1, true) := by
        unfold valV
        rw [if_pos ⟨ha, hd⟩]
      refine Ok.cf rfl (Ok.rd (fld85_2 _ _) (Ok.rd (ldv_b h3 0 rfl) ?_))
      obtain ⟨w4, m4, h4, s4⟩ := st_agg ty83 rfl (cs := #[x.pv.1, u64 x.gen, int x.size]) rfl (by simp; exact ⟨x.pv.2, rfl, rfl⟩) h3 2 rfl
      refine Ok.rd2 m4 ?_
      refine Ok.rd (ld_agg a83 ty83 rfl h4 2 rfl) ?_
      refine ⟨_, _, rfl, K', .agg #[x.pv.1, u64 x.gen, int x.size], hl, by rw [hv], ?_, (h4.re [0, 2, 1] (by decide)).drop.drop, sall.trans s4⟩
      rw [hv, hx.gen, hx.size]
      exact ⟨x.pv, rfl, hx.pl⟩
end Go.Cb

/-
  A set of numbers: a map to true.
-/
set_option linter.unusedVariables false
set_option linter.unusedSimpArgs false
namespace Go.Cb
open Classical
variable {w : World} {F : List HP} {Q Q' : Value → World → Prop}

def mEl : List Int → Nat → List MapEntry
  | [], _ => []
  | k :: r, i => { key := int k, val := .bool true, born := i } :: mEl r (i + 1)
def mE (ks : List Int) : Array MapEntry := (mEl ks 0).toArray
def mset (m : Nat) (ks : List Int) : HP := ob m (.map (mE ks) ks.length)

theorem mEl_len : ∀ (ks : List Int) (i : Nat), (mEl ks i).length = ks.length
  | [], _ => rfl
  | k :: r, i => by simp [mEl, mEl_len r]
theorem mEl_get : ∀ (ks : List Int) (i n : Nat), (mEl ks i)[n]? = (ks[n]?).map fun k => { key := int k, val := .bool true, born := i + n }
  | [], i, n => by simp [mEl]
  | k :: r, i, 0 => by simp [mEl]
  | k :: r, i, n + 1 => by
    simp only [mEl, List.getElem?_cons_succ, mEl_get r (i + 1) n]
    congr 1
    funext x
    rw [show i + 1 + n = i + (n + 1) by omega]
theorem mEl_snoc : ∀ (ks : List Int) (i : Nat) (k : Int), mEl (ks ++ [k]) i = mEl ks i ++ [{ key := int k, val := .bool true, born := i + ks.length }]
  | [], i, k => rfl
  | x :: r, i, k => by
    simp only [List.cons_append, mEl, mEl_snoc r (i + 1) k]
    rw [show i + 1 + r.length = i + (x :: r).length by simp; omega]
theorem find_in (k : Int) : ∀ (ks : List Int) (i j : Nat), (k ∈ ks ∧ ∃ n, ks[n]? = some k ∧ Instr.findNow (.int .i64) (int k) (mEl ks i) j = some (some (j + n, .bool true))) ∨ (k ∉ ks ∧ Instr.findNow (.int .i64) (int k) (mEl ks i) j = some none)
  | [], i, j => .inr ⟨by simp, rfl⟩
  | x :: r, i, j => by
    by_cases h : k = x
    · subst h
      left
      refine ⟨by simp, 0, rfl, ?_⟩
      simp [mEl, Instr.findNow, Instr.sameNow]
    · have hb : (k == x) = false := by simpa using h
      rcases find_in k r (i + 1) (j + 1) with ⟨h1, n, h2, h3⟩ | ⟨h1, h2⟩
      · left
        refine ⟨by simp [h1], n + 1, by simpa using h2, ?_⟩
        simp only [mEl, Instr.findNow, Instr.sameNow, if_true, hb, h3]
        rw [show j + 1 + n = j + (n + 1) by omega]
      · right
        refine ⟨by simp [h, h1], ?_⟩
        simp only [mEl, Instr.findNow, Instr.sameNow, if_true, hb, h2]

theorem u163 : Pg.underlying 248 = some (.map 3 4) := by kernel_rfl
theorem u3' : Pg.underlying 3 = some (.int .i64) := by kernel_rfl
theorem zb4 : ∃ i z, Pg.info? 4 = some i ∧ i.zero = some z ∧ z = .bool false := by
  have h : ((Pg.info? 4).bind fun i => i.zero) = some (.bool false) := by kernel_rfl
  obtain ⟨i, hi, hz⟩ := Option.bind_eq_some_iff.1 h
  exact ⟨i, _, hi, hz, rfl⟩
theorem chk_key' {b : Bool} {k : Int} (n : Nat) : (Instr.checkKey b (n + 1) 3 (int k)).run Pg w = .ok () w := by
  simp [Instr.checkKey, und_run u3']
theorem chk_key {b : Bool} {k : Int} : (Instr.checkKey b 10000 3 (int k)).run Pg w = .ok () w := chk_key' 9999
theorem set_run {r : Nat} {o o' : Obj} (hr : w.heap[r]? = some o) (hn : nocell o = true) : (setObj r o').run Pg w = .ok () (World.putObj w r o') := by
  have hlt := (Array.getElem?_eq_some_iff.1 hr).1
  simp only [setObj, Sem.run, hr, World.putObj]
  cases o <;> first | rfl | exact absurd hn Bool.false_ne_true

theorem mget {m j : Nat} {ks : List Int} (hs : Sat w F) (hj : F[j]? = some (mset m ks)) (k : Int) : rawV Pg (Instr.lookup 248 (.map (some m)) (int k) false) w = some (.bool (decide (k ∈ ks)), w) := by
  have hat := (hs.foc hj).obAt
  obtain ⟨i, z, hi, hz, rfl⟩ := zb4
  have hrun : (Instr.lookup 248 (.map (some m)) (int k) false).run Pg w = .ok (.bool (decide (k ∈ ks))) w := by
    have hl : (mE ks).toList = mEl ks 0 := by simp [mE]
    rcases find_in k ks 0 0 with ⟨h1, n, h2, h3⟩ | ⟨h1, h2⟩
    · rw [decide_eq_true h1]
      have hf : (Instr.findKey 3 (int k) (mEl ks 0)).run Pg w = .ok (some (0 + n, .bool true)) w := by
        simp [Instr.findKey, und_run u3', h3]
      simp [Instr.lookup, und_run u163, getObj, Sem.run, hat, chk_key, hl, hf]
    · rw [decide_eq_false h1]
      have hf : (Instr.findKey 3 (int k) (mEl ks 0)).run Pg w = .ok none w := by
        simp [Instr.findKey, und_run u3', h2]
      simp [Instr.lookup, und_run u163, getObj, Sem.run, hat, chk_key, hl, hf, zero_ok hi hz]
  simp [rawV, hrun]

theorem mod_same {es : Array MapEntry} {n : Nat} {f : MapEntry → MapEntry} (h : ∀ e, es[n]? = some e → f e = e) : es.modify n f = es := by
  apply Array.ext_getElem?
  intro i
  rw [Array.getElem?_modify]
  split
  · rename_i hi
    subst hi
    cases he : es[n]? with
    | none => rfl
    | some e => simp [h e he]
  · rfl
theorem go_mput {m j : Nat} {ks : List Int} (hs : Sat w F) (hj : F[j]? = some (mset m ks)) (k : Int) {κ : Value → World → R} (hκ : ∀ w', Sat w' (F.set j (mset m (if k ∈ ks then ks else ks ++ [k]))) → Sm w w' → Ok (κ undef w') Q) :
    Ok (rd2 (rawU Pg (Instr.mapUpdate 248 (.map (some m)) (int k) (.bool true)) w) κ) Q := by
  have hf := hs.foc hj
  have hat := hf.obAt
  have hl : (mE ks).toList = mEl ks 0 := by simp [mE]
  rcases find_in k ks 0 0 with ⟨h1, n, h2, h3⟩ | ⟨h1, h2⟩
  · have hfk : (Instr.findKey 3 (int k) (mEl ks 0)).run Pg w = .ok (some (0 + n, .bool true)) w := by
      simp [Instr.findKey, und_run u3', h3]
    have hen : (mE ks)[n]? = some { key := int k, val := .bool true, born := 0 + n } := by
      have := mEl_get ks 0 n
      rw [h2] at this
      simpa [mE] using this
    have hks : (Instr.keyThatStays (int k) (int k)).run Pg w = .ok (int k) w := by
      simp [Instr.keyThatStays, Instr.sameBits]
    have hmod : (mE ks).modify n (fun e => { e with key := int k, val := .bool true }) = mE ks := mod_same fun e he => by
      have he2 := Option.some.inj (hen.symm.trans he)
      rw [← he2]
    have hrun : (Instr.mapUpdate 248 (.map (some m)) (int k) (.bool true)).run Pg w = .ok () (World.putObj w m (.map (mE ks) ks.length)) := by
      have hset := set_run (o' := .map (mE ks) ks.length) hat rfl
      simp only [Instr.mapUpdate, Sem.run_bind, und_run u163, Result.andThen_ok, getObj, Sem.run, hat, Result.andThen, chk_key, hl, hfk, Nat.zero_add, hen, Option.map_some, Option.getD_some, hks, hmod, hset]
    rw [if_pos h1] at hκ
    obtain ⟨g, s⟩ := hf.obPut (o' := .map (mE ks) ks.length) rfl rfl
    refine Ok.rd2 (v := undef) (w := World.putObj w m (.map (mE ks) ks.length)) ?_ (hκ _ (Sat.unf hj g) s)
    unfold rawU; rw [hrun]
  · have hfk : (Instr.findKey 3 (int k) (mEl ks 0)).run Pg w = .ok none w := by
      simp [Instr.findKey, und_run u3', h2]
    have hpush : (mE ks).push { key := int k, val := .bool true, born := ks.length } = mE (ks ++ [k]) := by
      apply Array.ext'
      simp [mE, mEl_snoc]
    have hrun : (Instr.mapUpdate 248 (.map (some m)) (int k) (.bool true)).run Pg w = .ok () (World.putObj w m (.map (mE (ks ++ [k])) (ks ++ [k]).length)) := by
      have hset := set_run (o' := .map (mE (ks ++ [k])) (ks ++ [k]).length) hat rfl
      have hlen : ks.length + 1 = (ks ++ [k]).length := by simp
      simp only [Instr.mapUpdate, Sem.run_bind, und_run u163, Result.andThen_ok, getObj, Sem.run, hat, Result.andThen, chk_key, hl, hfk, hpush, hlen, hset]
    rw [if_neg h1] at hκ
    obtain ⟨g, s⟩ := hf.obPut (o' := .map (mE (ks ++ [k])) (ks ++ [k]).length) rfl rfl
    refine Ok.rd2 (v := undef) (w := World.putObj w m (.map (mE (ks ++ [k])) (ks ++ [k]).length)) ?_ (hκ _ (Sat.unf hj g) s)
    unfold rawU; rw [hrun]
theorem go_mmake (hs : Sat w F) {κ : Value → World → R} (hκ : ∀ m w', Sat w' (mset m [] :: F) → Sm w w' → Ok (κ (.map (some m)) w') Q) : Ok (rd2 (rawV Pg (Instr.makeMap 248 none) w) κ) Q := by
  obtain ⟨g, s⟩ := hs.obNew (o := .map #[] 0) rfl
  refine Ok.rd2 (v := .map (some w.heap.size)) (w := World.push w (.map #[] 0)) ?_ (hκ _ _ g s)
  rfl
end Go.Cb

/-
  A range over a set of numbers.
-/
set_option linter.unusedVariables false
set_option linter.unusedSimpArgs false
namespace Go.Cb
open Classical
variable {w : World} {F : List HP} {Q Q' : Value → World → Prop}

def mit (r m n : Nat) (seen : Array Nat) : HP := ob r (.mapIter (some m) n seen n)

theorem mE_mem {ks : List Int} {e : MapEntry} (h : e ∈ (mE ks).toList) : ∃ (n : Nat) (k : Int), ks[n]? = some k ∧ e = { key := int k, val := .bool true, born := n } := by
  have hl : (mE ks).toList = mEl ks 0 := by simp [mE]
  rw [hl] at h
  obtain ⟨n, hn⟩ := List.getElem?_of_mem h
  rw [mEl_get, Nat.zero_add] at hn
  obtain ⟨k, hk, rfl⟩ := Option.map_eq_some_iff.1 hn
  exact ⟨n, k, hk, rfl⟩
theorem mE_born (ks : List Int) : ∀ x ∈ (mE ks).toList, x.born < ks.length := by
  intro x hx
  obtain ⟨n, k, hk, rfl⟩ := mE_mem hx
  exact (List.getElem?_eq_some_iff.1 hk).1
theorem mE_nodup (ks : List Int) : ((mE ks).toList.map (·.born)).Nodup := by
  have hl : (mE ks).toList = mEl ks 0 := by simp [mE]
  rw [hl]
  have : ∀ (ks : List Int) (i : Nat), (mEl ks i).map (·.born) = List.range' i ks.length := by
    intro ks
    induction ks with
    | nil => intro i; rfl
    | cons k r ih => intro i; simp [mEl, ih, List.range'_succ]
  rw [this]
  exact List.nodup_range'

theorem go_range {m j : Nat} {ks : List Int} (hs : Sat w F) (hj : F[j]? = some (mset m ks)) {κ : Value → World → R} (hκ : ∀ r w', Sat w' (mit r m ks.length #[] :: F) → Sm w w' → Ok (κ (ptr r 0) w') Q) :
    Ok (rd2 (rawV Pg (Instr.range 248 (.map (some m))) w) κ) Q := by
  have hat := (hs.foc hj).obAt
  obtain ⟨g, s⟩ := hs.obNew (o := .mapIter (some m) ks.length #[] ks.length) rfl
  refine Ok.rd2 (v := ptr w.heap.size 0) (w := World.push w (.mapIter (some m) ks.length #[] ks.length)) ?_ (hκ _ _ g s)
  have hrun : (Instr.range 248 (.map (some m))).run Pg w = .ok (ptr w.heap.size 0) (World.push w (.mapIter (some m) ks.length #[] ks.length)) := by
    simp only [Instr.range, Sem.run_bind, und_run u163, Result.andThen_ok, getObj, Sem.run, hat, Result.andThen]
    rfl
  unfold rawV
  rw [hrun]

theorem go_next {r m i j : Nat} {ks : List Int} {seen : Array Nat} {ty : TypeId} (hs : Sat w F) (hi : F[i]? = some (mit r m ks.length seen)) (hj : F[j]? = some (mset m ks)) {κ : Value → World → R}
    (h0 : (∀ n, n < ks.length → n ∈ seen) → Ok (κ (.tuple #[.bool false]) w) Q)
    (h1 : ∀ (n : Nat) (k : Int) (w' : World), ks[n]? = some k → n ∉ seen → Sat w' (F.set i (mit r m ks.length (seen.push n))) → Sm w w' → Ok (κ (.tuple #[.bool true, int k, .bool true]) w') Q) :
    Ok (rd2 (rawV Pg (Instr.next (ptr r 0) false ty) w) κ) Q := by
  have hfi := hs.foc hi
  have hati := hfi.obAt
  have hatj := (hs.foc hj).obAt
  rcases run_next_at (P := Pg) w ty r m ks.length ks.length seen (mE ks) ks.length hati hatj (mE_born ks) (Nat.le_refl _) with ⟨hz, hrun⟩ | ⟨e, he, w1, hw1, hrun⟩
  · refine Ok.rd2 (v := .tuple #[.bool false]) (w := w) (by unfold rawV; rw [hrun]) (h0 fun n hn => ?_)
    have hemp : leftOf (mE ks) seen = #[] := Array.eq_empty_of_size_eq_zero hz
    unfold leftOf at hemp
    rw [Array.filter_eq_empty_iff] at hemp
    have hen : (mE ks)[n]? = some { key := int ks[n], val := .bool true, born := n } := by
      have := mEl_get ks 0 n
      rw [List.getElem?_eq_getElem hn, Nat.zero_add] at this
      simpa [mE] using this
    have hmem := Array.mem_of_getElem? hen
    have := hemp _ hmem
    simpa using this
  · unfold leftOf at he
    rw [Array.mem_toList_iff, Array.mem_filter] at he
    obtain ⟨n, k, hk, rfl⟩ := mE_mem (Array.mem_toList_iff.2 he.1)
    have hns : n ∉ seen := by have := he.2; simpa using this
    have hset : Go.ChangeMaps.setBlock w1 r (.mapIter (some m) ks.length (seen.push n) ks.length) = World.putObj w1 r (.mapIter (some m) ks.length (seen.push n) ks.length) := rfl
    rw [hset] at hrun
    have hf1 : Sat w1 (mit r m ks.length seen :: F.eraseIdx i) := by
      rcases hw1 with rfl | rfl
      · exact hfi
      · exact hfi.drw
    have hs1 : Sm w w1 := by
      rcases hw1 with rfl | rfl
      · exact Sm.refl _
      · exact ⟨rfl, rfl, rfl, fun _ => rfl⟩
    obtain ⟨g, s⟩ := hf1.obPut (o' := .mapIter (some m) ks.length (seen.push n) ks.length) rfl rfl
    exact Ok.rd2 (v := .tuple #[.bool true, int k, .bool true]) (w := World.putObj w1 r (.mapIter (some m) ks.length (seen.push n) ks.length)) (by unfold rawV; rw [hrun]) (h1 n k _ hk hns (Sat.unf hi g) (hs1.trans s))

theorem entry_at {r m i j n : Nat} {k : Int} {ks : List Int} {seen : Array Nat} (hs : Sat w F) (hi : F[i]? = some (mit r m ks.length (seen.push n))) (hj : F[j]? = some (mset m ks)) (hk : ks[n]? = some k) :
    rawV Pg (Instr.entry (ptr r 0)) w = some (.tuple #[int k, .bool true], w) := by
  have hati := (hs.foc hi).obAt
  have hatj := (hs.foc hj).obAt
  have hen : (mE ks)[n]? = some { key := int k, val := .bool true, born := n } := by
    have := mEl_get ks 0 n
    rw [hk, Nat.zero_add] at this
    simpa [mE] using this
  have hrun := run_entry_at (P := Pg) w r m ks.length seen (mE ks) ks.length { key := int k, val := .bool true, born := n } hati hatj (Array.mem_toList_iff.2 (Array.mem_of_getElem? hen)) (mE_nodup ks)
  have hrun : (Instr.entry (ptr r 0)).run Pg w = .ok (.tuple #[int k, .bool true]) w := hrun
  unfold rawV
  rw [hrun]
end Go.Cb

/-
  Steps of a walk that are found by themselves: fields, loads, stores, new blocks, gates, picks.
-/
set_option linter.unusedVariables false
set_option linter.unusedSimpArgs false
namespace Go.Cb
variable {w w0 : World} {F : List HP} {Q Q' : Value → World → Prop}

/-! ### What is known of types and values -/

class Sc (t : Nat) : Prop where
  a : aggT Pg t = some false
  s : szb Pg t 1 = true
class Ag (t : Nat) (n : outParam Nat) : Prop where
  a : aggT Pg t = some true
  s : tyB Pg t n = true
class Fl (t f : Nat) (k : outParam Nat) : Prop where
  h : ∀ a : Addr, fldA Pg t (.pointer (some a)) f = some (.pointer (some (a.add k)))
class Ze (t : Nat) (l : outParam (List Value)) : Prop where
  h : zeroL Pg t = some l
class Sls (t : Nat) (e k : outParam Nat) : Prop where
  h : SlT Pg t e k
class Un (t : Nat) (u : outParam TypeDesc) : Prop where
  h : Pg.underlying t = some u
class Bv (t : Nat) (ps : List (Nat × Value)) (v : outParam Value) : Prop where
  h : bldV Pg t ps = some v
class On (v : Value) : Prop where
  h : one v = true
instance On.int {k : IntKind} {n : Int} : On (.int k n) := ⟨rfl⟩
instance On.bool {b : Bool} : On (.bool b) := ⟨rfl⟩
instance On.string {s : ByteArray} : On (.string s) := ⟨rfl⟩
instance On.pointer {a : Option Addr} : On (.pointer a) := ⟨rfl⟩
instance On.slice {a : Option Addr} {n c : Nat} : On (.slice a n c) := ⟨rfl⟩
instance On.map {a : Option Nat} : On (.map a) := ⟨rfl⟩
instance On.func {f : Go.Fn} {a b : Array Value} : On (.func f a b) := ⟨rfl⟩
instance On.v1 {x : V1} : On x.1 := ⟨x.2⟩
class Ons (l : List Value) : Prop where
  h : ∀ v ∈ l, one v = true
instance Ons.nil : Ons [] := ⟨fun v h => by simp at h⟩
instance Ons.cons {v : Value} {l : List Value} [h : On v] [h' : Ons l] : Ons (v :: l) := ⟨fun x hx => by
  rcases List.mem_cons.1 hx with rfl | hx
  · exact h.h
  · exact h'.h x hx⟩
/-- the first n of a list from place o on. -/
class Tk (l : List Value) (o n : Nat) (r : outParam (List Value)) : Prop where
  h : (l.drop o).take n = r ∧ o + n ≤ l.length
instance Tk.zero {l : List Value} : Tk l 0 0 [] := ⟨by simp, by simp⟩
instance Tk.take {x : Value} {l r : List Value} {n : Nat} [h : Tk l 0 n r] : Tk (x :: l) 0 (n + 1) (x :: r) := ⟨by
  have := h.h.1
  simpa using this, by have := h.h.2; simp at this ⊢; omega⟩
instance Tk.drop {x : Value} {l r : List Value} {o n : Nat} [h : Tk l o n r] : Tk (x :: l) (o + 1) n r := ⟨by
  have := h.h.1
  simpa using this, by have := h.h.2; simp at this ⊢; omega⟩

/-! ### What lies where -/

class Bl (F : List HP) (b : Nat) (l : outParam (List Value)) (T : outParam TypeId) : Prop where
  h : ∃ k : Nat, F[k]? = some (pt b l T)
instance Bl.here {b : Nat} {l : List Value} {T : TypeId} : Bl (pt b l T :: F) b l T := ⟨0, rfl⟩
instance Bl.there {b : Nat} {l : List Value} {T : TypeId} {A : HP} [h : Bl F b l T] : Bl (A :: F) b l T := let ⟨k, hk⟩ := h.h; ⟨k + 1, hk⟩
class Kn (F : List HP) (K : outParam Hl) : Prop where
  h : ∃ k : Nat, F[k]? = some (kn K)
instance Kn.here {K : Hl} : Kn (kn K :: F) K := ⟨0, rfl⟩
instance Kn.there {K : Hl} {A : HP} [h : Kn F K] : Kn (A :: F) K := let ⟨k, hk⟩ := h.h; ⟨k + 1, hk⟩
/-- block b, and what becomes of the list if it is turned. -/
class Bs (F : List HP) (b : Nat) (l : outParam (List Value)) (T : outParam TypeId) (G : outParam (List Value → List HP)) : Prop where
  h : ∃ k : Nat, F[k]? = some (pt b l T) ∧ ∀ x, F.set k (pt b x T) = G x
instance Bs.here {b : Nat} {l : List Value} {T : TypeId} : Bs (pt b l T :: F) b l T (fun x => pt b x T :: F) := ⟨0, rfl, fun _ => rfl⟩
instance Bs.there {b : Nat} {l : List Value} {T : TypeId} {A : HP} {G : List Value → List HP} [h : Bs F b l T G] : Bs (A :: F) b l T (fun x => A :: G x) :=
  let ⟨k, hk, hg⟩ := h.h; ⟨k + 1, hk, fun x => by rw [List.set_cons_succ, hg]⟩
/-- a slice's rows; and what becomes of the list if they are turned. -/
class Ss (F : List HP) (v : Value) (e k : outParam Nat) (α : outParam Type) (enc : outParam (α → List Value)) (xs : outParam (List α)) : Prop where
  h : ∃ j : Nat, F[j]? = some (slH e k enc v xs)
instance Ss.here {v : Value} {e k : Nat} {α : Type} {enc : α → List Value} {xs : List α} : Ss (slH e k enc v xs :: F) v e k α enc xs := ⟨0, rfl⟩
instance Ss.there {v : Value} {e k : Nat} {α : Type} {enc : α → List Value} {xs : List α} {A : HP} [h : Ss F v e k α enc xs] : Ss (A :: F) v e k α enc xs := let ⟨j, hj⟩ := h.h; ⟨j + 1, hj⟩
class Sp (F : List HP) (v : Value) (e k : outParam Nat) (α : outParam Type) (enc : outParam (α → List Value)) (xs : outParam (List α)) (G : outParam (Value → List α → List HP)) : Prop where
  h : ∃ j : Nat, F[j]? = some (slH e k enc v xs) ∧ ∀ u ys, F.set j (slH e k enc u ys) = G u ys
instance Sp.here {v : Value} {e k : Nat} {α : Type} {enc : α → List Value} {xs : List α} : Sp (slH e k enc v xs :: F) v e k α enc xs (fun u ys => slH e k enc u ys :: F) := ⟨0, rfl, fun _ _ => rfl⟩
instance Sp.there {v : Value} {e k : Nat} {α : Type} {enc : α → List Value} {xs : List α} {A : HP} {G : Value → List α → List HP} [h : Sp F v e k α enc xs G] : Sp (A :: F) v e k α enc xs (fun u ys => A :: G u ys) :=
  let ⟨j, hj, hg⟩ := h.h; ⟨j + 1, hj, fun u ys => by rw [List.set_cons_succ, hg]⟩

theorem Sat.kn {K : Hl} [h : Kn F K] (hs : Sat w F) : K.on w := let ⟨_, hk⟩ := h.h; kn_on hs hk
/-- known cells. -/
def PtK (K : Hl) (p : Addr) (l : List Value) : Prop := ∀ w, K.on w → cellsAt w p 0 l.length = some l
theorem PtK.mono {K K' : Hl} {p : Addr} {l : List Value} (h : PtK K p l) (hl : Le K K') : PtK K' p l := fun w hw => h w (hl w hw)
theorem cellsAt_get' : ∀ (k i : Nat) {w : World} {p : Addr} {l : List Value}, cellsAt w p i k = some l → l.length = k ∧ ∀ j, j < k → w.cell? (p.add (i + j)) = l[j]?
  | 0, i, w, p, l, h => by
    have : some [] = some l := h
    injection this with this
    subst this
    exact ⟨rfl, fun j hj => absurd hj (Nat.not_lt_zero _)⟩
  | k + 1, i, w, p, l, h => by
    unfold cellsAt at h
    obtain ⟨x, hx, h⟩ := Option.bind_eq_some_iff.1 h
    obtain ⟨l', hl', rfl⟩ := Option.map_eq_some_iff.1 h
    obtain ⟨h1, h2⟩ := cellsAt_get' k (i + 1) hl'
    refine ⟨by simp [h1], fun j hj => ?_⟩
    cases j with
    | zero => simpa using hx
    | succ j =>
      have := h2 j (by omega)
      rw [show i + 1 + j = i + (j + 1) by omega] at this
      simpa using this
theorem cellsAt_mk' : ∀ (k i : Nat) {w : World} {p : Addr} {l : List Value}, l.length = k → (∀ j, j < k → w.cell? (p.add (i + j)) = l[j]?) → cellsAt w p i k = some l
  | 0, i, w, p, l, h, _ => by rw [List.length_eq_zero_iff.1 h]; rfl
  | k + 1, i, w, p, [], h, _ => by simp at h
  | k + 1, i, w, p, x :: l, h, hj => by
    unfold cellsAt
    have h0 := hj 0 (by omega)
    simp only [Nat.add_zero, List.getElem?_cons_zero] at h0
    rw [h0, cellsAt_mk' k (i + 1) (l := l) (by simpa using h) fun j hlt => by
      have := hj (j + 1) (by omega)
      rw [show i + (j + 1) = i + 1 + j by omega] at this
      simpa using this]
    rfl

theorem addA (a : Addr) (x y : Nat) : (a.add x).add y = a.add (x + y) := by
  by_cases h1 : x = 0
  · subst h1; simp [Addr.add]
  · by_cases h2 : y = 0
    · subst h2; simp [Addr.add, h1]
    · simp [Addr.add, h1, h2, Nat.add_assoc]

/-! ### A walk's goal: what lies there, and what came of the world so far -/

def Go (w0 : World) (F : List HP) (w : World) (r : R) (Q : Value → World → Prop) : Prop := Sat w F → Sm w0 w → Ok r Q
theorem Ok.go {r : R} (hs : Sat w F) (hm : Sm w0 w) (h : Go w0 F w r Q) : Ok r Q := h hs hm
theorem Go.ok {r : R} (h : Sat w F → Sm w0 w → Ok r Q) : Go w0 F w r Q := h
theorem Go.mono {r : R} (h : Go w0 F w r Q) (hq : ∀ v w', Q v w' → Q' v w') : Go w0 F w r Q' := fun a b => (h a b).mono hq
theorem Go.re {r : R} (ix : List Nat) (hp : ix.Perm (List.range ix.length)) (h : Go w0 (ix.map (fun i => F.getD i Cb.emp) ++ F.drop ix.length) w r Q) : Go w0 F w r Q := fun hs hm => h (hs.re ix hp) hm
theorem Go.dr {A : HP} {r : R} (h : Go w0 F w r Q) : Go w0 (A :: F) w r Q := fun hs hm => h hs.drop hm
theorem Go.keep {r : R} (h : Sat w F → Sm w0 w → Go w0 F w r Q) : Go w0 F w r Q := fun hs hm => h hs hm hs hm
theorem Go.ret {v : Value} (h : Sat w F → Sm w0 w → Q v w) : Go w0 F w (some (v, w)) Q := fun hs hm => ⟨_, _, rfl, h hs hm⟩

section
variable {κ : Value → R} {κ2 : Value → World → R}

theorem Go.rd {α : Type} {o : Option α} {k : α → R} {a : α} (h : o = some a) (hk : Go w0 F w (k a) Q) : Go w0 F w (Cb.rd o k) Q := by subst h; exact hk
theorem Go.rd2 {o : R} {v : Value} (h : o = some (v, w)) (hk : Go w0 F w (κ2 v w) Q) : Go w0 F w (Cb.rd2 o κ2) Q := by subst h; exact hk
/-- a call whose contract is known. -/
theorem Go.bind {o : R} {Q1 : Value → World → Prop} (hc : Sat w F → Ok o Q1) (hk : ∀ v w', Q1 v w' → Sm w0 w → Ok (κ2 v w') Q) : Go w0 F w (Cb.rd2 o κ2) Q := fun hs hm => Ok.bind (hc hs) fun v w' hq => hk v w' hq hm
theorem Go.fl {t f k b o : Nat} [h0 : Fl t f k] (h : Go w0 F w (κ (ptr b (o + k))) Q) : Go w0 F w (Cb.rd (fldA Pg t (ptr b o) f) κ) Q := Go.rd ((h0.h _).trans (by rw [show (⟨b, o, none⟩ : Addr) = ad b o from rfl, add_ad])) h
theorem Go.fla {t f k : Nat} {a : Addr} [h0 : Fl t f k] (h : Go w0 F w (κ (.pointer (some (a.add k)))) Q) : Go w0 F w (Cb.rd (fldA Pg t (.pointer (some a)) f) κ) Q := Go.rd (h0.h _) h
theorem Go.fla2 {t f k k0 : Nat} {a : Addr} [h0 : Fl t f k] (h : Go w0 F w (κ (.pointer (some (a.add (k0 + k))))) Q) : Go w0 F w (Cb.rd (fldA Pg t (.pointer (some (a.add k0))) f) κ) Q := by
  refine Go.rd (h0.h _) ?_
  rw [addA]; exact h
theorem ld_of {t b o : Nat} {l : List Value} {T : TypeId} {v : Value} [h0 : Sc t] [h1 : Bl F b l T] (hs : Sat w F) (hv : l[o]? = some v) : ldV Pg t (ptr b o) w = some v := by
  obtain ⟨k, hk⟩ := h1.h
  exact ((ldV_sc h0.a _ _).trans ((hs.foc hk).at.cell o)).trans hv
theorem Go.ls {t b o : Nat} {l : List Value} {T : TypeId} {v : Value} [h0 : Sc t] [h1 : Bl F b l T] (hv : l[o]? = some v) (h : Go w0 F w (κ v) Q) : Go w0 F w (Cb.rd (ldV Pg t (ptr b o) w) κ) Q := fun hs hm => Ok.rd (ld_of hs hv) (h hs hm)
theorem lda_of {t n b : Nat} {l : List Value} {T : TypeId} [h0 : Ag t n] [h1 : Bl F b l T] (hs : Sat w F) (hn : l.length = n) : ldV Pg t (ptr b 0) w = some (.agg l.toArray) := by
  obtain ⟨k, hk⟩ := h1.h
  exact ld_agg h0.a h0.s hn hs k hk
theorem Go.la {t n b : Nat} {l : List Value} {T : TypeId} [h0 : Ag t n] [h1 : Bl F b l T] (hn : l.length = n) (h : Go w0 F w (κ (.agg l.toArray)) Q) : Go w0 F w (Cb.rd (ldV Pg t (ptr b 0) w) κ) Q := fun hs hm => Ok.rd (lda_of hs hn) (h hs hm)
theorem lap_of {t n b o : Nat} {l vs : List Value} {T : TypeId} [h0 : Ag t n] [h1 : Bl F b l T] [h2 : Tk l o n vs] (hs : Sat w F) : ldV Pg t (ptr b o) w = some (.agg vs.toArray) := by
  obtain ⟨k, hk⟩ := h1.h
  obtain ⟨i, z, g1, g2, _⟩ := ty_of h0.s
  rw [at_load (hs.foc hk).at (o := o) (n := n) h2.h.2 h0.a g1 g2, h2.h.1]
theorem Go.lap {t n b o : Nat} {l vs : List Value} {T : TypeId} [h0 : Ag t n] [h1 : Bl F b l T] [h2 : Tk l o n vs] (h : Go w0 F w (κ (.agg vs.toArray)) Q) : Go w0 F w (Cb.rd (ldV Pg t (ptr b o) w) κ) Q := fun hs hm => Ok.rd (lap_of hs) (h hs hm)

/-! known cells -/
theorem ldk_of {K : Hl} {t o : Nat} {p : Addr} {l : List Value} {v : Value} [h0 : Sc t] [h1 : Kn F K] (hs : Sat w F) (hp : PtK K p l) (hv : l[o]? = some v) : ldV Pg t (.pointer (some (p.add o))) w = some v := by
  obtain ⟨g1, g2⟩ := cellsAt_get' _ _ (hp w hs.kn)
  have ho := (List.getElem?_eq_some_iff.1 hv).1
  rw [ldV_sc h0.a, ← hv, ← g2 o ho, Nat.zero_add]
theorem Go.lk {K : Hl} {t o : Nat} {p : Addr} {l : List Value} {v : Value} [h0 : Sc t] [h1 : Kn F K] (hp : PtK K p l) (hv : l[o]? = some v) (h : Go w0 F w (κ v) Q) : Go w0 F w (Cb.rd (ldV Pg t (.pointer (some (p.add o))) w) κ) Q := fun hs hm => Ok.rd (ldk_of hs hp hv) (h hs hm)
theorem Go.lk0 {K : Hl} {t : Nat} {p : Addr} {l : List Value} {v : Value} [h0 : Sc t] [h1 : Kn F K] (hp : PtK K p l) (hv : l[0]? = some v) (h : Go w0 F w (κ v) Q) : Go w0 F w (Cb.rd (ldV Pg t (.pointer (some p)) w) κ) Q := fun hs hm => Ok.rd (by
  have h3 : p.add 0 = p := by simp [Addr.add]
  have h4 : ldV Pg t (.pointer (some (p.add 0))) w = some v := ldk_of hs hp hv
  rw [h3] at h4
  exact h4) (h hs hm)
theorem ldka_of {K : Hl} {t n : Nat} {p : Addr} {l : List Value} [h0 : Ag t n] [h1 : Kn F K] (hs : Sat w F) (hp : PtK K p l) (hn : l.length = n) : ldV Pg t (.pointer (some p)) w = some (.agg l.toArray) := by
  obtain ⟨i, z, g1, g2, _⟩ := ty_of h0.s
  rw [ldV_ag h0.a g1, g2, ← hn, hp w hs.kn, Option.map_some]
theorem Go.lka {K : Hl} {t n : Nat} {p : Addr} {l : List Value} [h0 : Ag t n] [h1 : Kn F K] (hp : PtK K p l) (hn : l.length = n) (h : Go w0 F w (κ (.agg l.toArray)) Q) : Go w0 F w (Cb.rd (ldV Pg t (.pointer (some p)) w) κ) Q := fun hs hm => Ok.rd (ldka_of hs hp hn) (h hs hm)
theorem Go.lkp {K : Hl} {t n o : Nat} {p : Addr} {l vs : List Value} [h0 : Ag t n] [h1 : Kn F K] (hp : PtK K p l) [h2 : Tk l o n vs] (h : Go w0 F w (κ (.agg vs.toArray)) Q) : Go w0 F w (Cb.rd (ldV Pg t (.pointer (some (p.add o))) w) κ) Q := fun hs hm => Ok.rd (by
  obtain ⟨i, z, g1, g2, _⟩ := ty_of h0.s
  obtain ⟨g3, g4⟩ := cellsAt_get' _ _ (hp w hs.kn)
  have ht := h2.h.2
  have hl : vs.length = n := by rw [← h2.h.1, List.length_take, List.length_drop]; omega
  rw [ldV_ag h0.a g1, g2]
  rw [cellsAt_mk' n 0 hl fun j hj => ?_]
  · rw [Option.map_some]
  · rw [addA, show o + (0 + j) = 0 + (o + j) by omega, g4 (o + j) (by omega), ← h2.h.1, List.getElem?_take, if_pos hj, List.getElem?_drop]) (h hs hm)
theorem Go.ixr {K : Hl} {t k i : Nat} {α : Type} {enc : α → List Value} {v : Value} {xs : List α} {x : α} (hr : RdS K t k enc v xs) (hx : xs[i]? = some x) (hk : (enc x).length = k) (h : ∀ p, PtK K p (enc x) → Go w0 F w (κ (.pointer (some p))) Q) : Go w0 F w (Cb.rd (ixA Pg t v (int i)) κ) Q := by
  obtain ⟨p, h1, h2⟩ := hr.ix i x hx
  exact Go.rd h1 (h p fun w hw => by rw [hk]; exact h2 w hw)

theorem RdS.get {K : Hl} {t k i : Nat} {α : Type} {enc : α → List Value} {v : Value} {xs : List α} {x : α} (hr : RdS K t k enc v xs) (hx : xs[i]? = some x) (hk : (enc x).length = k) : ∃ p, ixA Pg t v (int i) = some (.pointer (some p)) ∧ PtK K p (enc x) := by
  obtain ⟨p, h1, h2⟩ := hr.ix i x hx
  exact ⟨p, h1, fun w hw => by rw [hk]; exact h2 w hw⟩

/-! stores, new blocks -/
theorem Go.st {t b o : Nat} {l : List Value} {T : TypeId} {v : Value} {G : List Value → List HP} [h0 : Sc t] [h1 : Bs F b l T G] [h2 : On v] (ho : o < l.length) (h : ∀ w', Go w0 (G (l.set o v)) w' (κ2 undef w') Q) : Go w0 F w (Cb.rd2 (rawU Pg (Instr.storeAt t (ptr b o) v) w) κ2) Q := fun hs hm => by
  obtain ⟨k, hk, hg⟩ := h1.h
  obtain ⟨w1, m1, t1, s1⟩ := st_one (P := Pg) (t := t) (sz_of h0.s) hs k hk ho h2.h
  rw [hg] at t1
  exact Ok.rd2 m1 (h w1 t1 (hm.trans s1))
theorem Go.sta {t b n : Nat} {l cs : List Value} {T : TypeId} {G : List Value → List HP} [h0 : Ag t n] [h1 : Bs F b l T G] [h2 : Ons cs] (hl : l.length = n) (hc : cs.length = n) (h : ∀ w', Go w0 (G cs) w' (κ2 undef w') Q) : Go w0 F w (Cb.rd2 (rawU Pg (Instr.storeAt t (ptr b 0) (.agg cs.toArray)) w) κ2) Q := fun hs hm => by
  obtain ⟨k, hk, hg⟩ := h1.h
  obtain ⟨w1, m1, t1, s1⟩ := st_agg h0.s hl (cs := cs.toArray) (by simpa using hc) (fun v hv => h2.h v (by simpa using hv)) hs k hk
  rw [hg] at t1
  exact Ok.rd2 m1 (h w1 t1 (hm.trans s1))
theorem Go.al {t : Nat} {l : List Value} [h0 : Ze t l] (h : ∀ nb w', Go w0 (pt nb l t :: F) w' (κ2 (ptr nb 0) w') Q) : Go w0 F w (Cb.rd2 (rawV Pg (Instr.alloc t true (.tuple #[])) w) κ2) Q := fun hs hm => go_new h0.h hs fun nb w' t1 s1 => h nb w' t1 (hm.trans s1)
theorem Go.bxa {t : Nat} {l : List Value} (h : ∀ nb w', Go w0 (pt nb l t :: F) w' (κ2 (ptr nb 0) w') Q) : Go w0 F w (Cb.rd2 (rawV Pg (Instr.box t (.agg l.toArray)) w) κ2) Q := fun hs hm => go_box (l := l) rfl hs fun nb w' t1 s1 => h nb w' t1 (hm.trans s1)
theorem Go.bxs {t : Nat} {v : Value} [h0 : On v] (h : ∀ nb w', Go w0 (pt nb [v] t :: F) w' (κ2 (ptr nb 0) w') Q) : Go w0 F w (Cb.rd2 (rawV Pg (Instr.box t v) w) κ2) Q := fun hs hm => go_box (l := [v]) (by rw [cells_one h0.h]) hs fun nb w' t1 s1 => h nb w' t1 (hm.trans s1)
theorem Go.bv {t : Nat} {ps : List (Nat × Value)} {v : Value} [h0 : Bv t ps v] (h : Go w0 F w (κ v) Q) : Go w0 F w (Cb.rd (bldV Pg t ps) κ) Q := Go.rd h0.h h
theorem Go.dw {r : R} (h : Go w0 F (drw w) r Q) : Go w0 F w r Q := fun hs hm => h hs.drw ⟨hm.os, hm.out, hm.tape, hm.fz⟩

theorem Go.dl {t : Nat} {x : Value} (h : Go w0 F (drw w) (Cb.rd (ldV Pg t x (drw w)) κ) Q) : Go w0 F w (Cb.rd (ldV Pg t x (drw w)) κ) Q := Go.dw h
theorem Go.db {st : Bool} {op : BinOp} {t : TypeId} {ox oy : Operand} {x y : Value} (h : Go w0 F (drw w) (Cb.rd2 (binG st Pg op t ox oy x y (drw w)) κ2) Q) : Go w0 F w (Cb.rd2 (binG st Pg op t ox oy x y (drw w)) κ2) Q := Go.dw h
theorem Go.dg {x : Value} {b : Bool} {r : Unit → R} (h : Go w0 F (drw w) (Cb.rd2 (gate x b r (drw w)) κ2) Q) : Go w0 F w (Cb.rd2 (gate x b r (drw w)) κ2) Q := Go.dw h
theorem Go.dn {st : Bool} {b : Builtin} {ts : Array TypeId} {t : TypeId} {cs : Array Bool} {l : List Value} (h : Go w0 F (drw w) (Cb.rd2 (lenG st Pg b ts t cs l (drw w)) κ2) Q) : Go w0 F w (Cb.rd2 (lenG st Pg b ts t cs l (drw w)) κ2) Q := Go.dw h
theorem Go.dv {s : Sem Value} (h : Go w0 F (drw w) (Cb.rd2 (rawV Pg s (drw w)) κ2) Q) : Go w0 F w (Cb.rd2 (rawV Pg s (drw w)) κ2) Q := Go.dw h
theorem Go.dc {st : Bool} {s d : TypeId} {x : Value} (h : Go w0 F (drw w) (Cb.rd2 (cvG st Pg s d x (drw w)) κ2) Q) : Go w0 F w (Cb.rd2 (cvG st Pg s d x (drw w)) κ2) Q := Go.dw h
theorem Go.df {f : FuncId} {l : List Value} (h : Go w0 F (drw w) (Cb.rd2 (Cb.Fn Pg f l (drw w)) κ2) Q) : Go w0 F w (Cb.rd2 (Cb.Fn Pg f l (drw w)) κ2) Q := Go.dw h
theorem Go.dk {st : Bool} {t : TypeId} {x i : Value} {ok : Bool} (h : Go w0 F (drw w) (Cb.rd2 (lkG st Pg t x i ok (drw w)) κ2) Q) : Go w0 F w (Cb.rd2 (lkG st Pg t x i ok (drw w)) κ2) Q := Go.dw h
/-- what is read is held against what is read at another moment. -/
theorem hold_go {t : TypeId} {x y v : Value} {w : World} {b : Bool} (h : ldV Pg t x w = some v) : holdsAt Pg (some (y, b)) (.ld t) x v w := fun _ => h
theorem hold_no {k : RK} {x y v : Value} {w : World} {b : Bool} (h : y ≠ .bool b) : holdsAt Pg (some (y, b)) k x v w := fun e => absurd e h
theorem Go.oo {b : Bool} {x y : Unit → R} (h1 : Go w0 F w (x ()) Q) (h2 : Go w0 F w (y ()) Q) : Go w0 F w (oneOf b x y) Q := by cases b <;> assumption

/-! gates, picks, answers -/
theorem Go.gtt {r : Unit → R} (h : Go w0 F w (Cb.rd2 (r ()) κ2) Q) : Go w0 F w (Cb.rd2 (gate (.bool true) true r w) κ2) Q := h
theorem Go.gff {r : Unit → R} (h : Go w0 F w (Cb.rd2 (r ()) κ2) Q) : Go w0 F w (Cb.rd2 (gate (.bool false) false r w) κ2) Q := h
theorem Go.gtf {r : Unit → R} (h : Go w0 F w (κ2 undef w) Q) : Go w0 F w (Cb.rd2 (gate (.bool true) false r w) κ2) Q := h
theorem Go.gft {r : Unit → R} (h : Go w0 F w (κ2 undef w) Q) : Go w0 F w (Cb.rd2 (gate (.bool false) true r w) κ2) Q := h
theorem Go.gut {r : Unit → R} {b : Bool} (h : Go w0 F w (κ2 undef w) Q) : Go w0 F w (Cb.rd2 (gate undef b r w) κ2) Q := h
theorem Go.as1 {α : Type} {o : Option α} {f : α → R} (h : Go w0 F w (Cb.rd o fun a => Cb.rd2 (f a) κ2) Q) : Go w0 F w (Cb.rd2 (Cb.rd o f) κ2) Q := by cases o <;> exact h
theorem Go.as2 {o : R} {f : Value → World → R} (h : Go w0 F w (Cb.rd2 o fun a w => Cb.rd2 (f a w) κ2) Q) : Go w0 F w (Cb.rd2 (Cb.rd2 o f) κ2) Q := by cases o <;> exact h
theorem Go.so {v : Value} (h : Go w0 F w (κ2 v w) Q) : Go w0 F w (Cb.rd2 (some (v, w)) κ2) Q := h
theorem Go.pt_ {a b : Value} (h : Go w0 F w (κ a) Q) : Go w0 F w (Cb.rd (pickV (.bool true) a b) κ) Q := h
theorem Go.pf_ {a b : Value} (h : Go w0 F w (κ b) Q) : Go w0 F w (Cb.rd (pickV (.bool false) a b) κ) Q := h
theorem Go.nt {x y : Bool} (hx : (!x) = y) (h : Go w0 F w (κ (.bool y)) Q) : Go w0 F w (Cb.rd (unV .not (.bool x)) κ) Q := by subst hx; exact h
theorem Go.ntt (h : Go w0 F w (κ (.bool false)) Q) : Go w0 F w (Cb.rd (unV .not (.bool true)) κ) Q := h
theorem Go.ntf (h : Go w0 F w (κ (.bool true)) Q) : Go w0 F w (Cb.rd (unV .not (.bool false)) κ) Q := h
theorem Go.ntb {x : Bool} (h : Go w0 F w (κ (.bool (!x))) Q) : Go w0 F w (Cb.rd (unV .not (.bool x)) κ) Q := h
theorem Go.ct {a b : Unit → R} (h : Go w0 F w (a ()) Q) : Go w0 F w (cnd (.bool true) a b) Q := h
theorem Go.cf {a b : Unit → R} (h : Go w0 F w (b ()) Q) : Go w0 F w (cnd (.bool false) a b) Q := h
theorem Go.ci {a b : Unit → R} {x : Bool} (ht : x = true → Go w0 F w (a ()) Q) (hf : x = false → Go w0 F w (b ()) Q) : Go w0 F w (cnd (.bool x) a b) Q := by
  cases x with
  | true => exact ht rfl
  | false => exact hf rfl
theorem Go.ck {p : Prop} {k : Unit → R} (hp : p) (h : Go w0 F w (k ()) Q) : Go w0 F w (chk p k) Q := fun hs hm => Ok.chk hp (h hs hm)
theorem Go.sh {k : World → R} (h : Go w0 F w (k w) Q) : Go w0 F w (shutK undef w k) Q := h
theorem Go.ex {l : List Value} {i : Nat} {v : Value} (hv : l[i]? = some v) (h : Go w0 F w (κ v) Q) : Go w0 F w (Cb.rd (extV (.tuple l.toArray) i) κ) Q := Go.rd (by show l.toArray[i]? = some v; simpa using hv) h
theorem Go.nl {a : Addr} (h : Go w0 F w (κ (.pointer (some a))) Q) : Go w0 F w (Cb.rd (nilV (.pointer (some a))) κ) Q := h

/-! operators -/
section
variable {st : Bool} {t : TypeId} {ox oy : Operand} {k : IntKind} {a b : Int} {s s' : ByteArray}
theorem Go.bI {op : BinOp} {x y v : Value} (hb : binV op x y = some v) (h : Go w0 F w (κ2 v w) Q) : Go w0 F w (Cb.rd2 (binG st Pg op t ox oy x y w) κ2) Q := Go.rd2 (by unfold binG; rw [hb]) h
theorem Go.eq_ (h : Go w0 F w (κ2 (.bool (decide (a = b))) w) Q) : Go w0 F w (Cb.rd2 (binG st Pg .eql t ox oy (.int k a) (.int k b) w) κ2) Q := Go.bI (v := .bool (decide (a = b))) (by simp [binV]; rfl) h
theorem Go.ne_ (h : Go w0 F w (κ2 (.bool (!decide (a = b))) w) Q) : Go w0 F w (Cb.rd2 (binG st Pg .neq t ox oy (.int k a) (.int k b) w) κ2) Q := Go.bI (v := .bool (!decide (a = b))) (by simp [binV]; rfl) h
theorem Go.lt_ (h : Go w0 F w (κ2 (.bool (decide (a < b))) w) Q) : Go w0 F w (Cb.rd2 (binG st Pg .lss t ox oy (.int k a) (.int k b) w) κ2) Q := Go.bI (by simp [binV]) h
theorem Go.le_ (h : Go w0 F w (κ2 (.bool (decide (a ≤ b))) w) Q) : Go w0 F w (Cb.rd2 (binG st Pg .leq t ox oy (.int k a) (.int k b) w) κ2) Q := Go.bI (by simp [binV]) h
theorem Go.gt_ (h : Go w0 F w (κ2 (.bool (decide (b < a))) w) Q) : Go w0 F w (Cb.rd2 (binG st Pg .gtr t ox oy (.int k a) (.int k b) w) κ2) Q := Go.bI (by simp [binV]) h
theorem Go.ge_ (h : Go w0 F w (κ2 (.bool (decide (b ≤ a))) w) Q) : Go w0 F w (Cb.rd2 (binG st Pg .geq t ox oy (.int k a) (.int k b) w) κ2) Q := Go.bI (by simp [binV]) h
theorem Go.seq_ (h : Go w0 F w (κ2 (.bool (decide (s = s'))) w) Q) : Go w0 F w (Cb.rd2 (binG st Pg .eql t ox oy (.string s) (.string s') w) κ2) Q := Go.bI (v := .bool (decide (s = s'))) (by simp only [binV]; rw [key_beq]) h
theorem Go.sne_ (h : Go w0 F w (κ2 (.bool (!decide (s = s'))) w) Q) : Go w0 F w (Cb.rd2 (binG st Pg .neq t ox oy (.string s) (.string s') w) κ2) Q := Go.bI (v := .bool (!decide (s = s'))) (by simp only [binV]; rw [key_beq]) h
theorem Go.slt_ (h : Go w0 F w (κ2 (.bool (kl s s')) w) Q) : Go w0 F w (Cb.rd2 (binG st Pg .lss t ox oy (.string s) (.string s') w) κ2) Q := Go.bI rfl h
theorem sle_v : binV .leq (.string s) (.string s') = some (.bool !kl s' s) := by
  have : binV .leq (.string s) (.string s') = some (.bool (kl s s' || s.toList == s'.toList)) := rfl
  rw [this, key_beq]
  congr 2
  cases h : kl s' s with
  | true => rw [kl_asym h, decide_eq_false (Ne.symm (kl_ne h))]; rfl
  | false =>
    by_cases e : s' = s
    · subst e; simp
    · rw [kl_gt h e]; rfl
theorem Go.sle_ (h : Go w0 F w (κ2 (.bool (!kl s' s)) w) Q) : Go w0 F w (Cb.rd2 (binG st Pg .leq t ox oy (.string s) (.string s') w) κ2) Q := Go.bI sle_v h
theorem Go.sgt_ (h : Go w0 F w (κ2 (.bool (kl s' s)) w) Q) : Go w0 F w (Cb.rd2 (binG st Pg .gtr t ox oy (.string s) (.string s') w) κ2) Q := Go.bI (by
  have : binV .gtr (.string s) (.string s') = some (.bool !(Op.bytesLess s.toList s'.toList || s.toList == s'.toList)) := rfl
  have h2 : binV .leq (.string s) (.string s') = some (.bool (Op.bytesLess s.toList s'.toList || s.toList == s'.toList)) := rfl
  rw [sle_v] at h2
  injection h2 with h2
  injection h2 with h2
  rw [this, ← h2, Bool.not_not]) h
theorem Go.sge_ (h : Go w0 F w (κ2 (.bool (!kl s s')) w) Q) : Go w0 F w (Cb.rd2 (binG st Pg .geq t ox oy (.string s) (.string s') w) κ2) Q := Go.bI rfl h
theorem Go.ad1 {n : Nat} (hn : n ≤ 2 ^ 62) (h : Go w0 F w (κ2 (int (n + 1 : Nat)) w) Q) : Go w0 F w (Cb.rd2 (binG st Pg .add t ox oy (int n) (int 1) w) κ2) Q := Go.rd2 (bin_add1 hn) h
theorem Go.adn {m n : Nat} (hn : m + n ≤ 2 ^ 62) (h : Go w0 F w (κ2 (int (m + n : Nat)) w) Q) : Go w0 F w (Cb.rd2 (binG st Pg .add t ox oy (int m) (int n) w) κ2) Q := Go.rd2 (bin_addn hn) h
theorem Go.sbn {m n : Nat} (h1 : n ≤ m) (hn : m ≤ 2 ^ 62) (h : Go w0 F w (κ2 (int (m - n : Nat)) w) Q) : Go w0 F w (Cb.rd2 (binG st Pg .sub t ox oy (int m) (int n) w) κ2) Q := Go.rd2 (bin_subn h1 hn) h
theorem Go.sb1 {m : Nat} (h1 : 1 ≤ m) (hn : m ≤ 2 ^ 62) (h : Go w0 F w (κ2 (int (m - 1 : Nat)) w) Q) : Go w0 F w (Cb.rd2 (binG st Pg .sub t ox oy (int m) (int 1) w) κ2) Q := Go.rd2 (bin_sub1 h1 hn) h
class Bo (t : Nat) : Prop where
  h : Pg.underlying t = some .bool
theorem Go.beq_ {x y : Bool} [h0 : Bo t] (h : Go w0 F w (κ2 (.bool (x == y)) w) Q) : Go w0 F w (Cb.rd2 (binG st Pg .eql t ox oy (.bool x) (.bool y) w) κ2) Q := Go.rd2 (by
  have h1 : cmpV Pg .eql t (.bool x) (.bool y) = some (.bool (x == y)) := by
    show (eqV Pg (9999 + 1) t (.bool x) (.bool y)).map Value.bool = _
    unfold eqV; rw [h0.h]; rfl
  unfold binG
  have h2 : binV .eql (.bool x) (.bool y) = none := rfl
  rw [h2, h1]) h
theorem Go.bne_ {x y : Bool} [h0 : Bo t] (h : Go w0 F w (κ2 (.bool (!(x == y))) w) Q) : Go w0 F w (Cb.rd2 (binG st Pg .neq t ox oy (.bool x) (.bool y) w) κ2) Q := Go.rd2 (by
  have h1 : cmpV Pg .neq t (.bool x) (.bool y) = some (.bool (!(x == y))) := by
    show (eqV Pg (9999 + 1) t (.bool x) (.bool y)).map (fun b => Value.bool !b) = _
    unfold eqV; rw [h0.h]; rfl
  unfold binG
  have h2 : binV .neq (.bool x) (.bool y) = none := rfl
  rw [h2, h1]) h
end

/-! lengths -/
section
variable {st : Bool} {t rt : TypeId} {cs : Array Bool}
theorem Go.lnL {e k : Nat} {a : Option Addr} {n c : Nat} [h0 : Sls t e k] (h : Go w0 F w (κ2 (int n) w) Q) : Go w0 F w (Cb.rd2 (lenG st Pg .len #[t] rt cs [.slice a n c] w) κ2) Q := Go.rd2 (len_sl h0.h.u _ _ _ _) h
theorem Go.lnS {e k : Nat} {α : Type} {enc : α → List Value} {v : Value} {xs : List α} [h1 : Ss F v e k α enc xs] [h0 : Sls t e k] (h : Go w0 F w (κ2 (int xs.length) w) Q) : Go w0 F w (Cb.rd2 (lenG st Pg .len #[t] rt cs [v] w) κ2) Q := fun hs hm => by
  obtain ⟨j, hj⟩ := h1.h
  exact Ok.rd2 (sl_len h0.h (hs.foc hj) w) (h hs hm)
theorem Go.lnR {K : Hl} {e k k' : Nat} {α : Type} {enc : α → List Value} {v : Value} {xs : List α} (hr : RdS K t k' enc v xs) [h0 : Sls t e k] (h : Go w0 F w (κ2 (int xs.length) w) Q) : Go w0 F w (Cb.rd2 (lenG st Pg .len #[t] rt cs [v] w) κ2) Q := Go.rd2 (by
  obtain ⟨a, c, rfl⟩ := hr.sl
  exact len_sl h0.h.u _ _ _ _) h
class Str (t : Nat) : Prop where
  h : Pg.underlying t = some .string
theorem Go.lnT {s : ByteArray} [h0 : Str t] (h : Go w0 F w (κ2 (int s.size) w) Q) : Go w0 F w (Cb.rd2 (lenG st Pg .len #[t] rt cs [.string s] w) κ2) Q := Go.rd2 (len_str h0.h _ _) h
end

/-! slices -/
theorem Go.bs1 {t e k : Nat} {α : Type} {enc : α → List Value} [h0 : Sls t e k] (hE : En enc k) (hk : k ≤ 1000) {x : α} {v : Value} (hv : v.cells.toList = enc x) (h : ∀ nb w', Src w' (sl nb 0 1 1) [x].length k ([x].flatMap enc) → Go w0 (pt nb (enc x) e :: F) w' (κ2 (sl nb 0 1 1) w') Q) :
    Go w0 F w (Cb.rd2 (rawV Pg (Instr.buildSlice t 1 #[(0, v)]) w) κ2) Q := fun hs hm => go_bs1 h0.h hE hk hv hs fun nb w' t1 hv' s1 => h nb w' hv' t1 (hm.trans s1)
theorem src1 {k nb : Nat} {α : Type} {enc : α → List Value} (hE : En enc k) (x : α) {T : TypeId} [h1 : Bl F nb (enc x) T] (hs : Sat w F) : Src w (sl nb 0 1 1) [x].length k ([x].flatMap enc) := by
  obtain ⟨j, hj⟩ := h1.h
  have := src_at (o := 0) (n := 1) (k := k) (c := 1) (hs.foc hj).at (by rw [hE.len]; omega)
  rw [List.drop_zero, Nat.one_mul, List.take_of_length_le (by rw [hE.len]; exact Nat.le_refl _)] at this
  simpa using this
theorem Go.bs0 {t e k : Nat} {α : Type} (enc : α → List Value) [h0 : Sls t e k] (h : ∀ v w', Go w0 (slH e k enc v ([] : List α) :: F) w' (κ2 v w') Q) :
    Go w0 F w (Cb.rd2 (rawV Pg (Instr.buildSlice t 0 #[]) w) κ2) Q := fun hs hm => go_bs0 h0.h hs fun v w' t1 s1 => h v w' t1 (hm.trans s1)
theorem Go.app {t e k : Nat} {α : Type} {enc : α → List Value} {v x : Value} {xs ys : List α} {rt : TypeId} {cs : Array Bool} {G : Value → List α → List HP} [h0 : Sls t e k] [h1 : Sp F v e k α enc xs G] (hE : En enc k) (hx : Sat w F → Src w x ys.length k (ys.flatMap enc)) (hb : xs.length + ys.length ≤ 2 ^ 30)
    (h : ∀ u w', Go w0 (G u (xs ++ ys)) w' (κ2 u w') Q) : Go w0 F w (Cb.rd2 (lenG false Pg .append #[t, t] rt cs [v, x] w) κ2) Q := fun hs hm => by
  obtain ⟨j, hj, hg⟩ := h1.h
  refine go_app h0.h hE hs j hj (hx hs) hb fun u w' t1 s1 => ?_
  rw [hg] at t1
  exact h u w' t1 (hm.trans s1)
end

/-! ### One step, found by its form -/
class Stp (F : List HP) (w : World) (r : R) (r' : outParam R) (w' : outParam World) : Prop where
  h : ∀ {w0 : World} {Q : Value → World → Prop}, Go w0 F w' r' Q → Go w0 F w r Q
theorem Go.s {r r' : R} {w' : World} [h : Stp F w r r' w'] (hk : Go w0 F w' r' Q) : Go w0 F w r Q := h.h hk
section
variable {κ : Value → R} {κ2 : Value → World → R}
instance Stp.fl {t f k b o : Nat} [h0 : Fl t f k] : Stp F w (Cb.rd (fldA Pg t (ptr b o) f) κ) (κ (ptr b (o + k))) w := ⟨fun h => Go.fl h⟩
instance Stp.fla2 {t f k k0 : Nat} {a : Addr} [h0 : Fl t f k] : Stp F w (Cb.rd (fldA Pg t (.pointer (some (a.add k0))) f) κ) (κ (.pointer (some (a.add (k0 + k))))) w := ⟨fun h => Go.fla2 h⟩
instance (priority := 500) Stp.fla {t f k : Nat} {a : Addr} [h0 : Fl t f k] : Stp F w (Cb.rd (fldA Pg t (.pointer (some a)) f) κ) (κ (.pointer (some (a.add k)))) w := ⟨fun h => Go.fla h⟩
instance Stp.lap {t n b o : Nat} {l vs : List Value} {T : TypeId} [h0 : Ag t n] [h1 : Bl F b l T] [h2 : Tk l o n vs] : Stp F w (Cb.rd (ldV Pg t (ptr b o) w) κ) (κ (.agg vs.toArray)) w := ⟨fun h => Go.lap h⟩
instance Stp.bv {t : Nat} {ps : List (Nat × Value)} {v : Value} [h0 : Bv t ps v] : Stp F w (Cb.rd (bldV Pg t ps) κ) (κ v) w := ⟨fun h => Go.bv h⟩
instance Stp.gtt {r : Unit → R} : Stp F w (Cb.rd2 (gate (.bool true) true r w) κ2) (Cb.rd2 (r ()) κ2) w := ⟨fun h => Go.gtt h⟩
instance Stp.gff {r : Unit → R} : Stp F w (Cb.rd2 (gate (.bool false) false r w) κ2) (Cb.rd2 (r ()) κ2) w := ⟨fun h => Go.gff h⟩
instance Stp.gtf {r : Unit → R} : Stp F w (Cb.rd2 (gate (.bool true) false r w) κ2) (κ2 undef w) w := ⟨fun h => Go.gtf h⟩
instance Stp.gft {r : Unit → R} : Stp F w (Cb.rd2 (gate (.bool false) true r w) κ2) (κ2 undef w) w := ⟨fun h => Go.gft h⟩
instance Stp.gut {r : Unit → R} {b : Bool} : Stp F w (Cb.rd2 (gate undef b r w) κ2) (κ2 undef w) w := ⟨fun h => Go.gut h⟩
instance Stp.as1 {α : Type} {o : Option α} {f : α → R} : Stp F w (Cb.rd2 (Cb.rd o f) κ2) (Cb.rd o fun a => Cb.rd2 (f a) κ2) w := ⟨fun h => Go.as1 h⟩
instance Stp.as2 {o : R} {f : Value → World → R} : Stp F w (Cb.rd2 (Cb.rd2 o f) κ2) (Cb.rd2 o fun a w => Cb.rd2 (f a w) κ2) w := ⟨fun h => Go.as2 h⟩
instance Stp.so {v : Value} : Stp F w (Cb.rd2 (some (v, w)) κ2) (κ2 v w) w := ⟨fun h => Go.so h⟩
instance Stp.pt_ {a b : Value} : Stp F w (Cb.rd (pickV (.bool true) a b) κ) (κ a) w := ⟨fun h => Go.pt_ h⟩
instance Stp.pf_ {a b : Value} : Stp F w (Cb.rd (pickV (.bool false) a b) κ) (κ b) w := ⟨fun h => Go.pf_ h⟩
instance Stp.ntt : Stp F w (Cb.rd (unV .not (.bool true)) κ) (κ (.bool false)) w := ⟨fun h => Go.ntt h⟩
instance Stp.ntf : Stp F w (Cb.rd (unV .not (.bool false)) κ) (κ (.bool true)) w := ⟨fun h => Go.ntf h⟩
instance (priority := 500) Stp.ntb {x : Bool} : Stp F w (Cb.rd (unV .not (.bool x)) κ) (κ (.bool (!x))) w := ⟨fun h => Go.ntb h⟩
instance Stp.ct {a b : Unit → R} : Stp F w (cnd (.bool true) a b) (a ()) w := ⟨fun h => Go.ct h⟩
instance Stp.cf {a b : Unit → R} : Stp F w (cnd (.bool false) a b) (b ()) w := ⟨fun h => Go.cf h⟩
instance Stp.sh {k : World → R} : Stp F w (shutK undef w k) (k w) w := ⟨fun h => Go.sh h⟩
instance Stp.nl {a : Addr} : Stp F w (Cb.rd (nilV (.pointer (some a))) κ) (κ (.pointer (some a))) w := ⟨fun h => Go.nl h⟩
instance Stp.eq_ {st : Bool} {t : TypeId} {ox oy : Operand} {k : IntKind} {a b : Int} : Stp F w (Cb.rd2 (binG st Pg .eql t ox oy (.int k a) (.int k b) w) κ2) (κ2 (.bool (decide (a = b))) w) w := ⟨fun h => Go.eq_ h⟩
instance Stp.ne_ {st : Bool} {t : TypeId} {ox oy : Operand} {k : IntKind} {a b : Int} : Stp F w (Cb.rd2 (binG st Pg .neq t ox oy (.int k a) (.int k b) w) κ2) (κ2 (.bool (!decide (a = b))) w) w := ⟨fun h => Go.ne_ h⟩
instance Stp.lt_ {st : Bool} {t : TypeId} {ox oy : Operand} {k : IntKind} {a b : Int} : Stp F w (Cb.rd2 (binG st Pg .lss t ox oy (.int k a) (.int k b) w) κ2) (κ2 (.bool (decide (a < b))) w) w := ⟨fun h => Go.lt_ h⟩
instance Stp.le_ {st : Bool} {t : TypeId} {ox oy : Operand} {k : IntKind} {a b : Int} : Stp F w (Cb.rd2 (binG st Pg .leq t ox oy (.int k a) (.int k b) w) κ2) (κ2 (.bool (decide (a ≤ b))) w) w := ⟨fun h => Go.le_ h⟩
instance Stp.gt_ {st : Bool} {t : TypeId} {ox oy : Operand} {k : IntKind} {a b : Int} : Stp F w (Cb.rd2 (binG st Pg .gtr t ox oy (.int k a) (.int k b) w) κ2) (κ2 (.bool (decide (b < a))) w) w := ⟨fun h => Go.gt_ h⟩
instance Stp.ge_ {st : Bool} {t : TypeId} {ox oy : Operand} {k : IntKind} {a b : Int} : Stp F w (Cb.rd2 (binG st Pg .geq t ox oy (.int k a) (.int k b) w) κ2) (κ2 (.bool (decide (b ≤ a))) w) w := ⟨fun h => Go.ge_ h⟩
instance Stp.seq_ {st : Bool} {t : TypeId} {ox oy : Operand} {s s' : ByteArray} : Stp F w (Cb.rd2 (binG st Pg .eql t ox oy (.string s) (.string s') w) κ2) (κ2 (.bool (decide (s = s'))) w) w := ⟨fun h => Go.seq_ h⟩
instance Stp.sne_ {st : Bool} {t : TypeId} {ox oy : Operand} {s s' : ByteArray} : Stp F w (Cb.rd2 (binG st Pg .neq t ox oy (.string s) (.string s') w) κ2) (κ2 (.bool (!decide (s = s'))) w) w := ⟨fun h => Go.sne_ h⟩
instance Stp.slt_ {st : Bool} {t : TypeId} {ox oy : Operand} {s s' : ByteArray} : Stp F w (Cb.rd2 (binG st Pg .lss t ox oy (.string s) (.string s') w) κ2) (κ2 (.bool (kl s s')) w) w := ⟨fun h => Go.slt_ h⟩
instance Stp.sle_ {st : Bool} {t : TypeId} {ox oy : Operand} {s s' : ByteArray} : Stp F w (Cb.rd2 (binG st Pg .leq t ox oy (.string s) (.string s') w) κ2) (κ2 (.bool (!kl s' s)) w) w := ⟨fun h => Go.sle_ h⟩
instance Stp.sgt_ {st : Bool} {t : TypeId} {ox oy : Operand} {s s' : ByteArray} : Stp F w (Cb.rd2 (binG st Pg .gtr t ox oy (.string s) (.string s') w) κ2) (κ2 (.bool (kl s' s)) w) w := ⟨fun h => Go.sgt_ h⟩
instance Stp.sge_ {st : Bool} {t : TypeId} {ox oy : Operand} {s s' : ByteArray} : Stp F w (Cb.rd2 (binG st Pg .geq t ox oy (.string s) (.string s') w) κ2) (κ2 (.bool (!kl s s')) w) w := ⟨fun h => Go.sge_ h⟩
instance Stp.beq_ {st : Bool} {t : TypeId} {ox oy : Operand} {x y : Bool} [h0 : Bo t] : Stp F w (Cb.rd2 (binG st Pg .eql t ox oy (.bool x) (.bool y) w) κ2) (κ2 (.bool (x == y)) w) w := ⟨fun h => Go.beq_ h⟩
instance Stp.bne_ {st : Bool} {t : TypeId} {ox oy : Operand} {x y : Bool} [h0 : Bo t] : Stp F w (Cb.rd2 (binG st Pg .neq t ox oy (.bool x) (.bool y) w) κ2) (κ2 (.bool (!(x == y))) w) w := ⟨fun h => Go.bne_ h⟩
instance Stp.lnL {st : Bool} {t : TypeId} {rt : TypeId} {cs : Array Bool} {e k : Nat} {a : Option Addr} {n c : Nat} [h0 : Sls t e k] : Stp F w (Cb.rd2 (lenG st Pg .len #[t] rt cs [.slice a n c] w) κ2) (κ2 (int n) w) w := ⟨fun h => Go.lnL h⟩
instance Stp.lnS {st : Bool} {t : TypeId} {rt : TypeId} {cs : Array Bool} {e k : Nat} {α : Type} {enc : α → List Value} {v : Value} {xs : List α} [h1 : Ss F v e k α enc xs] [h0 : Sls t e k] : Stp F w (Cb.rd2 (lenG st Pg .len #[t] rt cs [v] w) κ2) (κ2 (int xs.length) w) w := ⟨fun h => Go.lnS h⟩
instance Stp.lnT {st : Bool} {t : TypeId} {rt : TypeId} {cs : Array Bool} {s : ByteArray} [h0 : Str t] : Stp F w (Cb.rd2 (lenG st Pg .len #[t] rt cs [.string s] w) κ2) (κ2 (int s.size) w) w := ⟨fun h => Go.lnT h⟩
instance Stp.dl {t : Nat} {x : Value} : Stp F w (Cb.rd (ldV Pg t x (drw w)) κ) (Cb.rd (ldV Pg t x (drw w)) κ) (drw w) := ⟨fun h => Go.dl h⟩
instance Stp.db {st : Bool} {op : BinOp} {t : TypeId} {ox oy : Operand} {x y : Value} : Stp F w (Cb.rd2 (binG st Pg op t ox oy x y (drw w)) κ2) (Cb.rd2 (binG st Pg op t ox oy x y (drw w)) κ2) (drw w) := ⟨fun h => Go.db h⟩
instance Stp.dg {x : Value} {b : Bool} {r : Unit → R} : Stp F w (Cb.rd2 (gate x b r (drw w)) κ2) (Cb.rd2 (gate x b r (drw w)) κ2) (drw w) := ⟨fun h => Go.dg h⟩
instance Stp.dn {st : Bool} {b : Builtin} {ts : Array TypeId} {t : TypeId} {cs : Array Bool} {l : List Value} : Stp F w (Cb.rd2 (lenG st Pg b ts t cs l (drw w)) κ2) (Cb.rd2 (lenG st Pg b ts t cs l (drw w)) κ2) (drw w) := ⟨fun h => Go.dn h⟩
instance Stp.dv {s : Sem Value} : Stp F w (Cb.rd2 (rawV Pg s (drw w)) κ2) (Cb.rd2 (rawV Pg s (drw w)) κ2) (drw w) := ⟨fun h => Go.dv h⟩
instance Stp.dc {st : Bool} {s d : TypeId} {x : Value} : Stp F w (Cb.rd2 (cvG st Pg s d x (drw w)) κ2) (Cb.rd2 (cvG st Pg s d x (drw w)) κ2) (drw w) := ⟨fun h => Go.dc h⟩
instance Stp.df {f : FuncId} {l : List Value} : Stp F w (Cb.rd2 (Cb.Fn Pg f l (drw w)) κ2) (Cb.rd2 (Cb.Fn Pg f l (drw w)) κ2) (drw w) := ⟨fun h => Go.df h⟩
instance Stp.dk {st : Bool} {t : TypeId} {x i : Value} {ok : Bool} : Stp F w (Cb.rd2 (lkG st Pg t x i ok (drw w)) κ2) (Cb.rd2 (lkG st Pg t x i ok (drw w)) κ2) (drw w) := ⟨fun h => Go.dk h⟩
/-- what a truth value comes to. -/
class Bn (b : Bool) (c : outParam Bool) : Prop where
  h : b = c
instance Bn.t : Bn true true := ⟨rfl⟩
instance Bn.f : Bn false false := ⟨rfl⟩
instance Bn.nt {b : Bool} [h : Bn b true] : Bn (!b) false := ⟨by rw [h.h]; rfl⟩
instance Bn.nf {b : Bool} [h : Bn b false] : Bn (!b) true := ⟨by rw [h.h]; rfl⟩
instance Bn.ett {a b : Bool} [h : Bn a true] [h' : Bn b true] : Bn (a == b) true := ⟨by rw [h.h, h'.h]; rfl⟩
instance Bn.etf {a b : Bool} [h : Bn a true] [h' : Bn b false] : Bn (a == b) false := ⟨by rw [h.h, h'.h]; rfl⟩
instance Bn.eft {a b : Bool} [h : Bn a false] [h' : Bn b true] : Bn (a == b) false := ⟨by rw [h.h, h'.h]; rfl⟩
instance Bn.eff {a b : Bool} [h : Bn a false] [h' : Bn b false] : Bn (a == b) true := ⟨by rw [h.h, h'.h]; rfl⟩
instance (priority := 400) Stp.gtt' {b : Bool} [h0 : Bn b true] {r : Unit → R} : Stp F w (Cb.rd2 (gate (.bool b) true r w) κ2) (Cb.rd2 (r ()) κ2) w := ⟨fun h => by rw [h0.h]; exact Go.gtt h⟩
instance (priority := 400) Stp.gff' {b : Bool} [h0 : Bn b false] {r : Unit → R} : Stp F w (Cb.rd2 (gate (.bool b) false r w) κ2) (Cb.rd2 (r ()) κ2) w := ⟨fun h => by rw [h0.h]; exact Go.gff h⟩
instance (priority := 400) Stp.gtf' {b : Bool} [h0 : Bn b true] {r : Unit → R} : Stp F w (Cb.rd2 (gate (.bool b) false r w) κ2) (κ2 undef w) w := ⟨fun h => by rw [h0.h]; exact Go.gtf h⟩
instance (priority := 400) Stp.gft' {b : Bool} [h0 : Bn b false] {r : Unit → R} : Stp F w (Cb.rd2 (gate (.bool b) true r w) κ2) (κ2 undef w) w := ⟨fun h => by rw [h0.h]; exact Go.gft h⟩
instance (priority := 400) Stp.pt' {b : Bool} [h0 : Bn b true] {x y : Value} : Stp F w (Cb.rd (pickV (.bool b) x y) κ) (κ x) w := ⟨fun h => by rw [h0.h]; exact Go.pt_ h⟩
instance (priority := 400) Stp.pf' {b : Bool} [h0 : Bn b false] {x y : Value} : Stp F w (Cb.rd (pickV (.bool b) x y) κ) (κ y) w := ⟨fun h => by rw [h0.h]; exact Go.pf_ h⟩
instance (priority := 400) Stp.ct' {b : Bool} [h0 : Bn b true] {x y : Unit → R} : Stp F w (cnd (.bool b) x y) (x ()) w := ⟨fun h => by rw [h0.h]; exact Go.ct h⟩
instance (priority := 400) Stp.cf' {b : Bool} [h0 : Bn b false] {x y : Unit → R} : Stp F w (cnd (.bool b) x y) (y ()) w := ⟨fun h => by rw [h0.h]; exact Go.cf h⟩
class Nth (l : List Value) (o : Nat) (v : outParam Value) : Prop where
  h : l[o]? = some v
instance Nth.here {x : Value} {l : List Value} : Nth (x :: l) 0 x := ⟨rfl⟩
instance Nth.there {x v : Value} {l : List Value} {o : Nat} [h : Nth l o v] : Nth (x :: l) (o + 1) v := ⟨by rw [List.getElem?_cons_succ]; exact h.h⟩
instance Stp.ls {t b o : Nat} {l : List Value} {T : TypeId} {v : Value} [h0 : Sc t] [h1 : Bl F b l T] [h2 : Nth l o v] : Stp F w (Cb.rd (ldV Pg t (ptr b o) w) κ) (κ v) w := ⟨fun h => Go.ls h2.h h⟩
instance Stp.ex {l : List Value} {i : Nat} {v : Value} [h2 : Nth l i v] : Stp F w (Cb.rd (extV (.tuple l.toArray) i) κ) (κ v) w := ⟨fun h => Go.ex h2.h h⟩
end

/-! ### The types -/
instance : Sc 3 := ⟨by kernel_rfl, by kernel_rfl⟩
instance : Sc 4 := ⟨by kernel_rfl, by kernel_rfl⟩
instance : Sc 9 := ⟨by kernel_rfl, by kernel_rfl⟩
instance : Sc 22 := ⟨by kernel_rfl, by kernel_rfl⟩
instance : Sc 23 := ⟨by kernel_rfl, by kernel_rfl⟩
instance : Sc 34 := ⟨by kernel_rfl, by kernel_rfl⟩
instance : Sc 37 := ⟨by kernel_rfl, by kernel_rfl⟩
instance : Sc 31 := ⟨by kernel_rfl, by kernel_rfl⟩
instance : Sc 87 := ⟨by kernel_rfl, by kernel_rfl⟩
instance : Sc 43 := ⟨by kernel_rfl, by kernel_rfl⟩
instance : Sc 80 := ⟨by kernel_rfl, by kernel_rfl⟩
instance : Sc 141 := ⟨by kernel_rfl, by kernel_rfl⟩
instance : Sc 59 := ⟨by kernel_rfl, by kernel_rfl⟩
instance : Bo 4 := ⟨by kernel_rfl⟩
instance : Str 9 := ⟨by kernel_rfl⟩
instance : Sls 22 39 5 := ⟨slT_of (by kernel_rfl)⟩
instance : Sls 34 135 5 := ⟨slT_of (by kernel_rfl)⟩
instance : Sls 37 23 1 := ⟨slT_of (by kernel_rfl)⟩
instance : Sls 31 159 2 := ⟨slT_of (by kernel_rfl)⟩
instance : Sls 87 84 6 := ⟨slT_of (by kernel_rfl)⟩
instance : Sls 43 137 5 := ⟨slT_of (by kernel_rfl)⟩
instance : Sls 80 3 1 := ⟨slT_of (by kernel_rfl)⟩
instance : Ag 25 2 := ⟨by kernel_rfl, by kernel_rfl⟩
instance : Ag 36 2 := ⟨by kernel_rfl, by kernel_rfl⟩
instance : Ag 39 5 := ⟨by kernel_rfl, by kernel_rfl⟩
instance : Ag 159 2 := ⟨by kernel_rfl, by kernel_rfl⟩
instance : Ag 82 3 := ⟨by kernel_rfl, by kernel_rfl⟩
instance : Ag 137 5 := ⟨by kernel_rfl, by kernel_rfl⟩
instance : Ag 144 2 := ⟨by kernel_rfl, by kernel_rfl⟩
instance : Ag 135 5 := ⟨by kernel_rfl, by kernel_rfl⟩
instance : Ag 84 6 := ⟨by kernel_rfl, by kernel_rfl⟩
instance : Fl 25 0 0 := ⟨fun _ => by kernel_rfl⟩
instance : Fl 25 1 1 := ⟨fun _ => by kernel_rfl⟩
instance : Fl 36 0 0 := ⟨fun _ => by kernel_rfl⟩
instance : Fl 36 1 1 := ⟨fun _ => by kernel_rfl⟩
instance : Fl 39 0 0 := ⟨fun _ => by kernel_rfl⟩
instance : Fl 39 1 1 := ⟨fun _ => by kernel_rfl⟩
instance : Fl 39 2 3 := ⟨fun _ => by kernel_rfl⟩
instance : Fl 39 3 4 := ⟨fun _ => by kernel_rfl⟩
instance : Fl 159 0 0 := ⟨fun _ => by kernel_rfl⟩
instance : Fl 159 1 1 := ⟨fun _ => by kernel_rfl⟩
instance : Fl 82 0 0 := ⟨fun _ => by kernel_rfl⟩
instance : Fl 82 1 1 := ⟨fun _ => by kernel_rfl⟩
instance : Fl 82 2 2 := ⟨fun _ => by kernel_rfl⟩
instance : Fl 137 0 0 := ⟨fun _ => by kernel_rfl⟩
instance : Fl 137 1 1 := ⟨fun _ => by kernel_rfl⟩
instance : Fl 137 2 2 := ⟨fun _ => by kernel_rfl⟩
instance : Fl 144 0 0 := ⟨fun _ => by kernel_rfl⟩
instance : Fl 144 1 1 := ⟨fun _ => by kernel_rfl⟩
instance : Fl 135 0 0 := ⟨fun _ => by kernel_rfl⟩
instance : Fl 135 1 1 := ⟨fun _ => by kernel_rfl⟩
instance : Fl 135 2 2 := ⟨fun _ => by kernel_rfl⟩
instance : Fl 84 0 0 := ⟨fun _ => by kernel_rfl⟩
instance : Fl 84 1 1 := ⟨fun _ => by kernel_rfl⟩
instance : Fl 84 2 2 := ⟨fun _ => by kernel_rfl⟩
instance : Fl 84 3 3 := ⟨fun _ => by kernel_rfl⟩
instance : Ze 137 [u64 0, .bool false, .slice none 0 0, u64 0, int 0] := ⟨by kernel_rfl⟩
instance : Ze 31 [.slice none 0 0] := ⟨by kernel_rfl⟩
instance : Ze 87 [.slice none 0 0] := ⟨by kernel_rfl⟩
end Go.Cb
