import Derived.Test.YtialecgadoepjaaMZE
/-
  The store: how it lies; New, Last, chain, Read, Newest.
-/
set_option linter.unusedVariables false
set_option linter.unusedSimpArgs false
namespace Go.Cb
open Classical
variable {w : World} {F : List HP} {Q Q' : Value → World → Prop}

/-- a store of these keys. -/
def sto (S : Nat) (L : List Ent) (last : Int) : HP := fun h => ∃ T, stars [pt S [ptr T 0, u64 last] 95, tree T L] h
theorem sto_open {S : Nat} {L : List Ent} {last : Int} (hs : Sat w (sto S L last :: F)) : ∃ T, Sat w (pt S [ptr T 0, u64 last] 95 :: tree T L :: F) := by
  obtain ⟨T, h⟩ := Sat.ex.1 hs
  exact ⟨T, Sat.flat.1 h⟩
theorem sto_mk {S T : Nat} {L : List Ent} {last : Int} (hs : Sat w (pt S [ptr T 0, u64 last] 95 :: tree T L :: F)) : Sat w (sto S L last :: F) :=
  Sat.ex.2 ⟨T, (Sat.flat (G := [_, _])).2 hs⟩
theorem tree_srt {T : Nat} {L : List Ent} (hs : Sat w (tree T L :: F)) : Srt L := by
  obtain ⟨_, _, _, _, _, _, h4, _⟩ := tree_open hs
  exact h4

/-- what is stored: the keys' chains. -/
structure StoR (K : Hl) (L : List Ent) (c : ByteArray → List AV) : Prop where
  at_ : ∀ e ∈ L, Rc K e.2.1 (c e.1) ∧ c e.1 ≠ []
  no : ∀ k, ¬ hasL L k → c k = []
theorem StoR.mono {K K' : Hl} {L : List Ent} {c : ByteArray → List AV} (h : StoR K L c) (hl : Le K K') : StoR K' L c := ⟨fun e he => ⟨(h.at_ e he).1.mono hl, (h.at_ e he).2⟩, h.no⟩
theorem StoR.new (K : Hl) : StoR K [] fun _ => [] := ⟨fun e he => by simp at he, fun _ _ => rfl⟩
/-- chains that aren't too much. -/
structure Bd (c : ByteArray → List AV) (n : Nat) : Prop where
  pl : ∀ k, PlB (c k)
  len : ∀ k, (c k).length ≤ n

theorem u95 : Pg.underlying 60 = some (.pointer 95) := by kernel_rfl
theorem u93 : Pg.underlying 93 = some (.pointer 154) := by kernel_rfl
theorem a93 : aggT Pg 93 = some false := by kernel_rfl
theorem fld95_0 (b o : Nat) : fldA Pg 95 (ptr b o) 0 = some (ptr b o) := by kernel_rfl
theorem fld95_1 (b o : Nat) : fldA Pg 95 (ptr b o) 1 = some (ptr b (o + 1)) := by kernel_rfl
theorem bld95_1 (a : Option Addr) : bldV Pg 95 [(0, .pointer a)] = some (.agg #[.pointer a, u64 0]) := by kernel_rfl
theorem bld95_2 (a : Option Addr) (n : Int) : bldV Pg 95 [(0, .pointer a), (1, u64 n)] = some (.agg #[.pointer a, u64 n]) := by kernel_rfl
theorem bld95_0 : bldV Pg 95 [] = some (.agg #[.pointer none, u64 0]) := by kernel_rfl
theorem lds_0 {S : Nat} {a b : Value} (hs : Sat w F) (k : Nat) (hk : F[k]? = some (pt S [a, b] 95)) : ldV Pg 93 (ptr S 0) w = some a := (ldV_sc a93 _ _).trans ((hs.foc hk).at.cell 0)
theorem lds_1 {S : Nat} {a b : Value} (hs : Sat w F) (k : Nat) (hk : F[k]? = some (pt S [a, b] 95)) : ldV Pg 64 (ptr S (0 + 1)) w = some b := (ldV_sc a64 _ _).trans ((hs.foc hk).at.cell 1)
theorem sts_1 {S : Nat} {a b v : Value} (hs : Sat w F) (k : Nat) (hk : F[k]? = some (pt S [a, b] 95)) (hv : one v = true) : ∃ w', rawU Pg (Instr.storeAt 64 (ptr S (0 + 1)) v) w = some (undef, w') ∧ Sat w' (F.set k (pt S [a, v] 95)) ∧ Sm w w' :=
  st_one (sz_of (by kernel_rfl)) hs k hk (Nat.lt_succ_self 1) hv

theorem snone_ok {S : Nat} {a : Option Addr} {b : Value} (hs : Sat w F) (k : Nat) (hk : F[k]? = some (pt S [.pointer a, b] 95)) : Fn Pg 62 [ptr S 0] w = some (.bool a.isNone, w) := by
  have : Ok (Fn Pg 62 [ptr S 0] w) fun v w' => v = .bool a.isNone ∧ w' = w := by
    rw [F62]; unfold S62


    refine Ok.rd2 (eql_ptr u95) ?_
    refine Ok.f1 rfl (Ok.f1 (gr (nil_ptr _ _)) (Ok.f1 (gr (fld95_0 _ _)) (Ok.f1 (gr (lds_0 hs k hk)) (Ok.f1 (gr2 (eql_ptr u93)) ?_))))
    refine Ok.rd (pick_f _ _) (Ok.ret ⟨rfl, rfl⟩)
  obtain ⟨v, w', h1, rfl, rfl⟩ := this
  exact h1
theorem snone_nil : Fn Pg 62 [.pointer none] w = some (.bool true, w) := by
  have : Ok (Fn Pg 62 [.pointer none] w) fun v w' => v = .bool true ∧ w' = w := by
    rw [F62]; unfold S62

    refine Ok.rd2 (eql_ptr u95) ?_
    refine Ok.f0 (Ok.f0 (Ok.f0 (Ok.f0 (Ok.f0 ?_))))
    refine Ok.rd (pick_t _ _) (Ok.ret ⟨rfl, rfl⟩)
  obtain ⟨v, w', h1, rfl, rfl⟩ := this
  exact h1

theorem snew_ok (hs : Sat w F) : Ok (Fn Pg 31 [] w) fun v w' => ∃ S, v = ptr S 0 ∧ Sat w' (sto S [] 0 :: F) ∧ Sm w w' := by
  rw [F31]; unfold S31
  refine Ok.bind (new_ok hs) ?_
  rintro v w1 ⟨T, rfl, h1, s1⟩
  refine Ok.rd (bld95_1 _) ?_
  refine go_box (l := [ptr T 0, u64 0]) rfl h1 fun S w2 h2 s2 => ?_
  exact ⟨_, _, rfl, S, rfl, sto_mk h2, s1.trans s2⟩

theorem slast_ok {S : Nat} {L : List Ent} {last : Int} (hs : Sat w F) (k : Nat) (hk : F[k]? = some (sto S L last)) : Fn Pg 37 [ptr S 0] w = some (u64 last, w) := by
  obtain ⟨T, h0⟩ := sto_open (hs.foc hk)
  have : Ok (Fn Pg 37 [ptr S 0] w) fun v w' => v = u64 last ∧ w' = w := by
    rw [F37]; unfold S37
    refine Ok.rd2 (snone_ok h0 0 rfl) (Ok.cf rfl ?_)
    exact Ok.rd (nil_ptr _ _) (Ok.rd (fld95_1 _ _) (Ok.rd (lds_1 h0 0 rfl) (Ok.ret ⟨rfl, rfl⟩)))
  obtain ⟨v, w', h1, rfl, rfl⟩ := this
  exact h1

theorem chain_ok {K : Hl} {S : Nat} {L : List Ent} {last : Int} {c : ByteArray → List AV} {key : ByteArray} (hc : StoR K L c) (hs : Sat w (sto S L last :: F)) :
    Ok (Fn Pg 75 [ptr S 0, .string key] w) fun v w' => Rc K v (c key) ∧ Sat w' (sto S L last :: F) ∧ Sm w w' := by
  obtain ⟨T, h0⟩ := sto_open hs
  rw [F75]; unfold S75
  refine Ok.rd2 (snone_ok h0 0 rfl) (Ok.cf rfl ?_)
  refine Ok.rd (nil_ptr _ _) (Ok.rd (fld95_0 _ _) (Ok.rd (lds_0 h0 0 rfl) ?_))
  refine Ok.bind (get_ok h0.sw) ?_
  rintro v w1 ⟨rfl, h1, s1⟩
  have hsr : Srt L := tree_srt h1
  have h1 := sto_mk h1.sw
  by_cases hk : hasL L key
  · obtain ⟨e, he, rfl⟩ := hk
    rw [get_some hsr he]
    exact Ok.rd rfl (Ok.rd rfl ⟨_, _, rfl, (hc.at_ e he).1, h1, s1⟩)
  · rw [get_none hk]
    refine Ok.rd rfl (Ok.rd rfl ⟨_, _, rfl, ?_, h1, s1⟩)
    rw [hc.no key hk]; exact Rc.nil none 0

/-- a version that is told, and whether there is one. -/
def VerQ (K : Hl) (r : AV × Bool) (F : List HP) (w : World) (v : Value) (w' : World) : Prop :=
  ∃ K' x, Le K K' ∧ v = .tuple #[aggV x, .bool r.2] ∧ Rv K' x r.1 ∧ Sat w' (kn K' :: F) ∧ Sm w w'

theorem read_ok {K : Hl} {S : Nat} {L : List Ent} {last s : Int} {c : ByteArray → List AV} {n : Nat} {key : ByteArray} (hc : StoR K L c) (hb : Bd c n) (hn : n ≤ 2 ^ 28) (hs : Sat w (kn K :: sto S L last :: F)) :
    Ok (Fn Pg 41 [ptr S 0, .string key, u64 s] w) (VerQ K (atV (c key) s) (sto S L last :: F) w) := by
  rw [F41]; unfold S41
  refine go_new z85 hs fun r w1 h1 s1 => ?_
  refine Ok.bind (chain_ok hc (h1.re [2, 0, 1] (by decide))) ?_
  rintro v w2 ⟨hr, h2, s2⟩
  have h2 : Sat w2 (kn K :: sto S L last :: pt r [u64 0, .bool false, .slice none 0 0, u64 0, int 0] 85 :: F) := h2.re [2, 0, 1] (by decide)
  refine Ok.bind (at_ok (s := s) (hb.pl key) hr (by have := hb.len key; omega) h2) ?_
  rintro y w3 ⟨K', x, hl, rfl, hx, h3, s3⟩
  refine Ok.rd rfl (Ok.rd rfl ?_)
  obtain ⟨w4, m4, h4, s4⟩ := st_agg ty85 rfl (cs := #[u64 x.st, .bool x.dead, x.pv.1, u64 x.gen, int x.size]) rfl (ones_ver x) h3 2 rfl
  refine Ok.rd2 m4 ?_
  have h4 : Sat w4 (kn K' :: sto S L last :: pt r (encVer x) 85 :: F) := h4
  refine Ok.rd (ldv h4 2 rfl) ?_
  exact ⟨_, _, rfl, K', x, hl, rfl, hx, (h4.re [2, 0, 1] (by decide)).drop, s1.trans (s2.trans (s3.trans s4))⟩

/-- the newest of a chain. -/
noncomputable def newV (vs : List AV) : AV × Bool := match vs[0]? with
  | none => (zA, false)
  | some a => atV vs a.st
theorem newest_ok {K : Hl} {S : Nat} {L : List Ent} {last : Int} {c : ByteArray → List AV} {n : Nat} {key : ByteArray} (hc : StoR K L c) (hb : Bd c n) (hn : n ≤ 2 ^ 28) (hs : Sat w (kn K :: sto S L last :: F)) :
    Ok (Fn Pg 43 [ptr S 0, .string key] w) (VerQ K (newV (c key)) (sto S L last :: F) w) := by
  rw [F43]; unfold S43
  refine go_new z85 hs fun r w1 h1 s1 => ?_
  refine Ok.bind (chain_ok hc (h1.re [2, 0, 1] (by decide))) ?_
  rintro v w2 ⟨hr, h2, s2⟩
  have h2 : Sat w2 (kn K :: sto S L last :: pt r [u64 0, .bool false, .slice none 0 0, u64 0, int 0] 85 :: F) := h2.re [2, 0, 1] (by decide)
  refine Ok.rd2 (hr.len w2) (Ok.rd2 bin_eql ?_)
  by_cases h0 : (c key).length = 0
  · refine Ok.ct (by simp [h0]) (Ok.rd bld85_0 ?_)
    obtain ⟨w4, m4, h4, s4⟩ := st_agg ty85 rfl (cs := #[u64 zV.st, .bool zV.dead, zV.pv.1, u64 zV.gen, int zV.size]) rfl (ones_ver zV) h2 2 rfl
    refine Ok.rd2 m4 ?_
    have h4 : Sat w4 (kn K :: sto S L last :: pt r (encVer zV) 85 :: F) := h4
    refine Ok.rd (ldv h4 2 rfl) ?_
    have he : newV (c key) = (zA, false) := by
      rw [List.length_eq_zero_iff.1 h0]; rfl
    refine ⟨_, _, rfl, K, zV, Le.refl K, by rw [he], by rw [he]; exact zRv K, (h4.re [2, 0, 1] (by decide)).drop, s1.trans (s2.trans s4)⟩
  · refine Ok.cf (by simpa using h0) ?_
    obtain ⟨a, ha⟩ : ∃ a, (c key)[0]? = some a := ⟨_, List.getElem?_eq_getElem (Nat.pos_of_ne_zero h0)⟩
    obtain ⟨p, x, g1, hx, g2⟩ := hr.at ha
    refine Ok.rd g1 (Ok.rd (fld85_0' _) (Ok.rd (g2 w2 (kn_on h2 (j := 0) rfl)).2.1 ?_))
    have he : newV (c key) = atV (c key) a.st := by unfold newV; rw [ha]
    rw [he]
    refine Ok.bind (at_ok (s := a.st) (hb.pl key) hr (by have := hb.len key; omega) h2) ?_
    rintro y w3 ⟨K', x, hl, rfl, hx, h3, s3⟩
    refine Ok.rd rfl (Ok.rd rfl ?_)
    obtain ⟨w4, m4, h4, s4⟩ := st_agg ty85 rfl (cs := #[u64 x.st, .bool x.dead, x.pv.1, u64 x.gen, int x.size]) rfl (ones_ver x) h3 2 rfl
    refine Ok.rd2 m4 ?_
    have h4 : Sat w4 (kn K' :: sto S L last :: pt r (encVer x) 85 :: F) := h4
    refine Ok.rd (ldv h4 2 rfl) ?_
    exact ⟨_, _, rfl, K', x, hl, rfl, hx, (h4.re [2, 0, 1] (by decide)).drop, s1.trans (s2.trans (s3.trans s4))⟩
end Go.Cb

/-
  What a record makes of the chains: changed.
-/
set_option linter.unusedVariables false
set_option linter.unusedSimpArgs false
namespace Go.Cb
open Classical
variable {w : World} {F : List HP} {Q Q' : Value → World → Prop}

/-- keys and chains, gs they lie. -/
structure Rks (K : Hl) (xs : List Ent) (ls : List (ByteArray × List AV)) : Prop where
  len : xs.length = ls.length
  at_ : ∀ (i : Nat) (x : Ent) (l : ByteArray × List AV), xs[i]? = some x → ls[i]? = some l → x.1 = l.1 ∧ Rc K x.2.1 l.2
theorem Rks.mono {K K' : Hl} {xs : List Ent} {ls : List (ByteArray × List AV)} (h : Rks K xs ls) (hl : Le K K') : Rks K' xs ls := ⟨h.len, fun i x l hx h2 => ⟨(h.at_ i x l hx h2).1, (h.at_ i x l hx h2).2.mono hl⟩⟩
theorem Rks.nil {K : Hl} : Rks K [] [] := ⟨rfl, fun i x l hx => by simp at hx⟩
theorem Rks.snoc {K : Hl} {xs : List Ent} {ls : List (ByteArray × List AV)} {x : Ent} {l : ByteArray × List AV} (h : Rks K xs ls) (h1 : x.1 = l.1) (h2 : Rc K x.2.1 l.2) : Rks K (xs ++ [x]) (ls ++ [l]) := by
  refine ⟨by simp [h.len], fun i y b hy hb => ?_⟩
  rcases Nat.lt_or_ge i xs.length with hi | hi
  · rw [List.getElem?_append_left hi] at hy
    rw [List.getElem?_append_left (by rw [← h.len]; exact hi)] at hb
    exact h.at_ i y b hy hb
  · rw [List.getElem?_append_right hi] at hy
    rw [List.getElem?_append_right (by rw [← h.len]; exact hi)] at hb
    have : i - xs.length = 0 := by
      have := (List.getElem?_eq_some_iff.1 hy).1
      simp at this; omega
    rw [this] at hy
    rw [← h.len, this] at hb
    simp at hy hb
    subst hy hb
    exact ⟨h1, h2⟩

/-- may it be a key? -/
def keyR (k : ByteArray) : Prop := 1 ≤ k.size ∧ k.size ≤ 16
theorem u9s : Pg.underlying 9 = some .string := by kernel_rfl
theorem keyr_ok {k : ByteArray} : Fn Pg 93 [.string k] w = some (.bool (decide (keyR k)), w) := by
  have : Ok (Fn Pg 93 [.string k] w) fun v w' => v = .bool (decide (keyR k)) ∧ w' = w := by
    rw [F93]; unfold S93
    refine Ok.rd2 (len_str u9s _ _) (Ok.rd2 bin_gtr ?_)
    by_cases h0 : 0 < k.size
    · refine t_ok (by simpa using h0) rfl (t_ok (by simpa using h0) (gr2 (len_str u9s _ _)) (t_ok (by simpa using h0) (gr2 bin_leq) ?_))
      refine pk_t (by simpa using h0) ⟨_, _, rfl, ?_, rfl⟩
      refine congrArg Value.bool ?_
      rw [decide_eq_decide]
      unfold keyR
      omega
    · refine t_no (by simpa using h0) (t_no (by simpa using h0) (t_no (by simpa using h0) ?_))
      refine pk_f (by simpa using h0) ⟨_, _, rfl, ?_, rfl⟩
      rw [decide_eq_false]
      unfold keyR
      omega
  obtain ⟨v, w', h1, rfl, rfl⟩ := this
  exact h1
theorem bin_sleq {st : Bool} {t : TypeId} {ox oy : Operand} {a b : ByteArray} {w : World} : binG st Pg .leq t ox oy (.string a) (.string b) w = some (.bool !kl b a, w) := by
  have : binG st Pg .leq t ox oy (.string a) (.string b) w = some (.bool (kl a b || a.toList == b.toList), w) := rfl
  rw [this, key_beq]
  congr 3
  cases h : kl b a with
  | true => rw [kl_asym h, decide_eq_false (Ne.symm (kl_ne h))]; rfl
  | false =>
    by_cases e : b = a
    · subst e; simp
    · rw [kl_gt h e]; rfl

/-- a change. -/
structure Cg where
  key : ByteArray
  dead : Bool
  pv : V1
  gen : Int
  size : Int
abbrev encCg (x : Cg) : List Value := [.string x.key, .bool x.dead, x.pv.1, u64 x.gen, int x.size]
theorem enCg : En encCg 5 := ⟨fun _ => rfl, fun x v hv => by
  simp [encCg] at hv; rcases hv with rfl | rfl | rfl | rfl | rfl
  all_goals first | rfl | exact x.pv.2⟩
abbrev aggC (x : Cg) : Value := .agg #[.string x.key, .bool x.dead, x.pv.1, u64 x.gen, int x.size]
def verOf (s : Int) (x : Cg) : Ver := ⟨s, x.dead, x.pv, x.gen, x.size⟩
/-- changes, gs they lie. -/
structure Rcg (K : Hl) (s : Int) (xs : List Cg) (gs : List (ByteArray × AV)) : Prop where
  len : xs.length = gs.length
  at_ : ∀ (i : Nat) (x : Cg) (a : ByteArray × AV), xs[i]? = some x → gs[i]? = some a → x.key = a.1 ∧ Rv K (verOf s x) a.2
theorem Rcg.mono {K K' : Hl} {s : Int} {xs : List Cg} {gs : List (ByteArray × AV)} (h : Rcg K s xs gs) (hl : Le K K') : Rcg K' s xs gs := ⟨h.len, fun i x a hx ha => ⟨(h.at_ i x a hx ha).1, (h.at_ i x a hx ha).2.mono hl⟩⟩
theorem T65 : SlT Pg 65 116 5 := slT_of (by kernel_rfl)
theorem T118 : SlT Pg 118 122 2 := slT_of (by kernel_rfl)
theorem a116 : aggT Pg 116 = some true := by kernel_rfl
theorem ty116 : tyB Pg 116 5 = true := by kernel_rfl
theorem i116 : ∃ i, Pg.info? 116 = some i ∧ i.size = 5 := sz_of (by kernel_rfl)
theorem a65 : aggT Pg 65 = some false := by kernel_rfl
theorem fld67_0 (b o : Nat) : fldA Pg 67 (ptr b o) 0 = some (ptr b o) := by kernel_rfl
theorem fld67_1 (b o : Nat) : fldA Pg 67 (ptr b o) 1 = some (ptr b (o + 1)) := by kernel_rfl
theorem fld116_0 (b o : Nat) : fldA Pg 116 (ptr b o) 0 = some (ptr b o) := by kernel_rfl
theorem fld116_1 (b o : Nat) : fldA Pg 116 (ptr b o) 1 = some (ptr b (o + 1)) := by kernel_rfl
theorem fld116_2 (b o : Nat) : fldA Pg 116 (ptr b o) 2 = some (ptr b (o + 2)) := by kernel_rfl
theorem ldc_0 {b : Nat} {x : Cg} (h : Sat w F) (k : Nat) (hk : F[k]? = some (pt b (encCg x) 116)) : ldV Pg 9 (ptr b 0) w = some (.string x.key) := (ldV_sc a9 _ _).trans ((h.foc hk).at.cell 0)
theorem ldc_1 {b : Nat} {x : Cg} (h : Sat w F) (k : Nat) (hk : F[k]? = some (pt b (encCg x) 116)) : ldV Pg 4 (ptr b (0 + 1)) w = some (.bool x.dead) := (ldV_sc a4 _ _).trans ((h.foc hk).at.cell 1)
theorem ldc_2 {b : Nat} {x : Cg} (h : Sat w F) (k : Nat) (hk : F[k]? = some (pt b (encCg x) 116)) : ldV Pg 83 (ptr b (0 + 2)) w = some (.agg #[x.pv.1, u64 x.gen, int x.size]) := by
  obtain ⟨i, z, h1, h2, _⟩ := ty_of ty83
  rw [at_load (h.foc hk).at (o := 0 + 2) (n := 3) (by simp [encCg]) a83 h1 h2]; rfl
theorem ldr_0 {b : Nat} {x y : Value} (h : Sat w F) (k : Nat) (hk : F[k]? = some (pt b [x, y] 67)) : ldV Pg 64 (ptr b 0) w = some x := (ldV_sc a64 _ _).trans ((h.foc hk).at.cell 0)
theorem ldr_1 {b : Nat} {x y : Value} (h : Sat w F) (k : Nat) (hk : F[k]? = some (pt b [x, y] 67)) : ldV Pg 65 (ptr b (0 + 1)) w = some y := (ldV_sc a65 _ _).trans ((h.foc hk).at.cell 1)
theorem bld85_3 (s g z : Int) (d : Bool) (a : Option Addr) (n c : Nat) : bldV Pg 85 [(0, u64 s), (1, .bool d), (2, .agg #[.slice a n c, u64 g, int z])] = some (.agg #[u64 s, .bool d, .slice a n c, u64 g, int z]) := by kernel_rfl
theorem bld122_2 (s : ByteArray) (a : Option Addr) (n c : Nat) : bldV Pg 122 [(0, .string s), (1, .slice a n c)] = some (.agg #[.string s, .slice a n c]) := by kernel_rfl
theorem ones_cg (x : Cg) : ∀ v ∈ (#[.string x.key, .bool x.dead, x.pv.1, u64 x.gen, int x.size] : Array Value).toList, one v = true := enCg.one x

/-- may these changes be? -/
def okCh (c : ByteArray → List AV) : ByteArray → List (ByteArray × AV) → Prop
  | _, [] => True
  | p, a :: r => RightP (a.2 :: c a.1) ∧ keyR a.1 ∧ kl p a.1 = true ∧ okCh c a.1 r
def chL (c : ByteArray → List AV) (gs : List (ByteArray × AV)) : List (ByteArray × List AV) := gs.map fun a => (a.1, a.2 :: c a.1)

def ChQ (K : Hl) (S : Nat) (L : List Ent) (last : Int) (c : ByteArray → List AV) (gs : List (ByteArray × AV)) (F : List HP) (w : World) (v : Value) (w' : World) : Prop :=
  ∃ K', Le K K' ∧ Sat w' (kn K' :: sto S L last :: F) ∧ Sm w w' ∧ ((okCh c noB gs ∧ ∃ ov xs, v = .tuple #[ov, .bool true] ∧ RdS K' 118 2 encE ov xs ∧ Rks K' xs (chL c gs)) ∨ (¬ okCh c noB gs ∧ v = .tuple #[.slice none 0 0, .bool false]))

theorem changed_loop {S rb : Nat} {L : List Ent} {last s : Int} {c : ByteArray → List AV} {gs : List (ByteArray × AV)} {n : Nat} {cv : Value} (hb : Bd c n) (hn : n ≤ 2 ^ 28) (hp : ∀ a ∈ gs, a.2.places.length ≤ 2 ^ 29) (hl : gs.length ≤ 2 ^ 28) :
    ∀ (j i : Nat) (K : Hl) (cs : List Cg) (xs : List Ent) (ov : Value) (p : ByteArray) (e : Env) (w : World) (F : List HP), i + j = gs.length → StoR K L c → RdS K 65 5 encCg cv cs → Rcg K s cs gs → Rks K xs (chL c (gs.take i)) → (okCh c p (gs.drop i) ↔ okCh c noB gs) →
      Sat w (slH 122 2 encE ov xs :: kn K :: sto S L last :: pt rb [u64 s, cv] 67 :: F) → e 0 = ptr S 0 → e 3 = ptr rb 0 → e 6 = ov → e 7 = .string p → e 13 = cv → e 14 = int gs.length → e 15 = int i → e 59 = undef →
      Ok (evalLoop (cx63 (Fn Pg) (Rnd Pg)) (cdA Go.Proofs.Try.f63 [1, 1, 1, 0, 1, 0, 0]) (K63_2 (Fn Pg) (Rnd Pg)) e w) (ChQ K S L last c gs F w) := by
  intro j
  induction j with
  | zero =>
    intro i K cs xs ov p e w F hij hc hr hcs hxs hok hs e0 e3 e6 e7 e13 e14 e15 e59
    rw [S63_L1_eq]; unfold S63_L1
    rw [e6, e14, e15, e59]
    refine Ok.rd2 bin_lss (Ok.cf (by simp; omega) ?_)
    obtain ⟨K', l1, hrd, h1⟩ := share T118 enE hs
    have hi : i = gs.length := by omega
    rw [hi, List.take_length] at hxs
    rw [hi, List.drop_length] at hok
    exact ⟨_, _, rfl, K', l1, (h1.re [2, 0, 1] (by decide)).drop, Sm.refl _, .inl ⟨hok.1 trivial, ov, xs, rfl, hrd, hxs.mono l1⟩⟩
  | succ j ih =>
    intro i K cs xs ov p e w F hij hc hr hcs hxs hok hs e0 e3 e6 e7 e13 e14 e15 e59
    have hi : i < gs.length := by omega
    have hi2 : i < cs.length := by rw [hcs.len]; exact hi
    obtain ⟨a, ha⟩ : ∃ a, gs[i]? = some a := ⟨_, List.getElem?_eq_getElem hi⟩
    obtain ⟨x, hx⟩ : ∃ x, cs[i]? = some x := ⟨_, List.getElem?_eq_getElem hi2⟩
    obtain ⟨q, h1, h2⟩ := hr.ix i x hx
    obtain ⟨hkey, hv⟩ := hcs.at_ i x a hx ha
    obtain ⟨inf, hinf, hsz⟩ := i116
    rw [S63_L1_eq]; unfold S63_L1
    rw [e0, e3, e6, e7, e13, e14, e15, e59]
    refine Ok.rd2 bin_lss (Ok.ct (by simp; omega) (Ok.rd h1 ?_))
    refine Ok.rd (by rw [ldV_ag a116 hinf, hsz, h2 w (kn_on hs (j := 1) rfl)]; rfl : ldV Pg 116 (.pointer (some q)) w = some (aggC x)) ?_
    refine go_tmpG ty116 rfl (ones_cg x) hs fun nb w1 t1 s1 => ?_
    have t1 : Sat (drw w1) (pt nb (encCg x) 116 :: slH 122 2 encE ov xs :: kn K :: sto S L last :: pt rb [u64 s, cv] 67 :: F) := t1.drw
    refine Ok.rd (fld116_0 _ _) (Ok.rd (ldc_0 t1 0 rfl) ?_)
    refine Ok.bind (chain_ok hc (t1.re [3, 0, 1, 2] (by decide))) ?_
    rintro v w2 ⟨hrc, t2, s2⟩
    have t2 : Sat w2 (kn K :: sto S L last :: pt nb (encCg x) 116 :: slH 122 2 encE ov xs :: pt rb [u64 s, cv] 67 :: F) := t2.re [3, 0, 1, 2] (by decide)
    refine Ok.rd (fld67_0 _ _) (Ok.rd (ldr_0 t2 4 rfl) (Ok.chk (show ldV Pg 64 (ptr rb 0) (drw w1) = some (u64 s) from ldr_0 t1 4 rfl) ?_))
    refine Ok.rd (fld116_1 _ _) (Ok.rd (ldc_1 t2 2 rfl) (Ok.chk (show ldV Pg 4 (ptr nb (0 + 1)) (drw w1) = some (.bool x.dead) from ldc_1 t1 0 rfl) ?_))
    refine Ok.rd (fld116_2 _ _) (Ok.rd (ldc_2 t2 2 rfl) (Ok.chk (show ldV Pg 83 (ptr nb (0 + 2)) (drw w1) = some (.agg #[x.pv.1, u64 x.gen, int x.size]) from ldc_2 t1 0 rfl) ?_))
    refine Ok.rd (a := aggV (verOf s x)) (by
      obtain ⟨pa, pc, hpv⟩ := hv.pl.sl
      have hpv : x.pv.1 = .slice pa a.2.places.length pc := hpv
      show bldV Pg 85 _ = some (.agg #[u64 s, .bool x.dead, x.pv.1, u64 x.gen, int x.size])
      rw [hpv]; exact bld85_3 _ _ _ _ _ _ _) ?_
    rw [hkey] at hrc
    have hpa : a.2.places.length ≤ 2 ^ 29 := hp a (List.mem_of_getElem? ha)
    refine Ok.bind (add_ok (fun b hb' => by
      rcases List.mem_cons.1 hb' with rfl | hb'
      · exact hpa
      · exact hb.pl a.1 b hb') (by have := hb.len a.1; omega) hrc hv t2) ?_
    rintro y w3 ⟨K3, l3, t3, s3, hy⟩
    have snow := s1.trans (s2.drw.trans s3)
    have hdr : gs.drop i = a :: gs.drop (i + 1) := by
      rw [List.drop_eq_getElem_cons hi, (List.getElem?_eq_some_iff.1 ha).2]
    have fail : ¬ okCh c noB gs → Ok (some (.tuple #[.slice none 0 0, .bool false], w3)) (ChQ K S L last c gs F w) := fun hno =>
      ⟨_, _, rfl, K3, l3, (t3.re [2, 3, 4, 0, 1] (by decide)).drop.drop.drop, snow, .inr ⟨hno, rfl⟩⟩
    rcases hy with ⟨hR, v', rfl, hrc'⟩ | ⟨hR, rfl⟩
    · refine Ok.rd rfl (Ok.rd rfl (Ok.rd2 bin_neq ?_))
      refine f_ok rfl (gr (fld116_0 _ _)) (f_ok rfl (gr (ldc_0 t3 2 rfl)) (f_ok rfl (by rw [hkey, keyr_ok]; rfl) (f_ok rfl (gr (un_not _)) (pk_f rfl ?_))))
      by_cases hK : keyR a.1
      · have hKd : (!decide (keyR a.1)) = false := by simp [hK]
        refine f_ok hKd (gr (fld116_0 _ _)) (f_ok hKd (gr (ldc_0 t3 2 rfl)) (f_ok hKd rfl (f_ok hKd (gr2 bin_sleq) (pk_f hKd ?_))))
        rw [hkey]
        cases hk : kl p a.1 with
        | false =>
          refine Ok.ct rfl (fail fun h => ?_)
          have := hok.2 h
          rw [hdr] at this
          rw [this.2.2.1] at hk
          cases hk
        | true =>
          refine Ok.cf rfl ?_
          refine Ok.rd (fld116_0 _ _) (Ok.rd (ldc_0 t3 2 rfl) (Ok.rd (fld116_0 _ _) (Ok.rd (ldc_0 t3 2 rfl) ?_)))
          rw [hkey]
          obtain ⟨va, vc, rfl⟩ := hrc'.sl
          refine Ok.rd (bld122_2 _ _ _ _) ?_
          refine go_bs1 T118 enE (by decide) (x := (a.1, ⟨.slice va (a.2 :: c a.1).length vc, rfl⟩)) rfl t3 fun nb2 w4 t4 hv4 s4 => ?_
          have hxl : xs.length ≤ gs.length := by rw [hxs.len]; simp [chL]; omega
          refine go_app T118 enE t4 4 rfl hv4 (by simp; omega) fun a5 w5 t5 s5 => ?_
          refine Ok.rd2 (bin_add1 (by omega)) ?_
          have t5 : Sat w5 (pt nb2 (encE (a.1, ⟨.slice va (a.2 :: c a.1).length vc, rfl⟩)) 122 :: kn K3 :: sto S L last :: pt nb (encCg x) 116 :: slH 122 2 encE a5 (xs ++ [(a.1, ⟨.slice va (a.2 :: c a.1).length vc, rfl⟩)]) :: pt rb [u64 s, cv] 67 :: F) := t5
          have hxs' : Rks K3 (xs ++ [(a.1, ⟨.slice va (a.2 :: c a.1).length vc, rfl⟩)]) (chL c (gs.take (i + 1))) := by
            have : chL c (gs.take (i + 1)) = chL c (gs.take i) ++ [(a.1, a.2 :: c a.1)] := by
              rw [List.take_add_one, ha]; simp [chL]
            rw [this]
            exact (hxs.mono l3).snoc rfl hrc'
          have hok' : okCh c a.1 (gs.drop (i + 1)) ↔ okCh c noB gs := by
            rw [← hok, hdr]
            exact ⟨fun h => ⟨hR, hK, hk, h⟩, fun h => h.2.2.2⟩
          refine Ok.mono (ih (i + 1) K3 cs _ a5 a.1 _ w5 F (by omega) (hc.mono l3) (hr.mono l3) (hcs.mono l3) hxs' hok' ((t5.re [0, 3, 4, 1, 2, 5] (by decide)).drop.drop) ?_ ?_ ?_ ?_ ?_ ?_ ?_ ?_) ?_
          · exact e0
          · exact e3
          · rfl
          · rfl
          · exact e13
          · exact e14
          · rfl
          · exact e59
          · rintro z w6 ⟨K6, l6, t6, s6, h6⟩
            exact ⟨K6, l3.trans l6, t6, snow.trans (s4.trans (s5.trans s6)), h6⟩
      · have hKd : (!decide (keyR a.1)) = true := by simp [hK]
        rw [hKd]
        refine Ok.f0 (Ok.f0 (Ok.f0 (Ok.f0 (Ok.rd (pick_t _ _) (Ok.ct rfl (fail fun h => ?_))))))
        have := hok.2 h
        rw [hdr] at this
        exact hK this.2.1
    · refine Ok.rd rfl (Ok.rd rfl (Ok.rd2 bin_neq ?_))
      refine Ok.f0 (Ok.f0 (Ok.f0 (Ok.f0 (Ok.rd (pick_t _ _) (Ok.f0 (Ok.f0 (Ok.f0 (Ok.f0 (Ok.rd (pick_t _ _) (Ok.ct rfl (fail fun h => ?_)))))))))))
      have := hok.2 h
      rw [hdr] at this
      exact hR this.1

theorem changed_ok {K : Hl} {S : Nat} {L : List Ent} {last s : Int} {c : ByteArray → List AV} {gs : List (ByteArray × AV)} {n : Nat} {cv : Value} {cs : List Cg} (hb : Bd c n) (hn : n ≤ 2 ^ 28) (hp : ∀ a ∈ gs, a.2.places.length ≤ 2 ^ 29) (hl : gs.length ≤ 2 ^ 28)
    (hc : StoR K L c) (hr : RdS K 65 5 encCg cv cs) (hcs : Rcg K s cs gs) (hs : Sat w (kn K :: sto S L last :: F)) :
    Ok (Fn Pg 63 [ptr S 0, .agg #[u64 s, cv]] w) (ChQ K S L last c gs F w) := by
  rw [F63]; unfold S63
  refine go_box (l := [u64 s, cv]) rfl hs fun rb w1 h1 s1 => ?_
  refine Ok.rd (fld67_1 _ _) (Ok.rd (ldr_1 h1 0 rfl) (Ok.rd2 (hr.len T65 w1) ?_))
  have h2 : Sat w1 (slH 122 2 encE (.slice none 0 0) ([] : List Ent) :: kn K :: sto S L last :: pt rb [u64 s, cv] 67 :: F) := (slH_nil none h1).re [0, 2, 3, 1] (by decide)
  refine Ok.mono (changed_loop hb hn hp hl gs.length 0 K cs [] _ noB _ w1 F (by omega) hc hr hcs Rks.nil (by rw [List.drop_zero]) h2 rfl rfl rfl rfl rfl (by rw [← hcs.len]; rfl) rfl rfl) ?_
  rintro z w6 ⟨K6, l6, t6, s6, h6⟩
  exact ⟨K6, l6, t6, s1.trans s6, h6⟩
end Go.Cb

/-
  Apply.
-/
set_option linter.unusedVariables false
set_option linter.unusedSimpArgs false
namespace Go.Cb
open Classical
variable {w : World} {F : List HP} {Q Q' : Value → World → Prop}

noncomputable def setC (c : ByteArray → List AV) (k : ByteArray) (l : List AV) : ByteArray → List AV := fun q => if q = k then l else c q
theorem mem_put {L : List Ent} {x e : Ent} : e ∈ putL L x ↔ e = x ∨ (e ∈ L ∧ e.1 ≠ x.1) := by
  unfold putL lows upps
  rw [List.mem_append, List.mem_cons, List.mem_filter, List.mem_filter]
  constructor
  · rintro (⟨h1, h2⟩ | rfl | ⟨h1, h2⟩)
    · exact .inr ⟨h1, kl_ne h2⟩
    · exact .inl rfl
    · exact .inr ⟨h1, (kl_ne h2).symm⟩
  · rintro (rfl | ⟨h1, h2⟩)
    · exact .inr (.inl rfl)
    · cases h : kl e.1 x.1 with
      | true => exact .inl ⟨h1, rfl⟩
      | false => exact .inr (.inr ⟨h1, kl_gt h h2⟩)
theorem has_put {L : List Ent} {x : Ent} {k : ByteArray} : hasL (putL L x) k ↔ k = x.1 ∨ hasL L k := by
  constructor
  · rintro ⟨e, he, rfl⟩
    rcases mem_put.1 he with rfl | ⟨h1, h2⟩
    · exact .inl rfl
    · exact .inr ⟨e, h1, rfl⟩
  · rintro (rfl | ⟨e, he, rfl⟩)
    · exact ⟨x, mem_put.2 (.inl rfl), rfl⟩
    · by_cases h : e.1 = x.1
      · exact ⟨x, mem_put.2 (.inl rfl), h.symm⟩
      · exact ⟨e, mem_put.2 (.inr ⟨he, h⟩), rfl⟩
theorem mem_del {L : List Ent} {k : ByteArray} {e : Ent} : e ∈ delL L k ↔ e ∈ L ∧ e.1 ≠ k := by
  unfold delL lows upps
  rw [List.mem_append, List.mem_filter, List.mem_filter]
  constructor
  · rintro (⟨h1, h2⟩ | ⟨h1, h2⟩)
    · exact ⟨h1, kl_ne h2⟩
    · exact ⟨h1, (kl_ne h2).symm⟩
  · rintro ⟨h1, h2⟩
    cases h : kl e.1 k with
    | true => exact .inl ⟨h1, rfl⟩
    | false => exact .inr ⟨h1, kl_gt h h2⟩
theorem StoR.put {K : Hl} {L : List Ent} {c : ByteArray → List AV} (h : StoR K L c) {k : ByteArray} {y : V1} {l : List AV} (hy : Rc K y.1 l) (hl : l ≠ []) : StoR K (putL L (k, y)) (setC c k l) := by
  constructor
  · intro e he
    rcases mem_put.1 he with rfl | ⟨h1, h2⟩
    · unfold setC; rw [if_pos rfl]; exact ⟨hy, hl⟩
    · unfold setC; rw [if_neg h2]; exact h.at_ e h1
  · intro q hq
    rw [has_put] at hq
    unfold setC
    rw [if_neg fun h => hq (.inl h)]
    exact h.no q fun h => hq (.inr h)
theorem StoR.del {K : Hl} {L : List Ent} {c : ByteArray → List AV} (h : StoR K L c) {k : ByteArray} : StoR K (delL L k) (setC c k []) := by
  constructor
  · intro e he
    obtain ⟨h1, h2⟩ := mem_del.1 he
    unfold setC; rw [if_neg h2]; exact h.at_ e h1
  · intro q hq
    unfold setC
    by_cases hk : q = k
    · rw [if_pos hk]
    · rw [if_neg hk]
      exact h.no q fun ⟨e, he, h2⟩ => hq ⟨e, mem_del.2 ⟨he, by rw [h2]; exact hk⟩, h2⟩

theorem Sm.rdrw {w w' : World} (h : Sm w w') : Sm w (Cb.drw w') := ⟨h.os, h.out, h.tape, h.fz⟩
theorem a122 : aggT Pg 122 = some true := by kernel_rfl
theorem ty122 : tyB Pg 122 2 = true := by kernel_rfl
theorem i122 : ∃ i, Pg.info? 122 = some i ∧ i.size = 2 := sz_of (by kernel_rfl)
theorem fld122_0 (b o : Nat) : fldA Pg 122 (ptr b o) 0 = some (ptr b o) := by kernel_rfl
theorem fld122_1 (b o : Nat) : fldA Pg 122 (ptr b o) 1 = some (ptr b (o + 1)) := by kernel_rfl
theorem lde_0 {b : Nat} {x : Ent} {T : TypeId} (h : Sat w F) (k : Nat) (hk : F[k]? = some (pt b (encE x) T)) : ldV Pg 9 (ptr b 0) w = some (.string x.1) := (ldV_sc a9 _ _).trans ((h.foc hk).at.cell 0)
theorem lde_1 {b : Nat} {x : Ent} {T : TypeId} (h : Sat w F) (k : Nat) (hk : F[k]? = some (pt b (encE x) T)) : ldV Pg 76 (ptr b (0 + 1)) w = some x.2.1 := (ldV_sc a76 _ _).trans ((h.foc hk).at.cell 1)
theorem a67 : aggT Pg 67 = some true := by kernel_rfl
theorem ty67 : tyB Pg 67 2 = true := by kernel_rfl
theorem ldr {b : Nat} {x y : Value} (h : Sat w F) (k : Nat) (hk : F[k]? = some (pt b [x, y] 67)) : ldV Pg 67 (ptr b 0) w = some (.agg #[x, y]) := ld_agg a67 ty67 rfl h k hk

/-- what lies behind a slice is a slice. -/
theorem bldE {K : Hl} {x : Ent} {l : List AV} (h : Rc K x.2.1 l) : bldV Pg 160 [(0, .string x.1), (1, x.2.1)] = some (aggE x) := by
  obtain ⟨a, c, hx⟩ := h.sl
  obtain ⟨k, v, hv⟩ := x
  have hx : v = .slice a l.length c := hx
  subst hx
  exact bld40_i k a l.length c

theorem apply_loop {S rb : Nat} {K : Hl} {last s : Int} {cv xv : Value} {xs : List Ent} {ls : List (ByteArray × List AV)} (hr : RdS K 118 2 encE xv xs) (hx : Rks K xs ls) (hne : ∀ l ∈ ls, l.2 ≠ []) (hl : ls.length ≤ 2 ^ 28) :
    ∀ (j i : Nat) (L : List Ent) (c : ByteArray → List AV) (e : Env) (w : World) (F : List HP), i + j = ls.length → StoR K L c → L.length ≤ 2 ^ 29 + i →
      Sat w (kn K :: sto S L last :: pt rb [u64 s, cv] 67 :: F) → e 0 = ptr S 0 → e 3 = ptr rb 0 → e 28 = xv → e 29 = int ls.length → e 30 = int i → e 49 = undef →
      Ok (evalLoop (cx32 (Fn Pg) (Rnd Pg)) (cdA Go.Proofs.Try.f32 [1, 1, 1, 1, 0, 1, 0, 0]) (K32_2 (Fn Pg) (Rnd Pg)) e w) fun v w' => v = int 0 ∧ ∃ L', StoR K L' ((ls.drop i).foldl (fun f x => setC f x.1 x.2) c) ∧ L'.length ≤ L.length + j ∧ Sat w' (kn K :: sto S L' s :: F) ∧ Sm w w' := by
  intro j
  induction j with
  | zero =>
    intro i L c e w F hij hc hL hs e0 e3 e28 e29 e30 e49
    rw [S32_L1_eq]; unfold S32_L1
    rw [e0, e3, e29, e30, e49]
    refine Ok.rd2 bin_lss (Ok.cf (by simp; omega) ?_)
    refine Ok.rd (fld67_0 _ _) (Ok.rd (ldr_0 hs 2 rfl) (Ok.rd (nil_ptr _ _) (Ok.rd (fld95_1 _ _) ?_)))
    obtain ⟨T, h0⟩ := sto_open hs.sw
    obtain ⟨w1, m1, h1, s1⟩ := sts_1 (v := u64 s) h0 0 rfl rfl
    refine Ok.rd2 m1 ?_
    have hd : ls.drop i = [] := List.drop_eq_nil_of_le (by omega)
    refine ⟨_, _, rfl, rfl, L, by rw [hd]; exact hc, by omega, ?_, s1⟩
    exact ((sto_mk h1).re [2, 1, 0] (by decide)).drop
  | succ j ih =>
    intro i L c e w F hij hc hL hs e0 e3 e28 e29 e30 e49
    have hi : i < ls.length := by omega
    have hi2 : i < xs.length := by rw [hx.len]; exact hi
    obtain ⟨l, hl'⟩ : ∃ l, ls[i]? = some l := ⟨_, List.getElem?_eq_getElem hi⟩
    obtain ⟨x, hx'⟩ : ∃ x, xs[i]? = some x := ⟨_, List.getElem?_eq_getElem hi2⟩
    obtain ⟨q, h1, h2⟩ := hr.ix i x hx'
    obtain ⟨hk, hrc⟩ := hx.at_ i x l hx' hl'
    obtain ⟨inf, hinf, hsz⟩ := i122
    rw [S32_L1_eq]; unfold S32_L1
    rw [e0, e3, e28, e29, e30, e49]
    refine Ok.rd2 bin_lss (Ok.ct (by simp; omega) (Ok.rd h1 ?_))
    refine Ok.rd (by rw [ldV_ag a122 hinf, hsz, h2 w (kn_on hs (j := 0) rfl)]; rfl : ldV Pg 122 (.pointer (some q)) w = some (aggE x)) ?_
    refine go_tmpG ty122 rfl (enE.one x) hs fun nb w1 t1 s1 => ?_
    have t1 : Sat (drw w1) (pt nb (encE x) 122 :: kn K :: sto S L last :: pt rb [u64 s, cv] 67 :: F) := t1.drw
    obtain ⟨T, t2⟩ := sto_open (t1.re [2, 0, 1] (by decide))
    have t2 : Sat (drw w1) (pt S [ptr T 0, u64 last] 95 :: tree T L :: pt nb (encE x) 122 :: kn K :: pt rb [u64 s, cv] 67 :: F) := t2
    refine Ok.rd (nil_ptr _ _) (Ok.rd (fld95_0 _ _) (Ok.rd (lds_0 t2 0 rfl) ?_))
    refine Ok.rd (fld122_0 _ _) (Ok.rd (lde_0 t2 2 rfl) (Ok.rd (fld122_1 _ _) (Ok.rd (lde_1 t2 2 rfl) ?_)))
    refine Ok.bind (put_ok (y := x.2) t2.sw (by omega) (bldE hrc)) ?_
    rintro y w2 ⟨rfl, t3, s3⟩
    have t3 : Sat w2 (kn K :: sto S (putL L x) last :: pt rb [u64 s, cv] 67 :: F) := by
      exact ((sto_mk t3.sw).re [1, 2, 0] (by decide)).drop
    refine Ok.rd2 (bin_add1 (by omega)) ?_
    have hlen : (putL L x).length ≤ L.length + 1 := by
      have := put_len (tree_srt t2.sw) x
      by_cases hh : hasL L x.1
      · have := this.1 hh; omega
      · have := this.2 hh; omega
    have hdr : ls.drop i = l :: ls.drop (i + 1) := by rw [List.drop_eq_getElem_cons hi, (List.getElem?_eq_some_iff.1 hl').2]
    have hc2 : StoR K (putL L x) (setC c l.1 l.2) := by
      rw [← hk]
      exact hc.put hrc (hne l (List.mem_of_getElem? hl'))
    refine Ok.mono (ih (i + 1) (putL L x) (setC c l.1 l.2) _ w2 F (by omega) hc2 (by omega) t3 ?_ ?_ ?_ ?_ ?_ ?_) ?_
    · exact e0
    · exact e3
    · exact e28
    · exact e29
    · rfl
    · exact e49
    · rintro z w6 ⟨rfl, L', m1, m2, m3, m4⟩
      refine ⟨rfl, L', ?_, by omega, m3, s1.trans (s3.drw.trans m4)⟩
      rw [hdr]; exact m1

noncomputable def appC (c : ByteArray → List AV) (gs : List (ByteArray × AV)) : ByteArray → List AV := (chL c gs).foldl (fun f x => setC f x.1 x.2) c
/-- what Apply answers. -/
def ApQ (K : Hl) (S : Nat) (L : List Ent) (last s : Int) (c : ByteArray → List AV) (gs : List (ByteArray × AV)) (F : List HP) (w : World) (v : Value) (w' : World) : Prop :=
  ∃ K', Le K K' ∧ Sm w w' ∧ ((okCh c noB gs ∧ last < s ∧ v = int 0 ∧ ∃ L', StoR K' L' (appC c gs) ∧ L'.length ≤ L.length + gs.length ∧ Sat w' (kn K' :: sto S L' s :: F)) ∨ (¬ (okCh c noB gs ∧ last < s) ∧ v = int 2 ∧ Sat w' (kn K' :: sto S L last :: F)))

theorem apply_ok {K : Hl} {S : Nat} {L : List Ent} {last s : Int} {c : ByteArray → List AV} {gs : List (ByteArray × AV)} {n : Nat} {cv : Value} {cs : List Cg} (hb : Bd c n) (hn : n ≤ 2 ^ 28) (hp : ∀ a ∈ gs, a.2.places.length ≤ 2 ^ 29) (hl : gs.length ≤ 2 ^ 28) (hL : L.length ≤ 2 ^ 29)
    (hc : StoR K L c) (hr : RdS K 65 5 encCg cv cs) (hcs : Rcg K s cs gs) (hs : Sat w (kn K :: sto S L last :: F)) :
    Ok (Fn Pg 32 [ptr S 0, .agg #[u64 s, cv]] w) (ApQ K S L last s c gs F w) := by
  rw [F32]; unfold S32
  refine go_box (l := [u64 s, cv]) rfl hs fun rb w1 h1 s1 => ?_
  obtain ⟨T, h2⟩ := sto_open (h1.re [2, 0, 1] (by decide))
  refine Ok.rd2 (snone_ok h2 0 rfl) (Ok.cf rfl (Ok.rd (ldr h1 0 rfl) ?_))
  refine Ok.bind (changed_ok (s := s) hb hn hp hl hc hr hcs (h1.re [1, 2, 0] (by decide))) ?_
  rintro y w2 ⟨K2, l2, h3, s2, hy⟩
  have h3 : Sat (drw w2) (kn K2 :: sto S L last :: pt rb [u64 s, cv] 67 :: F) := h3
  have s3 : Sm w (drw w2) := s1.trans s2.rdrw
  have fail : ¬ (okCh c noB gs ∧ last < s) → Ok (some (int 2, drw w2)) (ApQ K S L last s c gs F w) := fun hno =>
    ⟨_, _, rfl, K2, l2, s3, .inr ⟨hno, rfl, (h3.re [2, 0, 1] (by decide)).drop⟩⟩
  rcases hy with ⟨hok, ov, xs, rfl, hrd, hxs⟩ | ⟨hno, rfl⟩
  · refine Ok.rd rfl (Ok.rd rfl (Ok.rd (un_not _) ?_))
    obtain ⟨T, h4⟩ := sto_open h3.sw
    refine f_ok rfl (gr (fld67_0 _ _)) (f_ok rfl (gr (ldr_0 h3 2 rfl)) (f_ok rfl rfl (f_ok rfl (gr (nil_ptr _ _)) (f_ok rfl (gr (fld95_1 _ _)) (f_ok rfl (gr (lds_1 h4 0 rfl)) (f_ok rfl (gr2 bin_le64) (pk_f rfl ?_)))))))
    by_cases hlt : last < s
    · refine Ok.cf (by simp; omega) ?_
      refine Ok.rd2 (hrd.len T118 _) ?_
      have hlen : xs.length = (chL c gs).length := hxs.len
      have hgl : (chL c gs).length = gs.length := by simp [chL]
      rw [hlen]
      refine Ok.mono (apply_loop hrd hxs (fun l hl' => ?_) (by omega) (chL c gs).length 0 L c _ _ F (by omega) (hc.mono l2) (by omega) h3 rfl rfl rfl rfl rfl rfl) ?_
      · simp only [chL, List.mem_map] at hl'
        obtain ⟨a, _, rfl⟩ := hl'
        simp
      · rintro z w6 ⟨rfl, L', m1, m2, m3, m4⟩
        exact ⟨K2, l2, s3.trans m4, .inl ⟨hok, hlt, rfl, L', m1, by omega, m3⟩⟩
    · refine Ok.ct (by simp; omega) (fail fun h => hlt h.2)
  · refine Ok.rd rfl (Ok.rd rfl (Ok.rd (un_not _) ?_))
    exact Ok.f0 (Ok.f0 (Ok.f0 (Ok.f0 (Ok.f0 (Ok.f0 (Ok.f0 (Ok.rd (pick_t _ _) (Ok.ct rfl (fail fun h => hno h.1)))))))))
end Go.Cb

/-
  Rows in a span, each told to a function.
-/
set_option linter.unusedVariables false
set_option linter.unusedSimpArgs false
namespace Go.Cb
open Classical
variable {w : World} {F : List HP} {Q Q' : Value → World → Prop}

abbrev KC := ByteArray × List AV
def kc (c : ByteArray → List AV) (E : List Ent) : List KC := E.map fun e => (e.1, c e.1)

/-- a function that rows are told to. -/
def ROk (g : FuncId) (cap : Array Value) {σ : Type} (R : Hl → σ → HP) (step : σ → KC → σ × Bool) (sz : σ → Nat) (N n : Nat) : Prop :=
  ∀ (K : Hl) (s : σ) (x : Ent) (l : List AV) (w : World) (F : List HP), sz s < N → PlB l → l.length ≤ n → Rc K x.2.1 l → Sat w (R K s :: kn K :: F) →
    Ok (Fn Pg g ([.string x.1, x.2.1] ++ cap.toList) w) fun v w' => v = .bool (step s (x.1, l)).2 ∧ ∃ K', Le K K' ∧ Sat w' (R K' (step s (x.1, l)).1 :: kn K' :: F) ∧ Sm w w'
def runC {σ : Type} (step : σ → KC → σ × Bool) : σ → List KC → σ
  | s, [] => s
  | s, x :: r => if (step s x).2 then runC step (step s x).1 r else (step s x).1

theorem rows_loop {g : FuncId} {cap : Array Value} {σ : Type} {R : Hl → σ → HP} {step : σ → KC → σ × Bool} {sz : σ → Nat} {N n : Nat} (hon : ROk g cap R step sz N n) (hsz : ∀ s x, sz (step s x).1 ≤ sz s + 1)
    {c : ByteArray → List AV} (hb : Bd c n) {xs : List Ent} {wv : Value} (hxl : xs.length ≤ 2 ^ 28) :
    ∀ (j i : Nat) (K : Hl) (s : σ) (e : Env) (w : World) (F : List HP), i + j = xs.length → RdS K 149 2 encE wv xs → (∀ x ∈ xs, Rc K x.2.1 (c x.1)) → sz s + j ≤ N → Sat w (R K s :: kn K :: F) →
      e 2 = .func (.func g) #[] cap → e 20 = wv → e 21 = int xs.length → e 22 = int i → e 34 = undef →
      Ok (evalLoop (cx65 (Fn Pg) (Rnd Pg)) (cdA Go.Proofs.Try.f65 [1, 1, 1, 0, 0]) (K65_1 (Fn Pg) (Rnd Pg)) e w) fun v w' => ∃ K', Le K K' ∧ Sat w' (R K' (runC step s (kc c (xs.drop i))) :: kn K' :: F) ∧ Sm w w' := by
  intro j
  induction j with
  | zero =>
    intro i K s e w F hij hr hx hN hs e2 e20 e21 e22 e34
    rw [S65_L1_eq]; unfold S65_L1
    rw [e2, e20, e21, e22, e34]
    refine Ok.rd2 bin_lss (Ok.cf (by simp; omega) ?_)
    have hd : xs.drop i = [] := List.drop_eq_nil_of_le (by omega)
    rw [hd]
    exact ⟨_, _, rfl, K, Le.refl K, hs, Sm.refl _⟩
  | succ j ih =>
    intro i K s e w F hij hr hx hN hs e2 e20 e21 e22 e34
    have hi : i < xs.length := by omega
    obtain ⟨x, hx'⟩ : ∃ x, xs[i]? = some x := ⟨_, List.getElem?_eq_getElem hi⟩
    obtain ⟨q, h1, h2⟩ := hr.ix i x hx'
    obtain ⟨inf, z, hinf, hsz', _⟩ := T37.i
    have hrc := hx x (List.mem_of_getElem? hx')
    rw [S65_L1_eq]; unfold S65_L1
    rw [e2, e20, e21, e22, e34]
    refine Ok.rd2 bin_lss (Ok.ct (by simp; omega) (Ok.rd h1 ?_))
    refine Ok.rd (by rw [ldV_ag a40 hinf, hsz', h2 w (kn_on hs (j := 1) rfl)]; rfl : ldV Pg 160 (.pointer (some q)) w = some (aggE x)) ?_
    refine go_tmp hs fun nb w1 t1 s1 => ?_
    have t1 : Sat w1 (pt nb (encE x) 160 :: R K s :: kn K :: F) := t1
    refine Ok.rd (fld40_0 _ _) (Ok.rd (ld_key t1 0 rfl) (Ok.rd (fld40_1 _ _) (Ok.rd (ld_val t1 0 rfl) ?_)))
    have hcall : ∀ (a b : Value) (w : World), callV (cx65 (Fn Pg) (Rnd Pg)) (.func (.func g) #[] cap) [a, b] w = Fn Pg g ([a, b] ++ cap.toList) w := fun _ _ _ => rfl
    rw [hcall]
    refine Ok.bind (hon K s x (c x.1) w1 _ (by omega) (hb.pl x.1) (hb.len x.1) hrc (t1.re [1, 2, 0] (by decide))) ?_
    rintro y w2 ⟨rfl, K2, l2, t2, s2⟩
    have t2 : Sat w2 (R K2 (step s (x.1, c x.1)).1 :: kn K2 :: F) := (t2.re [2, 0, 1] (by decide)).drop
    have hdr : kc c (xs.drop i) = (x.1, c x.1) :: kc c (xs.drop (i + 1)) := by
      rw [List.drop_eq_getElem_cons hi, (List.getElem?_eq_some_iff.1 hx').2]; rfl
    refine Ok.rd (un_not _) ?_
    cases hst : (step s (x.1, c x.1)).2 with
    | false =>
      refine Ok.ct rfl ?_
      have : runC step s (kc c (xs.drop i)) = (step s (x.1, c x.1)).1 := by
        rw [hdr]; unfold runC; rw [hst]; rfl
      rw [this]
      exact ⟨_, _, rfl, K2, l2, t2, s1.trans s2⟩
    | true =>
      refine Ok.cf rfl (Ok.rd2 (bin_add1 (by omega)) ?_)
      have hr' : runC step s (kc c (xs.drop i)) = runC step (step s (x.1, c x.1)).1 (kc c (xs.drop (i + 1))) := by
        rw [hdr]
        show (if (step s (x.1, c x.1)).2 = true then _ else _) = _
        rw [hst]; rfl
      have := hsz s (x.1, c x.1)
      refine Ok.mono (ih (i + 1) K2 _ _ w2 F (by omega) (hr.mono l2) (fun y hy => (hx y hy).mono l2) (by omega) t2 ?_ ?_ ?_ ?_ ?_) ?_
      · exact e2
      · exact e20
      · exact e21
      · rfl
      · exact e34
      · rintro z w6 ⟨K6, l6, t6, s6⟩
        rw [hr']
        exact ⟨K6, l2.trans l6, t6, s1.trans (s2.trans s6)⟩

/-- the entries in a span. -/
def inL (L : List Ent) (f t : ByteArray) : List Ent := L.filter fun e => inB f t e.1
theorem walk_all (L : List Ent) (f t : ByteArray) : walkL L f t (L.length : Nat) = inL L f t := by
  unfold walkL inL
  rw [Int.toNat_natCast, List.take_of_length_le (List.length_filter_le _ _)]

theorem rows_ok {g : FuncId} {cap : Array Value} {σ : Type} {R : Hl → σ → HP} {step : σ → KC → σ × Bool} {sz : σ → Nat} {N n : Nat} (hon : ROk g cap R step sz N n) (hsz : ∀ s x, sz (step s x).1 ≤ sz s + 1) (hm : ∀ K K' s h, Le K K' → R K s h → R K' s h)
    {K : Hl} {S : Nat} {L : List Ent} {last : Int} {c : ByteArray → List AV} {f t : ByteArray} {s : σ} (hc : StoR K L c) (hb : Bd c n) (hN : sz s + L.length ≤ N) (hL : L.length ≤ 2 ^ 28) (hs : Sat w (R K s :: kn K :: sto S L last :: F)) :
    Ok (Fn Pg 65 [ptr S 0, .agg #[.string f, .string t], .func (.func g) #[] cap] w) fun v w' => ∃ K', Le K K' ∧ Sat w' (R K' (runC step s (kc c (inL L f t))) :: kn K' :: sto S L last :: F) ∧ Sm w w' := by
  rw [F65]; unfold S65
  refine go_box (l := spC f t) rfl hs fun c4 w1 h1 s1 => ?_
  obtain ⟨T, h2⟩ := sto_open (h1.re [3, 0, 1, 2] (by decide))
  have h2 : Sat (drw w1) (pt S [ptr T 0, u64 last] 95 :: tree T L :: pt c4 (spC f t) 36 :: R K s :: kn K :: F) := h2
  have s1 : Sm w (drw w1) := s1.rdrw
  refine Ok.rd2 (snone_ok (w := w1) h2 0 rfl) (Ok.cf rfl ?_)
  refine Ok.rd (nil_ptr _ _) (Ok.rd (fld95_0 _ _) (Ok.rd (lds_0 h2 0 rfl) (Ok.rd (ldsp h2 2 rfl) ?_)))
  refine Ok.rd (nil_ptr _ _) (Ok.rd (fld95_0 _ _) (Ok.rd (lds_0 h2 0 rfl) (Ok.rd2 (len_ok h2.sw) ?_)))
  refine Ok.chk (hold_ld (ldsp h2 2 rfl)) ?_
  refine Ok.chk (hold_ld (lds_0 h2 0 rfl)) ?_
  refine Ok.bind (twalk_ok h2.sw hL) ?_
  rintro wv w2 ⟨h3, s2⟩
  rw [walk_all] at h3
  have h3 : Sat w2 (slH 160 2 encE wv (inL L f t) :: tree T L :: pt S [ptr T 0, u64 last] 95 :: pt c4 (spC f t) 36 :: R K s :: kn K :: F) := h3
  obtain ⟨K', l1, hr, h4⟩ := share T37 enE (h3.re [0, 5, 1, 2, 3, 4] (by decide))
  have h4 : Sat w2 (kn K' :: tree T L :: pt S [ptr T 0, u64 last] 95 :: pt c4 (spC f t) 36 :: R K s :: F) := h4
  have h5 : Sat w2 (R K' s :: kn K' :: sto S L last :: F) := by
    have := (h4.re [3, 4, 0, 2, 1] (by decide)).drop
    have := Sat.mono this (fun h => hm K K' s h l1)
    exact (sto_mk (this.re [2, 3, 0, 1] (by decide))).re [1, 2, 0] (by decide)
  refine Ok.rd2 (hr.len T37 w2) ?_
  have hxl : (inL L f t).length ≤ L.length := List.length_filter_le _ _
  refine Ok.mono (rows_loop hon hsz hb (by omega) (inL L f t).length 0 K' s _ w2 _ (by omega) hr (fun x hx => ((hc.at_ x (List.mem_filter.1 hx |>.1)).1).mono l1) (by omega) h5 rfl rfl rfl rfl rfl) ?_
  rintro y w6 ⟨K6, l6, t6, s6⟩
  rw [List.drop_zero] at t6
  exact ⟨K6, l1.trans l6, t6, s1.trans (s2.trans s6)⟩

/-! ### Rows -/

theorem every_loop {v : Value} {vs : List AV} {K : Hl} (hr : Rc K v vs) (hb : vs.length ≤ 2 ^ 28) : ∀ (j i : Nat) (us : List Int) (ov : Value) (e : Env) (w : World) (F : List HP), i + j = vs.length → us.length ≤ i + 1 → Sat w (slH 64 1 encU ov us :: kn K :: F) →
    e 3 = ov → e 13 = v → e 14 = int vs.length → e 15 = int i → e 26 = undef →
    Ok (evalLoop (cx68 (Fn Pg) (Rnd Pg)) (cdA Go.Proofs.Try.f68 [1, 1, 1, 0, 1, 0, 0]) (K68_2 (Fn Pg) (Rnd Pg)) e w) fun x w' => Sat w' (slH 64 1 encU x (us ++ (vs.drop i).map (·.st)) :: kn K :: F) ∧ Sm w w' := by
  intro j
  induction j with
  | zero =>
    intro i us ov e w F hij hul hs e3 e13 e14 e15 e26
    rw [S68_L1_eq]; unfold S68_L1
    rw [e3, e14, e15, e26]
    refine Ok.rd2 bin_lss (Ok.cf (by simp; omega) ?_)
    rw [List.drop_eq_nil_of_le (by omega), List.map_nil, List.append_nil]
    exact ⟨_, _, rfl, hs, Sm.refl _⟩
  | succ j ih =>
    intro i us ov e w F hij hul hs e3 e13 e14 e15 e26
    have hi : i < vs.length := by omega
    obtain ⟨a, ha⟩ : ∃ a, vs[i]? = some a := ⟨_, List.getElem?_eq_getElem hi⟩
    obtain ⟨p, x, h1, hx, h2⟩ := hr.at ha
    rw [S68_L1_eq]; unfold S68_L1
    rw [e3, e13, e14, e15, e26]
    refine Ok.rd2 bin_lss (Ok.ct (by simp; omega) (Ok.rd h1 (Ok.rd (h2 w (kn_on hs (j := 1) rfl)).1 ?_)))
    refine go_tmpG ty85 rfl (ones_ver x) hs fun nb w1 t1 s1 => ?_
    refine Ok.rd (fld85_0 _ _) (Ok.rd (ldv_0 t1 0 rfl) ?_)
    rw [hx.st]
    refine go_bs1 T68 enU (by decide) (x := a.st) rfl t1 fun b w3 t3 hv3 s3 => ?_
    refine go_app T68 enU t3 2 rfl hv3 (by simp; omega) fun a4 w4 t4 s4 => ?_
    have t4 : Sat w4 (pt b (encU a.st) 64 :: pt nb (encVer x) 85 :: slH 64 1 encU a4 (us ++ [a.st]) :: kn K :: F) := t4
    refine Ok.rd2 (bin_add1 (by omega)) ?_
    refine Ok.mono (ih (i + 1) (us ++ [a.st]) a4 _ w4 F (by omega) (by simp; omega) t4.drop.drop ?_ ?_ ?_ ?_ ?_) ?_
    · rfl
    · exact e13
    · exact e14
    · rfl
    · exact e26
    · rintro y w5 ⟨m1, m2⟩
      refine ⟨?_, s1.trans (s3.trans (s4.trans m2))⟩
      rw [List.drop_eq_getElem_cons hi, (List.getElem?_eq_some_iff.1 ha).2, List.map_cons]
      rw [List.append_assoc] at m1
      exact m1
/-- starts that see each version. -/
def everyS (vs : List AV) : List Int := 0 :: vs.map (·.st)
theorem every_ok {v : Value} {vs : List AV} {K : Hl} (hr : Rc K v vs) (hb : vs.length ≤ 2 ^ 28) (hs : Sat w (kn K :: F)) :
    Ok (Fn Pg 68 [v] w) fun x w' => Sat w' (slH 64 1 encU x (everyS vs) :: kn K :: F) ∧ Sm w w' := by
  rw [F68]; unfold S68
  refine Ok.rd2 (hr.len w) (Ok.rd2 (bin_add1 (by omega)) ?_)
  refine go_make0 (enc := encU) T68 (by omega) hs fun ov w2 h2 s2 => ?_
  refine go_bs1 T68 enU (by decide) (x := 0) rfl h2 fun b w3 t3 hv3 s3 => ?_
  refine go_app T68 enU t3 1 rfl hv3 (by simp) fun a4 w4 t4 s4 => ?_
  have t4 : Sat w4 (pt b (encU 0) 64 :: slH 64 1 encU a4 [0] :: kn K :: F) := t4
  refine Ok.rd2 (hr.len w4) ?_
  refine Ok.mono (every_loop hr hb vs.length 0 [0] a4 _ w4 F (by omega) (by simp) t4.drop rfl rfl rfl rfl rfl) ?_
  rintro y w5 ⟨m1, m2⟩
  rw [List.drop_zero] at m1
  exact ⟨m1, s2.trans (s3.trans (s4.trans m2))⟩

theorem T71 : SlT Pg 71 80 2 := slT_of (by kernel_rfl)
theorem a71 : aggT Pg 71 = some false := by kernel_rfl
theorem z71 : zeroL Pg 71 = some [.slice none 0 0] := by kernel_rfl
theorem bld80_2 (s : ByteArray) (a : Option Addr) (n c : Nat) : bldV Pg 80 [(0, .string s), (1, .slice a n c)] = some (.agg #[.string s, .slice a n c]) := by kernel_rfl
theorem st71 {b : Nat} {v u : Value} (h : Sat w F) (k : Nat) (hk : F[k]? = some (pt b [v] 71)) (hu : one u = true) : ∃ w', rawU Pg (Instr.storeAt 71 (ptr b 0) u) w = some (undef, w') ∧ Sat w' (F.set k (pt b [u] 71)) ∧ Sm w w' :=
  st_one (sz_of (by kernel_rfl)) h k hk (Nat.zero_lt_succ _) hu

/-- rows that are told so far. -/
def outR (b : Nat) (K : Hl) (s : List KC) : HP := fun h => ∃ ov, ∃ xs, Rks K xs s ∧ stars [pt b [ov] 71, slH 80 2 encE ov xs] h
theorem outR_open {b : Nat} {K : Hl} {s : List KC} (hs : Sat w (outR b K s :: F)) : ∃ ov xs, Rks K xs s ∧ Sat w (pt b [ov] 71 :: slH 80 2 encE ov xs :: F) := by
  obtain ⟨ov, h⟩ := Sat.ex.1 hs
  obtain ⟨xs, h⟩ := Sat.ex.1 h
  obtain ⟨h1, h⟩ := Sat.and.1 h
  exact ⟨ov, xs, h1, Sat.flat.1 h⟩
theorem outR_mk {b : Nat} {K : Hl} {s : List KC} {ov : Value} {xs : List Ent} (h1 : Rks K xs s) (hs : Sat w (pt b [ov] 71 :: slH 80 2 encE ov xs :: F)) : Sat w (outR b K s :: F) :=
  Sat.ex.2 ⟨ov, Sat.ex.2 ⟨xs, Sat.and.2 ⟨h1, (Sat.flat (G := [_, _])).2 hs⟩⟩⟩
theorem outR_mono {b : Nat} (K K' : Hl) (s : List KC) (h : Hl) (hl : Le K K') : outR b K s h → outR b K' s h := fun ⟨ov, xs, h1, h2⟩ => ⟨ov, xs, h1.mono hl, h2⟩

/-- all of a chain that there is. -/
noncomputable def allV (vs : List AV) : List AV := keptL vs (keepP vs (everyS vs))
noncomputable def stepR (s : List KC) (x : KC) : List KC × Bool := (s ++ [(x.1, allV x.2)], true)
theorem runR : ∀ (X : List KC) (s : List KC), runC stepR s X = s ++ X.map fun x => (x.1, allV x.2)
  | [], s => by simp [runC]
  | x :: X, s => by
    show runC stepR (stepR s x).1 X = _
    rw [runR X]
    simp [stepR]

theorem row_on {b n : Nat} (hn : n ≤ 2 ^ 27) : ROk 66 #[ptr b 0] (outR b) stepR List.length (2 ^ 29) n := by
  intro K s x l w F hsz hpl hll hr hs
  show Ok (Fn Pg 66 [.string x.1, x.2.1, ptr b 0] w) _
  rw [F66]; unfold S66
  refine Ok.bind (every_ok hr (by omega) hs.sw) ?_
  rintro uv w1 ⟨h1, s1⟩
  obtain ⟨K1, l1, hu, h2⟩ := share T68 enU h1
  have h2 : Sat w1 (kn K1 :: outR b K s :: F) := h2
  refine Ok.bind (prune_ok hpl (by omega) (by simp [everyS]; omega) (hr.mono l1) hu h2) ?_
  rintro y w2 ⟨K2, kv, dv, l2, rfl, hk, hd, h3, s2⟩
  refine Ok.rd rfl (Ok.rd rfl ?_)
  obtain ⟨ov, xs, hx, h4⟩ := outR_open h3.sw
  refine Ok.rd (ld1 a71 h4 0 rfl) ?_
  obtain ⟨ka, kcap, rfl⟩ := hk.sl
  refine Ok.rd (bld80_2 _ _ _ _) ?_
  refine go_bs1 T71 enE (by decide) (x := (x.1, ⟨.slice ka (keptL l (keepP l (everyS l))).length kcap, rfl⟩)) rfl h4 fun nb w3 t3 hv3 s3 => ?_
  have hxl : xs.length = s.length := hx.len
  refine go_app T71 enE t3 2 rfl hv3 (by simp; omega) fun a4 w4 t4 s4 => ?_
  obtain ⟨w5, m5, t5, s5⟩ := st71 (u := a4) t4 1 rfl (one_slH t4 2 rfl)
  refine Ok.rd2 m5 ?_
  refine ⟨_, _, rfl, rfl, K2, l1.trans l2, ?_, s1.trans (s2.trans (s3.trans (s4.trans s5)))⟩
  have hx2 := Rks.snoc (x := (x.1, (⟨.slice ka (keptL l (keepP l (everyS l))).length kcap, rfl⟩ : V1))) (l := (x.1, allV l)) ((hx.mono l1).mono l2) rfl hk
  exact outR_mk hx2 t5.drop

theorem bld36_0 : bldV Pg 36 [] = some (.agg #[.string noB, .string noB]) := by kernel_rfl
theorem in_all (L : List Ent) : inL L noB noB = L := by
  unfold inL
  rw [List.filter_eq_self]
  intro e he
  unfold inB
  have h1 : kl e.1 noB = false := by
    unfold kl
    show Op.bytesLess e.1.toList noB.toList = false
    have : noB.toList = [] := by simp [ByteArray.toList, ByteArray.toList.loop, noB, ByteArray.size]
    rw [this]
    cases e.1.toList <;> rfl
  have h2 : (decide (noB = ByteArray.empty)) = true := by decide
  rw [h1, h2]; rfl

/-- what Rows answers. -/
theorem rows33_ok {K : Hl} {S : Nat} {L : List Ent} {last : Int} {c : ByteArray → List AV} {n : Nat} (hn : n ≤ 2 ^ 27) (hc : StoR K L c) (hb : Bd c n) (hL : L.length ≤ 2 ^ 28) (hs : Sat w (kn K :: sto S L last :: F)) :
    Ok (Fn Pg 33 [ptr S 0] w) fun v w' => ∃ K' xs, Le K K' ∧ RdS K' 71 2 encE v xs ∧ Rks K' xs ((kc c L).map fun x => (x.1, allV x.2)) ∧ Sat w' (kn K' :: sto S L last :: F) ∧ Sm w w' := by
  rw [F33]; unfold S33
  refine go_new z71 hs fun b w1 h1 s1 => ?_
  refine Ok.rd bld36_0 ?_
  have h2 : Sat w1 (outR b K [] :: kn K :: sto S L last :: F) := by
    have := (slH_nil (T := 80) (k := 2) (enc := encE) none h1).re [1, 0] (by decide)
    exact outR_mk Rks.nil this
  refine Ok.bind (rows_ok (row_on hn) (fun s x => by simp [stepR]) outR_mono hc hb (by simp; omega) hL h2) ?_
  rintro y w2 ⟨K2, l2, h3, s2⟩
  rw [in_all, runR, List.nil_append] at h3
  obtain ⟨ov, xs, hx, h4⟩ := outR_open h3
  refine Ok.rd (ld1 a71 h4 0 rfl) ?_
  obtain ⟨K3, l3, hr, h5⟩ := share T71 enE (h4.re [1, 2, 0] (by decide))
  have h5 : Sat w2 (kn K3 :: pt b [ov] 71 :: sto S L last :: F) := h5
  exact ⟨_, _, rfl, K3, xs, l2.trans l3, hr, hx.mono l3, (h5.re [1, 0] (by decide)).drop, s1.trans s2⟩
end Go.Cb

/-
  Scan.
-/
set_option linter.unusedVariables false
set_option linter.unusedSimpArgs false
namespace Go.Cb
open Classical
variable {w : World} {F : List HP} {Q Q' : Value → World → Prop}

/-- what is found of a key. -/
structure Fv where
  key : ByteArray
  pv : V1
  gen : Int
  size : Int
abbrev encFv (x : Fv) : List Value := [.string x.key, .bool false, .slice none 0 0, x.pv.1, u64 x.gen, int x.size]
theorem enFv : En encFv 6 := ⟨fun _ => rfl, fun x v hv => by
  simp [encFv] at hv; rcases hv with rfl | rfl | rfl | rfl | rfl | rfl
  all_goals first | rfl | exact x.pv.2⟩
structure Rfv (K : Hl) (x : Fv) (a : ByteArray × AV) : Prop where
  key : x.key = a.1
  gen : x.gen = a.2.gen
  size : x.size = a.2.size
  pl : RdS K 81 1 encI x.pv.1 a.2.places
theorem Rfv.mono {K K' : Hl} {x : Fv} {a : ByteArray × AV} (h : Rfv K x a) (hl : Le K K') : Rfv K' x a := ⟨h.key, h.gen, h.size, h.pl.mono hl⟩
structure Rfs (K : Hl) (xs : List Fv) (gs : List (ByteArray × AV)) : Prop where
  len : xs.length = gs.length
  at_ : ∀ (i : Nat) (x : Fv) (a : ByteArray × AV), xs[i]? = some x → gs[i]? = some a → Rfv K x a
theorem Rfs.mono {K K' : Hl} {xs : List Fv} {gs : List (ByteArray × AV)} (h : Rfs K xs gs) (hl : Le K K') : Rfs K' xs gs := ⟨h.len, fun i x a hx ha => (h.at_ i x a hx ha).mono hl⟩
theorem Rfs.nil {K : Hl} : Rfs K [] [] := ⟨rfl, fun i x a hx => by simp at hx⟩
theorem Rfs.snoc {K : Hl} {xs : List Fv} {gs : List (ByteArray × AV)} {x : Fv} {a : ByteArray × AV} (h : Rfs K xs gs) (h1 : Rfv K x a) : Rfs K (xs ++ [x]) (gs ++ [a]) := by
  refine ⟨by simp [h.len], fun i y b hy hb => ?_⟩
  rcases Nat.lt_or_ge i xs.length with hi | hi
  · rw [List.getElem?_append_left hi] at hy
    rw [List.getElem?_append_left (by rw [← h.len]; exact hi)] at hb
    exact h.at_ i y b hy hb
  · rw [List.getElem?_append_right hi] at hy
    rw [List.getElem?_append_right (by rw [← h.len]; exact hi)] at hb
    have : i - xs.length = 0 := by
      have := (List.getElem?_eq_some_iff.1 hy).1
      simp at this; omega
    rw [this] at hy
    rw [← h.len, this] at hb
    simp at hy hb
    subst hy hb
    exact h1

theorem T73 : SlT Pg 73 134 6 := slT_of (by kernel_rfl)
theorem a73 : aggT Pg 73 = some false := by kernel_rfl
theorem z73 : zeroL Pg 73 = some [.slice none 0 0] := by kernel_rfl
theorem bld134_2 (s : ByteArray) (g z : Int) (a : Option Addr) (n c : Nat) : bldV Pg 134 [(0, .string s), (3, .agg #[.slice a n c, u64 g, int z])] = some (.agg #[.string s, .bool false, .slice none 0 0, .slice a n c, u64 g, int z]) := by kernel_rfl
theorem st73 {b : Nat} {v u : Value} (h : Sat w F) (k : Nat) (hk : F[k]? = some (pt b [v] 73)) (hu : one u = true) : ∃ w', rawU Pg (Instr.storeAt 73 (ptr b 0) u) w = some (undef, w') ∧ Sat w' (F.set k (pt b [u] 73)) ∧ Sm w w' :=
  st_one (sz_of (by kernel_rfl)) h k hk (Nat.zero_lt_succ _) hu

/-- what a scan has found so far. -/
def outS (b bm ba : Nat) (m at' : Int) (K : Hl) (s : List (ByteArray × AV)) : HP := fun h => ∃ ov, ∃ xs, Rfs K xs s ∧ stars [pt b [ov] 73, slH 134 6 encFv ov xs, pt bm [int m] 3, pt ba [u64 at'] 64] h
theorem outS_open {b bm ba : Nat} {m at' : Int} {K : Hl} {s : List (ByteArray × AV)} (hs : Sat w (outS b bm ba m at' K s :: F)) : ∃ ov xs, Rfs K xs s ∧ Sat w (pt b [ov] 73 :: slH 134 6 encFv ov xs :: pt bm [int m] 3 :: pt ba [u64 at'] 64 :: F) := by
  obtain ⟨ov, h⟩ := Sat.ex.1 hs
  obtain ⟨xs, h⟩ := Sat.ex.1 h
  obtain ⟨h1, h⟩ := Sat.and.1 h
  exact ⟨ov, xs, h1, Sat.flat.1 h⟩
theorem outS_mk {b bm ba : Nat} {m at' : Int} {K : Hl} {s : List (ByteArray × AV)} {ov : Value} {xs : List Fv} (h1 : Rfs K xs s) (hs : Sat w (pt b [ov] 73 :: slH 134 6 encFv ov xs :: pt bm [int m] 3 :: pt ba [u64 at'] 64 :: F)) : Sat w (outS b bm ba m at' K s :: F) :=
  Sat.ex.2 ⟨ov, Sat.ex.2 ⟨xs, Sat.and.2 ⟨h1, (Sat.flat (G := [_, _, _, _])).2 hs⟩⟩⟩
theorem outS_mono {b bm ba : Nat} {m at' : Int} (K K' : Hl) (s : List (ByteArray × AV)) (h : Hl) (hl : Le K K') : outS b bm ba m at' K s h → outS b bm ba m at' K' s h := fun ⟨ov, xs, h1, h2⟩ => ⟨ov, xs, h1.mono hl, h2⟩

noncomputable def stepS (m at' : Int) (s : List (ByteArray × AV)) (x : KC) : List (ByteArray × AV) × Bool :=
  if m ≤ (s.length : Int) then (s, false) else if (valV x.2 at').2 = true then (s ++ [(x.1, (valV x.2 at').1)], true) else (s, true)

theorem scan_on {b bm ba n : Nat} {m at' : Int} (hn : n ≤ 2 ^ 27) : ROk 72 #[ptr b 0, ptr bm 0, ptr ba 0] (outS b bm ba m at') (stepS m at') List.length (2 ^ 29) n := by
  intro K s x l w F hsz hpl hll hr hs
  show Ok (Fn Pg 72 [.string x.1, x.2.1, ptr b 0, ptr bm 0, ptr ba 0] w) _
  rw [F72]; unfold S72
  obtain ⟨ov, xs, hx, h0⟩ := outS_open hs
  have hxl : xs.length = s.length := hx.len
  refine Ok.rd (ld1 a73 h0 0 rfl) (Ok.rd2 (sl_len T73 (h0.foc (k := 1) rfl) w) (Ok.rd (ld1 a3 h0 2 rfl) (Ok.rd2 bin_geq ?_)))
  rw [hxl]
  by_cases hm : m ≤ (s.length : Int)
  · refine Ok.ct (by simpa using hm) ?_
    have hst : stepS m at' s (x.1, l) = (s, false) := if_pos hm
    rw [hst]
    exact ⟨_, _, rfl, rfl, K, Le.refl K, hs, Sm.refl _⟩
  · refine Ok.cf (by simpa using hm) (Ok.rd (ld1 a64 h0 3 rfl) ?_)
    refine Ok.bind (value_ok (s := at') hpl hr (by omega) (h0.re [4, 0, 1, 2, 3] (by decide))) ?_
    rintro y w1 ⟨K1, u, l1, rfl, hu, h1, s1⟩
    obtain ⟨pv, rfl, hpv⟩ := hu.b
    refine Ok.rd rfl (Ok.rd rfl ?_)
    have h1 : Sat w1 (kn K1 :: pt b [ov] 73 :: slH 134 6 encFv ov xs :: pt bm [int m] 3 :: pt ba [u64 at'] 64 :: F) := h1
    refine go_tmpG (cs := #[pv.1, u64 (valV l at').1.gen, int (valV l at').1.size]) ty83 rfl (by simp; exact ⟨pv.2, rfl, rfl⟩) h1 fun nb w2 h2 s2 => ?_
    have h2 : Sat w2 (pt nb [pv.1, u64 (valV l at').1.gen, int (valV l at').1.size] 83 :: kn K1 :: pt b [ov] 73 :: slH 134 6 encFv ov xs :: pt bm [int m] 3 :: pt ba [u64 at'] 64 :: F) := h2
    cases hv : (valV l at').2 with
    | false =>
      have hst : stepS m at' s (x.1, l) = (s, true) := by
        unfold stepS
        rw [if_neg hm, if_neg (by rw [hv]; simp)]
      rw [hst]
      refine Ok.cf rfl ⟨_, _, rfl, rfl, K1, l1, ?_, s1.trans s2⟩
      exact outS_mk (hx.mono l1) ((h2.re [2, 3, 4, 5, 1, 0] (by decide)).re [5, 0, 1, 2, 3, 4] (by decide)).drop
    | true =>
      have hst : stepS m at' s (x.1, l) = (s ++ [(x.1, (valV l at').1)], true) := by
        unfold stepS
        rw [if_neg hm, if_pos hv]
      rw [hst]
      refine Ok.ct rfl (Ok.rd (ld1 a73 h2 2 rfl) (Ok.rd (ld_agg a83 ty83 rfl h2 0 rfl) ?_))
      obtain ⟨pa, pc, hpe⟩ := hpv.sl
      refine Ok.rd (a := .agg #[.string x.1, .bool false, .slice none 0 0, pv.1, u64 (valV l at').1.gen, int (valV l at').1.size]) (by rw [hpe]; exact bld134_2 _ _ _ _ _ _) ?_
      refine go_bs1 T73 enFv (by decide) (x := ⟨x.1, pv, (valV l at').1.gen, (valV l at').1.size⟩) rfl h2 fun nb2 w3 t3 hv3 s3 => ?_
      refine go_app T73 enFv t3 4 rfl hv3 (by simp; omega) fun a4 w4 t4 s4 => ?_
      obtain ⟨w5, m5, t5, s5⟩ := st73 (u := a4) t4 3 rfl (one_slH t4 4 rfl)
      refine Ok.rd2 m5 ⟨_, _, rfl, rfl, K1, l1, ?_, s1.trans (s2.trans (s3.trans (s4.trans s5)))⟩
      have hx2 := Rfs.snoc (x := ⟨x.1, pv, (valV l at').1.gen, (valV l at').1.size⟩) (a := (x.1, (valV l at').1)) (hx.mono l1) ⟨rfl, rfl, rfl, hpv⟩
      exact outS_mk hx2 ((t5.drop.drop).re [1, 2, 3, 4, 0] (by decide))

theorem scan_ok {K : Hl} {S : Nat} {L : List Ent} {last m at' : Int} {c : ByteArray → List AV} {n : Nat} {f t : ByteArray} (hn : n ≤ 2 ^ 27) (hc : StoR K L c) (hb : Bd c n) (hL : L.length ≤ 2 ^ 28) (hs : Sat w (kn K :: sto S L last :: F)) :
    Ok (Fn Pg 36 [ptr S 0, .agg #[.string f, .string t], u64 at', int m] w) fun v w' => ∃ K' xs, Le K K' ∧ RdS K' 73 6 encFv v xs ∧ Rfs K' xs (runC (stepS m at') [] (kc c (inL L f t))) ∧ Sat w' (kn K' :: sto S L last :: F) ∧ Sm w w' := by
  rw [F36]; unfold S36
  refine go_box (l := spC f t) rfl hs fun c4 w1 h1 s1 => ?_
  refine go_box (l := [u64 at']) rfl h1 fun ba w2 h2 s2 => ?_
  refine go_box (l := [int m]) rfl h2 fun bm w3 h3 s3 => ?_
  refine go_new z73 h3 fun b w4 h4 s4 => ?_
  refine Ok.rd (ldsp h4 3 rfl) ?_
  have h5 : Sat w4 (outS b bm ba m at' K [] :: kn K :: sto S L last :: pt c4 (spC f t) 36 :: F) := by
    have := (slH_nil (T := 134) (k := 6) (enc := encFv) none h4).re [1, 0, 2, 3, 5, 6, 4] (by decide)
    exact outS_mk Rfs.nil this
  refine Ok.bind (rows_ok (scan_on hn) (fun s x => ?_) outS_mono hc hb (by simp; omega) hL h5) ?_
  · unfold stepS
    split
    · simp
    · split <;> simp
  rintro y w5 ⟨K2, l2, h6, s5⟩
  obtain ⟨ov, xs, hx, h7⟩ := outS_open h6
  refine Ok.rd (ld1 a73 h7 0 rfl) ?_
  obtain ⟨K3, l3, hr, h8⟩ := share T73 enFv (h7.re [1, 4, 0, 2, 3, 5, 6] (by decide))
  have h8 : Sat w5 (kn K3 :: pt b [ov] 73 :: pt bm [int m] 3 :: pt ba [u64 at'] 64 :: sto S L last :: pt c4 (spC f t) 36 :: F) := h8
  exact ⟨_, _, rfl, K3, xs, l2.trans l3, hr, hx.mono l3, (h8.re [1, 2, 3, 5, 0, 4] (by decide)).drop.drop.drop.drop, s1.trans (s2.trans (s3.trans (s4.trans s5)))⟩
end Go.Cb

/-
  Sums over the rows: Versions, Live.
-/
set_option linter.unusedVariables false
set_option linter.unusedSimpArgs false
namespace Go.Cb
open Classical
variable {w : World} {F : List HP} {Q Q' : Value → World → Prop}

theorem a80 : aggT Pg 80 = some true := by kernel_rfl
theorem ty80 : tyB Pg 80 2 = true := by kernel_rfl
theorem i80 : ∃ i, Pg.info? 80 = some i ∧ i.size = 2 := sz_of (by kernel_rfl)
theorem fld80_1 (b o : Nat) : fldA Pg 80 (ptr b o) 1 = some (ptr b (o + 1)) := by kernel_rfl

/-- what a row is worth. -/
def Worth (g : FuncId) (wt : List AV → Nat) : Prop :=
  ∀ (K : Hl) (x : Ent) (l : List AV) (w : World) (F : List HP), l ≠ [] → Rc K x.2.1 l → Sat w (kn K :: F) → Ok (Fn Pg g [aggE x] w) fun v w' => v = int (wt l) ∧ Sat w' (kn K :: F) ∧ Sm w w'
def sumW (wt : List AV → Nat) (ls : List KC) : Nat := (ls.map fun x => wt x.2).sum

theorem added_loop {g : FuncId} {wt : List AV → Nat} (hw : Worth g wt) {K : Hl} {lv : Value} {xs : List Ent} {ls : List KC} (hr : RdS K 71 2 encE lv xs) (hx : Rks K xs ls) (hne : ∀ l ∈ ls, l.2 ≠ [] ∧ wt l.2 ≤ 2 ^ 28) (hl : ls.length ≤ 2 ^ 28) :
    ∀ (j i : Nat) (a : Nat) (e : Env) (w : World) (F : List HP), i + j = ls.length → a ≤ i * 2 ^ 28 → Sat w (kn K :: F) → e 1 = .func (.func g) #[] #[] → e 5 = int a → e 8 = lv → e 9 = int ls.length → e 10 = int i → e 21 = undef →
      Ok (evalLoop (cx69 (Fn Pg) (Rnd Pg)) (cdA Go.Proofs.Try.f69 [1, 1, 0, 1, 0, 0]) (K69_2 (Fn Pg) (Rnd Pg)) e w) fun v w' => v = int (a + sumW wt (ls.drop i) : Nat) ∧ Sat w' (kn K :: F) ∧ Sm w w' := by
  intro j
  induction j with
  | zero =>
    intro i a e w F hij ha hs e1 e5 e8 e9 e10 e21
    rw [S69_L1_eq]; unfold S69_L1
    rw [e5, e9, e10, e21]
    refine Ok.rd2 bin_lss (Ok.cf (by simp; omega) ?_)
    rw [List.drop_eq_nil_of_le (by omega)]
    exact ⟨_, _, rfl, by simp [sumW], hs, Sm.refl _⟩
  | succ j ih =>
    intro i a e w F hij ha hs e1 e5 e8 e9 e10 e21
    have hi : i < ls.length := by omega
    have hi2 : i < xs.length := by rw [hx.len]; exact hi
    obtain ⟨l, hl'⟩ : ∃ l, ls[i]? = some l := ⟨_, List.getElem?_eq_getElem hi⟩
    obtain ⟨x, hx'⟩ : ∃ x, xs[i]? = some x := ⟨_, List.getElem?_eq_getElem hi2⟩
    obtain ⟨q, h1, h2⟩ := hr.ix i x hx'
    obtain ⟨hk, hrc⟩ := hx.at_ i x l hx' hl'
    obtain ⟨hn1, hn2⟩ := hne l (List.mem_of_getElem? hl')
    obtain ⟨inf, hinf, hsz⟩ := i80
    rw [S69_L1_eq]; unfold S69_L1
    rw [e1, e5, e8, e9, e10, e21]
    refine Ok.rd2 bin_lss (Ok.ct (by simp; omega) (Ok.rd h1 ?_))
    refine Ok.rd (by rw [ldV_ag a80 hinf, hsz, h2 w (kn_on hs (j := 0) rfl)]; rfl : ldV Pg 80 (.pointer (some q)) w = some (aggE x)) ?_
    refine go_tmpG ty80 rfl (enE.one x) hs fun nb w1 t1 s1 => ?_
    refine Ok.rd (a := aggE x) (ld_agg a80 ty80 rfl t1 0 rfl) ?_
    have hcall : ∀ (a : Value) (w : World), callV (cx69 (Fn Pg) (Rnd Pg)) (.func (.func g) #[] #[]) [a] w = Fn Pg g [a] w := fun _ _ => rfl
    rw [hcall]
    refine Ok.bind (hw K x l.2 w1 _ hn1 hrc t1.sw) ?_
    rintro y w2 ⟨rfl, t2, s2⟩
    have hmul : (i + 1) * 2 ^ 28 = i * 2 ^ 28 + 2 ^ 28 := by omega
    refine Ok.rd2 (bin_addn (by omega)) (Ok.rd2 (bin_add1 (by omega)) ?_)
    have hdr : ls.drop i = l :: ls.drop (i + 1) := by rw [List.drop_eq_getElem_cons hi, (List.getElem?_eq_some_iff.1 hl').2]
    have t2 : Sat w2 (kn K :: F) := t2.sw.drop
    refine Ok.mono (ih (i + 1) (a + wt l.2) _ w2 F (by omega) (by omega) t2 ?_ ?_ ?_ ?_ ?_ ?_) ?_
    · exact e1
    · rfl
    · exact e8
    · exact e9
    · rfl
    · exact e21
    · rintro z w6 ⟨rfl, m2, m3⟩
      refine ⟨?_, m2, s1.trans (s2.trans m3)⟩
      rw [hdr]
      simp [sumW, Nat.add_assoc]
theorem added_ok {g : FuncId} {wt : List AV → Nat} (hw : Worth g wt) {K : Hl} {lv : Value} {xs : List Ent} {ls : List KC} (hr : RdS K 71 2 encE lv xs) (hx : Rks K xs ls) (hne : ∀ l ∈ ls, l.2 ≠ [] ∧ wt l.2 ≤ 2 ^ 28) (hl : ls.length ≤ 2 ^ 28) (hs : Sat w (kn K :: F)) :
    Ok (Fn Pg 69 [lv, .func (.func g) #[] #[]] w) fun v w' => v = int (sumW wt ls) ∧ Sat w' (kn K :: F) ∧ Sm w w' := by
  rw [F69]; unfold S69
  refine Ok.rd2 (hr.len T71 w) ?_
  rw [hx.len]
  refine Ok.mono (added_loop hw hr hx hne hl ls.length 0 0 _ w F (by omega) (by omega) hs rfl rfl rfl rfl rfl rfl) ?_
  rintro z w6 ⟨rfl, m2, m3⟩
  rw [List.drop_zero, Nat.zero_add]
  exact ⟨rfl, m2, m3⟩

theorem worth_n : Worth 70 fun l => l.length := by
  intro K x l w F hne hr hs
  rw [F70]; unfold S70
  refine go_box (l := encE x) rfl hs fun b w1 h1 s1 => ?_
  refine Ok.rd (fld80_1 _ _) (Ok.rd (lde_1 h1 0 rfl) (Ok.rd2 (hr.len w1) ?_))
  exact ⟨_, _, rfl, rfl, h1.drop, s1⟩
def liveN (l : List AV) : Nat := match l with
  | [] => 0
  | a :: _ => if a.dead then 0 else 1
theorem worth_l : Worth 71 liveN := by
  intro K x l w F hne hr hs
  rw [F71]; unfold S71
  obtain ⟨a, r, rfl⟩ := List.exists_cons_of_ne_nil hne
  obtain ⟨p, y, h1, hy, h2⟩ := hr.at (i := 0) (a := a) rfl
  refine go_box (l := encE x) rfl hs fun b w1 t1 s1 => ?_
  refine Ok.rd (fld80_1 _ _) (Ok.rd (lde_1 t1 0 rfl) (Ok.rd h1 (Ok.rd (fld85_1' _) (Ok.rd (h2 w1 (kn_on t1 (j := 1) rfl)).2.2 ?_))))
  have hl : liveN (a :: r) = if a.dead then 0 else 1 := rfl
  rw [hl]
  cases a.dead with
  | true => exact Ok.ct rfl ⟨_, _, rfl, rfl, t1.drop, s1⟩
  | false => exact Ok.cf rfl ⟨_, _, rfl, rfl, t1.drop, s1⟩

/-- all chains' parts that there are, of these keys. -/
noncomputable def allC (c : ByteArray → List AV) (L : List Ent) : List KC := (kc c L).map fun x => (x.1, allV x.2)
theorem allC_len (c : ByteArray → List AV) (L : List Ent) : (allC c L).length = L.length := by unfold allC kc; rw [List.length_map, List.length_map]
theorem allC_mem {K : Hl} {c : ByteArray → List AV} {L : List Ent} {n : Nat} (hc : StoR K L c) (hb : Bd c n) (ha : ∀ k, c k ≠ [] → allV (c k) ≠ []) : ∀ l ∈ allC c L, l.2 ≠ [] ∧ l.2.length ≤ n := by
  intro l hl
  simp only [allC, kc, List.map_map, List.mem_map] at hl
  obtain ⟨e, he, rfl⟩ := hl
  exact ⟨ha e.1 (hc.at_ e he).2, Nat.le_trans (keptL_len _ _) (hb.len e.1)⟩

theorem versions_ok {K : Hl} {S : Nat} {L : List Ent} {last : Int} {c : ByteArray → List AV} {n : Nat} (hn : n ≤ 2 ^ 27) (hc : StoR K L c) (hb : Bd c n) (hL : L.length ≤ 2 ^ 28) (ha : ∀ k, c k ≠ [] → allV (c k) ≠ []) (hs : Sat w (kn K :: sto S L last :: F)) :
    Ok (Fn Pg 34 [ptr S 0] w) fun v w' => v = int (sumW (fun l => l.length) (allC c L)) ∧ ∃ K', Le K K' ∧ Sat w' (kn K' :: sto S L last :: F) ∧ Sm w w' := by
  rw [F34]; unfold S34
  refine Ok.bind (rows33_ok hn hc hb hL hs) ?_
  rintro v w1 ⟨K1, xs, l1, hr, hx, h1, s1⟩
  refine Ok.bind (added_ok (ls := allC c L) worth_n hr hx (fun l hl => ⟨(allC_mem hc hb ha l hl).1, Nat.le_trans (allC_mem hc hb ha l hl).2 (by omega)⟩) (by rw [allC_len]; exact hL) h1) ?_
  rintro z w2 ⟨rfl, h2, s2⟩
  exact ⟨_, _, rfl, rfl, K1, l1, h2, s1.trans s2⟩
theorem liveN_le (l : List AV) : liveN l ≤ 1 := by
  cases l with
  | nil => simp [liveN]
  | cons a r => show (if a.dead then 0 else 1) ≤ 1; split <;> omega
theorem live_ok {K : Hl} {S : Nat} {L : List Ent} {last : Int} {c : ByteArray → List AV} {n : Nat} (hn : n ≤ 2 ^ 27) (hc : StoR K L c) (hb : Bd c n) (hL : L.length ≤ 2 ^ 28) (ha : ∀ k, c k ≠ [] → allV (c k) ≠ []) (hs : Sat w (kn K :: sto S L last :: F)) :
    Ok (Fn Pg 35 [ptr S 0] w) fun v w' => v = int (sumW liveN (allC c L)) ∧ ∃ K', Le K K' ∧ Sat w' (kn K' :: sto S L last :: F) ∧ Sm w w' := by
  rw [F35]; unfold S35
  refine Ok.bind (rows33_ok hn hc hb hL hs) ?_
  rintro v w1 ⟨K1, xs, l1, hr, hx, h1, s1⟩
  refine Ok.bind (added_ok (ls := allC c L) worth_l hr hx (fun l hl => ⟨(allC_mem hc hb ha l hl).1, Nat.le_trans (liveN_le _) (by omega)⟩) (by rw [allC_len]; exact hL) h1) ?_
  rintro z w2 ⟨rfl, h2, s2⟩
  exact ⟨_, _, rfl, rfl, K1, l1, h2, s1.trans s2⟩
end Go.Cb

/-
  Vacuum, Copy.
-/
set_option linter.unusedVariables false
set_option linter.unusedSimpArgs false
namespace Go.Cb
open Classical
variable {w : World} {F : List HP} {Q Q' : Value → World → Prop}

/-- the next key behind one. -/
def nextL (L : List Ent) (key : ByteArray) : Option Ent := (upps L key).head?
theorem next_mem {L : List Ent} {key : ByteArray} {e : Ent} (h : nextL L key = some e) : e ∈ L := (List.mem_filter.1 (List.mem_of_head? h)).1

/-- what Vacuum answers. -/
def VacQ (K : Hl) (S : Nat) (L : List Ent) (last : Int) (c : ByteArray → List AV) (key : ByteArray) (ss : List Int) (F : List HP) (w : World) (v : Value) (w' : World) : Prop :=
  ∃ K', Le K K' ∧ Sm w w' ∧ ((nextL L key = none ∧ v = .tuple #[.string noB, .slice none 0 0, .bool true] ∧ Sat w' (kn K' :: sto S L last :: F)) ∨
    ∃ e dv L', nextL L key = some e ∧ v = .tuple #[.string e.1, dv, .bool false] ∧ Rc K' dv (keptL (c e.1) fun i => ¬ keepP (c e.1) ss i) ∧ StoR K' L' (setC c e.1 (keptL (c e.1) (keepP (c e.1) ss))) ∧ L'.length ≤ L.length ∧ Sat w' (kn K' :: sto S L' last :: F))

theorem vacuum_ok {K : Hl} {S : Nat} {L : List Ent} {last : Int} {c : ByteArray → List AV} {n : Nat} {key : ByteArray} {sv : Value} {ss : List Int} (hn : n ≤ 2 ^ 28) (hk : key.size ≤ 2 ^ 62) (hc : StoR K L c) (hb : Bd c n) (hL : L.length ≤ 2 ^ 28)
    (hu : RdS K 68 1 encU sv ss) (hul : ss.length ≤ 2 ^ 28) (hs : Sat w (kn K :: sto S L last :: F)) :
    Ok (Fn Pg 38 [ptr S 0, .string key, sv] w) (VacQ K S L last c key ss F w) := by
  obtain ⟨T, h0⟩ := sto_open hs.sw
  rw [F38]; unfold S38
  refine Ok.rd2 (snone_ok h0 0 rfl) (Ok.cf rfl ?_)
  refine Ok.rd (nil_ptr _ _) (Ok.rd (fld95_0 _ _) (Ok.rd (lds_0 h0 0 rfl) ?_))
  refine Ok.bind (after_ok hk h0.sw) ?_
  rintro v w1 ⟨rfl, h1, s1⟩
  have h1 : Sat w1 (sto S L last :: kn K :: F) := sto_mk h1.sw
  unfold aftV
  cases hx : nextL L key with
  | none =>
    have hx' : (upps L key).head? = none := hx
    rw [hx']
    refine Ok.rd rfl (Ok.rd rfl (Ok.rd (un_not _) (Ok.ct rfl ?_)))
    exact ⟨_, _, rfl, K, Le.refl K, s1, .inl ⟨hx, rfl, h1.sw⟩⟩
  | some e =>
    have hx' : (upps L key).head? = some e := hx
    have he : e ∈ L := next_mem hx
    rw [hx']
    refine Ok.rd rfl (Ok.rd rfl (Ok.rd (un_not _) (Ok.cf rfl ?_)))
    refine Ok.bind (chain_ok hc h1) ?_
    rintro v w2 ⟨hr, h2, s2⟩
    refine Ok.bind (prune_ok (hb.pl e.1) (by have := hb.len e.1; omega) hul hr hu h2.sw) ?_
    rintro y w3 ⟨K3, kv, dv, l3, rfl, hkv, hdv, h3, s3⟩
    obtain ⟨T3, h4⟩ := sto_open h3.sw
    refine Ok.rd rfl (Ok.rd rfl (Ok.rd2 (hkv.len w3) (Ok.rd2 bin_eql ?_)))
    have sall := s1.trans (s2.trans s3)
    by_cases h0 : keptL (c e.1) (keepP (c e.1) ss) = []
    · refine Ok.ct (by rw [h0]; rfl) ?_
      refine Ok.rd (nil_ptr _ _) (Ok.rd (fld95_0 _ _) (Ok.rd (lds_0 h4 0 rfl) ?_))
      refine Ok.bind (delete_ok h4.sw (by omega)) ?_
      rintro z w4 ⟨rfl, h5, s5⟩
      have hd := del_len (tree_srt h4.sw) ⟨e, he, rfl⟩
      refine ⟨_, _, rfl, K3, l3, sall.trans s5, .inr ⟨e, dv, delL L e.1, hx, rfl, hdv, ?_, by omega, (sto_mk h5.sw).sw⟩⟩
      rw [h0]
      exact (hc.mono l3).del
    · refine Ok.cf (by simpa using h0) ?_
      refine Ok.rd (nil_ptr _ _) (Ok.rd (fld95_0 _ _) (Ok.rd (lds_0 h4 0 rfl) ?_))
      have hp := (put_len (tree_srt h4.sw) (e.1, (⟨kv, hkv.one⟩ : V1))).1 ⟨e, he, rfl⟩
      refine Ok.bind (put_ok (y := ⟨kv, hkv.one⟩) h4.sw (by omega) (bldE (x := (e.1, ⟨kv, hkv.one⟩)) hkv)) ?_
      rintro z w4 ⟨rfl, h5, s5⟩
      exact ⟨_, _, rfl, K3, l3, sall.trans s5, .inr ⟨e, dv, _, hx, rfl, hdv, (hc.mono l3).put (y := ⟨kv, hkv.one⟩) hkv h0, Nat.le_of_eq hp, (sto_mk h5.sw).sw⟩⟩

theorem scopy_ok {S : Nat} {L : List Ent} {last : Int} (hs : Sat w (sto S L last :: F)) : Ok (Fn Pg 40 [ptr S 0] w) fun v w' => ∃ U, v = ptr U 0 ∧ Sat w' (sto U L last :: sto S L last :: F) ∧ Sm w w' := by
  obtain ⟨T, h0⟩ := sto_open hs
  rw [F40]; unfold S40
  refine Ok.rd2 (snone_ok h0 0 rfl) (Ok.cf rfl ?_)
  have h0 : Sat (drw w) (pt S [ptr T 0, u64 last] 95 :: tree T L :: F) := h0
  refine Ok.rd (nil_ptr _ _) (Ok.rd (fld95_0 _ _) (Ok.rd (lds_0 h0 0 rfl) ?_))
  refine Ok.bind (tcopy_ok h0.sw) ?_
  rintro v w1 ⟨T2, rfl, h1, s1⟩
  have h1 : Sat w1 (tree T2 L :: tree T L :: pt S [ptr T 0, u64 last] 95 :: F) := h1
  refine Ok.rd (nil_ptr _ _) (Ok.rd (fld95_1 _ _) (Ok.rd (lds_1 h1 2 rfl) (Ok.chk (show ldV Pg 64 (ptr S (0 + 1)) (drw w) = some (u64 last) from lds_1 h0 0 rfl) ?_)))
  refine Ok.rd (bld95_2 _ _) ?_
  refine go_box (l := [ptr T2 0, u64 last]) rfl h1 fun U w2 h2 s2 => ?_
  refine ⟨_, _, rfl, U, rfl, ?_, s1.drw.trans s2⟩
  have := sto_mk h2
  exact (sto_mk (this.re [2, 1, 0] (by decide))).sw
end Go.Cb
