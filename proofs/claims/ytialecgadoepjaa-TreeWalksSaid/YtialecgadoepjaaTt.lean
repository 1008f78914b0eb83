/-
  The tree as its users see it: New, Len, Get, Put, Delete.
-/
import Derived.Test.YtialecgadoepjaaSk
set_option linter.unusedVariables false
set_option linter.unusedSimpArgs false
namespace Go.Cb
variable {w : World} {F : List HP} {Q : Value → World → Prop}

theorem fld57_0 (b o : Nat) : fldA Pg 57 (ptr b o) 0 = some (ptr b o) := by kernel_rfl
theorem fld57_1 (b o : Nat) : fldA Pg 57 (ptr b o) 1 = some (ptr b (o + 1)) := by kernel_rfl
theorem bld100_0 : bldV Pg 100 [] = some (.agg #[.slice none 0 0, .slice none 0 0]) := by kernel_rfl
theorem bld100_k (a : Option Addr) (n c : Nat) : bldV Pg 100 [(1, .slice a n c)] = some (.agg #[.slice none 0 0, .slice a n c]) := by kernel_rfl
theorem bld57_0 (r : Nat) : bldV Pg 57 [(0, ptr r 0)] = some (.agg #[ptr r 0, int 0]) := by kernel_rfl
theorem bld40_i (s : ByteArray) (n : Int) : bldV Pg 40 [(0, .string s), (1, int n)] = some (.agg #[.string s, int n]) := by kernel_rfl
def vI (n : Int) : V1 := ⟨int n, rfl⟩

def tree (T : Nat) (L : List Ent) : HP := fun x => ∃ r h t, (wf h t ∧ (h = 0 ∨ 1 ≤ (ents h t).length) ∧ flat h t = L ∧ Srt L) ∧ stars [pt T [ptr r 0, int L.length] 57, tr h r t] x

theorem tree_open {T : Nat} {L : List Ent} (hs : Sat w (tree T L :: F)) : ∃ r h, ∃ t : BT h, wf h t ∧ (h = 0 ∨ 1 ≤ (ents h t).length) ∧ flat h t = L ∧ Srt L ∧ Sat w (pt T [ptr r 0, int L.length] 57 :: tr h r t :: F) := by
  obtain ⟨r, hs⟩ := Sat.ex.1 hs
  obtain ⟨h, hs⟩ := Sat.ex.1 hs
  obtain ⟨t, hs⟩ := Sat.ex.1 hs
  obtain ⟨⟨h1, h2, h3, h4⟩, hs⟩ := Sat.and.1 hs
  exact ⟨r, h, t, h1, h2, h3, h4, Sat.flat.1 hs⟩
theorem tree_mk {T r h : Nat} {L : List Ent} {t : BT h} {n : Int} (h1 : wf h t) (h2 : h = 0 ∨ 1 ≤ (ents h t).length) (h3 : flat h t = L) (h4 : Srt L) (hn : n = L.length) (hs : Sat w (pt T [ptr r 0, int n] 57 :: tr h r t :: F)) : Sat w (tree T L :: F) := by
  subst hn
  exact Sat.ex.2 ⟨r, Sat.ex.2 ⟨h, Sat.ex.2 ⟨t, Sat.and.2 ⟨⟨h1, h2, h3, h4⟩, Sat.flat.2 hs⟩⟩⟩⟩

/-- of a tree: its root, its number. -/
theorem ld_root {T : Nat} {a b : Value} (hs : Sat w F) (k : Nat) (hk : F[k]? = some (pt T [a, b] 57)) : ldV Pg 55 (ptr T 0) w = some a := (ldV_sc a55 _ _).trans ((hs.foc hk).at.cell 0)
theorem ld_num {T : Nat} {a b : Value} (hs : Sat w F) (k : Nat) (hk : F[k]? = some (pt T [a, b] 57)) : ldV Pg 3 (ptr T (0 + 1)) w = some b := (ldV_sc a3 _ _).trans ((hs.foc hk).at.cell 1)
theorem st_root {T : Nat} {a b v : Value} (hs : Sat w F) (k : Nat) (hk : F[k]? = some (pt T [a, b] 57)) (hv : one v = true) : ∃ w', rawU Pg (Instr.storeAt 55 (ptr T 0) v) w = some (undef, w') ∧ Sat w' (F.set k (pt T [v, b] 57)) ∧ Sm w w' :=
  st_one (sz_of (by kernel_rfl)) hs k hk (Nat.zero_lt_succ _) hv
theorem st_num {T : Nat} {a b v : Value} (hs : Sat w F) (k : Nat) (hk : F[k]? = some (pt T [a, b] 57)) (hv : one v = true) : ∃ w', rawU Pg (Instr.storeAt 3 (ptr T (0 + 1)) v) w = some (undef, w') ∧ Sat w' (F.set k (pt T [a, v] 57)) ∧ Sm w w' :=
  st_one (sz_of (by kernel_rfl)) hs k hk (Nat.lt_succ_self 1) hv

theorem Ok.f0 {r : Unit → R} {k : Value → World → R} {w : World} (hk : Ok (k undef w) Q) : Ok (Cb.rd2 (gate (.bool true) false r w) k) Q := hk
theorem Ok.f1 {r : Unit → R} {k : Value → World → R} {v : Value} {w w' : World} (h : r () = some (v, w')) (hk : Ok (k v w') Q) : Ok (Cb.rd2 (gate (.bool false) false r w) k) Q := by
  show Ok (Cb.rd2 (r ()) k) Q
  rw [h]; exact hk

/-- is there no tree? -/
theorem none_ok {T : Nat} {a : Option Addr} {b : Value} (hs : Sat w F) (k : Nat) (hk : F[k]? = some (pt T [.pointer a, b] 57)) : Fn Pg 45 [ptr T 0] w = some (.bool a.isNone, w) := by
  have : Ok (Fn Pg 45 [ptr T 0] w) fun v w' => v = .bool a.isNone ∧ w' = w := by
    rw [F45]; unfold S45
    refine Ok.rd2 (eql_ptr up25) ?_
    refine Ok.f1 rfl (Ok.f1 (gr (nil_ptr _ _)) (Ok.f1 (gr (fld57_0 _ _)) (Ok.f1 (gr (ld_root hs k hk)) (Ok.f1 (gr2 (eql_ptr up55)) ?_))))
    refine Ok.rd (pick_f _ _) (Ok.ret ⟨rfl, rfl⟩)
  obtain ⟨v, w', h1, rfl, rfl⟩ := this
  exact h1
theorem none_nil : Fn Pg 45 [.pointer none] w = some (.bool true, w) := by
  have : Ok (Fn Pg 45 [.pointer none] w) fun v w' => v = .bool true ∧ w' = w := by
    rw [F45]; unfold S45
    refine Ok.rd2 (eql_ptr up25) ?_
    refine Ok.f0 (Ok.f0 (Ok.f0 (Ok.f0 (Ok.f0 ?_))))
    refine Ok.rd (pick_t _ _) (Ok.ret ⟨rfl, rfl⟩)
  obtain ⟨v, w', h1, rfl, rfl⟩ := this
  exact h1

theorem new_ok (hs : Sat w F) : Ok (Fn Pg 13 [] w) fun v w' => ∃ T, v = ptr T 0 ∧ Sat w' (tree T [] :: F) ∧ Sm w w' := by
  rw [F13]; unfold S13
  refine Ok.rd bld100_0 ?_
  refine go_box100 rfl rfl hs fun r w1 h1 s1 => ?_
  refine Ok.rd (bld57_0 r) (Ok.rd2 box_ok ?_)
  have hE := Ext.push (fun _ => False) w1 (.cells #[ptr r 0, int 0] 57)
  have h2 := h1.new (l' := [ptr r 0, int 0]) (T' := 57) hE (fun _ _ hf => hf) (At.new w1 [ptr r 0, int 0] 57) (Nat.le_refl _)
  refine ⟨_, _, rfl, _, rfl, ?_, s1.trans hE.sm⟩
  have h3 : Sat _ (slH 55 1 encP (.slice none 0 0) [] :: _) := slH_nil none h2
  have h4 : Sat _ (slH 40 2 encE (.slice none 0 0) [] :: _) := slH_nil none h3
  have h5 := nd_mk (h4.re [3, 0, 1, 2] (by decide))
  exact tree_mk (h := 0) (t := ([] : List Ent)) (by show List.length [] ≤ 5; simp) (.inl rfl) rfl List.Pairwise.nil rfl (h5.sw)

theorem len_ok {T : Nat} {L : List Ent} (hs : Sat w (tree T L :: F)) : Fn Pg 18 [ptr T 0] w = some (int L.length, w) := by
  obtain ⟨r, h, t, _, _, _, _, hs⟩ := tree_open hs
  have : Ok (Fn Pg 18 [ptr T 0] w) fun v w' => v = int L.length ∧ w' = w := by
    rw [F18]; unfold S18
    refine Ok.rd2 (none_ok hs 0 rfl) (Ok.cf rfl ?_)
    exact Ok.rd (nil_ptr _ _) (Ok.rd (fld57_1 _ _) (Ok.rd (ld_num hs 0 rfl) (Ok.ret ⟨rfl, rfl⟩)))
  obtain ⟨v, w', h1, rfl, rfl⟩ := this
  exact h1

theorem seek_ok {T r h : Nat} {t : BT h} {key : ByteArray} {b : Value} (hw : wf h t) (hsr : Srt (flat h t)) (hs : Sat w (pt T [ptr r 0, b] 57 :: tr h r t :: F)) : Ok (Fn Pg 46 [ptr T 0, .string key] w) (SeekQ h r t (pt T [ptr r 0, b] 57 :: F) key w) := by
  rw [F46]; unfold S46
  refine Ok.rd (nil_ptr _ _) (Ok.rd (fld57_0 _ _) (Ok.rd (ld_root hs 0 rfl) ?_))
  exact seek_loop h r t key _ w _ hw hsr hs.sw rfl rfl rfl

/-- the value at a key. -/
def getL (L : List Ent) (k : ByteArray) : Option V1 := (L.find? fun e => decide (e.1 = k)).map (·.2)
theorem get_none {L : List Ent} {k : ByteArray} (h : ¬ hasL L k) : getL L k = none := by
  have : L.find? (fun e => decide (e.1 = k)) = none := by
    rw [List.find?_eq_none]
    intro e he hk
    exact h ⟨e, he, by simpa using hk⟩
  simp [getL, this]
theorem get_some {L : List Ent} (hs : Srt L) {e : Ent} (he : e ∈ L) : getL L e.1 = some e.2 := by
  obtain ⟨A, B, rfl⟩ := List.append_of_mem he
  have hA := (srt_mid hs).1
  have : (A ++ e :: B).find? (fun x => decide (x.1 = e.1)) = some e := by
    rw [List.find?_append]
    have h0 : A.find? (fun x => decide (x.1 = e.1)) = none := by
      rw [List.find?_eq_none]
      intro x hx hk
      exact kl_ne (hA x hx) (by simpa using hk)
    rw [h0]; simp
  simp [getL, this]

theorem get_ok {T : Nat} {L : List Ent} {key : ByteArray} (hs : Sat w (tree T L :: F)) : Ok (Fn Pg 20 [ptr T 0, .string key] w) fun v w' =>
    v = (match getL L key with | some y => .tuple #[y.1, .bool true] | none => .tuple #[int 0, .bool false]) ∧ Sat w' (tree T L :: F) ∧ Sm w w' := by
  obtain ⟨r, h, t, h1, h2, h3, h4, hs⟩ := tree_open hs
  subst h3
  rw [F20]; unfold S20
  refine Ok.rd2 (none_ok hs 0 rfl) (Ok.cf rfl ?_)
  refine Ok.bind (seek_ok h1 h4 hs) ?_
  rintro v w1 ⟨hv, g1, g2⟩
  have hback : Sat w1 (tree T (flat h t) :: F) := tree_mk h1 h2 rfl h4 rfl g1.sw
  rcases hv with ⟨rfl, hv⟩ | ⟨b, o, e, rfl, m1, rfl, m3, m4⟩
  · refine Ok.rd2 (eql_ptr up101) (Ok.ct rfl (Ok.ret ⟨?_, hback, g2⟩))
    rw [get_none hv]
  · refine Ok.rd2 (eql_ptr up101) (Ok.cf rfl ?_)
    refine Ok.rd (nil_ptr _ _) (Ok.rd (fld40_1 _ _) (Ok.rd m3 (Ok.ret ⟨?_, hback, g2⟩)))
    rw [get_some h4 m1]

theorem put_len {L : List Ent} (hs : Srt L) (e : Ent) : (hasL L e.1 → (putL L e).length = L.length) ∧ (¬ hasL L e.1 → (putL L e).length = L.length + 1) := by
  rcases srt_cases hs e.1 with ⟨h, A, x, B, rfl, hx, hA, hB⟩ | ⟨h, A, B, rfl, hA, hB⟩
  · exact ⟨fun _ => by rw [put_set hA hB hx]; simp, fun hh => absurd h hh⟩
  · exact ⟨fun hh => absurd hh h, fun _ => by rw [put_one hA hB]; simp; omega⟩
theorem del_len {L : List Ent} (hs : Srt L) {k : ByteArray} (h : hasL L k) : (delL L k).length + 1 = L.length := by
  rcases srt_cases hs k with ⟨_, A, x, B, rfl, hx, hA, hB⟩ | ⟨h', _⟩
  · rw [del_one hA hB hx]; simp; omega
  · exact absurd h h'

/-! the levels -/

def lvs : (h : Nat) → List (BT h) → List (List Nat)
  | 0, ts => [ts.map fun t => (ents 0 t).length]
  | h + 1, ts => (ts.map fun t => (ents (h + 1) t).length) :: lvs h (ts.flatMap fun t => t.2)

/-- what the page's example needs to know of Put. -/
def PutX (h : Nat) (t : BT h) (x : Ent) (h' : Nat) (t' : BT h') : Prop :=
  (h = 0 → (flat h t).length ≤ 4 → h' = 0) ∧ (h = 0 → (flat h t).length = 5 → (∀ y ∈ flat h t, kl y.1 x.1 = true) → lvs h' [t'] = [[1], [2, 3]])

theorem putX_room {h : Nat} {t t' : BT h} {x : Ent} (h4 : (ents h t).length ≤ 4) : PutX h t x h t' :=
  ⟨fun hh _ => hh, fun hh h5 _ => by subst hh; exact absurd (show (ents 0 t).length = 5 from h5) (by omega)⟩

theorem putX_full {h : Nat} {t ta tb : BT h} {em x : Ent} {t' : BT (h + 1)} (hsr : Srt (flat h t)) (h5 : (ents h t).length = 5) (hf : flat h t = flat h ta ++ em :: flat h tb) (la : (ents h ta).length = 2) (lb : (ents h tb).length = 2) (hX : insX (h + 1) (([em], [ta, tb]) : BT (h + 1)) x t') : PutX h t x (h + 1) t' := by
  refine ⟨fun hh h4 => by subst hh; exact absurd (show (ents 0 t).length ≤ 4 from h4) (by omega), fun hh _ hall => ?_⟩
  subst hh
  obtain ⟨l1, l2, k1, k2, k, k', e1, e2, e3, e4, e5, rfl, e7⟩ := hX (fun k hk => by
    have hk : k ∈ [ta, tb] := hk
    simp at hk
    rcases hk with rfl | rfl
    · exact Nat.le_trans (Nat.le_of_eq la) (by decide)
    · exact Nat.le_trans (Nat.le_of_eq lb) (by decide))
  have e1 : [em] = l1 ++ l2 := e1
  have e2 : [ta, tb] = k1 ++ k :: k2 := e2
  have hem : kl em.1 x.1 = true := hall em (by rw [hf]; simp)
  cases l1 with
  | nil =>
    have e1 : l2 = [em] := by simpa using e1.symm
    have := e5 em (by rw [e1]; rfl)
    rw [kl_asym hem] at this; cases this
  | cons a l1 =>
    have hl1 : l1 = [] ∧ l2 = [] ∧ a = em := by
      have h1 : 1 = (a :: l1).length + l2.length := by rw [← List.length_append, ← e1]; rfl
      rw [List.length_cons] at h1
      have h2 : l1 = [] := List.length_eq_zero_iff.1 (by omega)
      have h3 : l2 = [] := List.length_eq_zero_iff.1 (by omega)
      subst h2; subst h3
      simp at e1
      exact ⟨rfl, rfl, e1.symm⟩
    obtain ⟨rfl, rfl, rfl⟩ := hl1
    cases k1 with
    | nil => simp at e3
    | cons b k1 =>
      have hk1 : k1 = [] := List.length_eq_zero_iff.1 (by simpa using e3)
      subst hk1
      simp at e2
      obtain ⟨rfl, rfl, rfl⟩ := e2
      have hno : ¬ hasL (flat 0 tb) x.1 := by
        rintro ⟨z, hz, hzx⟩
        have := hall z (by rw [hf]; simp [hz])
        rw [hzx, kl_irr] at this; cases this
      have hsb : Srt (flat 0 tb) := by rw [hf] at hsr; exact (srt_cons.1 (srt_app.1 hsr).2.1).2
      have hk' : (ents 0 k').length = 3 := by
        have := (put_len hsb x).2 hno
        rw [← e7] at this
        exact this.trans (by rw [show (flat 0 tb).length = 2 from lb])
      show [[[a].length], [ta, k'].map fun t => (ents 0 t).length] = _
      simp [la, hk']

open Classical in
theorem putT_ok {T r h : Nat} {t : BT h} {key : ByteArray} {y : V1} (h1 : wf h t) (h2 : h = 0 ∨ 1 ≤ (ents h t).length) (h4 : Srt (flat h t)) (hs : Sat w (pt T [ptr r 0, int (flat h t).length] 57 :: tr h r t :: F)) (hb : (flat h t).length ≤ 2 ^ 30) (hbl : bldV Pg 40 [(0, .string key), (1, y.1)] = some (aggE (key, y))) :
    Ok (Fn Pg 14 [ptr T 0, .string key, y.1] w) fun v w' => v = .bool (decide (¬ hasL (flat h t) key)) ∧ Sm w w' ∧ ∃ (r' h' : Nat) (t' : BT h'), wf h' t' ∧ (h' = 0 ∨ 1 ≤ (ents h' t').length) ∧ flat h' t' = putL (flat h t) (key, y) ∧
      Sat w' (pt T [ptr r' 0, int (flat h' t').length] 57 :: tr h' r' t' :: F) ∧ (¬ hasL (flat h t) key → PutX h t (key, y) h' t') := by
  rw [F14]; unfold S14
  refine Ok.rd2 (none_ok hs 0 rfl) (Ok.cf rfl ?_)
  refine Ok.bind (seek_ok h1 h4 hs) ?_
  rintro v w1 ⟨hv, g1, g2⟩
  rcases hv with ⟨rfl, hv⟩ | ⟨b, o, e, rfl, m1, rfl, m3, m4⟩
  · refine Ok.rd2 (neq_ptr up101) (Ok.cf rfl ?_)
    have h1' := g1.sw
    refine Ok.rd (nil_ptr _ _) (Ok.rd (fld57_0 _ _) (Ok.rd (ld_root h1' 0 rfl) ?_))
    refine Ok.rd2 (full_tr h1' 1 rfl) ?_
    have fin : ∀ (w2 : World) (r' h' : Nat) (t' : BT h'), Sm w w2 → Sat w2 (pt T [ptr r' 0, int (flat h t).length] 57 :: tr h' r' t' :: F) → wf h' t' → (h' = 0 ∨ 1 ≤ (ents h' t').length) → flat h' t' = putL (flat h t) (key, y) → PutX h t (key, y) h' t' →
        Ok (rd (nilV (ptr T 0)) fun x57 =>
  rd (fldA Pg 57 x57 1) fun x58 =>
  rd (ldV Pg 3 x58 w2) fun x59 =>
  rd2 (binG false Pg .add 3 (.tmp 0) (.const .nilFunc) x59 (.int .i64 1) w2) fun x60 w61 =>
  rd (nilV (ptr T 0)) fun x62 =>
  rd (fldA Pg 57 x62 1) fun x63 =>
  rd2 (rawU Pg (Instr.storeAt 3 x63 x60) w61) fun x65 w64 =>
  some ((.bool true), w64)) fun v w' => v = .bool (decide (¬ hasL (flat h t) key)) ∧ Sm w w' ∧ ∃ (r' h' : Nat) (t' : BT h'), wf h' t' ∧ (h' = 0 ∨ 1 ≤ (ents h' t').length) ∧ flat h' t' = putL (flat h t) (key, y) ∧
      Sat w' (pt T [ptr r' 0, int (flat h' t').length] 57 :: tr h' r' t' :: F) ∧ (¬ hasL (flat h t) key → PutX h t (key, y) h' t') := by
      intro w2 r' h' t' s2 hs2 k1 k2 k3 k4
      refine Ok.rd (nil_ptr _ _) (Ok.rd (fld57_1 _ _) (Ok.rd (ld_num hs2 0 rfl) (Ok.rd2 (bin_add1 (by omega)) ?_)))
      obtain ⟨w3, n1, n2, n3⟩ := st_num (v := int ((flat h t).length + 1 : Nat)) hs2 0 rfl rfl
      refine Ok.rd (nil_ptr _ _) (Ok.rd (fld57_1 _ _) (Ok.rd2 n1 (Ok.ret ⟨?_, s2.trans n3, r', h', t', k1, k2, k3, ?_, fun _ => k4⟩)))
      · rw [decide_eq_true hv]
      · rw [k3, (put_len h4 (key, y)).2 hv]; exact n2
    refine Ok.ci (fun hfull => ?_) (fun hfull => ?_)
    · have hfull : (ents h t).length = 5 := by simpa using hfull
      refine Ok.rd (nil_ptr _ _) (Ok.rd (fld57_0 _ _) (Ok.rd (ld_root h1' 0 rfl) ?_))
      refine go_bsk h1' fun nb w2 h2' s2 => ?_
      refine Ok.rd (bld100_k _ _ _) ?_
      refine go_box100 rfl rfl h2' fun nr w3 h3' s3 => ?_
      obtain ⟨w4, n1, n2, n3⟩ := st_root (v := ptr nr 0) h3' 2 rfl rfl
      refine Ok.rd (nil_ptr _ _) (Ok.rd (fld57_0 _ _) (Ok.rd2 n1 ?_))
      refine Ok.rd (nil_ptr _ _) (Ok.rd (fld57_0 _ _) (Ok.rd (ld_root n2 2 rfl) ?_))
      have q1 : Sat w4 (slH 55 1 encP (sl nb 0 1 1) [r] :: pt nr [.slice none 0 0, sl nb 0 1 1] 100 :: pt T [ptr nr 0, int (flat h t).length] 57 :: tr h r t :: F) :=
        slH_mk (l := encP r) rfl rfl (by simp) (by simp [encP]) (n2.re [1, 0, 2, 3] (by decide))
      have q2 : Sat w4 (slH 40 2 encE (.slice none 0 0) [] :: _) := slH_nil none q1
      have q3 := nd_mk (q2.re [2, 0, 1, 3, 4] (by decide))
      have q4 : Sat w4 (nd nr [] [r] :: tr h r t :: pt T [ptr nr 0, int (flat h t).length] 57 :: F) := q3.re [0, 2, 1] (by decide)
      refine Ok.bind (split_tr (i := 0) q4 h1 hfull rfl (Nat.le_refl _) (by simp) (by simp)) ?_
      rintro v w5 ⟨⟨b', em, ta, tb, d1, d2, d3, d4, d5, d6⟩, s5⟩
      have d7 : Sat w5 (nd nr [em] ([(r, ta), (b', tb)].map (·.1)) :: (fo h [(r, ta), (b', tb)] ++ (pt T [ptr nr 0, int (flat h t).length] 57 :: F))) := d1
      have d8 := (tr_mk1 d7).sw
      refine Ok.rd (nil_ptr _ _) (Ok.rd (fld57_0 _ _) (Ok.rd (ld_root d8 0 rfl) ?_))
      refine Ok.rd hbl ?_
      have hfl : flat (h + 1) ([em], [(r, ta), (b', tb)].map (·.2)) = flat h t := by
        show il [em] [flat h ta, flat h tb] = _
        rw [d2]; simp [il, rpart]
      refine Ok.bind (insert_ok (h := h + 1) (x := (key, y)) (t := (([em], [(r, ta), (b', tb)].map (·.2)) : BT (h + 1))) ⟨by simp, by simp, fun q hq => by
        simp at hq
        rcases hq with rfl | rfl
        · exact ⟨d3, by omega⟩
        · exact ⟨d4, by omega⟩⟩ (by show List.length [em] ≤ 4; simp) (by rw [hfl]; exact h4) (by rw [hfl]; exact hv) d8.sw) ?_
      rintro v w6 ⟨⟨t', c1, c2, c3, c4, c5⟩, s6⟩
      rw [hfl] at c3
      exact fin w6 nr (h + 1) t' (g2.trans (s2.trans (s3.trans (n3.trans (s5.trans s6))))) c1.sw c2 (.inr (by have : 1 ≤ (ents (h + 1) t').length := c4; exact this)) c3 (putX_full h4 hfull d2 d5 d6 c5)
    · have hfull : (ents h t).length ≤ 4 := by have := wf_ents h1; simp at hfull; omega
      refine Ok.rd (nil_ptr _ _) (Ok.rd (fld57_0 _ _) (Ok.rd (ld_root h1' 0 rfl) ?_))
      refine Ok.rd hbl ?_
      refine Ok.bind (insert_ok (x := (key, y)) h1 hfull h4 hv h1'.sw) ?_
      rintro v w6 ⟨⟨t', c1, c2, c3, c4, c5⟩, s6⟩
      exact fin w6 r h t' (g2.trans s6) c1.sw c2 (h2.imp id fun hh => Nat.le_trans hh c4) c3 (putX_room hfull)
  · refine Ok.rd2 (neq_ptr up101) (Ok.ct rfl ?_)
    obtain ⟨w2, n1, ⟨t', n2, n3, n4, n5⟩, n6⟩ := m4 y
    refine Ok.rd (nil_ptr _ _) (Ok.rd (fld40_1 _ _) (Ok.rd2 n1 (Ok.ret ⟨?_, g2.trans n6, r, h, t', n3, (h2.imp id fun hh => by rw [n5]; exact hh), n4, ?_, fun hn => absurd ⟨e, m1, rfl⟩ hn⟩)))
    · have hh : hasL (flat h t) e.1 := ⟨e, m1, rfl⟩
      rw [decide_eq_false (fun hn => hn hh)]
    · rw [n4, (put_len h4 (e.1, y)).1 ⟨e, m1, rfl⟩]; exact n2.sw

open Classical in
theorem put_ok {T : Nat} {L : List Ent} {key : ByteArray} {y : V1} (hs : Sat w (tree T L :: F)) (hb : L.length ≤ 2 ^ 30) (hbl : bldV Pg 40 [(0, .string key), (1, y.1)] = some (aggE (key, y))) :
    Ok (Fn Pg 14 [ptr T 0, .string key, y.1] w) fun v w' => v = .bool (decide (¬ hasL L key)) ∧ Sat w' (tree T (putL L (key, y)) :: F) ∧ Sm w w' := by
  obtain ⟨r, h, t, h1, h2, h3, h4, hs⟩ := tree_open hs
  subst h3
  refine Ok.mono (putT_ok h1 h2 h4 hs hb hbl) ?_
  rintro v w' ⟨rfl, g1, r', h', t', g2, g3, g4, g5, _⟩
  exact ⟨rfl, tree_mk g2 g3 g4 (put_srt h4 _) (by rw [g4]) g5, g1⟩

open Classical in
theorem delete_ok {T : Nat} {L : List Ent} {key : ByteArray} (hs : Sat w (tree T L :: F)) (hb : L.length ≤ 2 ^ 30) :
    Ok (Fn Pg 15 [ptr T 0, .string key] w) fun v w' => v = .bool (decide (hasL L key)) ∧ Sat w' (tree T (delL L key) :: F) ∧ Sm w w' := by
  obtain ⟨r, h, t, h1, h2, h3, h4, hs⟩ := tree_open hs
  subst h3
  rw [F15]; unfold S15
  refine Ok.rd2 (none_ok hs 0 rfl) ?_
  obtain ⟨v, w1, hv0, hv, g1, g2⟩ := seek_ok (key := key) h1 h4 hs
  refine Ok.f1 rfl (Ok.f1 rfl (Ok.f1 (gr2 hv0) ?_))
  rcases hv with ⟨rfl, hv⟩ | ⟨b, o, e, rfl, m1, rfl, m3, m4⟩
  · refine Ok.f1 (gr2 (eql_ptr up101)) (Ok.rd (pick_f _ _) (Ok.ct rfl (Ok.ret ⟨?_, ?_, g2⟩)))
    · rw [decide_eq_false hv]
    · have hd : delL (flat h t) key = flat h t := by
        rcases srt_cases h4 key with ⟨h', _⟩ | ⟨_, A, B, he, hA, hB⟩
        · exact absurd h' hv
        · rw [he]
          have := del_mid (X := []) hA hB
          simpa [delL, lows, upps] using this
      rw [hd]
      exact tree_mk h1 h2 rfl h4 rfl g1.sw
  · have hh : hasL (flat h t) e.1 := ⟨e, m1, rfl⟩
    have hpos : 1 ≤ (flat h t).length := List.length_pos_of_mem m1
    refine Ok.f1 (gr2 (eql_ptr up101)) (Ok.rd (pick_f _ _) (Ok.cf rfl ?_))
    have h1' := g1.sw
    refine Ok.rd (nil_ptr _ _) (Ok.rd (fld57_0 _ _) (Ok.rd (ld_root h1' 0 rfl) ?_))
    refine Ok.bind (remove_ok h r t e.1 w1 _ h1 h2 h4 hh g1) ?_
    rintro v w2 ⟨⟨t', c1, c2, c3, c4⟩, s2⟩
    have hs2 := c1.sw
    have fin : ∀ (w3 : World) (r' h' : Nat) (t'' : BT h'), Sm w w3 → Sat w3 (pt T [ptr r' 0, int (flat h t).length] 57 :: tr h' r' t'' :: F) → wf h' t'' → (h' = 0 ∨ 1 ≤ (ents h' t'').length) → flat h' t'' = delL (flat h t) e.1 →
        Ok (rd (nilV (ptr T 0)) fun x73 =>
  rd (fldA Pg 57 x73 1) fun x74 =>
  rd (ldV Pg 3 x74 w3) fun x75 =>
  rd2 (binG false Pg .sub 3 (.tmp 0) (.const .nilFunc) x75 (.int .i64 1) w3) fun x76 w77 =>
  rd (nilV (ptr T 0)) fun x78 =>
  rd (fldA Pg 57 x78 1) fun x79 =>
  rd2 (rawU Pg (Instr.storeAt 3 x79 x76) w77) fun x81 w80 =>
  some ((.bool true), w80)) fun v w' => v = .bool (decide (hasL (flat h t) e.1)) ∧ Sat w' (tree T (delL (flat h t) e.1) :: F) ∧ Sm w w' := by
      intro w3 r' h' t'' s3 hs3 k1 k2 k3
      refine Ok.rd (nil_ptr _ _) (Ok.rd (fld57_1 _ _) (Ok.rd (ld_num hs3 0 rfl) (Ok.rd2 (bin_sub1 hpos (by omega)) ?_)))
      obtain ⟨w4, n1, n2, n3⟩ := st_num (v := int ((flat h t).length - 1 : Nat)) hs3 0 rfl rfl
      refine Ok.rd (nil_ptr _ _) (Ok.rd (fld57_1 _ _) (Ok.rd2 n1 (Ok.ret ⟨?_, ?_, s3.trans n3⟩)))
      · rw [decide_eq_true hh]
      · exact tree_mk k1 k2 k3 (del_srt h4 _) (by have := del_len h4 hh; omega) n2
    refine Ok.rd (nil_ptr _ _) (Ok.rd (fld57_0 _ _) (Ok.rd (ld_root hs2 0 rfl) ?_))
    obtain ⟨lv, y1, y2⟩ := tr_len hs2 (k := 1) rfl
    refine Ok.rd (nil_ptr _ _) (Ok.rd (fld100_0 _ _) (Ok.rd y1 (Ok.rd2 (y2 _ _ _ _) (Ok.rd2 bin_eql ?_))))
    by_cases h0 : (ents h t').length = 0
    · rw [show (((ents h t').length : Nat) : Int) == 0 from by rw [h0]; rfl]
      refine Ok.g1 rfl (Ok.g1 (gr (nil_ptr _ _)) (Ok.g1 (gr (fld57_0 _ _)) (Ok.g1 (gr (ld_root hs2 0 rfl)) (Ok.g1 (gr2 (leaf_tr hs2 1 rfl c2)) (Ok.g1 (gr (un_not _)) ?_)))))
      refine Ok.rd (pick_t _ _) ?_
      refine Ok.ci (fun hl => ?_) (fun hl => ?_)
      · cases h with
        | zero => simp at hl
        | succ h =>
          obtain ⟨l', ks'⟩ := t'
          have hl0 : l' = [] := List.length_eq_zero_iff.1 h0
          subst hl0
          obtain ⟨qs, hq, hs3⟩ := tr_open1 c1
          have hq : qs.map (·.2) = ks' := hq
          have hlen : ks'.length = 1 := c2.2.1
          obtain ⟨⟨f, k⟩, rfl⟩ : ∃ q, qs = [q] := by
            have : qs.length = 1 := by rw [← hlen, ← hq, List.length_map]
            exact List.length_eq_one_iff.1 this
          subst hq
          have hkw := wf_kid c2 (k := k) (by simp)
          have hs4 : Sat w2 (nd r [] [f] :: tr h f k :: pt T [ptr r 0, int (flat (h + 1) t).length] 57 :: F) := hs3
          refine Ok.rd (nil_ptr _ _) (Ok.rd (fld57_0 _ _) (Ok.rd (ld_root hs2 0 rfl) ?_))
          refine go_nkid (i := 0) (q := f) hs4 0 rfl rfl fun z a => ?_
          obtain ⟨w3, n1, n2, n3⟩ := st_root (v := ptr f 0) hs4 2 rfl rfl
          refine Ok.rd (nil_ptr _ _) (Ok.rd (fld57_0 _ _) (Ok.rd2 n1 ?_))
          refine fin w3 f h k (g2.trans (s2.trans n3)) (n2.drop.sw) hkw.1 (.inr (by omega)) ?_
          rw [← c3]
          show _ = il [] [flat h k]
          simp [il, rpart]
      · have hl : h = 0 := by simpa using hl
        exact fin w2 r h t' (g2.trans s2) hs2 c2 (.inl hl) c3
    · rw [show ((((ents h t').length : Nat) : Int) == 0) = false from by rw [beq_eq_false_iff_ne]; omega]
      refine Ok.g0 (Ok.g0 (Ok.g0 (Ok.g0 (Ok.g0 (Ok.g0 (Ok.rd (pick_f _ _) (Ok.cf rfl ?_)))))))
      exact fin w2 r h t' (g2.trans s2) hs2 c2 (.inr (by omega)) c3

end Go.Cb
