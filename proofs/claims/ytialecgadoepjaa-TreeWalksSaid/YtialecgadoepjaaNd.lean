/-
  A node: its block, its entries, its kids; the steps on it.
-/
import Derived.Test.YtialecgadoepjaaIn
set_option linter.unusedVariables false
set_option linter.unusedSimpArgs false
namespace Go.Cb
variable {w : World} {F : List HP}

/-! ### The steps -/

theorem ld_l {p : Nat} {lv kv : Value} (h : Sat w F) (k : Nat) (hk : F[k]? = some (pt p [lv, kv] 100)) : ldV Pg 37 (ptr p 0) w = some lv :=
  (ldV_sc a37 _ _).trans ((h.foc hk).at.cell 0)
theorem ld_k {p : Nat} {lv kv : Value} (h : Sat w F) (k : Nat) (hk : F[k]? = some (pt p [lv, kv] 100)) : ldV Pg 98 (ptr p (0 + 1)) w = some kv :=
  (ldV_sc a98 _ _).trans ((h.foc hk).at.cell 1)

theorem st_l {p : Nat} {lv kv v : Value} (h : Sat w F) (k : Nat) (hk : F[k]? = some (pt p [lv, kv] 100)) (hv : one v = true) :
    ∃ w', rawU Pg (Instr.storeAt 37 (ptr p 0) v) w = some (undef, w') ∧ Sat w' (F.set k (pt p [v, kv] 100)) ∧ Sm w w' :=
  st_one (sz_of (by kernel_rfl)) h k hk (Nat.zero_lt_succ _) hv
theorem st_k {p : Nat} {lv kv v : Value} (h : Sat w F) (k : Nat) (hk : F[k]? = some (pt p [lv, kv] 100)) (hv : one v = true) :
    ∃ w', rawU Pg (Instr.storeAt 98 (ptr p (0 + 1)) v) w = some (undef, w') ∧ Sat w' (F.set k (pt p [lv, v] 100)) ∧ Sm w w' :=
  st_one (sz_of (by kernel_rfl)) h k hk (Nat.lt_succ_self 1) hv

theorem ix_k {kv : Value} {ks : List Nat} (h : Sat w F) (k : Nat) (hk : F[k]? = some (slH 55 1 encP kv ks)) {i q : Nat} (hi : ks[i]? = some q) : ∃ b o, ixA Pg 98 kv (int i) = some (ptr b o) ∧ ldV Pg 55 (ptr b o) w = some (ptr q 0) := by
  obtain ⟨hl, rfl⟩ := List.getElem?_eq_some_iff.1 hi
  obtain ⟨b, l, h1, h2, h3, h4⟩ := sl_ix T98 enP (h.foc hk) hl
  refine ⟨b, _, h1, ?_⟩
  rw [ldV_sc a55, h2.cell]
  have := congrArg (·[0]?) h4
  simpa [encP, List.getElem?_take, List.getElem?_drop] using this

abbrev aggE (e : Ent) : Value := .agg #[.string e.1, e.2.1]

theorem ix_l {lv : Value} {l : List Ent} (h : Sat w F) (k : Nat) (hk : F[k]? = some (slH 40 2 encE lv l)) {i : Nat} {e : Ent} (hi : l[i]? = some e) :
    ∃ b o, ixA Pg 37 lv (int i) = some (ptr b o) ∧ ldV Pg 40 (ptr b o) w = some (aggE e) ∧ ldV Pg 9 (ptr b o) w = some (.string e.1) ∧ ldV Pg 3 (ptr b (o + 1)) w = some e.2.1 := by
  obtain ⟨hl, rfl⟩ := List.getElem?_eq_some_iff.1 hi
  obtain ⟨b, c, h1, h2, h3, h4⟩ := sl_ix T37 enE (h.foc hk) hl
  refine ⟨b, _, h1, ?_, ?_, ?_⟩
  · obtain ⟨i', hi', hs⟩ : ∃ i', Pg.info? 40 = some i' ∧ i'.size = 2 := let ⟨i', _, a, b, _⟩ := T37.i; ⟨i', a, b⟩
    rw [at_load h2 h3 a40 hi' hs, h4]; rfl
  · rw [ldV_sc a9, h2.cell]
    have := congrArg (·[0]?) h4
    simpa [encE, List.getElem?_take, List.getElem?_drop] using this
  · rw [ldV_sc a3, h2.cell]
    have := congrArg (·[1]?) h4
    simpa [encE, List.getElem?_take, List.getElem?_drop] using this

theorem bs_l (h : Sat w F) (e : Ent) : ∃ nb w', rawV Pg (Instr.buildSlice 37 1 #[(0, aggE e)]) w = some (sl nb 0 1 1, w') ∧ Sat w' (pt nb (encE e) 40 :: F) ∧ Sm w w' ∧ Ext (fun _ => False) w w' := by
  obtain ⟨i, z, h1, h2, h3, _⟩ := T37.i
  refine ⟨_, _, slice1_ok (v := aggE e) T37.u h1 h3 (by rw [h2]; rfl) (by rw [h2]; decide) (by rw [h2]; decide), ?_, ?_, ?_⟩
  · exact h.new (Ext.push (fun _ => False) w _) (fun _ _ hf => hf) (At.new w (encE e) 40) (Nat.le_refl _)
  · exact (Ext.push (fun _ => False) w _).sm
  · exact Ext.push (fun _ => False) w _
theorem bs_k (h : Sat w F) (q : Nat) : ∃ nb w', rawV Pg (Instr.buildSlice 98 1 #[(0, ptr q 0)]) w = some (sl nb 0 1 1, w') ∧ Sat w' (pt nb (encP q) 55 :: F) ∧ Sm w w' ∧ Ext (fun _ => False) w w' := by
  obtain ⟨i, z, h1, h2, h3, _⟩ := T98.i
  refine ⟨_, _, slice1_ok (v := ptr q 0) T98.u h1 h3 (by rw [h2]; rfl) (by rw [h2]; decide) (by rw [h2]; decide), ?_, ?_, ?_⟩
  · exact h.new (Ext.push (fun _ => False) w _) (fun _ _ hf => hf) (At.new w (encP q) 55) (Nat.le_refl _)
  · exact (Ext.push (fun _ => False) w _).sm
  · exact Ext.push (fun _ => False) w _

theorem one_sl {a : Option Addr} {n c : Nat} : one (.slice a n c) = true := rfl
theorem slH_one {T k : Nat} {α : Type} {enc : α → List Value} {v : Value} {xs : List α} (h : Sat w F) (j : Nat) (hk : F[j]? = some (slH T k enc v xs)) : one v = true := by
  obtain ⟨a, c, rfl, _⟩ := slH_len (h.foc hk); rfl

/-- the row of one element just laid is what an append reads. -/
theorem row1_l {nb : Nat} {e : Ent} (h : Sat w (pt nb (encE e) 40 :: F)) : Src w (sl nb 0 1 1) [e].length 2 ([e].flatMap encE) := by
  have := src_at (c := 1) h.at (o := 0) (n := 1) (k := 2) (by simp [encE])
  simpa [encE] using this
theorem row1_k {nb q : Nat} (h : Sat w (pt nb (encP q) 55 :: F)) : Src w (sl nb 0 1 1) [q].length 1 ([q].flatMap encP) := by
  have := src_at (c := 1) h.at (o := 0) (n := 1) (k := 1) (by simp [encP])
  simpa [encP] using this

/-! ### Nodes -/

def nd (p : Nat) (l : List Ent) (ks : List Nat) : HP := fun h => ∃ lv kv, stars [pt p [lv, kv] 100, slH 40 2 encE lv l, slH 55 1 encP kv ks] h

theorem nd_open {p : Nat} {l : List Ent} {ks : List Nat} (h : Sat w (nd p l ks :: F)) : ∃ lv kv, Sat w (pt p [lv, kv] 100 :: slH 40 2 encE lv l :: slH 55 1 encP kv ks :: F) := by
  obtain ⟨lv, h⟩ := Sat.ex.1 h
  obtain ⟨kv, h⟩ := Sat.ex.1 h
  exact ⟨lv, kv, Sat.flat.1 h⟩
theorem nd_mk {p : Nat} {l : List Ent} {ks : List Nat} {lv kv : Value} (h : Sat w (pt p [lv, kv] 100 :: slH 40 2 encE lv l :: slH 55 1 encP kv ks :: F)) : Sat w (nd p l ks :: F) :=
  Sat.ex.2 ⟨lv, Sat.ex.2 ⟨kv, Sat.flat.2 h⟩⟩

theorem leaf_eq {p : Nat} {l : List Ent} {ks : List Nat} (h : Sat w F) (k : Nat) (hk : F[k]? = some (nd p l ks)) : Fn Pg 51 [ptr p 0] w = some (.bool (decide (ks.length = 0)), w) := by
  obtain ⟨lv, kv, h⟩ := nd_open (h.foc hk)
  obtain ⟨a, c, rfl, _⟩ := slH_len (h.foc (k := 2) rfl)
  rw [F51]; unfold S51
  rw [nil_ptr, rd_some', fld100_1, rd_some', ld_k h 0 rfl, rd_some', len_sl T98.u, rd2_some', bin_eql, rd2_some']
  congr 3
  rw [Bool.eq_iff_iff, beq_iff_eq, decide_eq_true_iff]; omega

theorem leaf_eq' {p : Nat} {kv lv : Value} {ks : List Nat} (h : Sat w F) (k j : Nat) (hk : F[k]? = some (pt p [lv, kv] 100)) (hj : F[j]? = some (slH 55 1 encP kv ks)) : Fn Pg 51 [ptr p 0] w = some (.bool (decide (ks.length = 0)), w) := by
  obtain ⟨a, c, rfl, _⟩ := slH_len (h.foc hj)
  rw [F51]; unfold S51
  rw [nil_ptr, rd_some', fld100_1, rd_some', ld_k h k hk, rd_some', len_sl T98.u, rd2_some', bin_eql, rd2_some']
  congr 3
  rw [Bool.eq_iff_iff, beq_iff_eq, decide_eq_true_iff]; omega

theorem full_eq {p : Nat} {l : List Ent} {ks : List Nat} (h : Sat w F) (k : Nat) (hk : F[k]? = some (nd p l ks)) : Fn Pg 47 [ptr p 0] w = some (.bool (decide (l.length = 5)), w) := by
  obtain ⟨lv, kv, h⟩ := nd_open (h.foc hk)
  obtain ⟨a, c, rfl, _⟩ := slH_len (h.foc (k := 1) rfl)
  rw [F47]; unfold S47
  rw [nil_ptr, rd_some', fld100_0, rd_some', ld_l h 0 rfl, rd_some', len_sl T37.u, rd2_some', bin_eql, rd2_some']
  congr 3
  rw [Bool.eq_iff_iff]; simp; omega

end Go.Cb
