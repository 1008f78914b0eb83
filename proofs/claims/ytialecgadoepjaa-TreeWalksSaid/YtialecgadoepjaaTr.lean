/-
  The tree, by its height; a place in a node; find.
-/
import Derived.Test.YtialecgadoepjaaKy
set_option linter.unusedVariables false
set_option linter.unusedSimpArgs false
namespace Go.Cb
variable {w : World} {F : List HP} {Q : Value → World → Prop}

def BT : Nat → Type
  | 0 => List Ent
  | h + 1 => List Ent × List (BT h)
def ents : (h : Nat) → BT h → List Ent
  | 0, l => l
  | _ + 1, t => t.1
def subs : (h : Nat) → BT h → List (BT (h - 1))
  | 0, _ => []
  | _ + 1, t => t.2
def mkB : (h : Nat) → List Ent → List (BT (h - 1)) → BT h
  | 0, l, _ => l
  | _ + 1, l, ks => (l, ks)
def flat : (h : Nat) → BT h → List Ent
  | 0, l => l
  | h + 1, t => il t.1 (t.2.map (flat h))
def tr : (h : Nat) → Nat → BT h → HP
  | 0, p, l => nd p l []
  | h + 1, p, t => fun x => ∃ qs : List (Nat × BT h), qs.map (·.2) = t.2 ∧ stars (nd p t.1 (qs.map (·.1)) :: qs.map fun q => tr h q.1 q.2) x
def fo (h : Nat) (qs : List (Nat × BT h)) : List HP := qs.map fun q => tr h q.1 q.2
def wf : (h : Nat) → BT h → Prop
  | 0, l => List.length l ≤ 5
  | h + 1, t => t.1.length ≤ 5 ∧ t.2.length = t.1.length + 1 ∧ ∀ k ∈ t.2, wf h k ∧ 2 ≤ (ents h k).length

theorem fo_app {h : Nat} (a b : List (Nat × BT h)) : fo h (a ++ b) = fo h a ++ fo h b := by simp [fo]
theorem fo_cons {h : Nat} (a : Nat × BT h) (b : List (Nat × BT h)) : fo h (a :: b) = tr h a.1 a.2 :: fo h b := rfl

/-- a tree, opened. -/
theorem tr_open : ∀ {h p : Nat} {t : BT h}, Sat w (tr h p t :: F) → ∃ qs : List (Nat × BT (h - 1)), qs.map (·.2) = subs h t ∧ Sat w (nd p (ents h t) (qs.map (·.1)) :: (fo (h - 1) qs ++ F))
  | 0, p, t, hs => ⟨[], rfl, hs⟩
  | h + 1, p, t, hs => by
    obtain ⟨qs, hs⟩ := Sat.ex.1 hs
    obtain ⟨h1, hs⟩ := Sat.and.1 hs
    exact ⟨qs, h1, Sat.flat.1 hs⟩
theorem tr_mk : ∀ {h p : Nat} {l : List Ent} {qs : List (Nat × BT (h - 1))}, (h = 0 → qs = []) → Sat w (nd p l (qs.map (·.1)) :: (fo (h - 1) qs ++ F)) → Sat w (tr h p (mkB h l (qs.map (·.2))) :: F)
  | 0, p, l, qs, h0, hs => by
    have := h0 rfl
    subst this
    exact hs
  | h + 1, p, l, qs, _, hs => Sat.ex.2 ⟨qs, Sat.and.2 ⟨rfl, Sat.flat.2 hs⟩⟩
theorem tr_mk1 {h p : Nat} {l : List Ent} {qs : List (Nat × BT h)} (hs : Sat w (nd p l (qs.map (·.1)) :: (fo h qs ++ F))) : Sat w (tr (h + 1) p (l, qs.map (·.2)) :: F) := tr_mk (h := h + 1) (by omega) hs
theorem tr_open1 {h p : Nat} {t : BT (h + 1)} (hs : Sat w (tr (h + 1) p t :: F)) : ∃ qs : List (Nat × BT h), qs.map (·.2) = t.2 ∧ Sat w (nd p t.1 (qs.map (·.1)) :: (fo h qs ++ F)) := tr_open hs

/-- a kid taken ahead. -/
theorem pull1 {h : Nat} {N : HP} {q1 q2 : List (Nat × BT h)} {q : Nat × BT h} : Sat w (N :: (fo h (q1 ++ q :: q2) ++ F)) ↔ Sat w (N :: tr h q.1 q.2 :: (fo h (q1 ++ q2) ++ F)) := by
  have hp : (N :: (fo h (q1 ++ q :: q2) ++ F)).Perm (N :: tr h q.1 q.2 :: (fo h (q1 ++ q2) ++ F)) := by
    refine List.Perm.cons _ ?_
    rw [fo_app, fo_cons, fo_app, List.append_assoc, List.cons_append, List.append_assoc]
    exact List.perm_middle
  exact ⟨fun hs => hs.perm hp, fun hs => hs.perm hp.symm⟩
theorem pull2 {h : Nat} {N : HP} {q1 q2 : List (Nat × BT h)} {a b : Nat × BT h} : Sat w (N :: (fo h (q1 ++ a :: b :: q2) ++ F)) ↔ Sat w (N :: tr h a.1 a.2 :: tr h b.1 b.2 :: (fo h (q1 ++ q2) ++ F)) := by
  have hp : (N :: (fo h (q1 ++ a :: b :: q2) ++ F)).Perm (N :: tr h a.1 a.2 :: tr h b.1 b.2 :: (fo h (q1 ++ q2) ++ F)) := by
    refine List.Perm.cons _ ?_
    rw [fo_app, fo_cons, fo_cons, fo_app, List.append_assoc, List.cons_append, List.cons_append, List.append_assoc]
    exact List.perm_middle.trans ((List.perm_middle).cons _)
  exact ⟨fun hs => hs.perm hp, fun hs => hs.perm hp.symm⟩

theorem wf_ents : ∀ {h : Nat} {t : BT h}, wf h t → (ents h t).length ≤ 5
  | 0, _, hw => hw
  | _ + 1, _, hw => hw.1
theorem wf_subs : ∀ {h : Nat} {t : BT h}, wf h t → (h = 0 ∧ subs h t = []) ∨ (0 < h ∧ (subs h t).length = (ents h t).length + 1)
  | 0, _, _ => .inl ⟨rfl, rfl⟩
  | _ + 1, _, hw => .inr ⟨Nat.succ_pos _, hw.2.1⟩
theorem mkB_eta : ∀ {h : Nat} (t : BT h), mkB h (ents h t) (subs h t) = t
  | 0, _ => rfl
  | _ + 1, _ => rfl
theorem wf_kid {h : Nat} {t : BT (h + 1)} (hw : wf (h + 1) t) {k : BT h} (hk : k ∈ t.2) : wf h k ∧ 2 ≤ (ents h k).length := hw.2.2 k hk

/-! ### Places -/

/-- l1 is what stands ahead of a key among l1 ++ l2. -/
def Fits (key : ByteArray) (l1 l2 : List Ent) (b : Bool) : Prop :=
  (∀ e ∈ l1, kl e.1 key = true) ∧ ((l2 = [] ∧ b = false) ∨ ∃ e r, l2 = e :: r ∧ kl e.1 key = false ∧ b = decide (e.1 = key))

theorem bin_sgeq {st : Bool} {t : TypeId} {ox oy : Operand} {a b : ByteArray} {w : World} : binG st Pg .geq t ox oy (.string a) (.string b) w = some (.bool !kl a b, w) := rfl
theorem bin_slss {st : Bool} {t : TypeId} {ox oy : Operand} {a b : ByteArray} {w : World} : binG st Pg .lss t ox oy (.string a) (.string b) w = some (.bool (kl a b), w) := rfl
theorem bin_seql {st : Bool} {t : TypeId} {ox oy : Operand} {a b : ByteArray} {w : World} : binG st Pg .eql t ox oy (.string a) (.string b) w = some (.bool (decide (a = b)), w) := by
  have : binG st Pg .eql t ox oy (.string a) (.string b) w = some (.bool (a.toList == b.toList), w) := rfl
  rw [this, key_beq]

/-- an entry laid aside. -/
theorem go_tmp {e : Ent} {κ : Value → Value → World → R} (h : Sat w F) (hκ : ∀ nb w', Sat w' (pt nb (encE e) 40 :: F) → Sm w w' → Ok (κ (ptr nb 0) undef w') Q) :
    Ok (rd2 (rawV Pg (Instr.alloc 40 true (.tuple #[])) w) fun x w' => rd2 (rawU Pg (Instr.storeAt 40 x (aggE e)) w') fun u w'' => κ x u w'') Q := by
  obtain ⟨i, z, h1, h2, h3, h4, _⟩ := T37.i
  refine Ok.rd2 (alloc_ok h1 h3) ?_
  have s1 := h.new (l' := z.cells.toList) (T' := 40) (Ext.push (fun _ => False) w (.cells z.cells 40)) (fun _ _ hf => hf) (by have := At.new w z.cells.toList 40; simpa using this) (Nat.le_refl _)
  obtain ⟨w', g1, g2, g3⟩ := storeAt_ok (P := Pg) h1 s1.hp (k := 0) rfl (o := 0) (v := aggE e) (by rw [h2]; rfl) (by rw [Array.length_toList, h4, h2]; decide) (fun x hx => enE.one e x (by simpa [encE, Value.cells] using hx))
  refine Ok.rd2 g1 (hκ _ _ ?_ ((Ext.push (fun _ => False) w _).sm.trans g3.sm))
  refine s1.put g3 (fun _ _ hd => hd) ?_ (.inl rfl)
  have := g2.get (k := 0) rfl
  have hl : lay z.cells.toList 0 (aggE e).cells.toList = encE e := by
    have hz2 : z.cells.toList.length = 2 := by rw [Array.length_toList, h4]
    rw [lay_eq _ _ _ (by rw [hz2]; exact Nat.le_refl 2)]
    rw [List.drop_eq_nil_of_le (by rw [hz2]; exact Nat.le_refl 2)]
    simp [encE, Value.cells]
  rw [hl] at this
  exact this
theorem ld_key {nb : Nat} {e : Ent} (h : Sat w F) (k : Nat) (hk : F[k]? = some (pt nb (encE e) 40)) : ldV Pg 9 (ptr nb 0) w = some (.string e.1) := (ldV_sc a9 _ _).trans ((h.foc hk).at.cell 0)
theorem ld_val {nb : Nat} {e : Ent} (h : Sat w F) (k : Nat) (hk : F[k]? = some (pt nb (encE e) 40)) : ldV Pg 3 (ptr nb (0 + 1)) w = some e.2.1 := (ldV_sc a3 _ _).trans ((h.foc hk).at.cell 1)
theorem ld_ent {nb : Nat} {e : Ent} (h : Sat w F) (k : Nat) (hk : F[k]? = some (pt nb (encE e) 40)) : ldV Pg 40 (ptr nb 0) w = some (aggE e) := by
  obtain ⟨i', hi', hs⟩ : ∃ i', Pg.info? 40 = some i' ∧ i'.size = 2 := let ⟨i', _, a, b, _⟩ := T37.i; ⟨i', a, b⟩
  rw [at_load (h.foc hk).at (o := 0) (n := 2) (by simp [encE]) a40 hi' hs]; rfl

theorem find_loop {p k : Nat} {l : List Ent} {ks : List Nat} {lv kv : Value} {key : ByteArray} {j : Nat} : ∀ (l2 l1 : List Ent) (e : Env) (w : World) (F : List HP), F[k]? = some (pt p [lv, kv] 100) → F[j]? = some (slH 40 2 encE lv l) → Sat w F → l = l1 ++ l2 → (∀ x ∈ l1, kl x.1 key = true) → l.length ≤ 2 ^ 30 →
    e 0 = ptr p 0 → e 1 = .string key → e 11 = lv → e 12 = int l.length → e 13 = int l1.length → e 33 = undef →
    Ok (evalLoop (cx80 (Fn Pg) (Rnd Pg)) (cdA Go.Proofs.Try.f80 [1, 0, 1, 0, 0]) (K80_2 (Fn Pg) (Rnd Pg)) e w) fun v w' => ∃ l1 l2 b, l = l1 ++ l2 ∧ Fits key l1 l2 b ∧ v = .tuple #[int l1.length, .bool b] ∧ Sat w' F ∧ Sm w w' := by
  intro l2
  induction l2 with
  | nil =>
    intro l1 e w F hk hj hs hl hb hlen e0 e1 e11 e12 e13 e33
    rw [S80_L1_eq]; unfold S80_L1
    rw [e0, e1, e11, e12, e13, e33]
    rw [List.append_nil] at hl
    refine Ok.rd2 bin_lss (Ok.cf (by simp [hl]) ?_)
    refine go_l (ld_l hs k hk) (go_lenl hs j hj ?_)
    refine ⟨_, _, rfl, l1, [], false, by simp [hl], ⟨hb, .inl ⟨rfl, rfl⟩⟩, by rw [hl], hs, Sm.refl w⟩
  | cons x l2 ih =>
    intro l1 e w F hk hj hs hl hb hlen e0 e1 e11 e12 e13 e33
    rw [S80_L1_eq]; unfold S80_L1
    rw [e0, e1, e11, e12, e13, e33]
    have hx : l[l1.length]? = some x := by rw [hl]; simp
    refine Ok.rd2 bin_lss (Ok.ct (by simp [hl]; omega) ?_)
    obtain ⟨eb, eo, hx1, hx2, _⟩ := ix_l hs j hj hx
    refine Ok.rd hx1 (Ok.rd hx2 ?_)
    refine go_tmp hs fun nb w1 h1 s1 => ?_
    refine Ok.rd (fld40_0 _ _) (Ok.rd (ld_key h1 0 rfl) (Ok.rd2 bin_sgeq ?_))
    cases hx' : kl x.1 key with
    | false =>
      refine Ok.ct rfl ?_
      refine Ok.rd (fld40_0 _ _) (Ok.rd (ld_key h1.drw 0 rfl) (Ok.rd2 bin_seql ?_))
      exact ⟨_, _, rfl, l1, x :: l2, _, hl, ⟨hb, .inr ⟨x, l2, rfl, hx', rfl⟩⟩, rfl, h1.drop.drw, s1.trans ⟨rfl, rfl, rfl, fun _ => rfl⟩⟩
    | true =>
      refine Ok.cf rfl ?_
      have hl1 : l1.length ≤ 2 ^ 62 := by rw [hl] at hlen; simp at hlen; omega
      refine Ok.rd2 (bin_add1 hl1) ?_
      refine Ok.mono (ih (l1 ++ [x]) _ w1 F hk hj h1.drop (by rw [hl]; simp) ?_ hlen e0 ?_ e11 e12 ?_ e33) ?_
      rotate_left
      · exact e1
      · rw [List.length_append]; rfl
      rotate_left
      · intro y hy
        rcases List.mem_append.1 hy with hy | hy
        · exact hb y hy
        · simp at hy; subst hy; exact hx'
      · rintro v w' ⟨a, b, c, h2, h3, h4, h5, h6⟩
        exact ⟨a, b, c, h2, h3, h4, h5, s1.trans h6⟩

theorem find_ok {p k : Nat} {l : List Ent} {ks : List Nat} {key : ByteArray} (h : Sat w F) (hk : F[k]? = some (nd p l ks)) (hl : l.length ≤ 2 ^ 30) :
    Ok (Fn Pg 80 [ptr p 0, .string key] w) fun v w' => ∃ l1 l2 b, l = l1 ++ l2 ∧ Fits key l1 l2 b ∧ v = .tuple #[int l1.length, .bool b] ∧ Sat w' F ∧ Sm w w' := by
  obtain ⟨lv, kv, hs⟩ := nd_open (h.foc hk)
  rw [F80]; unfold S80
  refine Ok.rd (nil_ptr _ _) (Ok.rd (fld100_0 _ _) (Ok.rd (ld_l hs 0 rfl) ?_))
  refine go_lenl hs 1 rfl ?_
  refine Ok.mono (find_loop (ks := ks) (k := 0) (j := 1) l [] _ w _ rfl rfl hs rfl (by intro x hx; cases hx) hl rfl rfl rfl rfl rfl rfl) ?_
  rintro v w' ⟨l1, l2, b, h1, h2, h3, h4, h5⟩
  exact ⟨l1, l2, b, h1, h2, h3, (nd_mk h4).perm (perm_foc hk).symm, h5⟩

end Go.Cb
