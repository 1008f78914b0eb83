/-
  Levels.
-/
import Derived.Test.YtialecgadoepjaaTt
set_option linter.unusedVariables false
set_option linter.unusedSimpArgs false
namespace Go.Cb
variable {w : World} {F G : List HP} {Q : Value → World → Prop}

theorem T81 : SlT Pg 81 3 1 := slT_of (by kernel_rfl)
theorem T31 : SlT Pg 31 81 1 := slT_of (by kernel_rfl)
theorem a81 : aggT Pg 81 = some false := by kernel_rfl
def encV (u : V1) : List Value := [u.1]
def encN (n : Nat) : List Value := [int n]
theorem enV : En encV 1 := ⟨fun _ => rfl, fun x v hv => by simp [encV] at hv; subst hv; exact x.2⟩
theorem enN : En encN 1 := ⟨fun _ => rfl, fun x v hv => by simp [encN] at hv; subst hv; rfl⟩

/-- a row of one element, of one cell. -/
theorem bs_one {t e : TypeId} {α : Type} {enc : α → List Value} (hT : SlT Pg t e 1) (h : Sat w F) {v : Value} {x : α} (hx : enc x = [v]) (hv : one v = true) {κ : Value → World → R}
    (hκ : ∀ nb w', Sat w' (pt nb [v] e :: F) → Src w' (sl nb 0 1 1) [x].length 1 ([x].flatMap enc) → Sm w w' → Ok (κ (sl nb 0 1 1) w') Q) : Ok (rd2 (rawV Pg (Instr.buildSlice t 1 #[(0, v)]) w) κ) Q := by
  obtain ⟨i, z, h1, h2, h3, _⟩ := hT.i
  have hc := cells_one hv
  refine Ok.rd2 (slice1_ok (v := v) hT.u h1 h3 (by rw [h2, hc]; rfl) (by rw [h2]; decide) (by rw [h2]; decide)) ?_
  rw [hc]
  have hs := h.new (Ext.push (fun _ => False) w (.cells #[v] e)) (fun _ _ hf => hf) (At.new w [v] e) (Nat.le_refl _)
  refine hκ _ _ hs ?_ (Ext.push (fun _ => False) w _).sm
  have := src_at (c := 1) hs.at (o := 0) (n := 1) (k := 1) (by simp)
  simpa [hx] using this

theorem nd_src {p k : Nat} {l : List Ent} {ks : List Nat} (hs : Sat w F) (hk : F[k]? = some (nd p l ks)) : ∃ kv, ldV Pg 98 (ptr p (0 + 1)) w = some kv ∧ Src w kv ks.length 1 (ks.flatMap encP) := by
  obtain ⟨lv, kv, h⟩ := nd_open (hs.foc hk)
  exact ⟨kv, ld_k h 0 rfl, slH_src (h.foc (k := 2) rfl)⟩

abbrev N3 := Nat × List Ent × List Nat
def nds (ns : List N3) : List HP := ns.map fun n => nd n.1 n.2.1 n.2.2

theorem nds_at {done rest : List N3} {n : N3} {A B C D : HP} : (A :: B :: C :: D :: (nds (done ++ n :: rest) ++ G))[done.length + 4]? = some (nd n.1 n.2.1 n.2.2) := by
  simp [nds]

theorem lv_loop2 {rv ov : Value} {vs : List V1} {ns : List N3} (b1 : ns.length ≤ 2 ^ 21) (b2 : (ns.flatMap (·.2.2)).length ≤ 2 ^ 21) (b3 : vs.length ≤ 2 ^ 21) : ∀ (rest done : List N3) (e : Env) (w : World) (cv bv : Value), ns = done ++ rest →
    Sat w (slH 81 1 encV ov vs :: slH 55 1 encP rv (ns.map (·.1)) :: slH 3 1 encN cv (done.map (·.2.1.length)) :: slH 55 1 encP bv (done.flatMap (·.2.2)) :: (nds ns ++ G)) →
    e 19 = rv → e 20 = int ns.length → e 21 = int done.length → e 5 = cv → e 6 = bv → e 3 = ov → e 46 = undef →
    (∀ (e' : Env) (w' : World) (cv' bv' ov' : Value) (hc : one cv' = true), Sm w w' → Sat w' (slH 81 1 encV ov' (vs ++ [⟨cv', hc⟩]) :: slH 55 1 encP bv' (ns.flatMap (·.2.2)) :: (nds ns ++ (slH 3 1 encN cv' (ns.map (·.2.1.length)) :: G))) →
      e' 3 = ov' → e' 4 = bv' → e' 46 = undef → Ok (evalLoop (cx16 (Fn Pg) (Rnd Pg)) (cdA Go.Proofs.Try.f16 [1, 1, 1, 0, 1, 0, 0]) (K16_2 (Fn Pg) (Rnd Pg)) e' w') Q) →
    Ok (evalLoop (cx16 (Fn Pg) (Rnd Pg)) (cdA Go.Proofs.Try.f16 [1, 1, 1, 0, 1, 0, 0, 1, 0, 1, 1, 0, 1, 0, 0]) (K16_6 (Fn Pg) (Rnd Pg)) e w) Q := by
  intro rest
  induction rest with
  | nil =>
    intro done e w cv bv hn hs e19 e20 e21 e5 e6 e3 e46 hend
    rw [List.append_nil] at hn
    subst hn
    rw [S16_L2_eq]; unfold S16_L2
    rw [e19, e20, e21, e5, e6, e3]
    refine Ok.rd2 bin_lss (Ok.cf (by simp) ?_)
    have hc : one cv = true := slH_one hs 2 rfl
    refine bs_one (enc := encV) (x := ⟨cv, hc⟩) T31 hs rfl hc fun nb w1 h1 hx s1 => ?_
    refine Ok.bind (sl_append' T31 enV (h1.foc (k := 1) rfl) hx (by simp; omega)) ?_
    rintro ov' w2 ⟨g1, g2⟩
    refine hend _ _ cv bv ov' hc (s1.trans g2) ?_ rfl rfl e46
    have g3 := (Sat.unf (k := 1) (F := pt nb [cv] 81 :: _ :: _ :: _ :: _ :: (nds ns ++ G)) rfl g1).drop
    have g4 : Sat w2 (slH 81 1 encV ov' (vs ++ [⟨cv, hc⟩]) :: slH 55 1 encP bv (ns.flatMap (·.2.2)) :: slH 3 1 encN cv (ns.map (·.2.1.length)) :: (nds ns ++ G)) := (g3.re [1, 0, 3, 2] (by decide)).drop
    exact g4.perm ((List.perm_middle.symm.cons _).cons _)
  | cons n rest ih =>
    intro done e w cv bv hn hs e19 e20 e21 e5 e6 e3 e46 hend
    rw [S16_L2_eq]; unfold S16_L2
    rw [e19, e20, e21, e5, e6, e3]
    have hlt : done.length < ns.length := by rw [hn]; simp
    have hdl : (done.map (·.2.1.length)).length = done.length := List.length_map _
    refine Ok.rd2 bin_lss (Ok.ct (by simp; omega) ?_)
    have hi : (ns.map (·.1))[done.length]? = some n.1 := by rw [hn]; simp
    obtain ⟨b, o, x1, x2⟩ := ix_k hs 1 rfl hi
    refine Ok.rd x1 (Ok.rd x2 ?_)
    have hk : (slH 81 1 encV ov vs :: slH 55 1 encP rv (ns.map (·.1)) :: slH 3 1 encN cv (done.map (·.2.1.length)) :: slH 55 1 encP bv (done.flatMap (·.2.2)) :: (nds ns ++ G))[done.length + 4]? = some (nd n.1 n.2.1 n.2.2) := by
      rw [hn]; exact nds_at
    obtain ⟨lv, kv, fl, _, _, _, fn, _⟩ := nd_facts hs hk
    refine Ok.rd (nil_ptr _ _) (Ok.rd (fld100_0 _ _) (Ok.rd fl (Ok.rd2 (fn _ _ _ _) ?_)))
    refine bs_one (enc := encN) (x := n.2.1.length) T81 hs rfl rfl fun nb w1 h1 hx s1 => ?_
    refine Ok.bind (sl_append' T81 enN (h1.foc (k := 3) rfl) hx (by rw [hdl]; simp; omega)) ?_
    rintro cv2 w2 ⟨g1, s2⟩
    have h2 : Sat w2 (slH 81 1 encV ov vs :: slH 55 1 encP rv (ns.map (·.1)) :: slH 3 1 encN cv2 ((done ++ [n]).map (·.2.1.length)) :: slH 55 1 encP bv (done.flatMap (·.2.2)) :: (nds ns ++ G)) := by
      have := (Sat.unf (k := 3) (F := pt nb [int n.2.1.length] 3 :: _ :: _ :: _ :: _ :: (nds ns ++ G)) rfl g1).drop
      rw [List.map_append]
      exact this
    have hk2 : (slH 81 1 encV ov vs :: slH 55 1 encP rv (ns.map (·.1)) :: slH 3 1 encN cv2 ((done ++ [n]).map (·.2.1.length)) :: slH 55 1 encP bv (done.flatMap (·.2.2)) :: (nds ns ++ G))[done.length + 4]? = some (nd n.1 n.2.1 n.2.2) := by
      rw [hn]; exact nds_at
    obtain ⟨kv2, y1, y2⟩ := nd_src h2 hk2
    refine Ok.rd (nil_ptr _ _) (Ok.rd (fld100_1 _ _) (Ok.rd y1 ?_))
    have hlen2 : (done.flatMap (·.2.2)).length + n.2.2.length ≤ 2 ^ 21 := by
      have : ns.flatMap (·.2.2) = done.flatMap (·.2.2) ++ (n.2.2 ++ rest.flatMap (·.2.2)) := by rw [hn]; simp
      rw [this] at b2
      simp at b2 ⊢; omega
    refine Ok.bind (sl_append' T98 enP (h2.foc (k := 3) rfl) y2 (by omega)) ?_
    rintro bv2 w3 ⟨g3, s3⟩
    have h3 : Sat w3 (slH 81 1 encV ov vs :: slH 55 1 encP rv (ns.map (·.1)) :: slH 3 1 encN cv2 ((done ++ [n]).map (·.2.1.length)) :: slH 55 1 encP bv2 ((done ++ [n]).flatMap (·.2.2)) :: (nds ns ++ G)) := by
      have := Sat.unf (k := 3) (F := _ :: _ :: _ :: _ :: (nds ns ++ G)) rfl g3
      rw [List.flatMap_append]
      simpa using this
    refine Ok.rd2 (bin_add1 (by omega)) ?_
    refine ih (done ++ [n]) _ w3 cv2 bv2 (by rw [hn]; simp) h3 ?_ ?_ ?_ rfl rfl ?_ ?_ ?_
    · exact e19
    · exact e20
    · rw [List.length_append]; rfl
    · exact e3
    · exact e46
    · intro e' w' cv' bv' ov' hc s'
      exact hend e' w' cv' bv' ov' hc (s1.trans (s2.trans (s3.trans s')))

/-! ### The trees of a level, opened -/

def nof (h : Nat) : List (Nat × BT (h + 1)) → List (List (Nat × BT h)) → List N3
  | q :: qs, ks :: kss => (q.1, q.2.1, ks.map (·.1)) :: nof h qs kss
  | _, _ => []

theorem open_all {h : Nat} : ∀ {qs : List (Nat × BT (h + 1))} {F : List HP}, Sat w (fo (h + 1) qs ++ F) → ∃ kss : List (List (Nat × BT h)), kss.map (·.map (·.2)) = qs.map (·.2.2) ∧ Sat w (nds (nof h qs kss) ++ (fo h kss.flatten ++ F))
  | [], F, hs => ⟨[], rfl, hs⟩
  | q :: qs, F, hs => by
    obtain ⟨ks, h1, hs⟩ := tr_open1 (h := h) (p := q.1) (t := q.2) (F := fo (h + 1) qs ++ F) hs
    have hs1 : Sat w (fo (h + 1) qs ++ (nd q.1 q.2.1 (ks.map (·.1)) :: (fo h ks ++ F))) := by
      refine hs.perm ?_
      refine List.Perm.trans ?_ List.perm_middle.symm
      refine List.Perm.cons _ ?_
      rw [← List.append_assoc, ← List.append_assoc]
      exact List.Perm.append_right _ List.perm_append_comm
    obtain ⟨kss, h2, hs2⟩ := open_all hs1
    refine ⟨ks :: kss, by simp [h1, h2], ?_⟩
    have hp : (nds (nof h qs kss) ++ (fo h kss.flatten ++ (nd q.1 q.2.1 (ks.map (·.1)) :: (fo h ks ++ F)))).Perm (nd q.1 q.2.1 (ks.map (·.1)) :: (nds (nof h qs kss) ++ (fo h (ks ++ kss.flatten) ++ F))) := by
      rw [← List.append_assoc]
      refine List.perm_middle.trans (List.Perm.cons _ ?_)
      rw [List.append_assoc, fo_app]
      refine List.Perm.append_left _ ?_
      rw [← List.append_assoc]
      exact List.Perm.append_right _ List.perm_append_comm
    exact hs2.perm hp
theorem close_all {h : Nat} : ∀ {qs : List (Nat × BT (h + 1))} {kss : List (List (Nat × BT h))} {F : List HP}, kss.map (·.map (·.2)) = qs.map (·.2.2) → Sat w (nds (nof h qs kss) ++ (fo h kss.flatten ++ F)) → Sat w (fo (h + 1) qs ++ F)
  | [], [], F, _, hs => hs
  | [], _ :: _, F, hq, hs => by cases hq
  | _ :: _, [], F, hq, hs => by cases hq
  | q :: qs, ks :: kss, F, hq, hs => by
    simp only [List.map_cons, List.cons.injEq] at hq
    have hp : (nds (nof h qs kss) ++ (fo h kss.flatten ++ (nd q.1 q.2.1 (ks.map (·.1)) :: (fo h ks ++ F)))).Perm (nd q.1 q.2.1 (ks.map (·.1)) :: (nds (nof h qs kss) ++ (fo h (ks ++ kss.flatten) ++ F))) := by
      rw [← List.append_assoc]
      refine List.perm_middle.trans (List.Perm.cons _ ?_)
      rw [List.append_assoc, fo_app]
      refine List.Perm.append_left _ ?_
      rw [← List.append_assoc]
      exact List.Perm.append_right _ List.perm_append_comm
    have hs1 := close_all hq.2 (hs.perm hp.symm)
    have hs2 : Sat w (nd q.1 q.2.1 (ks.map (·.1)) :: (fo h ks ++ (fo (h + 1) qs ++ F))) := by
      refine hs1.perm ?_
      refine List.perm_middle.trans (List.Perm.cons _ ?_)
      rw [← List.append_assoc, ← List.append_assoc]
      exact List.Perm.append_right _ List.perm_append_comm
    have := tr_mk1 hs2
    rw [hq.1] at this
    exact this


/-! ### The outer loop -/

def rowsL (vs : List V1) (rows : List (List Nat)) : List HP := List.zipWith (fun u r => slH 3 1 encN u.1 r) vs rows
theorem rowsL_snoc {vs : List V1} {rows : List (List Nat)} (h : vs.length = rows.length) (u : V1) (r : List Nat) : rowsL (vs ++ [u]) (rows ++ [r]) = rowsL vs rows ++ [slH 3 1 encN u.1 r] := by
  unfold rowsL; rw [List.zipWith_append h]; rfl

theorem il_len : ∀ {l : List Ent} {ks : List (List Ent)}, ks.length = l.length + 1 → (il l ks).length = l.length + (ks.map List.length).sum
  | [], [k], _ => by simp [il, rpart]
  | e :: l, k :: b :: ks, h => by
    have ih := il_len (l := l) (ks := b :: ks) (by simpa using h)
    have : il (e :: l) (k :: b :: ks) = k ++ e :: il l (b :: ks) := by simp [il, rpart]
    rw [this]
    simp only [List.length_append, List.length_cons, ih, List.map_cons, List.sum_cons]
    omega
theorem flat_len {h : Nat} {t : BT (h + 1)} (hw : wf (h + 1) t) : (flat (h + 1) t).length = t.1.length + (t.2.map fun k => (flat h k).length).sum := by
  show (il t.1 (t.2.map (flat h))).length = _
  rw [il_len (by rw [List.length_map]; exact hw.2.1), List.map_map]; rfl
theorem ents_le : ∀ {h : Nat} {t : BT h}, wf h t → (ents h t).length ≤ (flat h t).length
  | 0, _, _ => Nat.le_refl _
  | _ + 1, _, hw => by rw [flat_len hw]; exact Nat.le_add_right _ _

theorem perm_in {A B R G : List HP} {c : HP} : (A ++ (c :: (B ++ (R ++ G)))).Perm (B ++ ((R ++ [c]) ++ (A ++ G))) := by
  have e1 : (A ++ (c :: (B ++ (R ++ G)))) = ((A ++ [c]) ++ B) ++ (R ++ G) := by simp
  have e2 : (B ++ ((R ++ [c]) ++ (A ++ G))) = B ++ (((R ++ [c]) ++ A) ++ G) := by simp
  rw [e1, e2]
  refine (List.Perm.append_right _ List.perm_append_comm).trans ?_
  rw [List.append_assoc]
  refine List.Perm.append_left _ ?_
  rw [← List.append_assoc]
  refine List.Perm.append_right _ ?_
  rw [List.append_assoc, List.append_assoc]
  exact (List.perm_append_comm (l₁ := A) (l₂ := [c] ++ R)).trans (by
    rw [← List.append_assoc]
    exact List.Perm.append_right _ List.perm_append_comm)
theorem perm_out {A B R G : List HP} : (B ++ (R ++ (A ++ G))).Perm (A ++ (B ++ (R ++ G))) := by
  have e1 : (B ++ (R ++ (A ++ G))) = ((B ++ R) ++ A) ++ G := by simp
  have e2 : (A ++ (B ++ (R ++ G))) = (A ++ (B ++ R)) ++ G := by simp
  rw [e1, e2]
  exact List.Perm.append_right _ List.perm_append_comm

theorem nof_map {h : Nat} : ∀ {qs : List (Nat × BT (h + 1))} {kss : List (List (Nat × BT h))}, kss.map (·.map (·.2)) = qs.map (·.2.2) →
    (nof h qs kss).map (·.1) = qs.map (·.1) ∧ (nof h qs kss).map (·.2.1.length) = qs.map (fun q => q.2.1.length) ∧ (nof h qs kss).flatMap (·.2.2) = kss.flatten.map (·.1) ∧ (nof h qs kss).length = qs.length
  | [], [], _ => ⟨rfl, rfl, rfl, rfl⟩
  | [], _ :: _, hq => by cases hq
  | _ :: _, [], hq => by cases hq
  | q :: qs, ks :: kss, hq => by
    simp only [List.map_cons, List.cons.injEq] at hq
    obtain ⟨h1, h2, h3, h4⟩ := nof_map hq.2
    refine ⟨?_, ?_, ?_, ?_⟩
    · simp [nof, h1]
    · simp [nof, h2]
    · simp [nof, h3]
    · simp [nof, h4]

def tot (h : Nat) (qs : List (Nat × BT h)) : Nat := (qs.map fun q => (flat h q.2).length).sum
theorem tot_kids {h : Nat} : ∀ {qs : List (Nat × BT (h + 1))} {kss : List (List (Nat × BT h))}, kss.map (·.map (·.2)) = qs.map (·.2.2) → (∀ q ∈ qs, wf (h + 1) q.2) → tot h kss.flatten ≤ tot (h + 1) qs
  | [], [], _, _ => Nat.le_refl _
  | [], _ :: _, hq, _ => by cases hq
  | _ :: _, [], hq, _ => by cases hq
  | q :: qs, ks :: kss, hq, hw => by
    simp only [List.map_cons, List.cons.injEq] at hq
    have ih := tot_kids hq.2 fun q hm => hw q (by simp [hm])
    have h1 := flat_len (hw q (by simp))
    rw [← hq.1, List.map_map] at h1
    simp only [tot, List.flatten_cons, List.map_append, List.sum_append, List.map_cons, List.sum_cons] at ih ⊢
    have h2 : (ks.map ((fun k => (flat h k).length) ∘ fun x => x.2)).sum = (ks.map fun q => (flat h q.2).length).sum := rfl
    omega
theorem len_tot {h : Nat} : ∀ {qs : List (Nat × BT h)}, (∀ q ∈ qs, wf h q.2 ∧ 2 ≤ (ents h q.2).length) → qs.length ≤ tot h qs
  | [], _ => Nat.zero_le _
  | q :: qs, hw => by
    have ih := len_tot (qs := qs) fun q hm => hw q (by simp [hm])
    have h1 := hw q (by simp)
    have h2 := ents_le h1.1
    simp only [tot, List.map_cons, List.sum_cons, List.length_cons] at ih ⊢
    omega

theorem lv_exit {rv ov : Value} {e : Env} (hs : Sat w (slH 55 1 encP rv ([] : List Nat) :: F)) (e3 : e 3 = ov) (e4 : e 4 = rv) (e46 : e 46 = undef) :
    evalLoop (cx16 (Fn Pg) (Rnd Pg)) (cdA Go.Proofs.Try.f16 [1, 1, 1, 0, 1, 0, 0]) (K16_2 (Fn Pg) (Rnd Pg)) e w = some (ov, w) := by
  have : Ok (evalLoop (cx16 (Fn Pg) (Rnd Pg)) (cdA Go.Proofs.Try.f16 [1, 1, 1, 0, 1, 0, 0]) (K16_2 (Fn Pg) (Rnd Pg)) e w) fun v w' => v = ov ∧ w' = w := by
    rw [S16_L1_eq]; unfold S16_L1
    rw [e3, e4, e46]
    refine go_lenk hs 0 rfl (Ok.rd2 bin_gtr (Ok.cf rfl (Ok.ret ⟨rfl, rfl⟩)))
  obtain ⟨v, w', h1, rfl, rfl⟩ := this
  exact h1

theorem one_in2 {a : HP} {X Y Z : List HP} (hs : Sat w (a :: (X ++ (Y ++ Z)))) : Sat w (X ++ (Y ++ (a :: Z))) := by
  have h1 : Sat w (a :: ((X ++ Y) ++ Z)) := by rw [List.append_assoc]; exact hs
  have h2 := h1.perm List.perm_middle.symm
  rw [List.append_assoc] at h2
  exact h2
theorem two_in {a b : HP} {X Y : List HP} (hs : Sat w (a :: b :: (X ++ Y))) : Sat w (X ++ (a :: b :: Y)) := hs.perm ((List.perm_middle.symm.cons _).trans List.perm_middle.symm)
theorem two_out {a b : HP} {X Y : List HP} (hs : Sat w (X ++ (a :: b :: Y))) : Sat w (a :: b :: (X ++ Y)) := hs.perm (List.perm_middle.trans (List.perm_middle.cons _))

theorem lv_loop1 : ∀ (h : Nat) (qs : List (Nat × BT h)) (e : Env) (w : World) (ov rv : Value) (vs : List V1) (rows : List (List Nat)) (G : List HP), qs ≠ [] → (∀ q ∈ qs, wf h q.2) → tot h qs ≤ 2 ^ 20 → qs.length ≤ 2 ^ 20 → vs.length = rows.length → vs.length + h ≤ 2 ^ 20 →
    Sat w (slH 81 1 encV ov vs :: slH 55 1 encP rv (qs.map (·.1)) :: (fo h qs ++ (rowsL vs rows ++ G))) → e 3 = ov → e 4 = rv → e 46 = undef →
    Ok (evalLoop (cx16 (Fn Pg) (Rnd Pg)) (cdA Go.Proofs.Try.f16 [1, 1, 1, 0, 1, 0, 0]) (K16_2 (Fn Pg) (Rnd Pg)) e w) fun v w' => ∃ vs' : List V1, vs'.length = (rows ++ lvs h (qs.map (·.2))).length ∧
      Sat w' (slH 81 1 encV v vs' :: (fo h qs ++ (rowsL vs' (rows ++ lvs h (qs.map (·.2))) ++ G))) ∧ Sm w w' := by
  intro h
  induction h with
  | zero =>
    intro qs e w ov rv vs rows G hne hw ht hl hvr hb hs e3 e4 e46
    rw [S16_L1_eq]; unfold S16_L1
    rw [e4]
    have hpos : 0 < qs.length := List.length_pos_iff.2 hne
    refine go_lenk hs 1 rfl (Ok.rd2 bin_gtr (Ok.ct (by simp; omega) ?_))
    refine go_lenk hs 1 rfl ?_
    let ns : List N3 := qs.map fun q => (q.1, q.2, [])
    have hnd : nds ns = fo 0 qs := by simp [ns, nds, fo, tr]
    have hn1 : ns.map (·.1) = qs.map (·.1) := by simp [ns]
    have hn2 : ns.flatMap (·.2.2) = [] := by
      rw [List.flatMap_eq_nil_iff]
      intro x hx
      obtain ⟨q, _, rfl⟩ := List.mem_map.1 hx
      rfl
    have hnl : ns.length = qs.length := List.length_map _
    have hn3 : ns.map (·.2.1.length) = qs.map (fun q => (ents 0 q.2).length) := by simp [ns, ents]
    have h1 : Sat w (slH 55 1 encP (.slice none 0 0) [] :: slH 3 1 encN (.slice none 0 0) [] :: _) := slH_nil none (slH_nil none hs)
    refine lv_loop2 (ns := ns) (rv := rv) (ov := ov) (vs := vs) (G := rowsL vs rows ++ G) (by simp [ns]; omega) (by rw [hn2]; simp) (by omega) ns [] _ w (.slice none 0 0) (.slice none 0 0) rfl ?_ rfl (by show int ((qs.map (·.1)).length : Nat) = _; rw [List.length_map, hnl]) rfl rfl rfl e3 e46 ?_
    · rw [hnd, hn1]; exact h1.re [2, 3, 1, 0] (by decide)
    · intro e' w' cv' bv' ov' hc s' hs' e3' e4' e46'
      rw [hn2] at hs'
      rw [lv_exit (hs'.foc (k := 1) rfl) e3' e4' e46']
      refine ⟨_, _, rfl, vs ++ [⟨cv', hc⟩], by simp [lvs, hvr], ?_, s'⟩
      rw [hnd, hn3] at hs'
      have h2 := (hs'.sw).drop
      rw [show lvs 0 (qs.map (·.2)) = [qs.map (fun q => (ents 0 q.2).length)] from by simp [lvs], rowsL_snoc hvr]
      refine h2.perm (List.Perm.cons _ (List.Perm.append_left _ ?_))
      rw [List.append_assoc]
      exact List.perm_middle.symm
  | succ h ih =>
    intro qs e w ov rv vs rows G hne hw ht hl hvr hb hs e3 e4 e46
    rw [S16_L1_eq]; unfold S16_L1
    rw [e4]
    have hpos : 0 < qs.length := List.length_pos_iff.2 hne
    refine go_lenk hs 1 rfl (Ok.rd2 bin_gtr (Ok.ct (by simp; omega) ?_))
    refine go_lenk hs 1 rfl ?_
    obtain ⟨kss, hq, h0⟩ := open_all (two_in hs)
    have h0 : Sat w (slH 81 1 encV ov vs :: slH 55 1 encP rv (qs.map (·.1)) :: (nds (nof h qs kss) ++ (fo h kss.flatten ++ (rowsL vs rows ++ G)))) := by
      have := two_out (X := nds (nof h qs kss) ++ fo h kss.flatten) (by rw [List.append_assoc]; exact h0)
      rw [List.append_assoc] at this
      exact this
    obtain ⟨m1, m2, m3, m4⟩ := nof_map hq
    have hkw : ∀ k ∈ kss.flatten, wf h k.2 ∧ 2 ≤ (ents h k.2).length := by
      intro k hk
      obtain ⟨ks, hks, hk⟩ := List.mem_flatten.1 hk
      have : ks.map (·.2) ∈ qs.map (·.2.2) := by rw [← hq]; exact List.mem_map_of_mem hks
      obtain ⟨q, hqm, hqe⟩ := List.mem_map.1 this
      exact wf_kid (hw q hqm) (by rw [hqe]; exact List.mem_map_of_mem hk)
    have hkt := tot_kids hq hw
    have hkl := len_tot hkw
    have hfl : (kss.flatten).map (·.2) = (qs.map (·.2)).flatMap (fun t => t.2) := by
      rw [List.map_flatten, hq, List.flatMap_map, List.flatMap_def]
    have hkne : kss.flatten ≠ [] := by
      intro hh
      rw [hh] at hfl
      cases qs with
      | nil => exact hne rfl
      | cons q qs =>
        have h2 := (hw q (by simp)).2.1
        have : (q.2.2).length = 0 := by
          have := congrArg List.length hfl
          simp at this
          omega
        omega
    have h1 : Sat w (slH 55 1 encP (.slice none 0 0) [] :: slH 3 1 encN (.slice none 0 0) [] :: _) := slH_nil none (slH_nil none h0)
    refine lv_loop2 (ns := nof h qs kss) (rv := rv) (ov := ov) (vs := vs) (G := fo h kss.flatten ++ (rowsL vs rows ++ G)) (by omega) (by rw [m3, List.length_map]; omega) (by omega) (nof h qs kss) [] _ w (.slice none 0 0) (.slice none 0 0) rfl ?_ rfl (by show int ((qs.map (·.1)).length : Nat) = _; rw [List.length_map, m4]) rfl rfl rfl e3 e46 ?_
    · rw [m1]; exact h1.re [2, 3, 1, 0] (by decide)
    · intro e' w' cv' bv' ov' hc s' hs' e3' e4' e46'
      rw [m3, m2] at hs'
      have h2 : Sat w' (slH 81 1 encV ov' (vs ++ [⟨cv', hc⟩]) :: slH 55 1 encP bv' (kss.flatten.map (·.1)) :: (fo h kss.flatten ++ (rowsL (vs ++ [⟨cv', hc⟩]) (rows ++ [qs.map (fun q => q.2.1.length)]) ++ (nds (nof h qs kss) ++ G)))) := by
        rw [rowsL_snoc hvr]
        exact hs'.perm ((perm_in.cons _).cons _)
      refine Ok.mono (ih kss.flatten e' w' ov' bv' _ _ _ hkne (fun q hm => (hkw q hm).1) (by omega) (by omega) (by simp [hvr]) (by simp; omega) h2 e3' e4' e46') ?_
      rintro v w2 ⟨vs', n1, n2, n3⟩
      have hlv : rows ++ lvs (h + 1) (qs.map (·.2)) = (rows ++ [qs.map (fun q => q.2.1.length)]) ++ lvs h (kss.flatten.map (·.2)) := by
        rw [hfl, List.append_assoc]
        show rows ++ ((qs.map (·.2)).map (fun t => (ents (h + 1) t).length) :: lvs h ((qs.map (·.2)).flatMap fun t => t.2)) = _
        rw [List.map_map]; rfl
      refine ⟨vs', by rw [hlv]; exact n1, ?_, s'.trans n3⟩
      rw [hlv]
      have n4 := one_in2 (n2.perm (perm_out.cons _))
      have n5 := close_all hq n4
      exact n5.perm List.perm_middle


/-- rows of numbers, laid out. -/
def rowsH (v : Value) (rows : List (List Nat)) : HP := fun x => ∃ vs : List V1, vs.length = rows.length ∧ stars (slH 81 1 encV v vs :: rowsL vs rows) x
theorem rowsH_open {v : Value} {rows : List (List Nat)} (hs : Sat w (rowsH v rows :: F)) : ∃ vs : List V1, vs.length = rows.length ∧ Sat w (slH 81 1 encV v vs :: (rowsL vs rows ++ F)) := by
  obtain ⟨vs, hs⟩ := Sat.ex.1 hs
  obtain ⟨h1, hs⟩ := Sat.and.1 hs
  exact ⟨vs, h1, Sat.flat.1 hs⟩

theorem levels_ok {T r h : Nat} {t : BT h} {n : Value} (hw : wf h t) (hs : Sat w (pt T [ptr r 0, n] 57 :: tr h r t :: F)) (hb : (flat h t).length ≤ 2 ^ 20) (hh : h ≤ 2 ^ 20) :
    Ok (Fn Pg 16 [ptr T 0] w) fun v w' => Sat w' (rowsH v (lvs h [t]) :: pt T [ptr r 0, n] 57 :: tr h r t :: F) ∧ Sm w w' := by
  rw [F16]; unfold S16
  refine Ok.rd2 (none_ok hs 0 rfl) (Ok.cf rfl ?_)
  refine Ok.rd (nil_ptr _ _) (Ok.rd (fld57_0 _ _) (Ok.rd (ld_root hs 0 rfl) ?_))
  refine go_bsk hs fun nb w1 h1 s1 => ?_
  have q1 : Sat w1 (slH 55 1 encP (sl nb 0 1 1) [r] :: pt T [ptr r 0, n] 57 :: tr h r t :: F) := slH_mk (l := encP r) rfl rfl (by simp) (by simp [encP]) h1
  have q2 : Sat w1 (slH 81 1 encV (.slice none 0 0) [] :: _) := slH_nil none q1
  have q3 : Sat w1 (slH 81 1 encV (.slice none 0 0) [] :: slH 55 1 encP (sl nb 0 1 1) ([(r, t)].map (·.1)) :: (fo h [(r, t)] ++ (rowsL [] [] ++ (pt T [ptr r 0, n] 57 :: F)))) := q2.re [0, 1, 3, 2] (by decide)
  refine Ok.mono (lv_loop1 h [(r, t)] _ w1 _ _ [] [] (pt T [ptr r 0, n] 57 :: F) (by simp) (fun q hq => by simp at hq; subst hq; exact hw) (by simp [tot]; omega) (by simp) rfl (by simpa using hh) q3 rfl rfl rfl) ?_
  rintro v w2 ⟨vs, n1, n2, n3⟩
  have n2 : Sat w2 (slH 81 1 encV v vs :: tr h r t :: (rowsL vs (lvs h [t]) ++ (pt T [ptr r 0, n] 57 :: F))) := n2
  refine ⟨Sat.ex.2 ⟨vs, Sat.and.2 ⟨n1, Sat.flat.2 ?_⟩⟩, s1.trans n3⟩
  refine n2.perm (List.Perm.cons _ ?_)
  refine List.Perm.trans ?_ (List.Perm.append_left _ (List.Perm.swap _ _ _))
  exact List.perm_middle.symm

end Go.Cb
