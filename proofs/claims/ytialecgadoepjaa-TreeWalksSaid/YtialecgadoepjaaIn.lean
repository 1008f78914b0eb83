/-
  slices.Clone, Insert and Delete at the tree's entries and at its nodes.
-/
import Derived.Test.YtialecgadoepjaaTy
set_option linter.unusedVariables false
set_option linter.unusedSimpArgs false
namespace Go.Cb
/-! ### 37 -/
section
variable {w : World} {F : List HP} {v x : Value} {xs ys : List Ent}

theorem clone81 (h : Sat w F) (hx : Src w x ys.length 2 (ys.flatMap encE)) (hb : ys.length ≤ 2 ^ 30) : Ok (Fn Pg 81 [x] w) fun v w' => Sat w' (slH 40 2 encE v ys :: F) ∧ Sm w w' := by
  obtain ⟨a, c, rfl⟩ := hx.len
  rw [F81]; unfold S81
  refine Ok.rd2 (eql_nilS T37.u) ?_
  cases a with
  | none =>
    refine Ok.ct rfl ?_
    refine Ok.ret ⟨?_, Sm.refl w⟩
    have hn : ys = [] := by
      rcases hx with ⟨_, hx, hn, _⟩ | ⟨_, _, hx, _⟩
      · exact List.length_eq_zero_iff.1 hn
      · cases hx
    subst hn
    exact slH_nil none h
  | some a =>
    obtain ⟨i, z, hi, _⟩ := T37.i
    refine Ok.cf rfl ?_
    refine Ok.rd2 (slice0_ok T37.u hi) ?_
    have hE := Ext.push (fun _ => False) w (.cells #[] 40)
    have h0 : Sat { w with heap := w.heap.push (.cells #[] 40) } (slH 40 2 encE (sl w.heap.size 0 0 0) [] :: F) :=
      slH_mk (l := []) rfl (by simp) (by simp) (by simp) (h.new hE (fun _ _ hf => hf) (At.new w [] 40) (Nat.le_refl _))
    have hb' : ([] : List Ent).length + ys.length ≤ 2 ^ 30 := by rw [List.length_nil, Nat.zero_add]; exact hb
    have hA := sl_append' T37 enE h0 (hx.ext hE fun _ _ hf => hf) hb' (rt := 37) (cs := #[false, false])
    refine Ok.bind hA ?_
    intro v w' hq
    exact Ok.ret ⟨by simpa using hq.1, hE.sm.trans hq.2⟩

theorem delete85 (h : Sat w (slH 40 2 encE v xs :: F)) {i : Nat} (hi : i < xs.length) (hb : xs.length ≤ 2 ^ 30) :
    Ok (Fn Pg 85 [v, int i, int (i + 1 : Nat)] w) fun v' w' => Sat w' (slH 40 2 encE v' (xs.eraseIdx i) :: F) ∧ Sm w w' := by
  obtain ⟨inf, z, hinf, hk, hz, hzs, _, _, hz1⟩ := T37.i
  rcases slH_cases h with ⟨a, rfl, rfl, h'⟩ | ⟨b, c, l, rfl, h1, h2, h3, h'⟩
  · simp at hi
  obtain ⟨x6, hx6⟩ := Option.isSome_iff_exists.1 (sl_lohimx (a := some (ad b 0)) (n := xs.length) (c := c) T37.u hinf (lo := i) (hh := i + 1) (mx := xs.length) (by omega) (by omega) (by omega) h2)
  obtain ⟨x12, hx12, hs12⟩ := sl_suf T37 enE h (lo := i + 1) (by omega)
  rw [F85]; unfold S85
  refine Ok.rd2 (len_sl T37.u _ _ _ _) ?_
  refine Ok.rd hx6 ?_
  refine Ok.rd2 bin_eql ?_
  refine Ok.cf (by simp; omega) ?_
  refine Ok.rd2 (len_sl T37.u _ _ _ _) ?_
  refine Ok.rd (sl_hi T37.u hinf (by omega)) ?_
  refine Ok.rd hx12 ?_
  have hq : (xs.drop (i + 1)).length = xs.length - (i + 1) := List.length_drop
  have hh1 : xs.length * 2 ≤ c * 2 := Nat.mul_le_mul_right 2 h2
  obtain ⟨w1, g1, g2, g3⟩ := append_room T37.app (w := drw w) h'.hp.drw (j := 0) rfl hs12.drw h1 (n := i) (by omega) (fun y hy => flat_one enE.one _ y hy) (rt := 37) (cs := #[false, false])
  refine Ok.rd2 (app_raw g1) ?_
  refine Ok.rd2 (len_sl T37.u _ _ _ _) ?_
  have hn1 : i + (xs.drop (i + 1)).length = xs.length - 1 := by omega
  rw [hn1]
  refine Ok.rd (sl_lohi T37.u hinf (lo := xs.length - 1) (hh := xs.length) h2 (by omega)) ?_
  rw [if_neg (by omega), hk]
  simp only [Option.map_some, show (⟨b, 0, none⟩ : Addr) = ad b 0 from rfl, add_ad, Nat.zero_add]
  rw [show xs.length - (xs.length - 1) = 1 from by omega]
  obtain ⟨l2, w2, g4, g5, g6, g7, g8⟩ := clear_ok T37.u hinf hz hzs hz1 g2 (j := 0) rfl (o := (xs.length - 1) * 2) (n := 1) (c := c - (xs.length - 1)) (by rw [lay_length]; omega) (rt := 0) (cs := #[false])
  refine Ok.rd2 (clear_raw g4) ?_
  refine Ok.ret ⟨?_, (g3.sm.trans g6.sm).drw⟩
  have hE := g3.trans g6 (T := fun d => d = b) (fun _ _ hd => hd) (fun _ _ hd => hd)
  have hlen : (xs.eraseIdx i).length = xs.length - 1 := List.length_eraseIdx_of_lt hi
  refine slH_mk hlen.symm (by rw [g7, lay_length]; exact h1) (by omega) ?_ (h'.put (w' := w2) hE.drwL (fun _ _ hd => hd) (g5.get (k := 0) rfl) (.inl rfl))
  have hfl : ((xs.drop (i + 1)).flatMap encE).length = (xs.length - (i + 1)) * 2 := by rw [flat_length enE.len, hq]
  rw [hlen, g8, lay_eq _ _ _ (by rw [hfl]; omega), List.eraseIdx_eq_take_drop_succ, List.flatMap_append]
  have e1 : l.take (i * 2) = (xs.take i).flatMap encE := by rw [← flat_take enE.len, ← h3, List.take_take, Nat.min_eq_left (by omega)]
  have e2 : ((xs.take i).flatMap encE).length = i * 2 := by rw [flat_length enE.len, List.length_take, Nat.min_eq_left (by omega)]
  rw [e1, List.take_append_of_le_length (by rw [List.length_append, e2, hfl]; omega), List.take_of_length_le (by rw [List.length_append, e2, hfl]; omega)]

theorem ov110 {bx b o n c : Nat} {lx l : List Value} (hx : At w bx lx 40) (hb : At w b l 40) (hne : bx ≠ b) (hl : l.length ≠ 0) : Fn Pg 110 [sl bx 0 1 1, sl b o n c] w = some (.bool false, w) := by
  obtain ⟨inf, z, hinf, hk, _⟩ := T37.i
  refine Fn_ext (e := Extern.SlicesOverlaps.overlaps #[37, 37] #[4]) Go.Proofs.Try.func110 (by kernel_rfl) (by kernel_rfl) (by kernel_rfl) (by kernel_rfl) ?_
  exact Lib.run_overlaps_apart w 37 4 40 T37.u _ (fun w => siz_run hinf w) (ad bx 0) (ad b o) 1 1 n c hne 40 40 lx.length l.length hx.shape hb.shape hl (hx.free 0) (hx.free lx.length)

theorem insert83 {bx : Nat} {y : Ent} {i : Nat} (h : Sat w (slH 40 2 encE v xs :: pt bx (encE y) 40 :: F)) (hi : i ≤ xs.length) (hb : xs.length + 1 ≤ 2 ^ 30) :
    Ok (Fn Pg 83 [v, int i, sl bx 0 1 1] w) fun v' w' => Sat w' (slH 40 2 encE v' (xs.take i ++ y :: xs.drop i) :: F) ∧ Sm w w' := by
  obtain ⟨inf, z, hinf, hk, hz, hzs, hby, hby0, hz1⟩ := T37.i
  obtain ⟨x4, hx4, hs4⟩ := sl_suf T37 enE h (lo := i) hi
  have hsx : ∀ {w : World}, At w bx (encE y) 40 → Src w (sl bx 0 1 1) 1 2 (encE y) := by
    intro w ha
    have := src_at (c := 1) ha (o := 0) (n := 1) (k := 2) (by rw [enE.len]; omega)
    rwa [List.drop_zero, List.take_of_length_le (by rw [enE.len]; omega)] at this
  rw [F83]; unfold S83
  refine Ok.rd hx4 ?_
  refine Ok.rd2 (len_sl T37.u _ _ _ _) ?_
  refine Ok.rd2 bin_eql ?_
  refine Ok.cf rfl ?_
  refine Ok.rd2 (sl_len T37 h _) ?_
  refine Ok.rd2 bin_eql ?_
  refine Ok.ci (fun hin => ?_) (fun hin => ?_)
  · have hin : i = xs.length := by simp at hin; omega
    refine Ok.bind (sl_append' T37 enE h (ys := [y]) (by simpa using hsx (h.re [1, 0] (by decide)).at) (by simpa using hb) (rt := 37) (cs := #[false, false])) ?_
    intro v' w' hq
    refine Ok.ret ⟨?_, hq.2⟩
    have h2 := (hq.1.re [1, 0] (by decide)).drop
    rw [hin, List.take_length, List.drop_length]
    exact h2
  have hin : i < xs.length := by simp at hin; omega
  rcases slH_cases h with ⟨a, rfl, rfl, h'⟩ | ⟨b, c, l, rfl, h1, h2, h3, h'⟩
  · simp at hin
  have hne : b ≠ bx := h'.ne
  have hmc : xs.length * 2 ≤ c * 2 := Nat.mul_le_mul_right 2 h2
  have hmi : i * 2 + 2 ≤ xs.length * 2 := by rw [← Nat.succ_mul]; exact Nat.mul_le_mul_right 2 hin
  have e1 : l.take (i * 2) = (xs.take i).flatMap encE := by rw [← flat_take enE.len, ← h3, List.take_take, Nat.min_eq_left (by omega)]
  have e2 : (l.drop (i * 2)).take ((xs.length - i) * 2) = (xs.drop i).flatMap encE := by
    rw [← flat_drop enE.len, ← h3, List.drop_take, Nat.sub_mul]
  have hl2 : ((xs.drop i).flatMap encE).length = (xs.length - i) * 2 := by rw [flat_length enE.len, List.length_drop]
  have hl1 : ((xs.take i).flatMap encE).length = i * 2 := by rw [flat_length enE.len, List.length_take, Nat.min_eq_left hi]
  have hsub : (xs.length - i) * 2 = xs.length * 2 - i * 2 := Nat.sub_mul _ _ _
  have hres : ∀ {w' : World} {b' c' : Nat} {l' : List Value}, l'.length = c' * 2 → xs.length + 1 ≤ c' → l'.take ((xs.length + 1) * 2) = (xs.take i).flatMap encE ++ (encE y ++ (xs.drop i).flatMap encE) → Sat w' (pt b' l' 40 :: F) →
      Sat w' (slH 40 2 encE (sl b' 0 (xs.length + 1) c') (xs.take i ++ y :: xs.drop i) :: F) := by
    intro w' b' c' l' g1 g2 g3 g4
    have hlen : (xs.take i ++ y :: xs.drop i).length = xs.length + 1 := by simp; omega
    refine slH_mk hlen.symm g1 (by omega) ?_ g4
    rw [hlen, g3, List.flatMap_append, List.flatMap_cons]
  refine Ok.rd2 (bin_addn (by omega)) ?_
  refine Ok.rd2 (cap_sl T37.u _ _ _ _) ?_
  refine Ok.rd2 bin_gtr ?_
  refine Ok.ci (fun hg => ?_) (fun hg => ?_)
  · have hg : c < xs.length + 1 := by simp at hg; omega
    refine Ok.rd (sl_hi T37.u hinf (by omega)) ?_
    refine Ok.rd2 (bin_addn (by omega)) ?_
    refine Ok.rd2 (bin_subn (by omega) (by omega)) ?_
    obtain ⟨c', l', w1, g1, g2, g3, g4, g5, g6, g7⟩ := append_make (t := 37) (t2 := 3) (ik := .i64) T37.u hinf hk hz hzs hby T37.k0 (by kernel_rfl) h'.hp (j := 0) rfl (n := i) (q := xs.length + 1 - i) h1 (by omega) (by omega) (by omega) (by omega) (rt := 37) (cs := #[false, false])
    refine Ok.rd2 (app_raw g1) ?_
    have s1 : Sat w1 (pt w.heap.size l' 40 :: pt b l 40 :: pt bx (encE y) 40 :: F) := h'.new g3 (fun _ _ hf => hf) (g2.get (k := 1) rfl) (Nat.le_refl _)
    have hm6 : (xs.length + 1) * 2 ≤ c' * 2 := Nat.mul_le_mul_right 2 (by omega)
    have hs1 : (xs.length + 1) * 2 = xs.length * 2 + 2 := Nat.succ_mul _ _
    refine Ok.rd (sl_lo T37.u hinf (by omega)) ?_
    rw [if_neg (by omega), hk]
    simp only [Option.map_some, show ∀ b : Nat, (⟨b, 0, none⟩ : Addr) = ad b 0 from fun _ => rfl, add_ad, Nat.zero_add]
    rw [show i + (xs.length + 1 - i) - i = xs.length + 1 - i from by omega]
    have hfx := firstCells_run (P := Pg) (hsx (s1.re [2, 0, 1] (by decide)).at)
    obtain ⟨w2, k1, k2, k3⟩ := copy_ok (P := Pg) (t := 37) (t2 := 37) T37.u hinf hk s1.hp (j := 0) rfl (o := i * 2) (n := xs.length + 1 - i) (c := c' - i) (q := 1) (x := sl bx 0 1 1) rfl (ys := encE y)
      (by rw [Nat.min_eq_left (by omega)]; exact hfx) (by rw [Nat.min_eq_left (by omega), enE.len]) (by rw [Nat.sub_mul, g5]; omega) (enE.one y) (rt := 3) (cs := #[false, false])
    refine Ok.rd2 (copy_raw k1) ?_
    have s2 := s1.put k3 (fun _ _ hd => hd) (k2.get (k := 0) rfl) (.inl rfl)
    refine Ok.rd2 (bin_addn (st := true) (by omega)) ?_
    refine Ok.rd (sl_lo T37.u hinf (by omega)) ?_
    rw [if_neg (by omega), hk]
    simp only [Option.map_some, show ∀ b : Nat, (⟨b, 0, none⟩ : Addr) = ad b 0 from fun _ => rfl, add_ad, Nat.zero_add]
    refine Ok.rd (sl_lo T37.u hinf hi) ?_
    rw [if_neg (by omega), hk]
    simp only [Option.map_some, show ∀ b : Nat, (⟨b, 0, none⟩ : Addr) = ad b 0 from fun _ => rfl, add_ad, Nat.zero_add]
    rw [show i + (xs.length + 1 - i) - (i + 1) = xs.length - i from by omega]
    have hs3 := src_at (k := 2) (c := c - i) (s2.re [1, 0] (by decide)).at (o := i * 2) (n := xs.length - i) (by omega)
    rw [e2] at hs3
    have hfy := firstCells_run (P := Pg) hs3.drw
    obtain ⟨w3, m1, m2, m3⟩ := copy_ok (P := Pg) (t := 37) (t2 := 37) T37.u hinf hk (Sat.drw s2).hp (j := 0) rfl (o := (i + 1) * 2) (n := xs.length - i) (c := c' - (i + 1)) (q := xs.length - i) rfl (ys := (xs.drop i).flatMap encE)
      (by rw [Nat.min_self]; exact hfy) (by rw [Nat.min_self, hl2]) (by rw [lay_length, g5, Nat.succ_mul]; omega) (fun u hu => flat_one enE.one _ u hu) (rt := 3) (cs := #[false, false])
    refine Ok.rd2 (copy_raw m1) ?_
    have s3 := (Sat.drw s2).put m3 (fun _ _ hd => hd) (m2.get (k := 0) rfl) (.inl rfl)
    refine Ok.ret ⟨?_, g3.sm.trans (k3.sm.trans m3.sm.drw)⟩
    have s4 : Sat w3 (pt w.heap.size (lay (lay l' (i * 2) (encE y)) ((i + 1) * 2) ((xs.drop i).flatMap encE)) 40 :: F) := s3.re [0, 1, 2] (by decide) |>.re [1, 2, 0] (by decide) |>.drop |>.drop
    rw [show i + (xs.length + 1 - i) = xs.length + 1 from by omega]
    refine hres (by rw [lay_length, lay_length]; exact g5) (by omega) ?_ s4
    obtain ⟨A, M, N, R, hl', hA, hM, hN, hA'⟩ := split_at l' (a := i * 2) (b := 2) (c := (xs.length - i) * 2) (by rw [g5]; omega)
    rw [hA', g4, e1] at hl'
    rw [hl', lay_mid _ _ _ _ (by rw [hM, enE.len]) hl1.symm, ← List.append_assoc, lay_mid _ _ _ _ (by rw [hN, hl2]) (by rw [List.length_append, hl1, enE.len, Nat.succ_mul]), ← List.append_assoc, List.take_append_of_le_length (by simp only [List.length_append, hl1, hl2, enE.len]; omega),
      List.take_of_length_le (by simp only [List.length_append, hl1, hl2, enE.len]; omega), List.append_assoc]
  · have hg : xs.length + 1 ≤ c := by simp at hg; omega
    have hm6 : (xs.length + 1) * 2 ≤ c * 2 := Nat.mul_le_mul_right 2 (by omega)
    have hs1 : (xs.length + 1) * 2 = xs.length * 2 + 2 := Nat.succ_mul _ _
    refine Ok.rd2 (bin_addn (by omega)) ?_
    refine Ok.rd (sl_hi T37.u hinf hg) ?_
    refine Ok.rd2 (bin_addn (by omega)) ?_
    refine Ok.rd (sl_lo T37.u hinf (by omega)) ?_
    rw [if_neg (by omega), hk]
    simp only [Option.map_some, show ∀ b : Nat, (⟨b, 0, none⟩ : Addr) = ad b 0 from fun _ => rfl, add_ad, Nat.zero_add]
    refine Ok.rd2 (ov110 (h'.re [1, 0] (by decide)).at h'.at hne.symm (by omega)) ?_
    refine Ok.rd (un_not _) ?_
    refine Ok.ct rfl ?_
    refine Ok.rd2 (bin_addn (st := true) (by omega)) ?_
    refine Ok.rd (sl_lo T37.u hinf (by omega)) ?_
    rw [if_neg (by omega), hk]
    simp only [Option.map_some, show ∀ b : Nat, (⟨b, 0, none⟩ : Addr) = ad b 0 from fun _ => rfl, add_ad, Nat.zero_add]
    refine Ok.rd (sl_lo T37.u hinf (by omega)) ?_
    rw [if_neg (by omega), hk]
    simp only [Option.map_some, show ∀ b : Nat, (⟨b, 0, none⟩ : Addr) = ad b 0 from fun _ => rfl, add_ad, Nat.zero_add]
    rw [show xs.length + 1 - (i + 1) = xs.length - i from by omega]
    have hs3 := src_at (k := 2) (c := c - i) h'.at (o := i * 2) (n := xs.length - i) (by omega)
    rw [e2] at hs3
    have hfy := firstCells_run (P := Pg) hs3.drw
    obtain ⟨w3, m1, m2, m3⟩ := copy_ok (P := Pg) (t := 37) (t2 := 37) T37.u hinf hk (Sat.drw h').hp (j := 0) rfl (o := (i + 1) * 2) (n := xs.length - i) (c := c - (i + 1)) (q := xs.length + 1 - i) (x := sl b (i * 2) (xs.length + 1 - i) (c - i)) rfl (ys := (xs.drop i).flatMap encE)
      (by rw [Nat.min_eq_right (by omega)]; exact hfy) (by rw [Nat.min_eq_right (by omega), hl2]) (by rw [h1, Nat.succ_mul]; omega) (fun u hu => flat_one enE.one _ u hu) (rt := 3) (cs := #[false, false])
    refine Ok.rd2 (copy_raw m1) ?_
    have s3 := (Sat.drw h').put m3 (fun _ _ hd => hd) (m2.get (k := 0) rfl) (.inl rfl)
    refine Ok.rd (sl_lo T37.u hinf (by omega)) ?_
    rw [if_neg (by omega), hk]
    simp only [Option.map_some, show ∀ b : Nat, (⟨b, 0, none⟩ : Addr) = ad b 0 from fun _ => rfl, add_ad, Nat.zero_add]
    have hfx := firstCells_run (P := Pg) (hsx (s3.re [1, 0] (by decide)).at)
    obtain ⟨w2, k1, k2, k3⟩ := copy_ok (P := Pg) (t := 37) (t2 := 37) T37.u hinf hk s3.hp (j := 0) rfl (o := i * 2) (n := xs.length + 1 - i) (c := c - i) (q := 1) (x := sl bx 0 1 1) rfl (ys := encE y)
      (by rw [Nat.min_eq_left (by omega)]; exact hfx) (by rw [Nat.min_eq_left (by omega), enE.len]) (by rw [lay_length, h1, Nat.sub_mul]; omega) (enE.one y) (rt := 3) (cs := #[false, false])
    refine Ok.rd2 (copy_raw k1) ?_
    have s2 := s3.put k3 (fun _ _ hd => hd) (k2.get (k := 0) rfl) (.inl rfl)
    refine Ok.ret ⟨?_, m3.sm.drw.trans k3.sm⟩
    refine hres (by rw [lay_length, lay_length]; exact h1) hg ?_ (s2.re [1, 0] (by decide)).drop
    obtain ⟨A, M, N, R, hl', hA, hM, hN, hA'⟩ := split_at l (a := i * 2) (b := 2) (c := (xs.length - i) * 2) (by omega)
    rw [hA', e1] at hl'
    rw [hl', ← List.append_assoc, lay_mid _ _ _ _ (by rw [hN, hl2]) (by rw [List.length_append, hl1, hM, Nat.succ_mul]), List.append_assoc, lay_mid _ _ _ _ (by rw [hM, enE.len]) hl1.symm, ← List.append_assoc, ← List.append_assoc, List.take_append_of_le_length (by simp only [List.length_append, hl1, hl2, enE.len]; omega),
      List.take_of_length_le (by simp only [List.length_append, hl1, hl2, enE.len]; omega), List.append_assoc]
end
/-! ### 98 -/
section
variable {w : World} {F : List HP} {v x : Value} {xs ys : List Nat}

theorem clone82 (h : Sat w F) (hx : Src w x ys.length 1 (ys.flatMap encP)) (hb : ys.length ≤ 2 ^ 30) : Ok (Fn Pg 82 [x] w) fun v w' => Sat w' (slH 55 1 encP v ys :: F) ∧ Sm w w' := by
  obtain ⟨a, c, rfl⟩ := hx.len
  rw [F82]; unfold S82
  refine Ok.rd2 (eql_nilS T98.u) ?_
  cases a with
  | none =>
    refine Ok.ct rfl ?_
    refine Ok.ret ⟨?_, Sm.refl w⟩
    have hn : ys = [] := by
      rcases hx with ⟨_, hx, hn, _⟩ | ⟨_, _, hx, _⟩
      · exact List.length_eq_zero_iff.1 hn
      · cases hx
    subst hn
    exact slH_nil none h
  | some a =>
    obtain ⟨i, z, hi, _⟩ := T98.i
    refine Ok.cf rfl ?_
    refine Ok.rd2 (slice0_ok T98.u hi) ?_
    have hE := Ext.push (fun _ => False) w (.cells #[] 55)
    have h0 : Sat { w with heap := w.heap.push (.cells #[] 55) } (slH 55 1 encP (sl w.heap.size 0 0 0) [] :: F) :=
      slH_mk (l := []) rfl (by simp) (by simp) (by simp) (h.new hE (fun _ _ hf => hf) (At.new w [] 55) (Nat.le_refl _))
    have hb' : ([] : List Nat).length + ys.length ≤ 2 ^ 30 := by rw [List.length_nil, Nat.zero_add]; exact hb
    have hA := sl_append' T98 enP h0 (hx.ext hE fun _ _ hf => hf) hb' (rt := 98) (cs := #[false, false])
    refine Ok.bind hA ?_
    intro v w' hq
    exact Ok.ret ⟨by simpa using hq.1, hE.sm.trans hq.2⟩

theorem delete114 (h : Sat w (slH 55 1 encP v xs :: F)) {i : Nat} (hi : i < xs.length) (hb : xs.length ≤ 2 ^ 30) :
    Ok (Fn Pg 114 [v, int i, int (i + 1 : Nat)] w) fun v' w' => Sat w' (slH 55 1 encP v' (xs.eraseIdx i) :: F) ∧ Sm w w' := by
  obtain ⟨inf, z, hinf, hk, hz, hzs, _, _, hz1⟩ := T98.i
  rcases slH_cases h with ⟨a, rfl, rfl, h'⟩ | ⟨b, c, l, rfl, h1, h2, h3, h'⟩
  · simp at hi
  obtain ⟨x6, hx6⟩ := Option.isSome_iff_exists.1 (sl_lohimx (a := some (ad b 0)) (n := xs.length) (c := c) T98.u hinf (lo := i) (hh := i + 1) (mx := xs.length) (by omega) (by omega) (by omega) h2)
  obtain ⟨x12, hx12, hs12⟩ := sl_suf T98 enP h (lo := i + 1) (by omega)
  rw [F114]; unfold S114
  refine Ok.rd2 (len_sl T98.u _ _ _ _) ?_
  refine Ok.rd hx6 ?_
  refine Ok.rd2 bin_eql ?_
  refine Ok.cf (by simp; omega) ?_
  refine Ok.rd2 (len_sl T98.u _ _ _ _) ?_
  refine Ok.rd (sl_hi T98.u hinf (by omega)) ?_
  refine Ok.rd hx12 ?_
  have hq : (xs.drop (i + 1)).length = xs.length - (i + 1) := List.length_drop
  have hh1 : xs.length * 1 ≤ c * 1 := Nat.mul_le_mul_right 1 h2
  obtain ⟨w1, g1, g2, g3⟩ := append_room T98.app (w := drw w) h'.hp.drw (j := 0) rfl hs12.drw h1 (n := i) (by omega) (fun y hy => flat_one enP.one _ y hy) (rt := 98) (cs := #[false, false])
  refine Ok.rd2 (app_raw g1) ?_
  refine Ok.rd2 (len_sl T98.u _ _ _ _) ?_
  have hn1 : i + (xs.drop (i + 1)).length = xs.length - 1 := by omega
  rw [hn1]
  refine Ok.rd (sl_lohi T98.u hinf (lo := xs.length - 1) (hh := xs.length) h2 (by omega)) ?_
  rw [if_neg (by omega), hk]
  simp only [Option.map_some, show (⟨b, 0, none⟩ : Addr) = ad b 0 from rfl, add_ad, Nat.zero_add]
  rw [show xs.length - (xs.length - 1) = 1 from by omega]
  obtain ⟨l2, w2, g4, g5, g6, g7, g8⟩ := clear_ok T98.u hinf hz hzs hz1 g2 (j := 0) rfl (o := (xs.length - 1) * 1) (n := 1) (c := c - (xs.length - 1)) (by rw [lay_length]; omega) (rt := 0) (cs := #[false])
  refine Ok.rd2 (clear_raw g4) ?_
  refine Ok.ret ⟨?_, (g3.sm.trans g6.sm).drw⟩
  have hE := g3.trans g6 (T := fun d => d = b) (fun _ _ hd => hd) (fun _ _ hd => hd)
  have hlen : (xs.eraseIdx i).length = xs.length - 1 := List.length_eraseIdx_of_lt hi
  refine slH_mk hlen.symm (by rw [g7, lay_length]; exact h1) (by omega) ?_ (h'.put (w' := w2) hE.drwL (fun _ _ hd => hd) (g5.get (k := 0) rfl) (.inl rfl))
  have hfl : ((xs.drop (i + 1)).flatMap encP).length = (xs.length - (i + 1)) * 1 := by rw [flat_length enP.len, hq]
  rw [hlen, g8, lay_eq _ _ _ (by rw [hfl]; omega), List.eraseIdx_eq_take_drop_succ, List.flatMap_append]
  have e1 : l.take (i * 1) = (xs.take i).flatMap encP := by rw [← flat_take enP.len, ← h3, List.take_take, Nat.min_eq_left (by omega)]
  have e2 : ((xs.take i).flatMap encP).length = i * 1 := by rw [flat_length enP.len, List.length_take, Nat.min_eq_left (by omega)]
  rw [e1, List.take_append_of_le_length (by rw [List.length_append, e2, hfl]; omega), List.take_of_length_le (by rw [List.length_append, e2, hfl]; omega)]

theorem ov112 {bx b o n c : Nat} {lx l : List Value} (hx : At w bx lx 55) (hb : At w b l 55) (hne : bx ≠ b) (hl : l.length ≠ 0) : Fn Pg 112 [sl bx 0 1 1, sl b o n c] w = some (.bool false, w) := by
  obtain ⟨inf, z, hinf, hk, _⟩ := T98.i
  refine Fn_ext (e := Extern.SlicesOverlaps.overlaps #[98, 98] #[4]) Go.Proofs.Try.func112 (by kernel_rfl) (by kernel_rfl) (by kernel_rfl) (by kernel_rfl) ?_
  exact Lib.run_overlaps_apart w 98 4 55 T98.u _ (fun w => siz_run hinf w) (ad bx 0) (ad b o) 1 1 n c hne 55 55 lx.length l.length hx.shape hb.shape hl (hx.free 0) (hx.free lx.length)

theorem insert84 {bx : Nat} {y : Nat} {i : Nat} (h : Sat w (slH 55 1 encP v xs :: pt bx (encP y) 55 :: F)) (hi : i ≤ xs.length) (hb : xs.length + 1 ≤ 2 ^ 30) :
    Ok (Fn Pg 84 [v, int i, sl bx 0 1 1] w) fun v' w' => Sat w' (slH 55 1 encP v' (xs.take i ++ y :: xs.drop i) :: F) ∧ Sm w w' := by
  obtain ⟨inf, z, hinf, hk, hz, hzs, hby, hby0, hz1⟩ := T98.i
  obtain ⟨x4, hx4, hs4⟩ := sl_suf T98 enP h (lo := i) hi
  have hsx : ∀ {w : World}, At w bx (encP y) 55 → Src w (sl bx 0 1 1) 1 1 (encP y) := by
    intro w ha
    have := src_at (c := 1) ha (o := 0) (n := 1) (k := 1) (by rw [enP.len]; omega)
    rwa [List.drop_zero, List.take_of_length_le (by rw [enP.len]; omega)] at this
  rw [F84]; unfold S84
  refine Ok.rd hx4 ?_
  refine Ok.rd2 (len_sl T98.u _ _ _ _) ?_
  refine Ok.rd2 bin_eql ?_
  refine Ok.cf rfl ?_
  refine Ok.rd2 (sl_len T98 h _) ?_
  refine Ok.rd2 bin_eql ?_
  refine Ok.ci (fun hin => ?_) (fun hin => ?_)
  · have hin : i = xs.length := by simp at hin; omega
    refine Ok.bind (sl_append' T98 enP h (ys := [y]) (by simpa using hsx (h.re [1, 0] (by decide)).at) (by simpa using hb) (rt := 98) (cs := #[false, false])) ?_
    intro v' w' hq
    refine Ok.ret ⟨?_, hq.2⟩
    have h2 := (hq.1.re [1, 0] (by decide)).drop
    rw [hin, List.take_length, List.drop_length]
    exact h2
  have hin : i < xs.length := by simp at hin; omega
  rcases slH_cases h with ⟨a, rfl, rfl, h'⟩ | ⟨b, c, l, rfl, h1, h2, h3, h'⟩
  · simp at hin
  have hne : b ≠ bx := h'.ne
  have hmc : xs.length * 1 ≤ c * 1 := Nat.mul_le_mul_right 1 h2
  have hmi : i * 1 + 1 ≤ xs.length * 1 := by rw [← Nat.succ_mul]; exact Nat.mul_le_mul_right 1 hin
  have e1 : l.take (i * 1) = (xs.take i).flatMap encP := by rw [← flat_take enP.len, ← h3, List.take_take, Nat.min_eq_left (by omega)]
  have e2 : (l.drop (i * 1)).take ((xs.length - i) * 1) = (xs.drop i).flatMap encP := by
    rw [← flat_drop enP.len, ← h3, List.drop_take, Nat.sub_mul]
  have hl2 : ((xs.drop i).flatMap encP).length = (xs.length - i) * 1 := by rw [flat_length enP.len, List.length_drop]
  have hl1 : ((xs.take i).flatMap encP).length = i * 1 := by rw [flat_length enP.len, List.length_take, Nat.min_eq_left hi]
  have hsub : (xs.length - i) * 1 = xs.length * 1 - i * 1 := Nat.sub_mul _ _ _
  have hres : ∀ {w' : World} {b' c' : Nat} {l' : List Value}, l'.length = c' * 1 → xs.length + 1 ≤ c' → l'.take ((xs.length + 1) * 1) = (xs.take i).flatMap encP ++ (encP y ++ (xs.drop i).flatMap encP) → Sat w' (pt b' l' 55 :: F) →
      Sat w' (slH 55 1 encP (sl b' 0 (xs.length + 1) c') (xs.take i ++ y :: xs.drop i) :: F) := by
    intro w' b' c' l' g1 g2 g3 g4
    have hlen : (xs.take i ++ y :: xs.drop i).length = xs.length + 1 := by simp; omega
    refine slH_mk hlen.symm g1 (by omega) ?_ g4
    rw [hlen, g3, List.flatMap_append, List.flatMap_cons]
  refine Ok.rd2 (bin_addn (by omega)) ?_
  refine Ok.rd2 (cap_sl T98.u _ _ _ _) ?_
  refine Ok.rd2 bin_gtr ?_
  refine Ok.ci (fun hg => ?_) (fun hg => ?_)
  · have hg : c < xs.length + 1 := by simp at hg; omega
    refine Ok.rd (sl_hi T98.u hinf (by omega)) ?_
    refine Ok.rd2 (bin_addn (by omega)) ?_
    refine Ok.rd2 (bin_subn (by omega) (by omega)) ?_
    obtain ⟨c', l', w1, g1, g2, g3, g4, g5, g6, g7⟩ := append_make (t := 98) (t2 := 3) (ik := .i64) T98.u hinf hk hz hzs hby T98.k0 (by kernel_rfl) h'.hp (j := 0) rfl (n := i) (q := xs.length + 1 - i) h1 (by omega) (by omega) (by omega) (by omega) (rt := 98) (cs := #[false, false])
    refine Ok.rd2 (app_raw g1) ?_
    have s1 : Sat w1 (pt w.heap.size l' 55 :: pt b l 55 :: pt bx (encP y) 55 :: F) := h'.new g3 (fun _ _ hf => hf) (g2.get (k := 1) rfl) (Nat.le_refl _)
    have hm6 : (xs.length + 1) * 1 ≤ c' * 1 := Nat.mul_le_mul_right 1 (by omega)
    have hs1 : (xs.length + 1) * 1 = xs.length * 1 + 1 := Nat.succ_mul _ _
    refine Ok.rd (sl_lo T98.u hinf (by omega)) ?_
    rw [if_neg (by omega), hk]
    simp only [Option.map_some, show ∀ b : Nat, (⟨b, 0, none⟩ : Addr) = ad b 0 from fun _ => rfl, add_ad, Nat.zero_add]
    rw [show i + (xs.length + 1 - i) - i = xs.length + 1 - i from by omega]
    have hfx := firstCells_run (P := Pg) (hsx (s1.re [2, 0, 1] (by decide)).at)
    obtain ⟨w2, k1, k2, k3⟩ := copy_ok (P := Pg) (t := 98) (t2 := 98) T98.u hinf hk s1.hp (j := 0) rfl (o := i * 1) (n := xs.length + 1 - i) (c := c' - i) (q := 1) (x := sl bx 0 1 1) rfl (ys := encP y)
      (by rw [Nat.min_eq_left (by omega)]; exact hfx) (by rw [Nat.min_eq_left (by omega), enP.len]) (by rw [Nat.sub_mul, g5]; omega) (enP.one y) (rt := 3) (cs := #[false, false])
    refine Ok.rd2 (copy_raw k1) ?_
    have s2 := s1.put k3 (fun _ _ hd => hd) (k2.get (k := 0) rfl) (.inl rfl)
    refine Ok.rd2 (bin_addn (st := true) (by omega)) ?_
    refine Ok.rd (sl_lo T98.u hinf (by omega)) ?_
    rw [if_neg (by omega), hk]
    simp only [Option.map_some, show ∀ b : Nat, (⟨b, 0, none⟩ : Addr) = ad b 0 from fun _ => rfl, add_ad, Nat.zero_add]
    refine Ok.rd (sl_lo T98.u hinf hi) ?_
    rw [if_neg (by omega), hk]
    simp only [Option.map_some, show ∀ b : Nat, (⟨b, 0, none⟩ : Addr) = ad b 0 from fun _ => rfl, add_ad, Nat.zero_add]
    rw [show i + (xs.length + 1 - i) - (i + 1) = xs.length - i from by omega]
    have hs3 := src_at (k := 1) (c := c - i) (s2.re [1, 0] (by decide)).at (o := i * 1) (n := xs.length - i) (by omega)
    rw [e2] at hs3
    have hfy := firstCells_run (P := Pg) hs3.drw
    obtain ⟨w3, m1, m2, m3⟩ := copy_ok (P := Pg) (t := 98) (t2 := 98) T98.u hinf hk (Sat.drw s2).hp (j := 0) rfl (o := (i + 1) * 1) (n := xs.length - i) (c := c' - (i + 1)) (q := xs.length - i) rfl (ys := (xs.drop i).flatMap encP)
      (by rw [Nat.min_self]; exact hfy) (by rw [Nat.min_self, hl2]) (by rw [lay_length, g5, Nat.succ_mul]; omega) (fun u hu => flat_one enP.one _ u hu) (rt := 3) (cs := #[false, false])
    refine Ok.rd2 (copy_raw m1) ?_
    have s3 := (Sat.drw s2).put m3 (fun _ _ hd => hd) (m2.get (k := 0) rfl) (.inl rfl)
    refine Ok.ret ⟨?_, g3.sm.trans (k3.sm.trans m3.sm.drw)⟩
    have s4 : Sat w3 (pt w.heap.size (lay (lay l' (i * 1) (encP y)) ((i + 1) * 1) ((xs.drop i).flatMap encP)) 55 :: F) := s3.re [0, 1, 2] (by decide) |>.re [1, 2, 0] (by decide) |>.drop |>.drop
    rw [show i + (xs.length + 1 - i) = xs.length + 1 from by omega]
    refine hres (by rw [lay_length, lay_length]; exact g5) (by omega) ?_ s4
    obtain ⟨A, M, N, R, hl', hA, hM, hN, hA'⟩ := split_at l' (a := i * 1) (b := 1) (c := (xs.length - i) * 1) (by rw [g5]; omega)
    rw [hA', g4, e1] at hl'
    rw [hl', lay_mid _ _ _ _ (by rw [hM, enP.len]) hl1.symm, ← List.append_assoc, lay_mid _ _ _ _ (by rw [hN, hl2]) (by rw [List.length_append, hl1, enP.len, Nat.succ_mul]), ← List.append_assoc, List.take_append_of_le_length (by simp only [List.length_append, hl1, hl2, enP.len]; omega),
      List.take_of_length_le (by simp only [List.length_append, hl1, hl2, enP.len]; omega), List.append_assoc]
  · have hg : xs.length + 1 ≤ c := by simp at hg; omega
    have hm6 : (xs.length + 1) * 1 ≤ c * 1 := Nat.mul_le_mul_right 1 (by omega)
    have hs1 : (xs.length + 1) * 1 = xs.length * 1 + 1 := Nat.succ_mul _ _
    refine Ok.rd2 (bin_addn (by omega)) ?_
    refine Ok.rd (sl_hi T98.u hinf hg) ?_
    refine Ok.rd2 (bin_addn (by omega)) ?_
    refine Ok.rd (sl_lo T98.u hinf (by omega)) ?_
    rw [if_neg (by omega), hk]
    simp only [Option.map_some, show ∀ b : Nat, (⟨b, 0, none⟩ : Addr) = ad b 0 from fun _ => rfl, add_ad, Nat.zero_add]
    refine Ok.rd2 (ov112 (h'.re [1, 0] (by decide)).at h'.at hne.symm (by omega)) ?_
    refine Ok.rd (un_not _) ?_
    refine Ok.ct rfl ?_
    refine Ok.rd2 (bin_addn (st := true) (by omega)) ?_
    refine Ok.rd (sl_lo T98.u hinf (by omega)) ?_
    rw [if_neg (by omega), hk]
    simp only [Option.map_some, show ∀ b : Nat, (⟨b, 0, none⟩ : Addr) = ad b 0 from fun _ => rfl, add_ad, Nat.zero_add]
    refine Ok.rd (sl_lo T98.u hinf (by omega)) ?_
    rw [if_neg (by omega), hk]
    simp only [Option.map_some, show ∀ b : Nat, (⟨b, 0, none⟩ : Addr) = ad b 0 from fun _ => rfl, add_ad, Nat.zero_add]
    rw [show xs.length + 1 - (i + 1) = xs.length - i from by omega]
    have hs3 := src_at (k := 1) (c := c - i) h'.at (o := i * 1) (n := xs.length - i) (by omega)
    rw [e2] at hs3
    have hfy := firstCells_run (P := Pg) hs3.drw
    obtain ⟨w3, m1, m2, m3⟩ := copy_ok (P := Pg) (t := 98) (t2 := 98) T98.u hinf hk (Sat.drw h').hp (j := 0) rfl (o := (i + 1) * 1) (n := xs.length - i) (c := c - (i + 1)) (q := xs.length + 1 - i) (x := sl b (i * 1) (xs.length + 1 - i) (c - i)) rfl (ys := (xs.drop i).flatMap encP)
      (by rw [Nat.min_eq_right (by omega)]; exact hfy) (by rw [Nat.min_eq_right (by omega), hl2]) (by rw [h1, Nat.succ_mul]; omega) (fun u hu => flat_one enP.one _ u hu) (rt := 3) (cs := #[false, false])
    refine Ok.rd2 (copy_raw m1) ?_
    have s3 := (Sat.drw h').put m3 (fun _ _ hd => hd) (m2.get (k := 0) rfl) (.inl rfl)
    refine Ok.rd (sl_lo T98.u hinf (by omega)) ?_
    rw [if_neg (by omega), hk]
    simp only [Option.map_some, show ∀ b : Nat, (⟨b, 0, none⟩ : Addr) = ad b 0 from fun _ => rfl, add_ad, Nat.zero_add]
    have hfx := firstCells_run (P := Pg) (hsx (s3.re [1, 0] (by decide)).at)
    obtain ⟨w2, k1, k2, k3⟩ := copy_ok (P := Pg) (t := 98) (t2 := 98) T98.u hinf hk s3.hp (j := 0) rfl (o := i * 1) (n := xs.length + 1 - i) (c := c - i) (q := 1) (x := sl bx 0 1 1) rfl (ys := encP y)
      (by rw [Nat.min_eq_left (by omega)]; exact hfx) (by rw [Nat.min_eq_left (by omega), enP.len]) (by rw [lay_length, h1, Nat.sub_mul]; omega) (enP.one y) (rt := 3) (cs := #[false, false])
    refine Ok.rd2 (copy_raw k1) ?_
    have s2 := s3.put k3 (fun _ _ hd => hd) (k2.get (k := 0) rfl) (.inl rfl)
    refine Ok.ret ⟨?_, m3.sm.drw.trans k3.sm⟩
    refine hres (by rw [lay_length, lay_length]; exact h1) hg ?_ (s2.re [1, 0] (by decide)).drop
    obtain ⟨A, M, N, R, hl', hA, hM, hN, hA'⟩ := split_at l (a := i * 1) (b := 1) (c := (xs.length - i) * 1) (by omega)
    rw [hA', e1] at hl'
    rw [hl', ← List.append_assoc, lay_mid _ _ _ _ (by rw [hN, hl2]) (by rw [List.length_append, hl1, hM, Nat.succ_mul]), List.append_assoc, lay_mid _ _ _ _ (by rw [hM, enP.len]) hl1.symm, ← List.append_assoc, ← List.append_assoc, List.take_append_of_le_length (by simp only [List.length_append, hl1, hl2, enP.len]; omega),
      List.take_of_length_le (by simp only [List.length_append, hl1, hl2, enP.len]; omega), List.append_assoc]
end
end Go.Cb
