import Derived.Test.YtialecgadoepjaaGreatSh
import Derived.Test.YtialecgadoepjaaGreatOps
import Derived.Lib.Overlaps
/-
  The tree's types, and slices.Clone, Insert and Delete at its entries and at its nodes.
-/
set_option linter.unusedVariables false
set_option linter.unusedSimpArgs false
namespace Go.Cb

abbrev V1 := {v : Value // one v = true}
abbrev Ent := ByteArray × V1
def encE (e : Ent) : List Value := [.string e.1, e.2.1]
def encP (p : Nat) : List Value := [ptr p 0]
theorem enE : En encE 2 := ⟨fun _ => rfl, fun x v hv => by simp [encE] at hv; rcases hv with rfl | rfl; rfl; exact x.2.2⟩
theorem enP : En encP 1 := ⟨fun _ => rfl, fun x v hv => by simp [encP] at hv; subst hv; rfl⟩

theorem T37 : SlT Pg 229 240 2 := slT_of (by kernel_rfl)
theorem T98 : SlT Pg 230 228 1 := slT_of (by kernel_rfl)
theorem fld100_0 (b o : Nat) : fldA Pg 232 (ptr b o) 0 = some (ptr b o) := by kernel_rfl
theorem fld100_1 (b o : Nat) : fldA Pg 232 (ptr b o) 1 = some (ptr b (o + 1)) := by kernel_rfl
theorem fld40_0 (b o : Nat) : fldA Pg 240 (ptr b o) 0 = some (ptr b o) := by kernel_rfl
theorem fld40_1 (b o : Nat) : fldA Pg 240 (ptr b o) 1 = some (ptr b (o + 1)) := by kernel_rfl
theorem a37 : aggT Pg 229 = some false := by kernel_rfl
theorem a98 : aggT Pg 230 = some false := by kernel_rfl
theorem a55 : aggT Pg 228 = some false := by kernel_rfl
theorem a9 : aggT Pg 9 = some false := by kernel_rfl
theorem a76 : aggT Pg 43 = some false := by kernel_rfl
theorem a3 : aggT Pg 3 = some false := by kernel_rfl
theorem a40 : aggT Pg 240 = some true := by kernel_rfl
end Go.Cb

/-
  slices.Clone, Insert and Delete at the tree's entries and at its nodes.
-/
set_option linter.unusedVariables false
set_option linter.unusedSimpArgs false
namespace Go.Cb
/-! ### 229 -/
section
variable {w : World} {F : List HP} {v x : Value} {xs ys : List Ent}

theorem clone81 (h : Sat w F) (hx : Src w x ys.length 2 (ys.flatMap encE)) (hb : ys.length ≤ 2 ^ 30) : Ok (Fn Pg 194 [x] w) fun v w' => Sat w' (slH 240 2 encE v ys :: F) ∧ Sm w w' := by
  obtain ⟨a, c, rfl⟩ := hx.len
  rw [F194]; unfold S194
  refine Ok.rd2 (eql_nilS T37.u) ?_
  cases a with
  | none =>
    refine Ok.ct rfl ?_
    refine Ok.ret ⟨?_, Sm.refl w⟩
    have hn : ys = [] := by
      rcases hx with ⟨_, hx, hn, _⟩ | ⟨_, _, hx, _⟩
      · exact List.length_eq_zero_iff.1 hn
      · cases hx
    subst hn
    exact slH_nil none h
  | some a =>
    obtain ⟨i, z, hi, _⟩ := T37.i
    refine Ok.cf rfl ?_
    refine Ok.rd2 (slice0_ok T37.u hi) ?_
    have hE := Ext.push (fun _ => False) w (.cells #[] 240)
    have h0 : Sat { w with heap := w.heap.push (.cells #[] 240) } (slH 240 2 encE (sl w.heap.size 0 0 0) [] :: F) :=
      slH_mk (l := []) rfl (by simp) (by simp) (by simp) (h.new hE (fun _ _ hf => hf) (At.new w [] 240) (Nat.le_refl _))
    have hb' : ([] : List Ent).length + ys.length ≤ 2 ^ 30 := by rw [List.length_nil, Nat.zero_add]; exact hb
    have hA := sl_append' T37 enE h0 (hx.ext hE fun _ _ hf => hf) hb' (rt := 229) (cs := #[false, false])
    refine Ok.bind hA ?_
    intro v w' hq
    exact Ok.ret ⟨by simpa using hq.1, hE.sm.trans hq.2⟩

theorem delete85 (h : Sat w (slH 240 2 encE v xs :: F)) {i : Nat} (hi : i < xs.length) (hb : xs.length ≤ 2 ^ 30) :
    Ok (Fn Pg 203 [v, int i, int (i + 1 : Nat)] w) fun v' w' => Sat w' (slH 240 2 encE v' (xs.eraseIdx i) :: F) ∧ Sm w w' := by
  obtain ⟨inf, z, hinf, hk, hz, hzs, _, _, hz1⟩ := T37.i
  rcases slH_cases h with ⟨a, rfl, rfl, h'⟩ | ⟨b, c, l, rfl, h1, h2, h3, h'⟩
  · simp at hi
  obtain ⟨x6, hx6⟩ := Option.isSome_iff_exists.1 (sl_lohimx (a := some (ad b 0)) (n := xs.length) (c := c) T37.u hinf (lo := i) (hh := i + 1) (mx := xs.length) (by omega) (by omega) (by omega) h2)
  obtain ⟨x12, hx12, hs12⟩ := sl_suf T37 enE h (lo := i + 1) (by omega)
  rw [F203]; unfold S203
  refine Ok.rd2 (len_sl T37.u _ _ _ _) ?_
  refine Ok.rd hx6 ?_
  refine Ok.rd2 bin_eql ?_
  refine Ok.cf (by simp; omega) ?_
  refine Ok.rd2 (len_sl T37.u _ _ _ _) ?_
  refine Ok.rd (sl_hi T37.u hinf (by omega)) ?_
  refine Ok.rd hx12 ?_
  have hq : (xs.drop (i + 1)).length = xs.length - (i + 1) := List.length_drop
  have hh1 : xs.length * 2 ≤ c * 2 := Nat.mul_le_mul_right 2 h2
  obtain ⟨w1, g1, g2, g3⟩ := append_room T37.app (w := drw w) h'.hp.drw (j := 0) rfl hs12.drw h1 (n := i) (by omega) (fun y hy => flat_one enE.one _ y hy) (rt := 229) (cs := #[false, false])
  refine Ok.rd2 (app_raw g1) ?_
  refine Ok.rd2 (len_sl T37.u _ _ _ _) ?_
  have hn1 : i + (xs.drop (i + 1)).length = xs.length - 1 := by omega
  rw [hn1]
  refine Ok.rd (sl_lohi T37.u hinf (lo := xs.length - 1) (hh := xs.length) h2 (by omega)) ?_
  rw [if_neg (by omega), hk]
  simp only [Option.map_some, show (⟨b, 0, none⟩ : Addr) = ad b 0 from rfl, add_ad, Nat.zero_add]
  rw [show xs.length - (xs.length - 1) = 1 from by omega]
  obtain ⟨l2, w2, g4, g5, g6, g7, g8⟩ := clear_ok T37.u hinf hz hzs hz1 g2 (j := 0) rfl (o := (xs.length - 1) * 2) (n := 1) (c := c - (xs.length - 1)) (by rw [lay_length]; omega) (rt := 0) (cs := #[false])
  refine Ok.rd2 (clear_raw g4) ?_
  refine Ok.ret ⟨?_, (g3.sm.trans g6.sm).drw⟩
  have hE := g3.trans g6 (T := fun d => d = b) (fun _ _ hd => hd) (fun _ _ hd => hd)
  have hlen : (xs.eraseIdx i).length = xs.length - 1 := List.length_eraseIdx_of_lt hi
  refine slH_mk hlen.symm (by rw [g7, lay_length]; exact h1) (by omega) ?_ (h'.put (w' := w2) hE.drwL (fun _ _ hd => hd) (g5.get (k := 0) rfl) (.inl rfl))
  have hfl : ((xs.drop (i + 1)).flatMap encE).length = (xs.length - (i + 1)) * 2 := by rw [flat_length enE.len, hq]
  rw [hlen, g8, lay_eq _ _ _ (by rw [hfl]; omega), List.eraseIdx_eq_take_drop_succ, List.flatMap_append]
  have e1 : l.take (i * 2) = (xs.take i).flatMap encE := by rw [← flat_take enE.len, ← h3, List.take_take, Nat.min_eq_left (by omega)]
  have e2 : ((xs.take i).flatMap encE).length = i * 2 := by rw [flat_length enE.len, List.length_take, Nat.min_eq_left (by omega)]
  rw [e1, List.take_append_of_le_length (by rw [List.length_append, e2, hfl]; omega), List.take_of_length_le (by rw [List.length_append, e2, hfl]; omega)]

theorem ov110 {bx b o n c : Nat} {lx l : List Value} (hx : At w bx lx 240) (hb : At w b l 240) (hne : bx ≠ b) (hl : l.length ≠ 0) : Fn Pg 225 [sl bx 0 1 1, sl b o n c] w = some (.bool false, w) := by
  obtain ⟨inf, z, hinf, hk, _⟩ := T37.i
  refine Fn_ext (e := Extern.SlicesOverlaps.overlaps #[229, 229] #[4]) Go.Proofs.Tryz.func225 (by kernel_rfl) (by kernel_rfl) (by kernel_rfl) (by kernel_rfl) ?_
  exact Lib.run_overlaps_apart w 229 4 240 T37.u _ (fun w => siz_run hinf w) (ad bx 0) (ad b o) 1 1 n c hne 240 240 lx.length l.length hx.shape hb.shape hl (hx.free 0) (hx.free lx.length)

theorem insert83 {bx : Nat} {y : Ent} {i : Nat} (h : Sat w (slH 240 2 encE v xs :: pt bx (encE y) 240 :: F)) (hi : i ≤ xs.length) (hb : xs.length + 1 ≤ 2 ^ 30) :
    Ok (Fn Pg 196 [v, int i, sl bx 0 1 1] w) fun v' w' => Sat w' (slH 240 2 encE v' (xs.take i ++ y :: xs.drop i) :: F) ∧ Sm w w' := by
  obtain ⟨inf, z, hinf, hk, hz, hzs, hby, hby0, hz1⟩ := T37.i
  obtain ⟨x4, hx4, hs4⟩ := sl_suf T37 enE h (lo := i) hi
  have hsx : ∀ {w : World}, At w bx (encE y) 240 → Src w (sl bx 0 1 1) 1 2 (encE y) := by
    intro w ha
    have := src_at (c := 1) ha (o := 0) (n := 1) (k := 2) (by rw [enE.len]; omega)
    rwa [List.drop_zero, List.take_of_length_le (by rw [enE.len]; omega)] at this
  rw [F196]; unfold S196
  refine Ok.rd hx4 ?_
  refine Ok.rd2 (len_sl T37.u _ _ _ _) ?_
  refine Ok.rd2 bin_eql ?_
  refine Ok.cf rfl ?_
  refine Ok.rd2 (sl_len T37 h _) ?_
  refine Ok.rd2 bin_eql ?_
  refine Ok.ci (fun hin => ?_) (fun hin => ?_)
  · have hin : i = xs.length := by simp at hin; omega
    refine Ok.bind (sl_append' T37 enE h (ys := [y]) (by simpa using hsx (h.re [1, 0] (by decide)).at) (by simpa using hb) (rt := 229) (cs := #[false, false])) ?_
    intro v' w' hq
    refine Ok.ret ⟨?_, hq.2⟩
    have h2 := (hq.1.re [1, 0] (by decide)).drop
    rw [hin, List.take_length, List.drop_length]
    exact h2
  have hin : i < xs.length := by simp at hin; omega
  rcases slH_cases h with ⟨a, rfl, rfl, h'⟩ | ⟨b, c, l, rfl, h1, h2, h3, h'⟩
  · simp at hin
  have hne : b ≠ bx := h'.ne
  have hmc : xs.length * 2 ≤ c * 2 := Nat.mul_le_mul_right 2 h2
  have hmi : i * 2 + 2 ≤ xs.length * 2 := by rw [← Nat.succ_mul]; exact Nat.mul_le_mul_right 2 hin
  have e1 : l.take (i * 2) = (xs.take i).flatMap encE := by rw [← flat_take enE.len, ← h3, List.take_take, Nat.min_eq_left (by omega)]
  have e2 : (l.drop (i * 2)).take ((xs.length - i) * 2) = (xs.drop i).flatMap encE := by
    rw [← flat_drop enE.len, ← h3, List.drop_take, Nat.sub_mul]
  have hl2 : ((xs.drop i).flatMap encE).length = (xs.length - i) * 2 := by rw [flat_length enE.len, List.length_drop]
  have hl1 : ((xs.take i).flatMap encE).length = i * 2 := by rw [flat_length enE.len, List.length_take, Nat.min_eq_left hi]
  have hsub : (xs.length - i) * 2 = xs.length * 2 - i * 2 := Nat.sub_mul _ _ _
  have hres : ∀ {w' : World} {b' c' : Nat} {l' : List Value}, l'.length = c' * 2 → xs.length + 1 ≤ c' → l'.take ((xs.length + 1) * 2) = (xs.take i).flatMap encE ++ (encE y ++ (xs.drop i).flatMap encE) → Sat w' (pt b' l' 240 :: F) →
      Sat w' (slH 240 2 encE (sl b' 0 (xs.length + 1) c') (xs.take i ++ y :: xs.drop i) :: F) := by
    intro w' b' c' l' g1 g2 g3 g4
    have hlen : (xs.take i ++ y :: xs.drop i).length = xs.length + 1 := by simp; omega
    refine slH_mk hlen.symm g1 (by omega) ?_ g4
    rw [hlen, g3, List.flatMap_append, List.flatMap_cons]
  refine Ok.rd2 (bin_addn (by omega)) ?_
  refine Ok.rd2 (cap_sl T37.u _ _ _ _) ?_
  refine Ok.rd2 bin_gtr ?_
  refine Ok.ci (fun hg => ?_) (fun hg => ?_)
  · have hg : c < xs.length + 1 := by simp at hg; omega
    refine Ok.rd (sl_hi T37.u hinf (by omega)) ?_
    refine Ok.rd2 (bin_addn (by omega)) ?_
    refine Ok.rd2 (bin_subn (by omega) (by omega)) ?_
    obtain ⟨c', l', w1, g1, g2, g3, g4, g5, g6, g7⟩ := append_make (t := 229) (t2 := 3) (ik := .i64) T37.u hinf hk hz hzs hby T37.k0 (by kernel_rfl) h'.hp (j := 0) rfl (n := i) (q := xs.length + 1 - i) h1 (by omega) (by omega) (by omega) (by omega) (rt := 229) (cs := #[false, false])
    refine Ok.rd2 (app_raw g1) ?_
    have s1 : Sat w1 (pt w.heap.size l' 240 :: pt b l 240 :: pt bx (encE y) 240 :: F) := h'.new g3 (fun _ _ hf => hf) (g2.get (k := 1) rfl) (Nat.le_refl _)
    have hm6 : (xs.length + 1) * 2 ≤ c' * 2 := Nat.mul_le_mul_right 2 (by omega)
    have hs1 : (xs.length + 1) * 2 = xs.length * 2 + 2 := Nat.succ_mul _ _
    refine Ok.rd (sl_lo T37.u hinf (by omega)) ?_
    rw [if_neg (by omega), hk]
    simp only [Option.map_some, show ∀ b : Nat, (⟨b, 0, none⟩ : Addr) = ad b 0 from fun _ => rfl, add_ad, Nat.zero_add]
    rw [show i + (xs.length + 1 - i) - i = xs.length + 1 - i from by omega]
    have hfx := firstCells_run (P := Pg) (hsx (s1.re [2, 0, 1] (by decide)).at)
    obtain ⟨w2, k1, k2, k3⟩ := copy_ok (P := Pg) (t := 229) (t2 := 229) T37.u hinf hk s1.hp (j := 0) rfl (o := i * 2) (n := xs.length + 1 - i) (c := c' - i) (q := 1) (x := sl bx 0 1 1) rfl (ys := encE y)
      (by rw [Nat.min_eq_left (by omega)]; exact hfx) (by rw [Nat.min_eq_left (by omega), enE.len]) (by rw [Nat.sub_mul, g5]; omega) (enE.one y) (rt := 3) (cs := #[false, false])
    refine Ok.rd2 (copy_raw k1) ?_
    have s2 := s1.put k3 (fun _ _ hd => hd) (k2.get (k := 0) rfl) (.inl rfl)
    refine Ok.rd2 (bin_addn (st := true) (by omega)) ?_
    refine Ok.rd (sl_lo T37.u hinf (by omega)) ?_
    rw [if_neg (by omega), hk]
    simp only [Option.map_some, show ∀ b : Nat, (⟨b, 0, none⟩ : Addr) = ad b 0 from fun _ => rfl, add_ad, Nat.zero_add]
    refine Ok.rd (sl_lo T37.u hinf hi) ?_
    rw [if_neg (by omega), hk]
    simp only [Option.map_some, show ∀ b : Nat, (⟨b, 0, none⟩ : Addr) = ad b 0 from fun _ => rfl, add_ad, Nat.zero_add]
    rw [show i + (xs.length + 1 - i) - (i + 1) = xs.length - i from by omega]
    have hs3 := src_at (k := 2) (c := c - i) (s2.re [1, 0] (by decide)).at (o := i * 2) (n := xs.length - i) (by omega)
    rw [e2] at hs3
    have hfy := firstCells_run (P := Pg) hs3.drw
    obtain ⟨w3, m1, m2, m3⟩ := copy_ok (P := Pg) (t := 229) (t2 := 229) T37.u hinf hk (Sat.drw s2).hp (j := 0) rfl (o := (i + 1) * 2) (n := xs.length - i) (c := c' - (i + 1)) (q := xs.length - i) rfl (ys := (xs.drop i).flatMap encE)
      (by rw [Nat.min_self]; exact hfy) (by rw [Nat.min_self, hl2]) (by rw [lay_length, g5, Nat.succ_mul]; omega) (fun u hu => flat_one enE.one _ u hu) (rt := 3) (cs := #[false, false])
    refine Ok.rd2 (copy_raw m1) ?_
    have s3 := (Sat.drw s2).put m3 (fun _ _ hd => hd) (m2.get (k := 0) rfl) (.inl rfl)
    refine Ok.ret ⟨?_, g3.sm.trans (k3.sm.trans m3.sm.drw)⟩
    have s4 : Sat w3 (pt w.heap.size (lay (lay l' (i * 2) (encE y)) ((i + 1) * 2) ((xs.drop i).flatMap encE)) 240 :: F) := s3.re [0, 1, 2] (by decide) |>.re [1, 2, 0] (by decide) |>.drop |>.drop
    rw [show i + (xs.length + 1 - i) = xs.length + 1 from by omega]
    refine hres (by rw [lay_length, lay_length]; exact g5) (by omega) ?_ s4
    obtain ⟨A, M, N, R, hl', hA, hM, hN, hA'⟩ := split_at l' (a := i * 2) (b := 2) (c := (xs.length - i) * 2) (by rw [g5]; omega)
    rw [hA', g4, e1] at hl'
    rw [hl', lay_mid _ _ _ _ (by rw [hM, enE.len]) hl1.symm, ← List.append_assoc, lay_mid _ _ _ _ (by rw [hN, hl2]) (by rw [List.length_append, hl1, enE.len, Nat.succ_mul]), ← List.append_assoc, List.take_append_of_le_length (by simp only [List.length_append, hl1, hl2, enE.len]; omega),
      List.take_of_length_le (by simp only [List.length_append, hl1, hl2, enE.len]; omega), List.append_assoc]
  · have hg : xs.length + 1 ≤ c := by simp at hg; omega
    have hm6 : (xs.length + 1) * 2 ≤ c * 2 := Nat.mul_le_mul_right 2 (by omega)
    have hs1 : (xs.length + 1) * 2 = xs.length * 2 + 2 := Nat.succ_mul _ _
    refine Ok.rd2 (bin_addn (by omega)) ?_
    refine Ok.rd (sl_hi T37.u hinf hg) ?_
    refine Ok.rd2 (bin_addn (by omega)) ?_
    refine Ok.rd (sl_lo T37.u hinf (by omega)) ?_
    rw [if_neg (by omega), hk]
    simp only [Option.map_some, show ∀ b : Nat, (⟨b, 0, none⟩ : Addr) = ad b 0 from fun _ => rfl, add_ad, Nat.zero_add]
    refine Ok.rd2 (ov110 (h'.re [1, 0] (by decide)).at h'.at hne.symm (by omega)) ?_
    refine Ok.rd (un_not _) ?_
    refine Ok.ct rfl ?_
    refine Ok.rd2 (bin_addn (st := true) (by omega)) ?_
    refine Ok.rd (sl_lo T37.u hinf (by omega)) ?_
    rw [if_neg (by omega), hk]
    simp only [Option.map_some, show ∀ b : Nat, (⟨b, 0, none⟩ : Addr) = ad b 0 from fun _ => rfl, add_ad, Nat.zero_add]
    refine Ok.rd (sl_lo T37.u hinf (by omega)) ?_
    rw [if_neg (by omega), hk]
    simp only [Option.map_some, show ∀ b : Nat, (⟨b, 0, none⟩ : Addr) = ad b 0 from fun _ => rfl, add_ad, Nat.zero_add]
    rw [show xs.length + 1 - (i + 1) = xs.length - i from by omega]
    have hs3 := src_at (k := 2) (c := c - i) h'.at (o := i * 2) (n := xs.length - i) (by omega)
    rw [e2] at hs3
    have hfy := firstCells_run (P := Pg) hs3.drw
    obtain ⟨w3, m1, m2, m3⟩ := copy_ok (P := Pg) (t := 229) (t2 := 229) T37.u hinf hk (Sat.drw h').hp (j := 0) rfl (o := (i + 1) * 2) (n := xs.length - i) (c := c - (i + 1)) (q := xs.length + 1 - i) (x := sl b (i * 2) (xs.length + 1 - i) (c - i)) rfl (ys := (xs.drop i).flatMap encE)
      (by rw [Nat.min_eq_right (by omega)]; exact hfy) (by rw [Nat.min_eq_right (by omega), hl2]) (by rw [h1, Nat.succ_mul]; omega) (fun u hu => flat_one enE.one _ u hu) (rt := 3) (cs := #[false, false])
    refine Ok.rd2 (copy_raw m1) ?_
    have s3 := (Sat.drw h').put m3 (fun _ _ hd => hd) (m2.get (k := 0) rfl) (.inl rfl)
    refine Ok.rd (sl_lo T37.u hinf (by omega)) ?_
    rw [if_neg (by omega), hk]
    simp only [Option.map_some, show ∀ b : Nat, (⟨b, 0, none⟩ : Addr) = ad b 0 from fun _ => rfl, add_ad, Nat.zero_add]
    have hfx := firstCells_run (P := Pg) (hsx (s3.re [1, 0] (by decide)).at)
    obtain ⟨w2, k1, k2, k3⟩ := copy_ok (P := Pg) (t := 229) (t2 := 229) T37.u hinf hk s3.hp (j := 0) rfl (o := i * 2) (n := xs.length + 1 - i) (c := c - i) (q := 1) (x := sl bx 0 1 1) rfl (ys := encE y)
      (by rw [Nat.min_eq_left (by omega)]; exact hfx) (by rw [Nat.min_eq_left (by omega), enE.len]) (by rw [lay_length, h1, Nat.sub_mul]; omega) (enE.one y) (rt := 3) (cs := #[false, false])
    refine Ok.rd2 (copy_raw k1) ?_
    have s2 := s3.put k3 (fun _ _ hd => hd) (k2.get (k := 0) rfl) (.inl rfl)
    refine Ok.ret ⟨?_, m3.sm.drw.trans k3.sm⟩
    refine hres (by rw [lay_length, lay_length]; exact h1) hg ?_ (s2.re [1, 0] (by decide)).drop
    obtain ⟨A, M, N, R, hl', hA, hM, hN, hA'⟩ := split_at l (a := i * 2) (b := 2) (c := (xs.length - i) * 2) (by omega)
    rw [hA', e1] at hl'
    rw [hl', ← List.append_assoc, lay_mid _ _ _ _ (by rw [hN, hl2]) (by rw [List.length_append, hl1, hM, Nat.succ_mul]), List.append_assoc, lay_mid _ _ _ _ (by rw [hM, enE.len]) hl1.symm, ← List.append_assoc, ← List.append_assoc, List.take_append_of_le_length (by simp only [List.length_append, hl1, hl2, enE.len]; omega),
      List.take_of_length_le (by simp only [List.length_append, hl1, hl2, enE.len]; omega), List.append_assoc]
end
/-! ### 230 -/
section
variable {w : World} {F : List HP} {v x : Value} {xs ys : List Nat}

theorem clone82 (h : Sat w F) (hx : Src w x ys.length 1 (ys.flatMap encP)) (hb : ys.length ≤ 2 ^ 30) : Ok (Fn Pg 195 [x] w) fun v w' => Sat w' (slH 228 1 encP v ys :: F) ∧ Sm w w' := by
  obtain ⟨a, c, rfl⟩ := hx.len
  rw [F195]; unfold S195
  refine Ok.rd2 (eql_nilS T98.u) ?_
  cases a with
  | none =>
    refine Ok.ct rfl ?_
    refine Ok.ret ⟨?_, Sm.refl w⟩
    have hn : ys = [] := by
      rcases hx with ⟨_, hx, hn, _⟩ | ⟨_, _, hx, _⟩
      · exact List.length_eq_zero_iff.1 hn
      · cases hx
    subst hn
    exact slH_nil none h
  | some a =>
    obtain ⟨i, z, hi, _⟩ := T98.i
    refine Ok.cf rfl ?_
    refine Ok.rd2 (slice0_ok T98.u hi) ?_
    have hE := Ext.push (fun _ => False) w (.cells #[] 228)
    have h0 : Sat { w with heap := w.heap.push (.cells #[] 228) } (slH 228 1 encP (sl w.heap.size 0 0 0) [] :: F) :=
      slH_mk (l := []) rfl (by simp) (by simp) (by simp) (h.new hE (fun _ _ hf => hf) (At.new w [] 228) (Nat.le_refl _))
    have hb' : ([] : List Nat).length + ys.length ≤ 2 ^ 30 := by rw [List.length_nil, Nat.zero_add]; exact hb
    have hA := sl_append' T98 enP h0 (hx.ext hE fun _ _ hf => hf) hb' (rt := 230) (cs := #[false, false])
    refine Ok.bind hA ?_
    intro v w' hq
    exact Ok.ret ⟨by simpa using hq.1, hE.sm.trans hq.2⟩

theorem delete114 (h : Sat w (slH 228 1 encP v xs :: F)) {i : Nat} (hi : i < xs.length) (hb : xs.length ≤ 2 ^ 30) :
    Ok (Fn Pg 229 [v, int i, int (i + 1 : Nat)] w) fun v' w' => Sat w' (slH 228 1 encP v' (xs.eraseIdx i) :: F) ∧ Sm w w' := by
  obtain ⟨inf, z, hinf, hk, hz, hzs, _, _, hz1⟩ := T98.i
  rcases slH_cases h with ⟨a, rfl, rfl, h'⟩ | ⟨b, c, l, rfl, h1, h2, h3, h'⟩
  · simp at hi
  obtain ⟨x6, hx6⟩ := Option.isSome_iff_exists.1 (sl_lohimx (a := some (ad b 0)) (n := xs.length) (c := c) T98.u hinf (lo := i) (hh := i + 1) (mx := xs.length) (by omega) (by omega) (by omega) h2)
  obtain ⟨x12, hx12, hs12⟩ := sl_suf T98 enP h (lo := i + 1) (by omega)
  rw [F229]; unfold S229
  refine Ok.rd2 (len_sl T98.u _ _ _ _) ?_
  refine Ok.rd hx6 ?_
  refine Ok.rd2 bin_eql ?_
  refine Ok.cf (by simp; omega) ?_
  refine Ok.rd2 (len_sl T98.u _ _ _ _) ?_
  refine Ok.rd (sl_hi T98.u hinf (by omega)) ?_
  refine Ok.rd hx12 ?_
  have hq : (xs.drop (i + 1)).length = xs.length - (i + 1) := List.length_drop
  have hh1 : xs.length * 1 ≤ c * 1 := Nat.mul_le_mul_right 1 h2
  obtain ⟨w1, g1, g2, g3⟩ := append_room T98.app (w := drw w) h'.hp.drw (j := 0) rfl hs12.drw h1 (n := i) (by omega) (fun y hy => flat_one enP.one _ y hy) (rt := 230) (cs := #[false, false])
  refine Ok.rd2 (app_raw g1) ?_
  refine Ok.rd2 (len_sl T98.u _ _ _ _) ?_
  have hn1 : i + (xs.drop (i + 1)).length = xs.length - 1 := by omega
  rw [hn1]
  refine Ok.rd (sl_lohi T98.u hinf (lo := xs.length - 1) (hh := xs.length) h2 (by omega)) ?_
  rw [if_neg (by omega), hk]
  simp only [Option.map_some, show (⟨b, 0, none⟩ : Addr) = ad b 0 from rfl, add_ad, Nat.zero_add]
  rw [show xs.length - (xs.length - 1) = 1 from by omega]
  obtain ⟨l2, w2, g4, g5, g6, g7, g8⟩ := clear_ok T98.u hinf hz hzs hz1 g2 (j := 0) rfl (o := (xs.length - 1) * 1) (n := 1) (c := c - (xs.length - 1)) (by rw [lay_length]; omega) (rt := 0) (cs := #[false])
  refine Ok.rd2 (clear_raw g4) ?_
  refine Ok.ret ⟨?_, (g3.sm.trans g6.sm).drw⟩
  have hE := g3.trans g6 (T := fun d => d = b) (fun _ _ hd => hd) (fun _ _ hd => hd)
  have hlen : (xs.eraseIdx i).length = xs.length - 1 := List.length_eraseIdx_of_lt hi
  refine slH_mk hlen.symm (by rw [g7, lay_length]; exact h1) (by omega) ?_ (h'.put (w' := w2) hE.drwL (fun _ _ hd => hd) (g5.get (k := 0) rfl) (.inl rfl))
  have hfl : ((xs.drop (i + 1)).flatMap encP).length = (xs.length - (i + 1)) * 1 := by rw [flat_length enP.len, hq]
  rw [hlen, g8, lay_eq _ _ _ (by rw [hfl]; omega), List.eraseIdx_eq_take_drop_succ, List.flatMap_append]
  have e1 : l.take (i * 1) = (xs.take i).flatMap encP := by rw [← flat_take enP.len, ← h3, List.take_take, Nat.min_eq_left (by omega)]
  have e2 : ((xs.take i).flatMap encP).length = i * 1 := by rw [flat_length enP.len, List.length_take, Nat.min_eq_left (by omega)]
  rw [e1, List.take_append_of_le_length (by rw [List.length_append, e2, hfl]; omega), List.take_of_length_le (by rw [List.length_append, e2, hfl]; omega)]

theorem ov112 {bx b o n c : Nat} {lx l : List Value} (hx : At w bx lx 228) (hb : At w b l 228) (hne : bx ≠ b) (hl : l.length ≠ 0) : Fn Pg 227 [sl bx 0 1 1, sl b o n c] w = some (.bool false, w) := by
  obtain ⟨inf, z, hinf, hk, _⟩ := T98.i
  refine Fn_ext (e := Extern.SlicesOverlaps.overlaps #[230, 230] #[4]) Go.Proofs.Tryz.func227 (by kernel_rfl) (by kernel_rfl) (by kernel_rfl) (by kernel_rfl) ?_
  exact Lib.run_overlaps_apart w 230 4 228 T98.u _ (fun w => siz_run hinf w) (ad bx 0) (ad b o) 1 1 n c hne 228 228 lx.length l.length hx.shape hb.shape hl (hx.free 0) (hx.free lx.length)

theorem insert84 {bx : Nat} {y : Nat} {i : Nat} (h : Sat w (slH 228 1 encP v xs :: pt bx (encP y) 228 :: F)) (hi : i ≤ xs.length) (hb : xs.length + 1 ≤ 2 ^ 30) :
    Ok (Fn Pg 197 [v, int i, sl bx 0 1 1] w) fun v' w' => Sat w' (slH 228 1 encP v' (xs.take i ++ y :: xs.drop i) :: F) ∧ Sm w w' := by
  obtain ⟨inf, z, hinf, hk, hz, hzs, hby, hby0, hz1⟩ := T98.i
  obtain ⟨x4, hx4, hs4⟩ := sl_suf T98 enP h (lo := i) hi
  have hsx : ∀ {w : World}, At w bx (encP y) 228 → Src w (sl bx 0 1 1) 1 1 (encP y) := by
    intro w ha
    have := src_at (c := 1) ha (o := 0) (n := 1) (k := 1) (by rw [enP.len]; omega)
    rwa [List.drop_zero, List.take_of_length_le (by rw [enP.len]; omega)] at this
  rw [F197]; unfold S197
  refine Ok.rd hx4 ?_
  refine Ok.rd2 (len_sl T98.u _ _ _ _) ?_
  refine Ok.rd2 bin_eql ?_
  refine Ok.cf rfl ?_
  refine Ok.rd2 (sl_len T98 h _) ?_
  refine Ok.rd2 bin_eql ?_
  refine Ok.ci (fun hin => ?_) (fun hin => ?_)
  · have hin : i = xs.length := by simp at hin; omega
    refine Ok.bind (sl_append' T98 enP h (ys := [y]) (by simpa using hsx (h.re [1, 0] (by decide)).at) (by simpa using hb) (rt := 230) (cs := #[false, false])) ?_
    intro v' w' hq
    refine Ok.ret ⟨?_, hq.2⟩
    have h2 := (hq.1.re [1, 0] (by decide)).drop
    rw [hin, List.take_length, List.drop_length]
    exact h2
  have hin : i < xs.length := by simp at hin; omega
  rcases slH_cases h with ⟨a, rfl, rfl, h'⟩ | ⟨b, c, l, rfl, h1, h2, h3, h'⟩
  · simp at hin
  have hne : b ≠ bx := h'.ne
  have hmc : xs.length * 1 ≤ c * 1 := Nat.mul_le_mul_right 1 h2
  have hmi : i * 1 + 1 ≤ xs.length * 1 := by rw [← Nat.succ_mul]; exact Nat.mul_le_mul_right 1 hin
  have e1 : l.take (i * 1) = (xs.take i).flatMap encP := by rw [← flat_take enP.len, ← h3, List.take_take, Nat.min_eq_left (by omega)]
  have e2 : (l.drop (i * 1)).take ((xs.length - i) * 1) = (xs.drop i).flatMap encP := by
    rw [← flat_drop enP.len, ← h3, List.drop_take, Nat.sub_mul]
  have hl2 : ((xs.drop i).flatMap encP).length = (xs.length - i) * 1 := by rw [flat_length enP.len, List.length_drop]
  have hl1 : ((xs.take i).flatMap encP).length = i * 1 := by rw [flat_length enP.len, List.length_take, Nat.min_eq_left hi]
  have hsub : (xs.length - i) * 1 = xs.length * 1 - i * 1 := Nat.sub_mul _ _ _
  have hres : ∀ {w' : World} {b' c' : Nat} {l' : List Value}, l'.length = c' * 1 → xs.length + 1 ≤ c' → l'.take ((xs.length + 1) * 1) = (xs.take i).flatMap encP ++ (encP y ++ (xs.drop i).flatMap encP) → Sat w' (pt b' l' 228 :: F) →
      Sat w' (slH 228 1 encP (sl b' 0 (xs.length + 1) c') (xs.take i ++ y :: xs.drop i) :: F) := by
    intro w' b' c' l' g1 g2 g3 g4
    have hlen : (xs.take i ++ y :: xs.drop i).length = xs.length + 1 := by simp; omega
    refine slH_mk hlen.symm g1 (by omega) ?_ g4
    rw [hlen, g3, List.flatMap_append, List.flatMap_cons]
  refine Ok.rd2 (bin_addn (by omega)) ?_
  refine Ok.rd2 (cap_sl T98.u _ _ _ _) ?_
  refine Ok.rd2 bin_gtr ?_
  refine Ok.ci (fun hg => ?_) (fun hg => ?_)
  · have hg : c < xs.length + 1 := by simp at hg; omega
    refine Ok.rd (sl_hi T98.u hinf (by omega)) ?_
    refine Ok.rd2 (bin_addn (by omega)) ?_
    refine Ok.rd2 (bin_subn (by omega) (by omega)) ?_
    obtain ⟨c', l', w1, g1, g2, g3, g4, g5, g6, g7⟩ := append_make (t := 230) (t2 := 3) (ik := .i64) T98.u hinf hk hz hzs hby T98.k0 (by kernel_rfl) h'.hp (j := 0) rfl (n := i) (q := xs.length + 1 - i) h1 (by omega) (by omega) (by omega) (by omega) (rt := 230) (cs := #[false, false])
    refine Ok.rd2 (app_raw g1) ?_
    have s1 : Sat w1 (pt w.heap.size l' 228 :: pt b l 228 :: pt bx (encP y) 228 :: F) := h'.new g3 (fun _ _ hf => hf) (g2.get (k := 1) rfl) (Nat.le_refl _)
    have hm6 : (xs.length + 1) * 1 ≤ c' * 1 := Nat.mul_le_mul_right 1 (by omega)
    have hs1 : (xs.length + 1) * 1 = xs.length * 1 + 1 := Nat.succ_mul _ _
    refine Ok.rd (sl_lo T98.u hinf (by omega)) ?_
    rw [if_neg (by omega), hk]
    simp only [Option.map_some, show ∀ b : Nat, (⟨b, 0, none⟩ : Addr) = ad b 0 from fun _ => rfl, add_ad, Nat.zero_add]
    rw [show i + (xs.length + 1 - i) - i = xs.length + 1 - i from by omega]
    have hfx := firstCells_run (P := Pg) (hsx (s1.re [2, 0, 1] (by decide)).at)
    obtain ⟨w2, k1, k2, k3⟩ := copy_ok (P := Pg) (t := 230) (t2 := 230) T98.u hinf hk s1.hp (j := 0) rfl (o := i * 1) (n := xs.length + 1 - i) (c := c' - i) (q := 1) (x := sl bx 0 1 1) rfl (ys := encP y)
      (by rw [Nat.min_eq_left (by omega)]; exact hfx) (by rw [Nat.min_eq_left (by omega), enP.len]) (by rw [Nat.sub_mul, g5]; omega) (enP.one y) (rt := 3) (cs := #[false, false])
    refine Ok.rd2 (copy_raw k1) ?_
    have s2 := s1.put k3 (fun _ _ hd => hd) (k2.get (k := 0) rfl) (.inl rfl)
    refine Ok.rd2 (bin_addn (st := true) (by omega)) ?_
    refine Ok.rd (sl_lo T98.u hinf (by omega)) ?_
    rw [if_neg (by omega), hk]
    simp only [Option.map_some, show ∀ b : Nat, (⟨b, 0, none⟩ : Addr) = ad b 0 from fun _ => rfl, add_ad, Nat.zero_add]
    refine Ok.rd (sl_lo T98.u hinf hi) ?_
    rw [if_neg (by omega), hk]
    simp only [Option.map_some, show ∀ b : Nat, (⟨b, 0, none⟩ : Addr) = ad b 0 from fun _ => rfl, add_ad, Nat.zero_add]
    rw [show i + (xs.length + 1 - i) - (i + 1) = xs.length - i from by omega]
    have hs3 := src_at (k := 1) (c := c - i) (s2.re [1, 0] (by decide)).at (o := i * 1) (n := xs.length - i) (by omega)
    rw [e2] at hs3
    have hfy := firstCells_run (P := Pg) hs3.drw
    obtain ⟨w3, m1, m2, m3⟩ := copy_ok (P := Pg) (t := 230) (t2 := 230) T98.u hinf hk (Sat.drw s2).hp (j := 0) rfl (o := (i + 1) * 1) (n := xs.length - i) (c := c' - (i + 1)) (q := xs.length - i) rfl (ys := (xs.drop i).flatMap encP)
      (by rw [Nat.min_self]; exact hfy) (by rw [Nat.min_self, hl2]) (by rw [lay_length, g5, Nat.succ_mul]; omega) (fun u hu => flat_one enP.one _ u hu) (rt := 3) (cs := #[false, false])
    refine Ok.rd2 (copy_raw m1) ?_
    have s3 := (Sat.drw s2).put m3 (fun _ _ hd => hd) (m2.get (k := 0) rfl) (.inl rfl)
    refine Ok.ret ⟨?_, g3.sm.trans (k3.sm.trans m3.sm.drw)⟩
    have s4 : Sat w3 (pt w.heap.size (lay (lay l' (i * 1) (encP y)) ((i + 1) * 1) ((xs.drop i).flatMap encP)) 228 :: F) := s3.re [0, 1, 2] (by decide) |>.re [1, 2, 0] (by decide) |>.drop |>.drop
    rw [show i + (xs.length + 1 - i) = xs.length + 1 from by omega]
    refine hres (by rw [lay_length, lay_length]; exact g5) (by omega) ?_ s4
    obtain ⟨A, M, N, R, hl', hA, hM, hN, hA'⟩ := split_at l' (a := i * 1) (b := 1) (c := (xs.length - i) * 1) (by rw [g5]; omega)
    rw [hA', g4, e1] at hl'
    rw [hl', lay_mid _ _ _ _ (by rw [hM, enP.len]) hl1.symm, ← List.append_assoc, lay_mid _ _ _ _ (by rw [hN, hl2]) (by rw [List.length_append, hl1, enP.len, Nat.succ_mul]), ← List.append_assoc, List.take_append_of_le_length (by simp only [List.length_append, hl1, hl2, enP.len]; omega),
      List.take_of_length_le (by simp only [List.length_append, hl1, hl2, enP.len]; omega), List.append_assoc]
  · have hg : xs.length + 1 ≤ c := by simp at hg; omega
    have hm6 : (xs.length + 1) * 1 ≤ c * 1 := Nat.mul_le_mul_right 1 (by omega)
    have hs1 : (xs.length + 1) * 1 = xs.length * 1 + 1 := Nat.succ_mul _ _
    refine Ok.rd2 (bin_addn (by omega)) ?_
    refine Ok.rd (sl_hi T98.u hinf hg) ?_
    refine Ok.rd2 (bin_addn (by omega)) ?_
    refine Ok.rd (sl_lo T98.u hinf (by omega)) ?_
    rw [if_neg (by omega), hk]
    simp only [Option.map_some, show ∀ b : Nat, (⟨b, 0, none⟩ : Addr) = ad b 0 from fun _ => rfl, add_ad, Nat.zero_add]
    refine Ok.rd2 (ov112 (h'.re [1, 0] (by decide)).at h'.at hne.symm (by omega)) ?_
    refine Ok.rd (un_not _) ?_
    refine Ok.ct rfl ?_
    refine Ok.rd2 (bin_addn (st := true) (by omega)) ?_
    refine Ok.rd (sl_lo T98.u hinf (by omega)) ?_
    rw [if_neg (by omega), hk]
    simp only [Option.map_some, show ∀ b : Nat, (⟨b, 0, none⟩ : Addr) = ad b 0 from fun _ => rfl, add_ad, Nat.zero_add]
    refine Ok.rd (sl_lo T98.u hinf (by omega)) ?_
    rw [if_neg (by omega), hk]
    simp only [Option.map_some, show ∀ b : Nat, (⟨b, 0, none⟩ : Addr) = ad b 0 from fun _ => rfl, add_ad, Nat.zero_add]
    rw [show xs.length + 1 - (i + 1) = xs.length - i from by omega]
    have hs3 := src_at (k := 1) (c := c - i) h'.at (o := i * 1) (n := xs.length - i) (by omega)
    rw [e2] at hs3
    have hfy := firstCells_run (P := Pg) hs3.drw
    obtain ⟨w3, m1, m2, m3⟩ := copy_ok (P := Pg) (t := 230) (t2 := 230) T98.u hinf hk (Sat.drw h').hp (j := 0) rfl (o := (i + 1) * 1) (n := xs.length - i) (c := c - (i + 1)) (q := xs.length + 1 - i) (x := sl b (i * 1) (xs.length + 1 - i) (c - i)) rfl (ys := (xs.drop i).flatMap encP)
      (by rw [Nat.min_eq_right (by omega)]; exact hfy) (by rw [Nat.min_eq_right (by omega), hl2]) (by rw [h1, Nat.succ_mul]; omega) (fun u hu => flat_one enP.one _ u hu) (rt := 3) (cs := #[false, false])
    refine Ok.rd2 (copy_raw m1) ?_
    have s3 := (Sat.drw h').put m3 (fun _ _ hd => hd) (m2.get (k := 0) rfl) (.inl rfl)
    refine Ok.rd (sl_lo T98.u hinf (by omega)) ?_
    rw [if_neg (by omega), hk]
    simp only [Option.map_some, show ∀ b : Nat, (⟨b, 0, none⟩ : Addr) = ad b 0 from fun _ => rfl, add_ad, Nat.zero_add]
    have hfx := firstCells_run (P := Pg) (hsx (s3.re [1, 0] (by decide)).at)
    obtain ⟨w2, k1, k2, k3⟩ := copy_ok (P := Pg) (t := 230) (t2 := 230) T98.u hinf hk s3.hp (j := 0) rfl (o := i * 1) (n := xs.length + 1 - i) (c := c - i) (q := 1) (x := sl bx 0 1 1) rfl (ys := encP y)
      (by rw [Nat.min_eq_left (by omega)]; exact hfx) (by rw [Nat.min_eq_left (by omega), enP.len]) (by rw [lay_length, h1, Nat.sub_mul]; omega) (enP.one y) (rt := 3) (cs := #[false, false])
    refine Ok.rd2 (copy_raw k1) ?_
    have s2 := s3.put k3 (fun _ _ hd => hd) (k2.get (k := 0) rfl) (.inl rfl)
    refine Ok.ret ⟨?_, m3.sm.drw.trans k3.sm⟩
    refine hres (by rw [lay_length, lay_length]; exact h1) hg ?_ (s2.re [1, 0] (by decide)).drop
    obtain ⟨A, M, N, R, hl', hA, hM, hN, hA'⟩ := split_at l (a := i * 1) (b := 1) (c := (xs.length - i) * 1) (by omega)
    rw [hA', e1] at hl'
    rw [hl', ← List.append_assoc, lay_mid _ _ _ _ (by rw [hN, hl2]) (by rw [List.length_append, hl1, hM, Nat.succ_mul]), List.append_assoc, lay_mid _ _ _ _ (by rw [hM, enP.len]) hl1.symm, ← List.append_assoc, ← List.append_assoc, List.take_append_of_le_length (by simp only [List.length_append, hl1, hl2, enP.len]; omega),
      List.take_of_length_le (by simp only [List.length_append, hl1, hl2, enP.len]; omega), List.append_assoc]
end
end Go.Cb

/-
  A node: its block, its entries, its kids; the steps on it.
-/
set_option linter.unusedVariables false
set_option linter.unusedSimpArgs false
namespace Go.Cb
variable {w : World} {F : List HP}

/-! ### The steps -/

theorem ld_l {p : Nat} {lv kv : Value} (h : Sat w F) (k : Nat) (hk : F[k]? = some (pt p [lv, kv] 232)) : ldV Pg 229 (ptr p 0) w = some lv :=
  (ldV_sc a37 _ _).trans ((h.foc hk).at.cell 0)
theorem ld_k {p : Nat} {lv kv : Value} (h : Sat w F) (k : Nat) (hk : F[k]? = some (pt p [lv, kv] 232)) : ldV Pg 230 (ptr p (0 + 1)) w = some kv :=
  (ldV_sc a98 _ _).trans ((h.foc hk).at.cell 1)

theorem st_l {p : Nat} {lv kv v : Value} (h : Sat w F) (k : Nat) (hk : F[k]? = some (pt p [lv, kv] 232)) (hv : one v = true) :
    ∃ w', rawU Pg (Instr.storeAt 229 (ptr p 0) v) w = some (undef, w') ∧ Sat w' (F.set k (pt p [v, kv] 232)) ∧ Sm w w' :=
  st_one (sz_of (by kernel_rfl)) h k hk (Nat.zero_lt_succ _) hv
theorem st_k {p : Nat} {lv kv v : Value} (h : Sat w F) (k : Nat) (hk : F[k]? = some (pt p [lv, kv] 232)) (hv : one v = true) :
    ∃ w', rawU Pg (Instr.storeAt 230 (ptr p (0 + 1)) v) w = some (undef, w') ∧ Sat w' (F.set k (pt p [lv, v] 232)) ∧ Sm w w' :=
  st_one (sz_of (by kernel_rfl)) h k hk (Nat.lt_succ_self 1) hv

theorem ix_k {kv : Value} {ks : List Nat} (h : Sat w F) (k : Nat) (hk : F[k]? = some (slH 228 1 encP kv ks)) {i q : Nat} (hi : ks[i]? = some q) : ∃ b o, ixA Pg 230 kv (int i) = some (ptr b o) ∧ ldV Pg 228 (ptr b o) w = some (ptr q 0) := by
  obtain ⟨hl, rfl⟩ := List.getElem?_eq_some_iff.1 hi
  obtain ⟨b, l, h1, h2, h3, h4⟩ := sl_ix T98 enP (h.foc hk) hl
  refine ⟨b, _, h1, ?_⟩
  rw [ldV_sc a55, h2.cell]
  have := congrArg (·[0]?) h4
  simpa [encP, List.getElem?_take, List.getElem?_drop] using this

abbrev aggE (e : Ent) : Value := .agg #[.string e.1, e.2.1]

theorem ix_l {lv : Value} {l : List Ent} (h : Sat w F) (k : Nat) (hk : F[k]? = some (slH 240 2 encE lv l)) {i : Nat} {e : Ent} (hi : l[i]? = some e) :
    ∃ b o, ixA Pg 229 lv (int i) = some (ptr b o) ∧ ldV Pg 240 (ptr b o) w = some (aggE e) ∧ ldV Pg 9 (ptr b o) w = some (.string e.1) ∧ ldV Pg 43 (ptr b (o + 1)) w = some e.2.1 := by
  obtain ⟨hl, rfl⟩ := List.getElem?_eq_some_iff.1 hi
  obtain ⟨b, c, h1, h2, h3, h4⟩ := sl_ix T37 enE (h.foc hk) hl
  refine ⟨b, _, h1, ?_, ?_, ?_⟩
  · obtain ⟨i', hi', hs⟩ : ∃ i', Pg.info? 240 = some i' ∧ i'.size = 2 := let ⟨i', _, a, b, _⟩ := T37.i; ⟨i', a, b⟩
    rw [at_load h2 h3 a40 hi' hs, h4]; rfl
  · rw [ldV_sc a9, h2.cell]
    have := congrArg (·[0]?) h4
    simpa [encE, List.getElem?_take, List.getElem?_drop] using this
  · rw [ldV_sc a76, h2.cell]
    have := congrArg (·[1]?) h4
    simpa [encE, List.getElem?_take, List.getElem?_drop] using this

theorem bs_l (h : Sat w F) (e : Ent) : ∃ nb w', rawV Pg (Instr.buildSlice 229 1 #[(0, aggE e)]) w = some (sl nb 0 1 1, w') ∧ Sat w' (pt nb (encE e) 240 :: F) ∧ Sm w w' ∧ Ext (fun _ => False) w w' := by
  obtain ⟨i, z, h1, h2, h3, _⟩ := T37.i
  refine ⟨_, _, slice1_ok (v := aggE e) T37.u h1 h3 (by rw [h2]; rfl) (by rw [h2]; decide) (by rw [h2]; decide), ?_, ?_, ?_⟩
  · exact h.new (Ext.push (fun _ => False) w _) (fun _ _ hf => hf) (At.new w (encE e) 240) (Nat.le_refl _)
  · exact (Ext.push (fun _ => False) w _).sm
  · exact Ext.push (fun _ => False) w _
theorem bs_k (h : Sat w F) (q : Nat) : ∃ nb w', rawV Pg (Instr.buildSlice 230 1 #[(0, ptr q 0)]) w = some (sl nb 0 1 1, w') ∧ Sat w' (pt nb (encP q) 228 :: F) ∧ Sm w w' ∧ Ext (fun _ => False) w w' := by
  obtain ⟨i, z, h1, h2, h3, _⟩ := T98.i
  refine ⟨_, _, slice1_ok (v := ptr q 0) T98.u h1 h3 (by rw [h2]; rfl) (by rw [h2]; decide) (by rw [h2]; decide), ?_, ?_, ?_⟩
  · exact h.new (Ext.push (fun _ => False) w _) (fun _ _ hf => hf) (At.new w (encP q) 228) (Nat.le_refl _)
  · exact (Ext.push (fun _ => False) w _).sm
  · exact Ext.push (fun _ => False) w _

theorem one_sl {a : Option Addr} {n c : Nat} : one (.slice a n c) = true := rfl
theorem slH_one {T k : Nat} {α : Type} {enc : α → List Value} {v : Value} {xs : List α} (h : Sat w F) (j : Nat) (hk : F[j]? = some (slH T k enc v xs)) : one v = true := by
  obtain ⟨a, c, rfl, _⟩ := slH_len (h.foc hk); rfl

/-- the row of one element just laid is what an append reads. -/
theorem row1_l {nb : Nat} {e : Ent} (h : Sat w (pt nb (encE e) 240 :: F)) : Src w (sl nb 0 1 1) [e].length 2 ([e].flatMap encE) := by
  have := src_at (c := 1) h.at (o := 0) (n := 1) (k := 2) (by simp [encE])
  simpa [encE] using this
theorem row1_k {nb q : Nat} (h : Sat w (pt nb (encP q) 228 :: F)) : Src w (sl nb 0 1 1) [q].length 1 ([q].flatMap encP) := by
  have := src_at (c := 1) h.at (o := 0) (n := 1) (k := 1) (by simp [encP])
  simpa [encP] using this

/-! ### Nodes -/

def nd (p : Nat) (l : List Ent) (ks : List Nat) : HP := fun h => ∃ lv kv, stars [pt p [lv, kv] 232, slH 240 2 encE lv l, slH 228 1 encP kv ks] h

theorem nd_open {p : Nat} {l : List Ent} {ks : List Nat} (h : Sat w (nd p l ks :: F)) : ∃ lv kv, Sat w (pt p [lv, kv] 232 :: slH 240 2 encE lv l :: slH 228 1 encP kv ks :: F) := by
  obtain ⟨lv, h⟩ := Sat.ex.1 h
  obtain ⟨kv, h⟩ := Sat.ex.1 h
  exact ⟨lv, kv, Sat.flat.1 h⟩
theorem nd_mk {p : Nat} {l : List Ent} {ks : List Nat} {lv kv : Value} (h : Sat w (pt p [lv, kv] 232 :: slH 240 2 encE lv l :: slH 228 1 encP kv ks :: F)) : Sat w (nd p l ks :: F) :=
  Sat.ex.2 ⟨lv, Sat.ex.2 ⟨kv, Sat.flat.2 h⟩⟩

theorem leaf_eq {p : Nat} {l : List Ent} {ks : List Nat} (h : Sat w F) (k : Nat) (hk : F[k]? = some (nd p l ks)) : Fn Pg 150 [ptr p 0] w = some (.bool (decide (ks.length = 0)), w) := by
  obtain ⟨lv, kv, h⟩ := nd_open (h.foc hk)
  obtain ⟨a, c, rfl, _⟩ := slH_len (h.foc (k := 2) rfl)
  rw [F150]; unfold S150
  rw [nil_ptr, rd_some', fld100_1, rd_some', ld_k h 0 rfl, rd_some', len_sl T98.u, rd2_some', bin_eql, rd2_some']
  congr 3
  rw [Bool.eq_iff_iff, beq_iff_eq, decide_eq_true_iff]; omega

theorem leaf_eq' {p : Nat} {kv lv : Value} {ks : List Nat} (h : Sat w F) (k j : Nat) (hk : F[k]? = some (pt p [lv, kv] 232)) (hj : F[j]? = some (slH 228 1 encP kv ks)) : Fn Pg 150 [ptr p 0] w = some (.bool (decide (ks.length = 0)), w) := by
  obtain ⟨a, c, rfl, _⟩ := slH_len (h.foc hj)
  rw [F150]; unfold S150
  rw [nil_ptr, rd_some', fld100_1, rd_some', ld_k h k hk, rd_some', len_sl T98.u, rd2_some', bin_eql, rd2_some']
  congr 3
  rw [Bool.eq_iff_iff, beq_iff_eq, decide_eq_true_iff]; omega

theorem full_eq {p : Nat} {l : List Ent} {ks : List Nat} (h : Sat w F) (k : Nat) (hk : F[k]? = some (nd p l ks)) : Fn Pg 138 [ptr p 0] w = some (.bool (decide (l.length = 5)), w) := by
  obtain ⟨lv, kv, h⟩ := nd_open (h.foc hk)
  obtain ⟨a, c, rfl, _⟩ := slH_len (h.foc (k := 1) rfl)
  rw [F138]; unfold S138
  rw [nil_ptr, rd_some', fld100_0, rd_some', ld_l h 0 rfl, rd_some', len_sl T37.u, rd2_some', bin_eql, rd2_some']
  congr 3
  rw [Bool.eq_iff_iff]; simp; omega

end Go.Cb

/-
  What stands in the nodes' functions again and again, as one step; merge, split, lend.
-/
set_option linter.unusedVariables false
set_option linter.unusedSimpArgs false
namespace Go.Cb
variable {w : World} {F : List HP} {Q : Value → World → Prop}

theorem go_k {p : Nat} {kv : Value} {κ : Value → R} (e : ldV Pg 230 (ptr p (0 + 1)) w = some kv) (hk : Ok (κ kv) Q) : Ok (rd (nilV (ptr p 0)) fun x => rd (fldA Pg 232 x 1) fun y => rd (ldV Pg 230 y w) κ) Q :=
  Ok.rd (nil_ptr _ _) (Ok.rd (fld100_1 _ _) (Ok.rd e hk))
theorem go_l {p : Nat} {lv : Value} {κ : Value → R} (e : ldV Pg 229 (ptr p 0) w = some lv) (hk : Ok (κ lv) Q) : Ok (rd (nilV (ptr p 0)) fun x => rd (fldA Pg 232 x 0) fun y => rd (ldV Pg 229 y w) κ) Q :=
  Ok.rd (nil_ptr _ _) (Ok.rd (fld100_0 _ _) (Ok.rd e hk))
theorem go_kid {kv : Value} {ks : List Nat} {κ : Value → R} (h : Sat w F) (k : Nat) (hk : F[k]? = some (slH 228 1 encP kv ks)) {i q : Nat} (hi : ks[i]? = some q) (hκ : Ok (κ (ptr q 0)) Q) :
    Ok (rd (ixA Pg 230 kv (int i)) fun a => rd (ldV Pg 228 a w) κ) Q := by
  obtain ⟨b, o, h1, h2⟩ := ix_k h k hk hi
  exact Ok.rd h1 (Ok.rd h2 hκ)
theorem go_ent {lv : Value} {l : List Ent} {κ : Value → R} (h : Sat w F) (k : Nat) (hk : F[k]? = some (slH 240 2 encE lv l)) {i : Nat} {e : Ent} (hi : l[i]? = some e) (hκ : Ok (κ (aggE e)) Q) :
    Ok (rd (ixA Pg 229 lv (int i)) fun a => rd (ldV Pg 240 a w) κ) Q := by
  obtain ⟨b, o, h1, h2, _⟩ := ix_l h k hk hi
  exact Ok.rd h1 (Ok.rd h2 hκ)
theorem go_stl {p : Nat} {lv kv v : Value} {κ : Value → World → R} (h : Sat w F) (k : Nat) (hk : F[k]? = some (pt p [lv, kv] 232)) (hv : one v = true) (hκ : ∀ w', Sat w' (F.set k (pt p [v, kv] 232)) → Sm w w' → Ok (κ undef w') Q) :
    Ok (rd (nilV (ptr p 0)) fun x => rd (fldA Pg 232 x 0) fun y => rd2 (rawU Pg (Instr.storeAt 229 y v) w) κ) Q := by
  obtain ⟨w', h1, h2, h3⟩ := st_l h k hk hv
  exact Ok.rd (nil_ptr _ _) (Ok.rd (fld100_0 _ _) (Ok.rd2 h1 (hκ w' h2 h3)))
theorem go_stk {p : Nat} {lv kv v : Value} {κ : Value → World → R} (h : Sat w F) (k : Nat) (hk : F[k]? = some (pt p [lv, kv] 232)) (hv : one v = true) (hκ : ∀ w', Sat w' (F.set k (pt p [lv, v] 232)) → Sm w w' → Ok (κ undef w') Q) :
    Ok (rd (nilV (ptr p 0)) fun x => rd (fldA Pg 232 x 1) fun y => rd2 (rawU Pg (Instr.storeAt 230 y v) w) κ) Q := by
  obtain ⟨w', h1, h2, h3⟩ := st_k h k hk hv
  exact Ok.rd (nil_ptr _ _) (Ok.rd (fld100_1 _ _) (Ok.rd2 h1 (hκ w' h2 h3)))
theorem go_bsl {e : Ent} {κ : Value → World → R} (h : Sat w F) (hκ : ∀ nb w', Sat w' (pt nb (encE e) 240 :: F) → Sm w w' → Ok (κ (sl nb 0 1 1) w') Q) : Ok (rd2 (rawV Pg (Instr.buildSlice 229 1 #[(0, aggE e)]) w) κ) Q := by
  obtain ⟨nb, w', h1, h2, h3, _⟩ := bs_l h e
  exact Ok.rd2 h1 (hκ nb w' h2 h3)
theorem go_bsk {q : Nat} {κ : Value → World → R} (h : Sat w F) (hκ : ∀ nb w', Sat w' (pt nb (encP q) 228 :: F) → Sm w w' → Ok (κ (sl nb 0 1 1) w') Q) : Ok (rd2 (rawV Pg (Instr.buildSlice 230 1 #[(0, ptr q 0)]) w) κ) Q := by
  obtain ⟨nb, w', h1, h2, h3, _⟩ := bs_k h q
  exact Ok.rd2 h1 (hκ nb w' h2 h3)
/-- an append to a part of the list. -/
theorem go_appl {lv x : Value} {xs ys : List Ent} {rt : TypeId} {cs : Array Bool} {κ : Value → World → R} (h : Sat w F) (k : Nat) (hk : F[k]? = some (slH 240 2 encE lv xs)) (hx : Src w x ys.length 2 (ys.flatMap encE)) (hb : xs.length + ys.length ≤ 2 ^ 30)
    (hκ : ∀ v w', Sat w' (F.set k (slH 240 2 encE v (xs ++ ys))) → Sm w w' → Ok (κ v w') Q) : Ok (rd2 (lenG false Pg .append #[229, 229] rt cs [lv, x] w) κ) Q :=
  Ok.bind (sl_append' T37 enE (h.foc hk) hx hb) fun v w' hq => hκ v w' (Sat.unf hk hq.1) hq.2
theorem go_appk {kv x : Value} {xs ys : List Nat} {rt : TypeId} {cs : Array Bool} {κ : Value → World → R} (h : Sat w F) (k : Nat) (hk : F[k]? = some (slH 228 1 encP kv xs)) (hx : Src w x ys.length 1 (ys.flatMap encP)) (hb : xs.length + ys.length ≤ 2 ^ 30)
    (hκ : ∀ v w', Sat w' (F.set k (slH 228 1 encP v (xs ++ ys))) → Sm w w' → Ok (κ v w') Q) : Ok (rd2 (lenG false Pg .append #[230, 230] rt cs [kv, x] w) κ) Q :=
  Ok.bind (sl_append' T98 enP (h.foc hk) hx hb) fun v w' hq => hκ v w' (Sat.unf hk hq.1) hq.2
theorem go_dell {lv : Value} {xs : List Ent} {κ : Value → World → R} {i : Nat} (h : Sat w F) (k : Nat) (hk : F[k]? = some (slH 240 2 encE lv xs)) (hi : i < xs.length) (hb : xs.length ≤ 2 ^ 30)
    (hκ : ∀ v w', Sat w' (F.set k (slH 240 2 encE v (xs.eraseIdx i))) → Sm w w' → Ok (κ v w') Q) : Ok (rd2 (Fn Pg 203 [lv, int i, int (i + 1 : Nat)] w) κ) Q :=
  Ok.bind (delete85 (h.foc hk) hi hb) fun v w' hq => hκ v w' (Sat.unf hk hq.1) hq.2
theorem go_delk {kv : Value} {xs : List Nat} {κ : Value → World → R} {i : Nat} (h : Sat w F) (k : Nat) (hk : F[k]? = some (slH 228 1 encP kv xs)) (hi : i < xs.length) (hb : xs.length ≤ 2 ^ 30)
    (hκ : ∀ v w', Sat w' (F.set k (slH 228 1 encP v (xs.eraseIdx i))) → Sm w w' → Ok (κ v w') Q) : Ok (rd2 (Fn Pg 229 [kv, int i, int (i + 1 : Nat)] w) κ) Q :=
  Ok.bind (delete114 (h.foc hk) hi hb) fun v w' hq => hκ v w' (Sat.unf hk hq.1) hq.2
theorem go_insl {lv : Value} {nb : Nat} {xs : List Ent} {e : Ent} {κ : Value → World → R} {i : Nat} (h : Sat w (pt nb (encE e) 240 :: F)) (k : Nat) (hk : F[k]? = some (slH 240 2 encE lv xs)) (hi : i ≤ xs.length) (hb : xs.length + 1 ≤ 2 ^ 30)
    (hκ : ∀ v w', Sat w' (F.set k (slH 240 2 encE v (xs.take i ++ e :: xs.drop i))) → Sm w w' → Ok (κ v w') Q) : Ok (rd2 (Fn Pg 196 [lv, int i, sl nb 0 1 1] w) κ) Q := by
  have h' : Sat w (slH 240 2 encE lv xs :: pt nb (encE e) 240 :: F.eraseIdx k) := Sat.foc (F := pt nb (encE e) 240 :: F) h (k := k + 1) hk
  exact Ok.bind (insert83 h' hi hb) fun v w' hq => hκ v w' (Sat.unf hk hq.1) hq.2
theorem go_insk {kv : Value} {nb q : Nat} {xs : List Nat} {κ : Value → World → R} {i : Nat} (h : Sat w (pt nb (encP q) 228 :: F)) (k : Nat) (hk : F[k]? = some (slH 228 1 encP kv xs)) (hi : i ≤ xs.length) (hb : xs.length + 1 ≤ 2 ^ 30)
    (hκ : ∀ v w', Sat w' (F.set k (slH 228 1 encP v (xs.take i ++ q :: xs.drop i))) → Sm w w' → Ok (κ v w') Q) : Ok (rd2 (Fn Pg 197 [kv, int i, sl nb 0 1 1] w) κ) Q := by
  have h' : Sat w (slH 228 1 encP kv xs :: pt nb (encP q) 228 :: F.eraseIdx k) := Sat.foc (F := pt nb (encP q) 228 :: F) h (k := k + 1) hk
  exact Ok.bind (insert84 h' hi hb) fun v w' hq => hκ v w' (Sat.unf hk hq.1) hq.2

theorem nd_open3 {n a b : Nat} {l la lb : List Ent} {ks ka kb : List Nat} (h : Sat w (nd n l ks :: nd a la ka :: nd b lb kb :: F)) :
    ∃ lv kv al ak bl bk, Sat w (pt n [lv, kv] 232 :: slH 240 2 encE lv l :: slH 228 1 encP kv ks :: pt a [al, ak] 232 :: slH 240 2 encE al la :: slH 228 1 encP ak ka :: pt b [bl, bk] 232 :: slH 240 2 encE bl lb :: slH 228 1 encP bk kb :: F) := by
  obtain ⟨bl, bk, h⟩ := nd_open (h.re [2, 0, 1] (by decide))
  obtain ⟨al, ak, h⟩ := nd_open (h.re [4, 0, 1, 2, 3] (by decide))
  obtain ⟨lv, kv, h⟩ := nd_open (h.re [6, 0, 1, 2, 3, 4, 5] (by decide))
  exact ⟨lv, kv, al, ak, bl, bk, h⟩
theorem nd_open2 {n a : Nat} {l la : List Ent} {ks ka : List Nat} (h : Sat w (nd n l ks :: nd a la ka :: F)) :
    ∃ lv kv al ak, Sat w (pt n [lv, kv] 232 :: slH 240 2 encE lv l :: slH 228 1 encP kv ks :: pt a [al, ak] 232 :: slH 240 2 encE al la :: slH 228 1 encP ak ka :: F) := by
  obtain ⟨al, ak, h⟩ := nd_open (h.re [1, 0] (by decide))
  obtain ⟨lv, kv, h⟩ := nd_open (h.re [3, 0, 1, 2] (by decide))
  exact ⟨lv, kv, al, ak, h⟩
theorem nd_mk2 {n a : Nat} {l la : List Ent} {ks ka : List Nat} {lv kv al ak : Value} (h : Sat w (pt n [lv, kv] 232 :: slH 240 2 encE lv l :: slH 228 1 encP kv ks :: pt a [al, ak] 232 :: slH 240 2 encE al la :: slH 228 1 encP ak ka :: F)) :
    Sat w (nd n l ks :: nd a la ka :: F) := by
  have h1 := (nd_mk h).re [1, 2, 3, 0] (by decide)
  exact (nd_mk h1).re [1, 0] (by decide)
theorem nd_mk3 {n a b : Nat} {l la lb : List Ent} {ks ka kb : List Nat} {lv kv al ak bl bk : Value} (h : Sat w (pt n [lv, kv] 232 :: slH 240 2 encE lv l :: slH 228 1 encP kv ks :: pt a [al, ak] 232 :: slH 240 2 encE al la :: slH 228 1 encP ak ka :: pt b [bl, bk] 232 :: slH 240 2 encE bl lb :: slH 228 1 encP bk kb :: F)) :
    Sat w (nd n l ks :: nd a la ka :: nd b lb kb :: F) := by
  have h1 := (nd_mk2 h).re [2, 3, 4, 0, 1] (by decide)
  exact (nd_mk h1).re [1, 2, 0] (by decide)

/-- merge. -/
theorem merge_ok {n a b i : Nat} {l la lb : List Ent} {ks ka kb : List Nat} {e : Ent} (h : Sat w (nd n l ks :: nd a la ka :: nd b lb kb :: F)) (ha : ks[i]? = some a) (hb : ks[i + 1]? = some b) (he : l[i]? = some e)
    (b1 : l.length ≤ 100) (b2 : ks.length ≤ 100) (b3 : la.length ≤ 100) (b4 : lb.length ≤ 100) (b5 : ka.length ≤ 100) (b6 : kb.length ≤ 100) :
    Ok (Fn Pg 205 [ptr n 0, int i] w) fun v w' => Sat w' (nd n (l.eraseIdx i) (ks.eraseIdx (i + 1)) :: nd a (la ++ e :: lb) (ka ++ kb) :: F) ∧ Sm w w' := by
  obtain ⟨lv, kv, al, ak, bl, bk, h⟩ := nd_open3 h
  have hi : i < l.length := (List.getElem?_eq_some_iff.1 he).1
  have hi2 : i + 1 < ks.length := (List.getElem?_eq_some_iff.1 hb).1
  rw [F205]; unfold S205
  refine go_k (ld_k h.drw 0 rfl) (go_kid h.drw 2 rfl ha ?_)
  refine go_k (ld_k h.drw 0 rfl) ?_
  refine Ok.rd2 (bin_add1 (by omega)) ?_
  refine go_kid h.drw 2 rfl hb ?_
  refine go_l (ld_l h.drw.drw 3 rfl) (go_l (ld_l h.drw.drw 0 rfl) (go_ent h.drw.drw 1 rfl he ?_))
  refine go_bsl h.drw.drw fun nb w1 h1 s1 => ?_
  refine go_appl (ys := [e]) h1 5 rfl (row1_l h1) (by simp; omega) fun al1 w2 h2 s2 => ?_
  refine Ok.rd (nil_ptr _ _) (Ok.rd (fld100_0 _ _) (Ok.rd (ld_l h2 7 rfl) ?_))
  refine Ok.chk (show ldV Pg 229 (ptr b 0) w1 = some bl from ld_l h1 7 rfl) (Ok.chk (show ldV Pg 229 (ptr b 0) (drw (drw w)) = some bl from ld_l h.drw.drw 6 rfl) ?_)
  refine go_appl (ys := lb) h2 5 rfl (slH_src (h2.foc (k := 8) rfl)) (by simp; omega) fun al2 w3 h3 s3 => ?_
  refine go_stl h3 4 rfl (slH_one h3 5 rfl) fun w4 h4 s4 => ?_
  refine go_k (ld_k h4.drw 4 rfl) (go_k (ld_k h4.drw 7 rfl) ?_)
  refine go_appk (ys := kb) h4.drw 6 rfl (slH_src (h4.drw.foc (k := 9) rfl)) (by omega) fun ak1 w5 h5 s5 => ?_
  refine go_stk h5 4 rfl (slH_one h5 6 rfl) fun w6 h6 s6 => ?_
  refine go_l (ld_l h6 1 rfl) ?_
  refine Ok.rd2 (bin_add1 (by omega)) ?_
  refine go_dell h6 2 rfl hi (by omega) fun lv1 w7 h7 s7 => ?_
  refine go_stl h7 1 rfl (slH_one h7 2 rfl) fun w8 h8 s8 => ?_
  refine go_k (ld_k h8 1 rfl) ?_
  refine Ok.rd2 (bin_add1 (by omega)) ?_
  refine Ok.rd2 (bin_add2 (by omega)) ?_
  refine go_delk h8 3 rfl hi2 (by omega) fun kv1 w9 h9 s9 => ?_
  refine go_stk h9 1 rfl (slH_one h9 3 rfl) fun w10 h10 s10 => ?_
  refine Ok.ret ⟨?_, ?_⟩
  · have h11 := (h10.re [1, 2, 3, 4, 5, 6, 0, 7, 8, 9] (by decide)).re [0, 1, 2, 3, 4, 5, 6, 7, 8, 9] (by decide)
    have h12 := (nd_mk2 h11).re [2, 3, 4, 5, 0, 1] (by decide)
    have h13 := h12.drop.drop.drop.drop
    rw [List.append_assoc] at h13
    exact h13
  · exact s1.drw.drw.trans (s2.trans (s3.trans (s4.trans (s5.drw.trans (s6.trans (s7.trans (s8.trans (s9.trans s10))))))))

end Go.Cb

/-
  split and lend.
-/
set_option linter.unusedVariables false
set_option linter.unusedSimpArgs false
namespace Go.Cb
variable {w : World} {F : List HP} {Q : Value → World → Prop}

theorem bld100 (a : Option Addr) (n c : Nat) : bldV Pg 232 [(0, .slice a n c)] = some (.agg #[.slice a n c, .slice none 0 0]) := by kernel_rfl

theorem go_box100 {lv kv : Value} (h1 : one lv = true) (h2 : one kv = true) {κ : Value → World → R} (h : Sat w F) (hκ : ∀ nb w', Sat w' (pt nb [lv, kv] 232 :: F) → Sm w w' → Ok (κ (ptr nb 0) w') Q) : Ok (rd2 (rawV Pg (Instr.box 232 (.agg #[lv, kv])) w) κ) Q :=
  Ok.rd2 box_ok (hκ _ _ (h.new (Ext.push (fun _ => False) w _) (fun _ _ hf => hf) (At.new w [lv, kv] 232) (Nat.le_refl _)) (Ext.push (fun _ => False) w _).sm)
theorem go_clonel {x : Value} {ys : List Ent} {κ : Value → World → R} (h : Sat w F) (hx : Src w x ys.length 2 (ys.flatMap encE)) (hb : ys.length ≤ 2 ^ 30) (hκ : ∀ v w', Sat w' (slH 240 2 encE v ys :: F) → Sm w w' → Ok (κ v w') Q) : Ok (rd2 (Fn Pg 194 [x] w) κ) Q :=
  Ok.bind (clone81 h hx hb) fun v w' hq => hκ v w' hq.1 hq.2
theorem go_clonek {x : Value} {ys : List Nat} {κ : Value → World → R} (h : Sat w F) (hx : Src w x ys.length 1 (ys.flatMap encP)) (hb : ys.length ≤ 2 ^ 30) (hκ : ∀ v w', Sat w' (slH 228 1 encP v ys :: F) → Sm w w' → Ok (κ v w') Q) : Ok (rd2 (Fn Pg 195 [x] w) κ) Q :=
  Ok.bind (clone82 h hx hb) fun v w' hq => hκ v w' hq.1 hq.2
theorem go_leaf' {p : Nat} {kv lv : Value} {ks : List Nat} {κ : Value → World → R} (h : Sat w F) (k j : Nat) (hk : F[k]? = some (pt p [lv, kv] 232)) (hj : F[j]? = some (slH 228 1 encP kv ks)) (hκ : Ok (κ (.bool (decide (ks.length = 0))) w) Q) : Ok (rd2 (Fn Pg 150 [ptr p 0] w) κ) Q :=
  Ok.rd2 (leaf_eq' h k j hk hj) hκ
/-- v[lo:], read. -/
theorem go_sufl {lv : Value} {xs : List Ent} {κ : Value → R} (h : Sat w F) (k : Nat) (hk : F[k]? = some (slH 240 2 encE lv xs)) {lo : Nat} (hh : lo ≤ xs.length) (hκ : ∀ v, Src w v (xs.drop lo).length 2 ((xs.drop lo).flatMap encE) → Ok (κ v) Q) : Ok (rd (slV Pg 229 lv (some (int lo)) none none) κ) Q := by
  obtain ⟨v, h1, h2⟩ := sl_suf T37 enE (h.foc hk) hh
  exact Ok.rd h1 (hκ v h2)
theorem go_sufk {kv : Value} {xs : List Nat} {κ : Value → R} (h : Sat w F) (k : Nat) (hk : F[k]? = some (slH 228 1 encP kv xs)) {lo : Nat} (hh : lo ≤ xs.length) (hκ : ∀ v, Src w v (xs.drop lo).length 1 ((xs.drop lo).flatMap encP) → Ok (κ v) Q) : Ok (rd (slV Pg 230 kv (some (int lo)) none none) κ) Q := by
  obtain ⟨v, h1, h2⟩ := sl_suf T98 enP (h.foc hk) hh
  exact Ok.rd h1 (hκ v h2)
/-- v[:hi]: read, or in its place. -/
theorem go_prel {lv : Value} {xs : List Ent} {κ : Value → R} (h : Sat w F) (k : Nat) (hk : F[k]? = some (slH 240 2 encE lv xs)) {hi : Nat} (hh : hi ≤ xs.length) (hκ : ∀ v, Src w v (xs.take hi).length 2 ((xs.take hi).flatMap encE) → Sat w (F.set k (slH 240 2 encE v (xs.take hi))) → Ok (κ v) Q) : Ok (rd (slV Pg 229 lv none (some (int hi)) none) κ) Q := by
  obtain ⟨v, h1, h2⟩ := sl_pre T37 enE (h.foc hk) hh
  exact Ok.rd h1 (hκ v (slH_src h2) (Sat.unf hk h2))
theorem go_prek {kv : Value} {xs : List Nat} {κ : Value → R} (h : Sat w F) (k : Nat) (hk : F[k]? = some (slH 228 1 encP kv xs)) {hi : Nat} (hh : hi ≤ xs.length) (hκ : ∀ v, Src w v (xs.take hi).length 1 ((xs.take hi).flatMap encP) → Sat w (F.set k (slH 228 1 encP v (xs.take hi))) → Ok (κ v) Q) : Ok (rd (slV Pg 230 kv none (some (int hi)) none) κ) Q := by
  obtain ⟨v, h1, h2⟩ := sl_pre T98 enP (h.foc hk) hh
  exact Ok.rd h1 (hκ v (slH_src h2) (Sat.unf hk h2))
theorem go_lenl {lv : Value} {xs : List Ent} {st : Bool} {rt : TypeId} {cs : Array Bool} {κ : Value → World → R} {w' : World} (h : Sat w F) (k : Nat) (hk : F[k]? = some (slH 240 2 encE lv xs)) (hκ : Ok (κ (int xs.length) w') Q) : Ok (rd2 (lenG st Pg .len #[229] rt cs [lv] w') κ) Q :=
  Ok.rd2 (sl_len T37 (h.foc hk) w') hκ
theorem go_lenk {kv : Value} {xs : List Nat} {st : Bool} {rt : TypeId} {cs : Array Bool} {κ : Value → World → R} {w' : World} (h : Sat w F) (k : Nat) (hk : F[k]? = some (slH 228 1 encP kv xs)) (hκ : Ok (κ (int xs.length) w') Q) : Ok (rd2 (lenG st Pg .len #[230] rt cs [kv] w') κ) Q :=
  Ok.rd2 (sl_len T98 (h.foc hk) w') hκ

/-- the end of split. -/
noncomputable def T48 (x0 x1 x7 x15 : Value) (w18 : World) : R :=
  rd (nilV x0) fun x79 =>
  rd (fldA Pg 232 x79 0) fun x80 =>
  rd (ldV Pg 229 x80 (drw w18)) fun x81 =>
  rd (nilV x7) fun x82 =>
  rd (fldA Pg 232 x82 0) fun x83 =>
  rd (ldV Pg 229 x83 (drw w18)) fun x84 =>
  rd (ixA Pg 229 x84 (.int .i64 2)) fun x85 =>
  rd (ldV Pg 240 x85 (drw w18)) fun x86 =>
  rd2 (rawV Pg (Instr.buildSlice 229 1 #[(0, x86)]) (drw w18)) fun x87 w88 =>
  rd2 (Fn Pg 196 [x81, x1, x87] w88) fun x89 w90 =>
  rd (nilV x0) fun x91 =>
  rd (fldA Pg 232 x91 0) fun x92 =>
  rd2 (rawU Pg (Instr.storeAt 229 x92 x89) w90) fun x94 w93 =>
  rd (nilV x0) fun x95 =>
  rd (fldA Pg 232 x95 1) fun x96 =>
  rd (ldV Pg 230 x96 w93) fun x97 =>
  rd2 (binG false Pg .add 3 (.tmp 0) (.const .nilFunc) x1 (.int .i64 1) w93) fun x98 w99 =>
  rd2 (rawV Pg (Instr.buildSlice 230 1 #[(0, x15)]) w99) fun x100 w101 =>
  rd2 (Fn Pg 197 [x97, x98, x100] w101) fun x102 w103 =>
  rd (nilV x0) fun x104 =>
  rd (fldA Pg 232 x104 1) fun x105 =>
  rd2 (rawU Pg (Instr.storeAt 230 x105 x102) w103) fun x107 w106 =>
  rd (nilV x7) fun x108 =>
  rd (fldA Pg 232 x108 0) fun x109 =>
  rd (ldV Pg 229 x109 w106) fun x110 =>
  rd (slV Pg 229 x110 none (some (.int .i64 2)) none) fun x111 =>
  rd2 (Fn Pg 194 [x111] w106) fun x112 w113 =>
  rd (nilV x7) fun x114 =>
  rd (fldA Pg 232 x114 0) fun x115 =>
  rd2 (rawU Pg (Instr.storeAt 229 x115 x112) w113) fun x117 w116 =>
  some ((.tuple #[]), w116)

theorem split_tail {n a b i : Nat} {l la lb : List Ent} {ks ka kb : List Nat} {e : Ent} {lv kv al ak bl bk : Value}
    (h : Sat w (pt n [lv, kv] 232 :: slH 240 2 encE lv l :: slH 228 1 encP kv ks :: pt a [al, ak] 232 :: slH 240 2 encE al la :: slH 228 1 encP ak ka :: pt b [bl, bk] 232 :: slH 240 2 encE bl lb :: slH 228 1 encP bk kb :: F))
    (he : la[2]? = some e) (hi : i ≤ l.length) (hi2 : i + 1 ≤ ks.length) (b1 : l.length ≤ 100) (b2 : ks.length ≤ 100) (b3 : la.length ≤ 100) :
    Ok (T48 (ptr n 0) (int i) (ptr a 0) (ptr b 0) w) fun v w' => Sat w' (nd n (l.take i ++ e :: l.drop i) (ks.take (i + 1) ++ b :: ks.drop (i + 1)) :: nd a (la.take 2) ka :: nd b lb kb :: F) ∧ Sm w w' := by
  have h2l : 2 < la.length := (List.getElem?_eq_some_iff.1 he).1
  unfold T48
  refine go_l (ld_l h.drw 0 rfl) (go_l (ld_l h.drw 3 rfl) (go_ent (i := 2) h.drw 4 rfl he ?_))
  refine go_bsl h.drw fun nb w1 h1 s1 => ?_
  refine go_insl h1 1 rfl hi (by omega) fun lv1 w2 h2 s2 => ?_
  refine go_stl h2 0 rfl (slH_one h2 1 rfl) fun w3 h3 s3 => ?_
  refine go_k (ld_k h3 0 rfl) ?_
  refine Ok.rd2 (bin_add1 (by omega)) ?_
  refine go_bsk h3 fun nb2 w4 h4 s4 => ?_
  refine go_insk h4 2 rfl hi2 (by omega) fun kv1 w5 h5 s5 => ?_
  refine go_stk h5 0 rfl (slH_one h5 2 rfl) fun w6 h6 s6 => ?_
  refine go_l (ld_l h6 3 rfl) ?_
  refine go_prel (hi := 2) h6 4 rfl (by omega) fun x111 hs _ => ?_
  refine go_clonel h6 hs (by simp; omega) fun al1 w7 h7 s7 => ?_
  refine go_stl h7 4 rfl (slH_one h7 0 rfl) fun w8 h8 s8 => ?_
  refine Ok.ret ⟨?_, s1.drw.trans (s2.trans (s3.trans (s4.trans (s5.trans (s6.trans (s7.trans s8))))))⟩
  have h9 := h8.re [5, 1, 2, 3, 4, 0, 6, 7, 8, 9] (by decide)
  exact nd_mk3 h9.drop

theorem split_ok {n a i : Nat} {l la : List Ent} {ks ka : List Nat} {e : Ent} (h : Sat w (nd n l ks :: nd a la ka :: F)) (ha : ks[i]? = some a) (hi : i ≤ l.length) (h5 : la.length = 5) (he : la[2]? = some e) (hk : ka = [] ∨ ka.length = 6)
    (b1 : l.length ≤ 100) (b2 : ks.length ≤ 100) :
    Ok (Fn Pg 139 [ptr n 0, int i] w) fun v w' => ∃ b, Sat w' (nd n (l.take i ++ e :: l.drop i) (ks.take (i + 1) ++ b :: ks.drop (i + 1)) :: nd a (la.take 2) (ka.take 3) :: nd b (la.drop 3) (ka.drop 3) :: F) ∧ Sm w w' := by
  obtain ⟨lv, kv, al, ak, h⟩ := nd_open2 h
  have hi2 : i < ks.length := (List.getElem?_eq_some_iff.1 ha).1
  rw [F139]; unfold S139
  refine go_k (ld_k h 0 rfl) (go_kid h 2 rfl ha ?_)
  refine go_l (ld_l h 3 rfl) ?_
  refine go_sufl (lo := 3) h 4 rfl (by omega) fun x11 hs => ?_
  refine go_clonel h hs (by simp; omega) fun bl w1 h1 s1 => ?_
  obtain ⟨ba, bc, rfl, _⟩ := slH_len (h1.foc (k := 0) rfl)
  refine Ok.rd (bld100 _ _ _) ?_
  refine go_box100 rfl rfl h1 fun b w2 h2 s2 => ?_
  refine go_leaf' h2 5 7 rfl rfl ?_
  refine Ok.rd (un_not _) ?_
  rcases hk with rfl | hk
  · refine Ok.cf rfl ?_
    have h3 : Sat w2 (slH 228 1 encP (.slice none 0 0) [] :: _) := slH_nil none h2
    have h4 := h3.re [3, 4, 5, 6, 7, 8, 1, 2, 0] (by decide)
    refine (split_tail h4 he hi (by omega) b1 b2 (by omega)).mono fun v w' hq => ⟨b, ?_, s1.trans (s2.trans hq.2)⟩
    exact hq.1
  · refine Ok.ct (by rw [hk]; rfl) ?_
    refine go_k (ld_k h2 5 rfl) ?_
    refine go_sufk (lo := 3) h2 7 rfl (by omega) fun x23 hs3 => ?_
    refine go_clonek h2 hs3 (by simp; omega) fun bk w3 h3 s3 => ?_
    refine go_stk h3 1 rfl (slH_one h3 0 rfl) fun w4 h4 s4 => ?_
    refine go_k (ld_k h4 6 rfl) ?_
    refine go_prek (hi := 3) h4 8 rfl (by omega) fun x33 hs4 _ => ?_
    refine go_clonek h4 hs4 (by simp; omega) fun ak1 w5 h5 s5 => ?_
    refine go_stk h5 7 rfl (slH_one h5 0 rfl) fun w6 h6 s6 => ?_
    have h7 := h6.re [4, 5, 6, 7, 8, 0, 2, 3, 1, 9] (by decide)
    refine (split_tail h7 he hi (by omega) b1 b2 (by omega)).mono fun v w' hq => ⟨b, ?_, s1.trans (s2.trans (s3.trans (s4.trans (s5.trans (s6.trans hq.2)))))⟩
    have h8 := hq.1.re [3, 0, 1, 2] (by decide)
    exact h8.drop

end Go.Cb

/-
  lend and rich.
-/
set_option linter.unusedVariables false
set_option linter.unusedSimpArgs false
namespace Go.Cb
variable {w : World} {F : List HP} {Q : Value → World → Prop}

theorem go_set {lv : Value} {l : List Ent} {g : Ent} {κ : Value → World → R} {i : Nat} (h : Sat w F) (k : Nat) (hk : F[k]? = some (slH 240 2 encE lv l)) (hi : i < l.length) (hκ : ∀ w', Sat w' (F.set k (slH 240 2 encE lv (l.set i g))) → Sm w w' → Ok (κ undef w') Q) :
    Ok (rd (ixA Pg 229 lv (int i)) fun a => rd2 (rawU Pg (Instr.storeAt 240 a (aggE g)) w) κ) Q := by
  obtain ⟨b, c, h1, _⟩ := sl_ix T37 enE (h.foc hk) hi
  obtain ⟨w', h2, h3, h4⟩ := sl_set T37 enE (h.foc hk) hi (y := g) (u := aggE g) rfl h1
  exact Ok.rd h1 (Ok.rd2 h2 (hκ w' (Sat.unf hk h3) h4))

theorem lendL_ok {n t f i j : Nat} {l lt lf : List Ent} {ks kt kf : List Nat} {e g : Ent} (h : Sat w (nd n l ks :: nd t lt kt :: nd f lf kf :: F)) (hij : i = j + 1) (ht : ks[i]? = some t) (hf : ks[j]? = some f) (he : l[j]? = some e) {m : Nat} (hm : lf.length = m + 1) (hg : lf[m]? = some g)
    (hk : kf = [] ∨ kf.length = m + 2) (b1 : l.length ≤ 100) (b2 : ks.length ≤ 100) (b3 : lt.length ≤ 100) (b4 : lf.length ≤ 100) (b5 : kt.length ≤ 100) :
    Ok (Fn Pg 230 [ptr n 0, int i, int j] w) fun v w' => Sat w' (nd n (l.set j g) ks :: nd t (e :: lt) (kf.drop (m + 1) ++ kt) :: nd f (lf.take m) (kf.take (m + 1)) :: F) ∧ Sm w w' := by
  obtain ⟨lv, kv, tl, tk, fl, fk, h⟩ := nd_open3 h
  have hj : j < l.length := (List.getElem?_eq_some_iff.1 he).1
  rw [F230]; unfold S230
  refine go_k (ld_k h.drw 0 rfl) (go_kid h.drw 2 rfl ht ?_)
  refine go_k (ld_k h.drw 0 rfl) (go_kid h.drw 2 rfl hf ?_)
  refine Ok.rd2 bin_lss (Ok.ct (by simp; omega) ?_)
  refine go_l (ld_l h.drw 6 rfl) (go_lenl h.drw 7 rfl ?_)
  refine Ok.rd2 (bin_sub1 (by omega) (by omega)) ?_
  rw [hm, Nat.add_sub_cancel]
  refine go_l (ld_l h.drw.drw 3 rfl) (go_l (ld_l h.drw.drw 0 rfl) (go_ent h.drw.drw 1 rfl he ?_))
  refine go_bsl h.drw.drw fun nb w1 h1 s1 => ?_
  refine go_insl (i := 0) h1 4 rfl (Nat.zero_le _) (by omega) fun tl1 w2 h2 s2 => ?_
  refine go_stl h2 3 rfl (slH_one h2 4 rfl) fun w3 h3 s3 => ?_
  refine go_l (ld_l h3.drw 0 rfl) (go_l (ld_l h3.drw 6 rfl) (go_ent h3.drw 7 rfl hg ?_))
  refine go_set (i := j) h3.drw 1 rfl hj fun w4 h4 s4 => ?_
  refine go_l (ld_l h4 6 rfl) ?_
  refine go_prel (hi := m) h4 7 rfl (by omega) fun fl1 _ h5 => ?_
  refine go_stl h5 6 rfl (slH_one h5 7 rfl) fun w6 h6 s6 => ?_
  refine go_leaf' h6 6 8 rfl rfl ?_
  refine Ok.rd (un_not _) ?_
  have s06 := s1.drw.drw.trans (s2.trans (s3.trans (s4.drw.trans s6)))
  rcases hk with rfl | hk
  · refine Ok.cf rfl (Ok.ret ⟨?_, s06⟩)
    rw [List.drop_nil, List.take_nil, List.nil_append]
    exact nd_mk3 h6
  · refine Ok.ct (by rw [hk]; rfl) ?_
    obtain ⟨q, hq⟩ : ∃ q, kf[m + 1]? = some q := ⟨_, List.getElem?_eq_getElem (by omega)⟩
    refine go_k (ld_k h6.drw 3 rfl) (go_k (ld_k h6.drw 6 rfl) ?_)
    refine Ok.rd2 (bin_add1 (by omega)) ?_
    refine go_kid h6.drw 8 rfl hq ?_
    refine go_bsk h6.drw fun nb2 w7 h7 s7 => ?_
    refine go_insk (i := 0) h7 5 rfl (Nat.zero_le _) (by omega) fun tk1 w8 h8 s8 => ?_
    refine go_stk h8 3 rfl (slH_one h8 5 rfl) fun w9 h9 s9 => ?_
    refine go_k (ld_k h9 6 rfl) ?_
    refine Ok.rd2 (bin_add1 (by omega)) ?_
    refine go_prek (hi := m + 1) h9 8 rfl (by omega) fun fk1 _ h10 => ?_
    refine go_stk h10 6 rfl (slH_one h10 8 rfl) fun w11 h11 s11 => ?_
    refine Ok.ret ⟨?_, s06.trans (s7.drw.trans (s8.trans (s9.trans s11)))⟩
    have hd : kf.drop (m + 1) = [q] := by
      rw [List.drop_eq_getElem_cons (by omega), List.drop_eq_nil_of_le (by omega)]
      rw [List.getElem?_eq_getElem (by omega)] at hq
      injection hq with hq; rw [hq]
    rw [hd]
    exact nd_mk3 h11

theorem lendR_ok {n t f i j : Nat} {l lt lf : List Ent} {ks kt kf : List Nat} {e g : Ent} (h : Sat w (nd n l ks :: nd t lt kt :: nd f lf kf :: F)) (hij : j = i + 1) (ht : ks[i]? = some t) (hf : ks[j]? = some f) (he : l[i]? = some e) (hg : lf[0]? = some g)
    (b1 : l.length ≤ 100) (b2 : ks.length ≤ 100) (b3 : lt.length ≤ 100) (b4 : lf.length ≤ 100) (b5 : kt.length ≤ 100) (b6 : kf.length ≤ 100) :
    Ok (Fn Pg 230 [ptr n 0, int i, int j] w) fun v w' => Sat w' (nd n (l.set i g) ks :: nd t (lt ++ [e]) (kt ++ kf.take 1) :: nd f (lf.drop 1) (kf.drop 1) :: F) ∧ Sm w w' := by
  obtain ⟨lv, kv, tl, tk, fl, fk, h⟩ := nd_open3 h
  have hi : i < l.length := (List.getElem?_eq_some_iff.1 he).1
  have hf0 : 0 < lf.length := (List.getElem?_eq_some_iff.1 hg).1
  have hde : ∀ {β : Type} (l : List β), l.eraseIdx 0 = l.drop 1 := fun l => by cases l <;> rfl
  rw [F230]; unfold S230
  refine go_k (ld_k h.drw 0 rfl) (go_kid h.drw 2 rfl ht ?_)
  refine go_k (ld_k h.drw 0 rfl) (go_kid h.drw 2 rfl hf ?_)
  refine Ok.rd2 bin_lss (Ok.cf (by simp; omega) ?_)
  refine go_l (ld_l h.drw.drw 3 rfl) (go_l (ld_l h.drw.drw 0 rfl) (go_ent h.drw.drw 1 rfl he ?_))
  refine go_bsl h.drw.drw fun nb w1 h1 s1 => ?_
  refine go_appl (ys := [e]) h1 5 rfl (row1_l h1) (by simp; omega) fun tl1 w2 h2 s2 => ?_
  refine go_stl h2 4 rfl (slH_one h2 5 rfl) fun w3 h3 s3 => ?_
  refine go_l (ld_l h3.drw 1 rfl) (go_l (ld_l h3.drw 7 rfl) (go_ent (i := 0) h3.drw 8 rfl hg ?_))
  refine go_set (i := i) h3.drw 2 rfl hi fun w4 h4 s4 => ?_
  refine go_l (ld_l h4 7 rfl) ?_
  refine go_dell (i := 0) h4 8 rfl hf0 (by omega) fun fl1 w5 h5 s5 => ?_
  refine go_stl h5 7 rfl (slH_one h5 8 rfl) fun w6 h6 s6 => ?_
  refine go_leaf' h6 7 9 rfl rfl ?_
  refine Ok.rd (un_not _) ?_
  have s06 := s1.drw.drw.trans (s2.trans (s3.trans (s4.drw.trans (s5.trans s6))))
  have h6 := h6.drop
  rw [hde] at h6
  cases kf with
  | nil =>
    refine Ok.cf rfl (Ok.ret ⟨?_, s06⟩)
    rw [List.drop_nil, List.take_nil, List.append_nil]
    exact nd_mk3 h6
  | cons q kf =>
    refine Ok.ct rfl ?_
    refine go_k (ld_k h6.drw 3 rfl) (go_k (ld_k h6.drw 6 rfl) ?_)
    refine go_kid (i := 0) h6.drw 8 rfl rfl ?_
    refine go_bsk h6.drw fun nb2 w7 h7 s7 => ?_
    refine go_appk (ys := [q]) h7 6 rfl (row1_k h7) (by simp; omega) fun tk1 w8 h8 s8 => ?_
    refine go_stk h8 4 rfl (slH_one h8 6 rfl) fun w9 h9 s9 => ?_
    refine go_k (ld_k h9 7 rfl) ?_
    refine go_delk (i := 0) h9 9 rfl (by simp) (by omega) fun fk1 w10 h10 s10 => ?_
    refine go_stk h10 7 rfl (slH_one h10 9 rfl) fun w11 h11 s11 => ?_
    refine Ok.ret ⟨?_, s06.trans (s7.drw.trans (s8.trans (s9.trans (s10.trans s11))))⟩
    exact nd_mk3 h11.drop

end Go.Cb

/-
  Keys and their order; sorted entries; put, delete; entries interleaved with those of kids.
-/
set_option linter.unusedVariables false
set_option linter.unusedSimpArgs false
namespace Go.Cb

/-! ### The order of keys -/

theorem bl_irr : ∀ x : List UInt8, Op.bytesLess x x = false
  | [] => rfl
  | a :: x => by
    have : ¬ a < a := UInt8.lt_irrefl a
    simp [Op.bytesLess, bl_irr x, this]
theorem bl_tr : ∀ {x y z : List UInt8}, Op.bytesLess x y = true → Op.bytesLess y z = true → Op.bytesLess x z = true
  | [], y, z, h1, h2 => by
    cases z with
    | nil => cases y <;> simp [Op.bytesLess] at h2
    | cons c z => simp [Op.bytesLess]
  | a :: x, [], z, h1, h2 => by simp [Op.bytesLess] at h1
  | a :: x, b :: y, [], h1, h2 => by simp [Op.bytesLess] at h2
  | a :: x, b :: y, c :: z, h1, h2 => by
    simp only [Op.bytesLess, Bool.or_eq_true, decide_eq_true_iff, Bool.and_eq_true, beq_iff_eq] at h1 h2 ⊢
    rcases h1 with h1 | ⟨rfl, h1⟩
    · rcases h2 with h2 | ⟨rfl, h2⟩
      · exact .inl (UInt8.lt_trans h1 h2)
      · exact .inl h1
    · rcases h2 with h2 | ⟨rfl, h2⟩
      · exact .inl h2
      · exact .inr ⟨rfl, bl_tr h1 h2⟩
theorem bl_tot : ∀ {x y : List UInt8}, Op.bytesLess x y = false → Op.bytesLess y x = false → x = y
  | [], [], _, _ => rfl
  | [], b :: y, h1, h2 => by simp [Op.bytesLess] at h1
  | a :: x, [], h1, h2 => by simp [Op.bytesLess] at h2
  | a :: x, b :: y, h1, h2 => by
    simp only [Op.bytesLess, Bool.or_eq_false_iff, decide_eq_false_iff_not, Bool.and_eq_false_iff, beq_eq_false_iff_ne] at h1 h2
    have hab : a = b := by
      apply UInt8.le_antisymm
      · exact UInt8.not_lt.1 h2.1
      · exact UInt8.not_lt.1 h1.1
    subst hab
    have h3 : Op.bytesLess x y = false := h1.2.resolve_left (fun h => h rfl)
    have h4 : Op.bytesLess y x = false := h2.2.resolve_left (fun h => h rfl)
    rw [bl_tot h3 h4]

def kl (a b : ByteArray) : Bool := Op.bytesLess a.toList b.toList
theorem tl_inj {a b : ByteArray} (h : a.toList = b.toList) : a = b := by
  rw [ByteArray.toList_eq, ByteArray.toList_eq] at h
  cases a; cases b
  simp only [ByteArray.mk.injEq]
  exact Array.ext' h
theorem kl_irr (a : ByteArray) : kl a a = false := bl_irr _
theorem kl_tr {a b c : ByteArray} (h : kl a b = true) (h' : kl b c = true) : kl a c = true := bl_tr h h'
theorem kl_tot {a b : ByteArray} (h : kl a b = false) (h' : kl b a = false) : a = b := tl_inj (bl_tot h h')
theorem kl_asym {a b : ByteArray} (h : kl a b = true) : kl b a = false := by
  cases hb : kl b a with
  | false => rfl
  | true => have := kl_tr h hb; rw [kl_irr] at this; cases this
theorem kl_ne {a b : ByteArray} (h : kl a b = true) : a ≠ b := by rintro rfl; rw [kl_irr] at h; cases h
/-- not below, and not the same: above. -/
theorem kl_gt {a b : ByteArray} (h : kl a b = false) (h' : a ≠ b) : kl b a = true := by
  cases hb : kl b a with
  | true => rfl
  | false => exact absurd (kl_tot h hb) h'
theorem key_beq (a b : ByteArray) : (a.toList == b.toList) = decide (a = b) := by
  rw [Bool.eq_iff_iff, beq_iff_eq, decide_eq_true_iff]
  exact ⟨tl_inj, fun h => by rw [h]⟩

/-! ### Sorted entries -/

def Srt (L : List Ent) : Prop := L.Pairwise fun a b => kl a.1 b.1 = true
theorem srt_app {A B : List Ent} : Srt (A ++ B) ↔ Srt A ∧ Srt B ∧ ∀ a ∈ A, ∀ b ∈ B, kl a.1 b.1 = true := List.pairwise_append
theorem srt_cons {a : Ent} {B : List Ent} : Srt (a :: B) ↔ (∀ b ∈ B, kl a.1 b.1 = true) ∧ Srt B := List.pairwise_cons

def lows (L : List Ent) (k : ByteArray) : List Ent := L.filter fun e => kl e.1 k
def upps (L : List Ent) (k : ByteArray) : List Ent := L.filter fun e => kl k e.1
def putL (L : List Ent) (e : Ent) : List Ent := lows L e.1 ++ e :: upps L e.1
def delL (L : List Ent) (k : ByteArray) : List Ent := lows L k ++ upps L k
def hasL (L : List Ent) (k : ByteArray) : Prop := ∃ e ∈ L, e.1 = k
def bel (L : List Ent) (k : ByteArray) : Prop := ∀ e ∈ L, kl e.1 k = true
def abv (L : List Ent) (k : ByteArray) : Prop := ∀ e ∈ L, kl k e.1 = true

theorem lows_app (A B : List Ent) (k : ByteArray) : lows (A ++ B) k = lows A k ++ lows B k := List.filter_append ..
theorem upps_app (A B : List Ent) (k : ByteArray) : upps (A ++ B) k = upps A k ++ upps B k := List.filter_append ..
theorem lows_bel {A : List Ent} {k : ByteArray} (h : bel A k) : lows A k = A := List.filter_eq_self.2 h
theorem upps_abv {A : List Ent} {k : ByteArray} (h : abv A k) : upps A k = A := List.filter_eq_self.2 h
theorem lows_abv {A : List Ent} {k : ByteArray} (h : abv A k) : lows A k = [] := List.filter_eq_nil_iff.2 fun e he => by rw [kl_asym (h e he)]; simp
theorem upps_bel {A : List Ent} {k : ByteArray} (h : bel A k) : upps A k = [] := List.filter_eq_nil_iff.2 fun e he => by rw [kl_asym (h e he)]; simp

theorem put_mid {A X B : List Ent} {e : Ent} (hA : bel A e.1) (hB : abv B e.1) : putL (A ++ X ++ B) e = A ++ putL X e ++ B := by
  simp only [putL, lows_app, upps_app, lows_bel hA, lows_abv hB, upps_bel hA, upps_abv hB, List.nil_append, List.append_nil, List.append_assoc, List.cons_append]
theorem del_mid {A X B : List Ent} {k : ByteArray} (hA : bel A k) (hB : abv B k) : delL (A ++ X ++ B) k = A ++ delL X k ++ B := by
  simp only [delL, lows_app, upps_app, lows_bel hA, lows_abv hB, upps_bel hA, upps_abv hB, List.nil_append, List.append_nil, List.append_assoc]
theorem has_mid {A X B : List Ent} {k : ByteArray} (hA : bel A k) (hB : abv B k) : hasL (A ++ X ++ B) k ↔ hasL X k := by
  constructor
  · rintro ⟨e, he, rfl⟩
    rcases List.mem_append.1 he with he | he
    · rcases List.mem_append.1 he with he | he
      · exact absurd rfl (kl_ne (hA e he))
      · exact ⟨e, he, rfl⟩
    · exact absurd rfl (kl_ne (hB e he))
  · rintro ⟨e, he, rfl⟩
    exact ⟨e, by simp [he], rfl⟩
theorem put_one {A B : List Ent} {e : Ent} (hA : bel A e.1) (hB : abv B e.1) : putL (A ++ B) e = A ++ e :: B := by
  have := put_mid (X := []) hA hB
  simpa [putL, lows, upps] using this
theorem put_set {A B : List Ent} {e x : Ent} (hA : bel A e.1) (hB : abv B e.1) (hx : x.1 = e.1) : putL (A ++ x :: B) e = A ++ e :: B := by
  have := put_mid (X := [x]) hA hB
  simpa [putL, lows, upps, hx, kl_irr] using this
theorem del_one {A B : List Ent} {k : ByteArray} {x : Ent} (hA : bel A k) (hB : abv B k) (hx : x.1 = k) : delL (A ++ x :: B) k = A ++ B := by
  have := del_mid (X := [x]) hA hB
  simpa [delL, lows, upps, hx, kl_irr] using this
theorem srt_mid {A B : List Ent} {x : Ent} (h : Srt (A ++ x :: B)) : bel A x.1 ∧ abv B x.1 := by
  obtain ⟨h1, h2, h3⟩ := srt_app.1 h
  obtain ⟨h4, h5⟩ := srt_cons.1 h2
  exact ⟨fun e he => h3 e he x (by simp), h4⟩
theorem bel_tr {A : List Ent} {k k' : ByteArray} (h : bel A k) (hk : kl k k' = true) : bel A k' := fun e he => kl_tr (h e he) hk
theorem abv_tr {A : List Ent} {k k' : ByteArray} (h : abv A k) (hk : kl k' k = true) : abv A k' := fun e he => kl_tr hk (h e he)

theorem has_split {L : List Ent} {k : ByteArray} (h : hasL L k) : ∃ A x B, L = A ++ x :: B ∧ x.1 = k := by
  obtain ⟨e, he, rfl⟩ := h
  obtain ⟨A, B, rfl⟩ := List.append_of_mem he
  exact ⟨A, e, B, rfl, rfl⟩

/-- where a key stands, or would stand. -/
theorem srt_cases {L : List Ent} (h : Srt L) (k : ByteArray) : (hasL L k ∧ ∃ A x B, L = A ++ x :: B ∧ x.1 = k ∧ bel A k ∧ abv B k) ∨ (¬ hasL L k ∧ ∃ A B, L = A ++ B ∧ bel A k ∧ abv B k) := by
  induction L with
  | nil => exact .inr ⟨(by rintro ⟨e, he, _⟩; cases he), [], [], rfl, (by intro e he; cases he), (by intro e he; cases he)⟩
  | cons a L ih =>
    obtain ⟨h1, h2⟩ := srt_cons.1 h
    cases hak : kl a.1 k with
    | true =>
      rcases ih h2 with ⟨hh, A, x, B, rfl, hx, hA, hB⟩ | ⟨hh, A, B, rfl, hA, hB⟩
      · refine .inl ⟨?_, a :: A, x, B, rfl, hx, ?_, hB⟩
        · obtain ⟨e, he, hk⟩ := hh; exact ⟨e, List.mem_cons_of_mem _ he, hk⟩
        · intro e he; rcases List.mem_cons.1 he with rfl | he
          · exact hak
          · exact hA e he
      · refine .inr ⟨?_, a :: A, B, rfl, ?_, hB⟩
        · rintro ⟨e, he, rfl⟩
          rcases List.mem_cons.1 he with rfl | he
          · rw [kl_irr] at hak; cases hak
          · exact hh ⟨e, he, rfl⟩
        · intro e he; rcases List.mem_cons.1 he with rfl | he
          · exact hak
          · exact hA e he
    | false =>
      by_cases hk : a.1 = k
      · subst hk
        exact .inl ⟨⟨a, by simp, rfl⟩, [], a, L, rfl, rfl, (by intro e he; cases he), h1⟩
      · have hgt := kl_gt hak hk
        refine .inr ⟨?_, [], a :: L, rfl, (by intro e he; cases he), ?_⟩
        · rintro ⟨e, he, rfl⟩
          rcases List.mem_cons.1 he with rfl | he
          · exact hk rfl
          · have := kl_tr hgt (h1 e he)
            rw [kl_irr] at this; cases this
        · intro e he; rcases List.mem_cons.1 he with rfl | he
          · exact hgt
          · exact kl_tr hgt (h1 e he)

theorem put_srt {L : List Ent} (h : Srt L) (e : Ent) : Srt (putL L e) := by
  rcases srt_cases h e.1 with ⟨_, A, x, B, rfl, hx, hA, hB⟩ | ⟨_, A, B, rfl, hA, hB⟩
  · rw [put_set hA hB hx]
    obtain ⟨h1, h2, h3⟩ := srt_app.1 h
    exact srt_app.2 ⟨h1, srt_cons.2 ⟨hB, (srt_cons.1 h2).2⟩, fun a ha b hb => by
      rcases List.mem_cons.1 hb with rfl | hb
      · exact hA a ha
      · exact h3 a ha b (List.mem_cons_of_mem _ hb)⟩
  · rw [put_one hA hB]
    obtain ⟨h1, h2, h3⟩ := srt_app.1 h
    exact srt_app.2 ⟨h1, srt_cons.2 ⟨hB, h2⟩, fun a ha b hb => by
      rcases List.mem_cons.1 hb with rfl | hb
      · exact hA a ha
      · exact h3 a ha b hb⟩
theorem del_srt {L : List Ent} (h : Srt L) (k : ByteArray) : Srt (delL L k) := by
  rcases srt_cases h k with ⟨_, A, x, B, rfl, hx, hA, hB⟩ | ⟨_, A, B, rfl, hA, hB⟩
  · rw [del_one hA hB hx]
    obtain ⟨h1, h2, h3⟩ := srt_app.1 h
    exact srt_app.2 ⟨h1, (srt_cons.1 h2).2, fun a ha b hb => h3 a ha b (List.mem_cons_of_mem _ hb)⟩
  · have := del_mid (X := []) hA hB
    simp only [List.append_nil] at this
    rw [this]; simpa [delL, lows, upps] using h

/-! ### Entries between those of kids -/

def lpart (l : List Ent) (k : List (List Ent)) : List Ent := (k.zip l).flatMap fun p => p.1 ++ [p.2]
def rpart (l : List Ent) (k : List (List Ent)) : List Ent := (l.zip k).flatMap fun p => p.1 :: p.2
def il (l : List Ent) : List (List Ent) → List Ent
  | [] => []
  | k :: ks => k ++ rpart l ks

theorem il_app : ∀ {l1 : List Ent} {k1 : List (List Ent)} (l2 : List Ent) (k : List Ent) (k2 : List (List Ent)), k1.length = l1.length → il (l1 ++ l2) (k1 ++ k :: k2) = lpart l1 k1 ++ k ++ rpart l2 k2
  | [], [], l2, k, k2, _ => by simp [il, lpart]
  | e :: l1, a :: k1, l2, k, k2, h => by
    have ih := il_app (l1 := l1) (k1 := k1) l2 k k2 (by simpa using h)
    have : rpart (e :: l1 ++ l2) (k1 ++ k :: k2) = e :: il (l1 ++ l2) (k1 ++ k :: k2) := by
      cases k1 with
      | nil => simp [rpart, il]
      | cons b k1 => simp [rpart, il]
    have h2 : il (e :: l1 ++ l2) (a :: k1 ++ k :: k2) = a ++ rpart (e :: l1 ++ l2) (k1 ++ k :: k2) := rfl
    rw [h2, this, ih]
    simp [lpart]

theorem rpart_cons (e : Ent) (l : List Ent) (b : List Ent) (k : List (List Ent)) : rpart (e :: l) (b :: k) = e :: b ++ rpart l k := by simp [rpart]
theorem lpart_snoc {l : List Ent} {k : List (List Ent)} (h : k.length = l.length) (e : Ent) (a : List Ent) : lpart (l ++ [e]) (k ++ [a]) = lpart l k ++ a ++ [e] := by
  simp [lpart, List.zip_append h]

theorem lpart_bel : ∀ {l : List Ent} {k : List (List Ent)} {key : ByteArray}, Srt (lpart l k) → (∀ e ∈ l, kl e.1 key = true) → bel (lpart l k) key
  | [], k, key, _, _ => by intro e he; simp [lpart] at he
  | _ :: _, [], key, _, _ => by intro e he; simp [lpart] at he
  | x :: l, a :: k, key, hs, hl => by
    have he : lpart (x :: l) (a :: k) = a ++ x :: lpart l k := by simp [lpart]
    rw [he] at hs ⊢
    have hx := hl x (by simp)
    obtain ⟨h1, h2⟩ := srt_mid hs
    have ih := lpart_bel (l := l) (k := k) (key := key) (srt_cons.1 (srt_app.1 hs).2.1).2 (fun e he => hl e (by simp [he]))
    intro e he
    rcases List.mem_append.1 he with he | he
    · exact kl_tr (h1 e he) hx
    · rcases List.mem_cons.1 he with rfl | he
      · exact hx
      · exact ih e he

theorem rpart_abv {l : List Ent} {k : List (List Ent)} {key : ByteArray} (hs : Srt (rpart l k)) (hl : ∀ e, l.head? = some e → kl key e.1 = true) : abv (rpart l k) key := by
  cases l with
  | nil => intro e he; simp [rpart] at he
  | cons x l =>
    cases k with
    | nil => intro e he; simp [rpart] at he
    | cons b k =>
      rw [rpart_cons] at hs ⊢
      have hx := hl x rfl
      intro e he
      rcases List.mem_cons.1 he with rfl | he
      · exact hx
      · exact kl_tr hx ((srt_cons.1 hs).1 e he)

theorem mem_lpart {l : List Ent} {k : List (List Ent)} (h : k.length = l.length) {e : Ent} (he : e ∈ l) : e ∈ lpart l k := by
  obtain ⟨i, hi, rfl⟩ := List.mem_iff_getElem.1 he
  refine List.mem_flatMap.2 ⟨(k[i], l[i]), ?_, by simp⟩
  exact List.mem_iff_getElem.2 ⟨i, by simp; omega, by simp⟩

end Go.Cb

/-
  The tree, by its height; a place in a node; find.
-/
set_option linter.unusedVariables false
set_option linter.unusedSimpArgs false
namespace Go.Cb
variable {w : World} {F : List HP} {Q : Value → World → Prop}

def BT : Nat → Type
  | 0 => List Ent
  | h + 1 => List Ent × List (BT h)
def ents : (h : Nat) → BT h → List Ent
  | 0, l => l
  | _ + 1, t => t.1
def subs : (h : Nat) → BT h → List (BT (h - 1))
  | 0, _ => []
  | _ + 1, t => t.2
def mkB : (h : Nat) → List Ent → List (BT (h - 1)) → BT h
  | 0, l, _ => l
  | _ + 1, l, ks => (l, ks)
def flat : (h : Nat) → BT h → List Ent
  | 0, l => l
  | h + 1, t => il t.1 (t.2.map (flat h))
def tr : (h : Nat) → Nat → BT h → HP
  | 0, p, l => nd p l []
  | h + 1, p, t => fun x => ∃ qs : List (Nat × BT h), qs.map (·.2) = t.2 ∧ stars (nd p t.1 (qs.map (·.1)) :: qs.map fun q => tr h q.1 q.2) x
def fo (h : Nat) (qs : List (Nat × BT h)) : List HP := qs.map fun q => tr h q.1 q.2
def wf : (h : Nat) → BT h → Prop
  | 0, l => List.length l ≤ 5
  | h + 1, t => t.1.length ≤ 5 ∧ t.2.length = t.1.length + 1 ∧ ∀ k ∈ t.2, wf h k ∧ 2 ≤ (ents h k).length

theorem fo_app {h : Nat} (a b : List (Nat × BT h)) : fo h (a ++ b) = fo h a ++ fo h b := by simp [fo]
theorem fo_cons {h : Nat} (a : Nat × BT h) (b : List (Nat × BT h)) : fo h (a :: b) = tr h a.1 a.2 :: fo h b := rfl

/-- a tree, opened. -/
theorem tr_open : ∀ {h p : Nat} {t : BT h}, Sat w (tr h p t :: F) → ∃ qs : List (Nat × BT (h - 1)), qs.map (·.2) = subs h t ∧ Sat w (nd p (ents h t) (qs.map (·.1)) :: (fo (h - 1) qs ++ F))
  | 0, p, t, hs => ⟨[], rfl, hs⟩
  | h + 1, p, t, hs => by
    obtain ⟨qs, hs⟩ := Sat.ex.1 hs
    obtain ⟨h1, hs⟩ := Sat.and.1 hs
    exact ⟨qs, h1, Sat.flat.1 hs⟩
theorem tr_mk : ∀ {h p : Nat} {l : List Ent} {qs : List (Nat × BT (h - 1))}, (h = 0 → qs = []) → Sat w (nd p l (qs.map (·.1)) :: (fo (h - 1) qs ++ F)) → Sat w (tr h p (mkB h l (qs.map (·.2))) :: F)
  | 0, p, l, qs, h0, hs => by
    have := h0 rfl
    subst this
    exact hs
  | h + 1, p, l, qs, _, hs => Sat.ex.2 ⟨qs, Sat.and.2 ⟨rfl, Sat.flat.2 hs⟩⟩
theorem tr_mk1 {h p : Nat} {l : List Ent} {qs : List (Nat × BT h)} (hs : Sat w (nd p l (qs.map (·.1)) :: (fo h qs ++ F))) : Sat w (tr (h + 1) p (l, qs.map (·.2)) :: F) := tr_mk (h := h + 1) (by omega) hs
theorem tr_open1 {h p : Nat} {t : BT (h + 1)} (hs : Sat w (tr (h + 1) p t :: F)) : ∃ qs : List (Nat × BT h), qs.map (·.2) = t.2 ∧ Sat w (nd p t.1 (qs.map (·.1)) :: (fo h qs ++ F)) := tr_open hs

/-- a kid taken ahead. -/
theorem pull1 {h : Nat} {N : HP} {q1 q2 : List (Nat × BT h)} {q : Nat × BT h} : Sat w (N :: (fo h (q1 ++ q :: q2) ++ F)) ↔ Sat w (N :: tr h q.1 q.2 :: (fo h (q1 ++ q2) ++ F)) := by
  have hp : (N :: (fo h (q1 ++ q :: q2) ++ F)).Perm (N :: tr h q.1 q.2 :: (fo h (q1 ++ q2) ++ F)) := by
    refine List.Perm.cons _ ?_
    rw [fo_app, fo_cons, fo_app, List.append_assoc, List.cons_append, List.append_assoc]
    exact List.perm_middle
  exact ⟨fun hs => hs.perm hp, fun hs => hs.perm hp.symm⟩
theorem pull2 {h : Nat} {N : HP} {q1 q2 : List (Nat × BT h)} {a b : Nat × BT h} : Sat w (N :: (fo h (q1 ++ a :: b :: q2) ++ F)) ↔ Sat w (N :: tr h a.1 a.2 :: tr h b.1 b.2 :: (fo h (q1 ++ q2) ++ F)) := by
  have hp : (N :: (fo h (q1 ++ a :: b :: q2) ++ F)).Perm (N :: tr h a.1 a.2 :: tr h b.1 b.2 :: (fo h (q1 ++ q2) ++ F)) := by
    refine List.Perm.cons _ ?_
    rw [fo_app, fo_cons, fo_cons, fo_app, List.append_assoc, List.cons_append, List.cons_append, List.append_assoc]
    exact List.perm_middle.trans ((List.perm_middle).cons _)
  exact ⟨fun hs => hs.perm hp, fun hs => hs.perm hp.symm⟩

theorem wf_ents : ∀ {h : Nat} {t : BT h}, wf h t → (ents h t).length ≤ 5
  | 0, _, hw => hw
  | _ + 1, _, hw => hw.1
theorem wf_subs : ∀ {h : Nat} {t : BT h}, wf h t → (h = 0 ∧ subs h t = []) ∨ (0 < h ∧ (subs h t).length = (ents h t).length + 1)
  | 0, _, _ => .inl ⟨rfl, rfl⟩
  | _ + 1, _, hw => .inr ⟨Nat.succ_pos _, hw.2.1⟩
theorem mkB_eta : ∀ {h : Nat} (t : BT h), mkB h (ents h t) (subs h t) = t
  | 0, _ => rfl
  | _ + 1, _ => rfl
theorem wf_kid {h : Nat} {t : BT (h + 1)} (hw : wf (h + 1) t) {k : BT h} (hk : k ∈ t.2) : wf h k ∧ 2 ≤ (ents h k).length := hw.2.2 k hk

/-! ### Places -/

/-- l1 is what stands ahead of a key among l1 ++ l2. -/
def Fits (key : ByteArray) (l1 l2 : List Ent) (b : Bool) : Prop :=
  (∀ e ∈ l1, kl e.1 key = true) ∧ ((l2 = [] ∧ b = false) ∨ ∃ e r, l2 = e :: r ∧ kl e.1 key = false ∧ b = decide (e.1 = key))

theorem bin_sgeq {st : Bool} {t : TypeId} {ox oy : Operand} {a b : ByteArray} {w : World} : binG st Pg .geq t ox oy (.string a) (.string b) w = some (.bool !kl a b, w) := rfl
theorem bin_slss {st : Bool} {t : TypeId} {ox oy : Operand} {a b : ByteArray} {w : World} : binG st Pg .lss t ox oy (.string a) (.string b) w = some (.bool (kl a b), w) := rfl
theorem bin_seql {st : Bool} {t : TypeId} {ox oy : Operand} {a b : ByteArray} {w : World} : binG st Pg .eql t ox oy (.string a) (.string b) w = some (.bool (decide (a = b)), w) := by
  have : binG st Pg .eql t ox oy (.string a) (.string b) w = some (.bool (a.toList == b.toList), w) := rfl
  rw [this, key_beq]

/-- an entry laid aside. -/
theorem go_tmp {e : Ent} {κ : Value → Value → World → R} (h : Sat w F) (hκ : ∀ nb w', Sat w' (pt nb (encE e) 240 :: F) → Sm w w' → Ok (κ (ptr nb 0) undef w') Q) :
    Ok (rd2 (rawV Pg (Instr.alloc 240 true (.tuple #[])) w) fun x w' => rd2 (rawU Pg (Instr.storeAt 240 x (aggE e)) w') fun u w'' => κ x u w'') Q := by
  obtain ⟨i, z, h1, h2, h3, h4, _⟩ := T37.i
  refine Ok.rd2 (alloc_ok h1 h3) ?_
  have s1 := h.new (l' := z.cells.toList) (T' := 240) (Ext.push (fun _ => False) w (.cells z.cells 240)) (fun _ _ hf => hf) (by have := At.new w z.cells.toList 240; simpa using this) (Nat.le_refl _)
  obtain ⟨w', g1, g2, g3⟩ := storeAt_ok (P := Pg) h1 s1.hp (k := 0) rfl (o := 0) (v := aggE e) (by rw [h2]; rfl) (by rw [Array.length_toList, h4, h2]; decide) (fun x hx => enE.one e x (by simpa [encE, Value.cells] using hx))
  refine Ok.rd2 g1 (hκ _ _ ?_ ((Ext.push (fun _ => False) w _).sm.trans g3.sm))
  refine s1.put g3 (fun _ _ hd => hd) ?_ (.inl rfl)
  have := g2.get (k := 0) rfl
  have hl : lay z.cells.toList 0 (aggE e).cells.toList = encE e := by
    have hz2 : z.cells.toList.length = 2 := by rw [Array.length_toList, h4]
    rw [lay_eq _ _ _ (by rw [hz2]; exact Nat.le_refl 2)]
    rw [List.drop_eq_nil_of_le (by rw [hz2]; exact Nat.le_refl 2)]
    simp [encE, Value.cells]
  rw [hl] at this
  exact this
theorem ld_key {nb : Nat} {e : Ent} (h : Sat w F) (k : Nat) (hk : F[k]? = some (pt nb (encE e) 240)) : ldV Pg 9 (ptr nb 0) w = some (.string e.1) := (ldV_sc a9 _ _).trans ((h.foc hk).at.cell 0)
theorem ld_val {nb : Nat} {e : Ent} (h : Sat w F) (k : Nat) (hk : F[k]? = some (pt nb (encE e) 240)) : ldV Pg 43 (ptr nb (0 + 1)) w = some e.2.1 := (ldV_sc a76 _ _).trans ((h.foc hk).at.cell 1)
theorem ld_ent {nb : Nat} {e : Ent} (h : Sat w F) (k : Nat) (hk : F[k]? = some (pt nb (encE e) 240)) : ldV Pg 240 (ptr nb 0) w = some (aggE e) := by
  obtain ⟨i', hi', hs⟩ : ∃ i', Pg.info? 240 = some i' ∧ i'.size = 2 := let ⟨i', _, a, b, _⟩ := T37.i; ⟨i', a, b⟩
  rw [at_load (h.foc hk).at (o := 0) (n := 2) (by simp [encE]) a40 hi' hs]; rfl

theorem find_loop {p k : Nat} {l : List Ent} {ks : List Nat} {lv kv : Value} {key : ByteArray} {j : Nat} : ∀ (l2 l1 : List Ent) (e : Env) (w : World) (F : List HP), F[k]? = some (pt p [lv, kv] 232) → F[j]? = some (slH 240 2 encE lv l) → Sat w F → l = l1 ++ l2 → (∀ x ∈ l1, kl x.1 key = true) → l.length ≤ 2 ^ 30 →
    e 0 = ptr p 0 → e 1 = .string key → e 11 = lv → e 12 = int l.length → e 13 = int l1.length → e 33 = undef →
    Ok (evalLoop (cx193 (Fn Pg) (Rnd Pg)) (cdA Go.Proofs.Tryz.f193 [1, 0, 1, 0, 0]) (K193_2 (Fn Pg) (Rnd Pg)) e w) fun v w' => ∃ l1 l2 b, l = l1 ++ l2 ∧ Fits key l1 l2 b ∧ v = .tuple #[int l1.length, .bool b] ∧ Sat w' F ∧ Sm w w' := by
  intro l2
  induction l2 with
  | nil =>
    intro l1 e w F hk hj hs hl hb hlen e0 e1 e11 e12 e13 e33
    rw [S193_L1_eq]; unfold S193_L1
    rw [e0, e1, e11, e12, e13, e33]
    rw [List.append_nil] at hl
    refine Ok.rd2 bin_lss (Ok.cf (by simp [hl]) ?_)
    refine go_l (ld_l hs k hk) (go_lenl hs j hj ?_)
    refine ⟨_, _, rfl, l1, [], false, by simp [hl], ⟨hb, .inl ⟨rfl, rfl⟩⟩, by rw [hl], hs, Sm.refl w⟩
  | cons x l2 ih =>
    intro l1 e w F hk hj hs hl hb hlen e0 e1 e11 e12 e13 e33
    rw [S193_L1_eq]; unfold S193_L1
    rw [e0, e1, e11, e12, e13, e33]
    have hx : l[l1.length]? = some x := by rw [hl]; simp
    refine Ok.rd2 bin_lss (Ok.ct (by simp [hl]; omega) ?_)
    obtain ⟨eb, eo, hx1, hx2, _⟩ := ix_l hs j hj hx
    refine Ok.rd hx1 (Ok.rd hx2 ?_)
    refine go_tmp hs fun nb w1 h1 s1 => ?_
    refine Ok.rd (fld40_0 _ _) (Ok.rd (ld_key h1 0 rfl) (Ok.rd2 bin_sgeq ?_))
    cases hx' : kl x.1 key with
    | false =>
      refine Ok.ct rfl ?_
      refine Ok.rd (fld40_0 _ _) (Ok.rd (ld_key h1.drw 0 rfl) (Ok.rd2 bin_seql ?_))
      exact ⟨_, _, rfl, l1, x :: l2, _, hl, ⟨hb, .inr ⟨x, l2, rfl, hx', rfl⟩⟩, rfl, h1.drop.drw, s1.trans ⟨rfl, rfl, rfl, fun _ => rfl⟩⟩
    | true =>
      refine Ok.cf rfl ?_
      have hl1 : l1.length ≤ 2 ^ 62 := by rw [hl] at hlen; simp at hlen; omega
      refine Ok.rd2 (bin_add1 hl1) ?_
      refine Ok.mono (ih (l1 ++ [x]) _ w1 F hk hj h1.drop (by rw [hl]; simp) ?_ hlen e0 ?_ e11 e12 ?_ e33) ?_
      rotate_left
      · exact e1
      · rw [List.length_append]; rfl
      rotate_left
      · intro y hy
        rcases List.mem_append.1 hy with hy | hy
        · exact hb y hy
        · simp at hy; subst hy; exact hx'
      · rintro v w' ⟨a, b, c, h2, h3, h4, h5, h6⟩
        exact ⟨a, b, c, h2, h3, h4, h5, s1.trans h6⟩

theorem find_ok {p k : Nat} {l : List Ent} {ks : List Nat} {key : ByteArray} (h : Sat w F) (hk : F[k]? = some (nd p l ks)) (hl : l.length ≤ 2 ^ 30) :
    Ok (Fn Pg 193 [ptr p 0, .string key] w) fun v w' => ∃ l1 l2 b, l = l1 ++ l2 ∧ Fits key l1 l2 b ∧ v = .tuple #[int l1.length, .bool b] ∧ Sat w' F ∧ Sm w w' := by
  obtain ⟨lv, kv, hs⟩ := nd_open (h.foc hk)
  rw [F193]; unfold S193
  refine Ok.rd (nil_ptr _ _) (Ok.rd (fld100_0 _ _) (Ok.rd (ld_l hs 0 rfl) ?_))
  refine go_lenl hs 1 rfl ?_
  refine Ok.mono (find_loop (ks := ks) (k := 0) (j := 1) l [] _ w _ rfl rfl hs rfl (by intro x hx; cases hx) hl rfl rfl rfl rfl rfl rfl) ?_
  rintro v w' ⟨l1, l2, b, h1, h2, h3, h4, h5⟩
  exact ⟨l1, l2, b, h1, h2, h3, (nd_mk h4).perm (perm_foc hk).symm, h5⟩

end Go.Cb

/-
  split, merge, lend at trees; insert.
-/
set_option linter.unusedVariables false
set_option linter.unusedSimpArgs false
namespace Go.Cb
variable {w : World} {F : List HP} {Q : Value → World → Prop}

theorem il_cut {l1 l2 : List Ent} {e : Ent} {k1 k2 : List (List Ent)} {b : List Ent} (h : k1.length = l1.length + 1) : il (l1 ++ e :: l2) (k1 ++ b :: k2) = il l1 k1 ++ e :: il l2 (b :: k2) := by
  obtain ⟨k, a, rfl⟩ : ∃ k a, k1 = k ++ [a] := ⟨k1.dropLast, k1.getLast (by intro h0; rw [h0] at h; simp at h), (List.dropLast_concat_getLast _).symm⟩
  have hk : k.length = l1.length := by simpa using h
  rw [List.append_assoc, List.singleton_append, il_app _ _ _ hk, rpart_cons]
  have := il_app [] a [] hk
  rw [List.append_nil] at this
  rw [this]
  simp [il, rpart]

theorem Sat.sw {A B : HP} (hs : Sat w (A :: B :: F)) : Sat w (B :: A :: F) := hs.perm (List.Perm.swap _ _ _)
theorem Sat.rot {A B C : HP} (hs : Sat w (A :: B :: C :: F)) : Sat w (B :: C :: A :: F) := hs.perm ((List.Perm.swap _ _ _).trans ((List.Perm.swap _ _ _).cons _))
theorem Sat.rot' {A B C : HP} (hs : Sat w (A :: B :: C :: F)) : Sat w (C :: A :: B :: F) := hs.perm (((List.Perm.swap _ _ _).cons _).trans (List.Perm.swap _ _ _))

theorem mem_kid {h : Nat} {t : BT (h + 1)} {qs : List (Nat × BT h)} (hq : qs.map (·.2) = t.2) {q : Nat × BT h} (hm : q ∈ qs) : q.2 ∈ t.2 := by rw [← hq]; exact List.mem_map_of_mem hm

theorem tr_split3 {h p : Nat} {l : List Ent} {qs : List (Nat × BT (h - 1))} (h0 : h = 0 → qs = []) : ∀ {k : Nat} {b : Nat} {lb : List Ent} {ka kb : List Nat}, ka = (qs.take k).map (·.1) → kb = (qs.drop k).map (·.1) →
    Sat w (nd p l ka :: nd b lb kb :: (fo (h - 1) qs ++ F)) → Sat w (tr h p (mkB h l ((qs.take k).map (·.2))) :: tr h b (mkB h lb ((qs.drop k).map (·.2))) :: F) := by
  intro k b lb ka kb ha hb hs
  subst ha; subst hb
  have hp : (nd p l ((qs.take k).map (·.1)) :: nd b lb ((qs.drop k).map (·.1)) :: (fo (h - 1) qs ++ F)).Perm
      (nd b lb ((qs.drop k).map (·.1)) :: (fo (h - 1) (qs.drop k) ++ (nd p l ((qs.take k).map (·.1)) :: (fo (h - 1) (qs.take k) ++ F)))) := by
    refine (List.Perm.swap _ _ _).trans (List.Perm.cons _ ?_)
    refine List.Perm.trans ?_ List.perm_middle.symm
    refine List.Perm.cons _ ?_
    have : fo (h - 1) qs = fo (h - 1) (qs.take k) ++ fo (h - 1) (qs.drop k) := by rw [← fo_app, List.take_append_drop]
    rw [this, ← List.append_assoc]
    exact List.Perm.append_right _ List.perm_append_comm
  have h1 := tr_mk (fun hh => by rw [h0 hh]; simp) (hs.perm hp)
  exact tr_mk (h := h) (qs := qs.take k) (fun hh => by rw [h0 hh]; simp) (h1.perm ((List.Perm.swap _ _ _).trans (List.perm_middle.symm.cons _)))


theorem fo_swap {A : HP} {h : Nat} {qs : List (Nat × BT h)} {G : List HP} : Sat w (A :: (fo h qs ++ G)) → Sat w (fo h qs ++ A :: G) := fun hs => hs.perm List.perm_middle.symm

theorem ents_mk : ∀ {h : Nat} {l : List Ent} {ks : List (BT (h - 1))}, ents h (mkB h l ks) = l
  | 0, _, _ => rfl
  | _ + 1, _, _ => rfl
theorem subs_mk : ∀ {h : Nat} {l : List Ent} {ks : List (BT (h - 1))}, (h = 0 → ks = []) → subs h (mkB h l ks) = ks
  | 0, _, _, h0 => (h0 rfl).symm
  | _ + 1, _, _, _ => rfl
theorem wf_mk : ∀ {h : Nat} {l : List Ent} {ks : List (BT (h - 1))}, l.length ≤ 5 → (h = 0 ∨ ks.length = l.length + 1) → (∀ k ∈ ks, wf (h - 1) k ∧ 2 ≤ (ents (h - 1) k).length) → wf h (mkB h l ks)
  | 0, _, _, h1, _, _ => h1
  | _ + 1, _, _, h1, h2, h3 => ⟨h1, h2.resolve_left (by omega), h3⟩
theorem wf_kids : ∀ {h : Nat} {t : BT h}, wf h t → ∀ k ∈ subs h t, wf (h - 1) k ∧ 2 ≤ (ents (h - 1) k).length
  | 0, _, _ => by intro k hk; cases hk
  | _ + 1, _, hw => hw.2.2
theorem join_flat : ∀ {h : Nat} {la lb : List Ent} {e : Ent} {ka kb : List (BT (h - 1))}, (h = 0 ∨ (ka.length = la.length + 1 ∧ 0 < kb.length)) → flat h (mkB h (la ++ e :: lb) (ka ++ kb)) = flat h (mkB h la ka) ++ e :: flat h (mkB h lb kb)
  | 0, _, _, _, _, _, _ => rfl
  | h + 1, la, lb, e, ka, kb, h0 => by
    have h0 := h0.resolve_left (by omega)
    cases kb with
    | nil => simp at h0
    | cons b kb =>
      show il (la ++ e :: lb) ((ka ++ b :: kb).map (flat h)) = il la (ka.map (flat h)) ++ e :: il lb ((b :: kb).map (flat h))
      rw [List.map_append, List.map_cons, il_cut (by rw [List.length_map]; exact h0.1)]
theorem cut_flat {h : Nat} {t : BT h} {m : Nat} {e : Ent} (he : (ents h t)[m]? = some e) (h0 : h = 0 ∨ m + 1 < (subs h t).length) :
    flat h t = flat h (mkB h ((ents h t).take m) ((subs h t).take (m + 1))) ++ e :: flat h (mkB h ((ents h t).drop (m + 1)) ((subs h t).drop (m + 1))) := by
  have e1 : (ents h t).take m ++ e :: (ents h t).drop (m + 1) = ents h t := by
    have : (ents h t).drop m = e :: (ents h t).drop (m + 1) := by
      rw [List.getElem?_eq_some_iff] at he
      obtain ⟨hl, rfl⟩ := he
      exact List.drop_eq_getElem_cons hl
    rw [← this, List.take_append_drop]
  have hl := (List.getElem?_eq_some_iff.1 he).1
  rw [← join_flat (by
    rcases h0 with h0 | h0
    · exact .inl h0
    · right; rw [List.length_take, List.length_take, List.length_drop]; omega), e1, List.take_append_drop, mkB_eta]

theorem split_tr {h n p i : Nat} {l : List Ent} {ps : List Nat} {t : BT h} (hs : Sat w (nd n l ps :: tr h p t :: F)) (hw : wf h t) (h5 : (ents h t).length = 5) (hp : ps[i]? = some p) (hi : i ≤ l.length) (b1 : l.length ≤ 90) (b2 : ps.length ≤ 90) :
    Ok (Fn Pg 139 [ptr n 0, int i] w) fun v w' => (∃ b e ta tb, Sat w' (nd n (l.take i ++ e :: l.drop i) (ps.take (i + 1) ++ b :: ps.drop (i + 1)) :: tr h p ta :: tr h b tb :: F) ∧ flat h t = flat h ta ++ e :: flat h tb ∧ wf h ta ∧ wf h tb ∧ (ents h ta).length = 2 ∧ (ents h tb).length = 2) ∧ Sm w w' := by
  obtain ⟨qs, hq, hs⟩ := tr_open (hs.re [1, 0] (by decide))
  obtain ⟨e, he⟩ : ∃ e, (ents h t)[2]? = some e := ⟨_, List.getElem?_eq_getElem (by omega)⟩
  have hlen : qs.length = (subs h t).length := by rw [← hq, List.length_map]
  have hkk : qs.map (·.1) = [] ∨ (qs.map (·.1)).length = 6 := by
    rcases wf_subs hw with ⟨_, h0⟩ | ⟨_, h0⟩
    · left; rw [h0] at hlen; rw [List.length_eq_zero_iff.1 hlen]; rfl
    · right; rw [List.length_map, hlen, h0, h5]
  have hs2 : Sat w (nd n l ps :: nd p (ents h t) (qs.map (·.1)) :: (fo (h - 1) qs ++ F)) := by
    exact (hs.perm ((List.perm_middle (l₁ := fo (h - 1) qs)).cons _)).perm (List.Perm.swap _ _ _)
  refine Ok.mono (split_ok hs2 hp hi h5 he hkk (by omega) (by omega)) ?_
  rintro v w' ⟨b, g1, g2⟩
  refine ⟨⟨b, e, mkB h ((ents h t).take 2) ((qs.take 3).map (·.2)), mkB h ((ents h t).drop 3) ((qs.drop 3).map (·.2)), ?_, ?_⟩, g2⟩
  · have h0 : h = 0 → qs = [] := by
      intro hh
      rcases wf_subs hw with ⟨_, h0⟩ | ⟨h1, _⟩
      · rw [h0] at hlen; exact List.length_eq_zero_iff.1 hlen
      · omega
    have g3 := g1.rot
    have g4 : Sat w' (nd p ((ents h t).take 2) ((qs.map (·.1)).take 3) :: nd b ((ents h t).drop 3) ((qs.map (·.1)).drop 3) :: (fo (h - 1) qs ++ nd n (l.take i ++ e :: l.drop i) (ps.take (i + 1) ++ b :: ps.drop (i + 1)) :: F)) :=
      g3.perm ((List.perm_middle.symm.cons _).cons _)
    exact (tr_split3 h0 (by rw [List.map_take]) (by rw [List.map_drop]) g4).rot'
  · rw [List.map_take, List.map_drop, hq]
    have h2k : h = 0 ∨ (subs h t).length = 6 := by
      rcases wf_subs hw with ⟨h0, _⟩ | ⟨_, h0⟩
      · exact .inl h0
      · right; omega
    have hk0 : h = 0 → subs h t = [] := by
      intro hh; rcases wf_subs hw with ⟨_, h0⟩ | ⟨h1, _⟩
      · exact h0
      · omega
    refine ⟨cut_flat he (by rcases h2k with h0 | h0; exact .inl h0; right; omega), ?_, ?_, ?_, ?_⟩
    · exact wf_mk (by rw [List.length_take]; omega) (by rcases h2k with h0 | h0; exact .inl h0; right; rw [List.length_take, List.length_take]; omega) fun k hk => wf_kids hw k (List.mem_of_mem_take hk)
    · exact wf_mk (by rw [List.length_drop]; omega) (by rcases h2k with h0 | h0; exact .inl h0; right; rw [List.length_drop, List.length_drop]; omega) fun k hk => wf_kids hw k (List.mem_of_mem_drop hk)
    · rw [ents_mk, List.length_take]; omega
    · rw [ents_mk, List.length_drop]; omega

theorem leaf_tr {h p : Nat} {t : BT h} (hs : Sat w F) (k : Nat) (hk : F[k]? = some (tr h p t)) (hw : wf h t) : Fn Pg 150 [ptr p 0] w = some (.bool (decide (h = 0)), w) := by
  obtain ⟨qs, hq, hs⟩ := tr_open (hs.foc hk)
  rw [leaf_eq hs 0 rfl]
  have hlen : qs.length = (subs h t).length := by rw [← hq, List.length_map]
  congr 3
  rw [Bool.eq_iff_iff, decide_eq_true_iff, decide_eq_true_iff, List.length_map, hlen]
  rcases wf_subs hw with ⟨h1, h2⟩ | ⟨h1, h2⟩
  · rw [h2, h1]; simp
  · rw [h2]; omega
theorem full_tr {h p : Nat} {t : BT h} (hs : Sat w F) (k : Nat) (hk : F[k]? = some (tr h p t)) : Fn Pg 138 [ptr p 0] w = some (.bool (decide ((ents h t).length = 5)), w) := by
  obtain ⟨qs, hq, hs⟩ := tr_open (hs.foc hk)
  exact full_eq hs 0 rfl

/-- to a kid of a node that is shut. -/
theorem go_nkid {p : Nat} {l : List Ent} {ks : List Nat} {κ : Value → Value → Value → Value → Value → R} (hs : Sat w F) (k : Nat) (hk : F[k]? = some (nd p l ks)) {i q : Nat} (hi : ks[i]? = some q)
    (hκ : ∀ z a, Ok (κ (ptr p 0) (ptr p (0 + 1)) z a (ptr q 0)) Q) :
    Ok (rd (nilV (ptr p 0)) fun x => rd (fldA Pg 232 x 1) fun y => rd (ldV Pg 230 y w) fun z => rd (ixA Pg 230 z (int i)) fun a => rd (ldV Pg 228 a w) fun u => κ x y z a u) Q := by
  obtain ⟨lv, kv, hs⟩ := nd_open (hs.foc hk)
  obtain ⟨b, o, h1, h2⟩ := ix_k hs 2 rfl hi
  exact Ok.rd (nil_ptr _ _) (Ok.rd (fld100_1 _ _) (Ok.rd (ld_k hs 0 rfl) (Ok.rd h1 (Ok.rd h2 (hκ _ _)))))
/-- to an entry's key. -/
theorem go_nkey {p : Nat} {l : List Ent} {ks : List Nat} {κ : Value → Value → Value → Value → Value → Value → R} (hs : Sat w F) (k : Nat) (hk : F[k]? = some (nd p l ks)) {i : Nat} {e : Ent} (hi : l[i]? = some e)
    (hκ : ∀ z a, Ok (κ (ptr p 0) (ptr p 0) z a a (.string e.1)) Q) :
    Ok (rd (nilV (ptr p 0)) fun x => rd (fldA Pg 232 x 0) fun y => rd (ldV Pg 229 y w) fun z => rd (ixA Pg 229 z (int i)) fun a => rd (fldA Pg 240 a 0) fun b => rd (ldV Pg 9 b w) fun u => κ x y z a b u) Q := by
  obtain ⟨lv, kv, hs⟩ := nd_open (hs.foc hk)
  obtain ⟨b, o, h1, _, h2, _⟩ := ix_l hs 1 rfl hi
  exact Ok.rd (nil_ptr _ _) (Ok.rd (fld100_0 _ _) (Ok.rd (ld_l hs 0 rfl) (Ok.rd h1 (Ok.rd (fld40_0 _ _) (Ok.rd h2 (hκ _ _))))))

end Go.Cb

/-
  insert.
-/
set_option linter.unusedVariables false
set_option linter.unusedSimpArgs false
namespace Go.Cb
variable {w : World} {F : List HP} {Q : Value → World → Prop}

theorem ex_at {β : Type} {xs : List β} {i : Nat} (h : i < xs.length) : ∃ a x b, xs = a ++ x :: b ∧ a.length = i :=
  ⟨xs.take i, xs[i], xs.drop (i + 1), by rw [← List.drop_eq_getElem_cons h, List.take_append_drop], by rw [List.length_take]; omega⟩

theorem mid_out {A B C : HP} {X : List HP} (hs : Sat w (A :: B :: (X ++ C :: F))) : Sat w (C :: A :: B :: (X ++ F)) :=
  (hs.perm ((List.perm_middle.cons _).cons _)).rot'

theorem pull_perm {h : Nat} {q1 q2 : List (Nat × BT h)} {q : Nat × BT h} : (fo h (q1 ++ q :: q2) ++ F).Perm (tr h q.1 q.2 :: (fo h (q1 ++ q2) ++ F)) := by
  rw [fo_app, fo_cons, fo_app, List.append_assoc, List.cons_append, List.append_assoc]
  exact List.perm_middle
theorem pull_in {h : Nat} {A N : HP} {q1 q2 : List (Nat × BT h)} {q : Nat × BT h} (hs : Sat w (A :: N :: tr h q.1 q.2 :: (fo h (q1 ++ q2) ++ F))) : Sat w (A :: N :: (fo h (q1 ++ q :: q2) ++ F)) := hs.perm ((pull_perm.symm.cons _).cons _)

theorem put_kid {h n p : Nat} {l : List Ent} {ps : List Nat} {q1 q2 : List (Nat × BT h)} {k : BT h} (hps : ps = (q1 ++ (p, k) :: q2).map (·.1)) (hs : Sat w (tr h p k :: nd n l ps :: (fo h (q1 ++ q2) ++ F))) : Sat w (tr (h + 1) n (l, (q1 ++ (p, k) :: q2).map (·.2)) :: F) := by
  subst hps
  exact tr_mk1 (pull1 (q := (p, k)) |>.2 hs.sw)

def fk (h : Nat) (qs : List (Nat × BT h)) : List (List Ent) := qs.map fun q => flat h q.2
theorem flat_at {h p : Nat} {l1 l2 : List Ent} {q1 q2 : List (Nat × BT h)} {k : BT h} (hl : q1.length = l1.length) : flat (h + 1) (l1 ++ l2, (q1 ++ (p, k) :: q2).map (·.2)) = lpart l1 (fk h q1) ++ flat h k ++ rpart l2 (fk h q2) := by
  show il (l1 ++ l2) (((q1 ++ (p, k) :: q2).map (·.2)).map (flat h)) = _
  have : ((q1 ++ (p, k) :: q2).map (·.2)).map (flat h) = fk h q1 ++ flat h k :: fk h q2 := by simp [fk, Function.comp_def]
  rw [this, il_app _ _ _ (by simpa [fk] using hl)]

/-- the parts beside a kid, as a key stands to them. -/
theorem beside {h p : Nat} {l1 l2 : List Ent} {q1 q2 : List (Nat × BT h)} {k : BT h} {key : ByteArray} (hl : q1.length = l1.length) (hs : Srt (flat (h + 1) (l1 ++ l2, (q1 ++ (p, k) :: q2).map (·.2))))
    (h1 : ∀ e ∈ l1, kl e.1 key = true) (h2 : ∀ e, l2.head? = some e → kl key e.1 = true) : bel (lpart l1 (fk h q1)) key ∧ abv (rpart l2 (fk h q2)) key ∧ Srt (flat h k) := by
  rw [flat_at hl] at hs
  obtain ⟨g1, g2, _⟩ := srt_app.1 hs
  obtain ⟨g3, g4, _⟩ := srt_app.1 g1
  exact ⟨lpart_bel g3 h1, rpart_abv g2 h2, g4⟩

theorem ins_close {h n p : Nat} {l1 l2 : List Ent} {ps : List Nat} {q1 q2 : List (Nat × BT h)} {k k' : BT h} {x : Ent} (hq1 : q1.length = l1.length) (hps : ps = (q1 ++ (p, k') :: q2).map (·.1))
    (hs : Sat w (tr h p k' :: nd n (l1 ++ l2) ps :: (fo h (q1 ++ q2) ++ F))) (hl : (l1 ++ l2).length ≤ 5) (hlen : (q1 ++ (p, k) :: q2).length = (l1 ++ l2).length + 1) (hkids : ∀ q ∈ q1 ++ q2, wf h q.2 ∧ 2 ≤ (ents h q.2).length)
    (hk' : wf h k') (h2k : 2 ≤ (ents h k').length) (hA : bel (lpart l1 (fk h q1)) x.1) (hB : abv (rpart l2 (fk h q2)) x.1) (hf : flat h k' = putL (flat h k) x) :
    ∃ t' : BT (h + 1), Sat w (tr (h + 1) n t' :: F) ∧ wf (h + 1) t' ∧ flat (h + 1) t' = putL (lpart l1 (fk h q1) ++ flat h k ++ rpart l2 (fk h q2)) x ∧ t' = (l1 ++ l2, (q1 ++ (p, k') :: q2).map (·.2)) := by
  refine ⟨(l1 ++ l2, (q1 ++ (p, k') :: q2).map (·.2)), put_kid hps hs, ⟨hl, by simp at hlen ⊢; omega, ?_⟩, ?_, rfl⟩
  · intro q hm
    simp only [List.map_append, List.map_cons, List.mem_append, List.mem_cons, List.mem_map] at hm
    rcases hm with ⟨q, hm, rfl⟩ | rfl | ⟨q, hm, rfl⟩
    · exact hkids q (by simp [hm])
    · exact ⟨hk', h2k⟩
    · exact hkids q (by simp [hm])
  · rw [flat_at hq1, hf, put_mid hA hB]

/-- where no kid is full, one kid takes the entry. -/
def insX : (h : Nat) → BT h → Ent → BT h → Prop
  | 0, _, _, _ => True
  | h + 1, t, x, t' => (∀ k ∈ t.2, (ents h k).length ≤ 4) → ∃ l1 l2 k1 k2 k k', t.1 = l1 ++ l2 ∧ t.2 = k1 ++ k :: k2 ∧ k1.length = l1.length ∧ (∀ e ∈ l1, kl e.1 x.1 = true) ∧ (∀ e, l2.head? = some e → kl x.1 e.1 = true) ∧ t' = (l1 ++ l2, k1 ++ k' :: k2) ∧ flat h k' = putL (flat h k) x

theorem insert_loop : ∀ (h n : Nat) (t : BT h) (eb : Nat) (x : Ent) (e : Env) (w : World) (F : List HP), wf h t → (ents h t).length ≤ 4 → Srt (flat h t) → ¬ hasL (flat h t) x.1 → Sat w (pt eb (encE x) 240 :: tr h n t :: F) →
    e 0 = ptr n 0 → e 3 = ptr eb 0 → e 57 = undef →
    Ok (evalLoop (cx140 (Fn Pg) (Rnd Pg)) (cdA Go.Proofs.Tryz.f140 [1, 0, 0]) (K140_1 (Fn Pg) (Rnd Pg)) e w) fun v w' => (∃ t' : BT h, Sat w' (tr h n t' :: F) ∧ wf h t' ∧ flat h t' = putL (flat h t) x ∧ (ents h t).length ≤ (ents h t').length ∧ insX h t x t') ∧ Sm w w' := by
  intro h
  induction h with
  | zero =>
    intro n t eb x e w F hw h4 hsr hno hs e0 e3 e57
    have hs : Sat w (pt eb (encE x) 240 :: nd n t [] :: F) := hs
    have h4 : List.length t ≤ 4 := h4
    rw [S140_L1_eq]; unfold S140_L1
    rw [e0, e3, e57]
    refine Ok.rd (fld40_0 _ _) (Ok.rd (ld_key hs 0 rfl) ?_)
    refine Ok.bind (find_ok hs (k := 1) rfl (by omega)) ?_
    rintro v w1 ⟨l1, l2, b, hl, hf, rfl, h1, s1⟩
    refine Ok.rd rfl (Ok.rd rfl ?_)
    refine Ok.rd2 (leaf_eq h1 1 rfl) (Ok.ct rfl ?_)
    obtain ⟨lv, kv, h2⟩ := nd_open (h1.sw)
    refine go_l (ld_l h2.drw 0 rfl) ?_
    refine Ok.rd (ld_ent h2.drw 3 rfl) ?_
    refine go_bsl h2.drw fun nb w3 h3 s3 => ?_
    refine go_insl h3 1 rfl (by rw [hl]; simp) (by omega) fun v4 w4 h4' s4 => ?_
    refine go_stl h4' 0 rfl (slH_one h4' 1 rfl) fun w5 h5 s5 => ?_
    refine ⟨_, _, rfl, ⟨l1 ++ x :: l2, ?_, ?_, ?_, ?_, trivial⟩, s1.trans (s3.drw.trans (s4.trans s5))⟩
    · have h6 := nd_mk h5
      rw [hl, List.take_left, List.drop_left] at h6
      exact (h6.sw).drop
    · rw [hl] at h4
      show List.length (l1 ++ x :: l2) ≤ 5
      simp at h4 ⊢; omega
    · show l1 ++ x :: l2 = putL t x
      have hsr : Srt t := hsr
      have hno : ¬ hasL t x.1 := hno
      rw [hl] at hsr hno ⊢
      rw [put_one hf.1]
      rcases hf.2 with ⟨rfl, _⟩ | ⟨y, r, rfl, hy, _⟩
      · intro z hz; cases hz
      · have hne : y.1 ≠ x.1 := fun hh => hno ⟨y, by simp, hh⟩
        have hgt := kl_gt hy hne
        intro z hz
        rcases List.mem_cons.1 hz with rfl | hz
        · exact hgt
        · exact kl_tr hgt ((srt_mid hsr).2 z hz)
    · rw [hl]; show List.length (l1 ++ l2) ≤ List.length (l1 ++ x :: l2); simp
  | succ h ih =>
    intro n t eb x e w F hw h4 hsr hno hs e0 e3 e57
    obtain ⟨l, ks⟩ := t
    have hl4 : l.length ≤ 4 := h4
    clear h4
    have hkl : ks.length = l.length + 1 := hw.2.1
    obtain ⟨qs, hq, hs⟩ := tr_open1 hs.sw
    have hq : qs.map (·.2) = ks := hq
    have hqs : qs.length = l.length + 1 := by rw [← hkl, ← hq, List.length_map]
    have hs : Sat w (pt eb (encE x) 240 :: nd n l (qs.map (·.1)) :: (fo h qs ++ F)) := (hs.perm ((List.perm_middle.cons _))).sw
    rw [S140_L1_eq]; unfold S140_L1
    rw [e0, e3, e57]
    refine Ok.rd (fld40_0 _ _) (Ok.rd (ld_key hs 0 rfl) ?_)
    refine Ok.bind (find_ok hs (k := 1) rfl (by omega)) ?_
    rintro v w1 ⟨l1, l2, b, rfl, hf, rfl, h1, s1⟩
    refine Ok.rd rfl (Ok.rd rfl ?_)
    refine Ok.rd2 (leaf_eq h1 1 rfl) (Ok.cf (by rw [List.length_map, hqs]; simp) ?_)
    obtain ⟨q1, ⟨p, k⟩, q2, rfl, hq1⟩ := ex_at (xs := qs) (i := l1.length) (by rw [hqs]; simp; omega)
    subst hq
    have hp : ((q1 ++ (p, k) :: q2).map (·.1))[l1.length]? = some p := by
      rw [← hq1]; simp
    have h2 : Sat w1 (pt eb (encE x) 240 :: nd n (l1 ++ l2) ((q1 ++ (p, k) :: q2).map (·.1)) :: tr h p k :: (fo h (q1 ++ q2) ++ F)) := by
      have := pull1 (N := nd n (l1 ++ l2) ((q1 ++ (p, k) :: q2).map (·.1))) |>.1 ((h1.sw).perm (List.perm_middle.symm.cons _) : Sat w1 (_ :: (fo h (q1 ++ (p, k) :: q2) ++ pt eb (encE x) 240 :: F)))
      exact mid_out this
    have hkw := wf_kid hw (k := k) (by simp)
    refine go_nkid h2 1 rfl hp fun z a => ?_
    refine Ok.rd2 (full_tr h2 2 rfl) ?_
    have hhd : ∀ y, l2.head? = some y → kl x.1 y.1 = true := by
      intro y hy
      rcases hf.2 with ⟨rfl, _⟩ | ⟨y', r, rfl, hy', _⟩
      · cases hy
      · simp at hy; subst hy
        refine kl_gt hy' fun hh => hno ?_
        refine ⟨y', ?_, hh⟩
        rw [flat_at hq1]
        refine List.mem_append_right _ ?_
        cases q2 with
        | nil => simp at hqs; omega
        | cons q q2 => simp [fk, rpart]
    obtain ⟨hA, hB, hsk⟩ := beside hq1 hsr hf.1 hhd
    have hflat := flat_at (p := p) (l2 := l2) (q2 := q2) (k := k) hq1
    rw [hflat] at hno hsr ⊢
    have hnok : ¬ hasL (flat h k) x.1 := fun hh => hno ((has_mid hA hB).2 hh)
    refine Ok.ci (fun hfull => ?_) (fun hfull => ?_)
    · have hfull : (ents h k).length = 5 := by simpa using hfull
      refine Ok.bind (split_tr (h2.rot |>.re [0, 1] (by decide)) hkw.1 hfull hp (by simp) (by omega) (by rw [List.length_map, hqs]; omega)) ?_
      rintro v w2 ⟨⟨b', em, ta, tb, g1, gf, gwa, gwb, gla, glb⟩, s2⟩
      rw [List.take_left, List.drop_left] at g1
      have hps : ((q1 ++ (p, k) :: q2).map (·.1)).take (l1.length + 1) ++ b' :: ((q1 ++ (p, k) :: q2).map (·.1)).drop (l1.length + 1) = q1.map (·.1) ++ p :: b' :: q2.map (·.1) := by
        have : (q1 ++ (p, k) :: q2).map (·.1) = (q1.map (·.1) ++ [p]) ++ q2.map (·.1) := by simp
        rw [this, List.take_left' (by simp [hq1]), List.drop_left' (by simp [hq1])]; simp
      rw [hps] at g1
      have hem : (l1 ++ em :: l2)[l1.length]? = some em := by simp
      have g1e : Sat w2 (pt eb (encE x) 240 :: nd n (l1 ++ em :: l2) (q1.map (·.1) ++ p :: b' :: q2.map (·.1)) :: tr h p ta :: tr h b' tb :: (fo h (q1 ++ q2) ++ F)) := by
        have := g1.re [3, 0, 1, 2] (by decide)
        exact this
      have hemx : em.1 ≠ x.1 := fun hh => hnok ⟨em, by rw [gf]; simp, hh⟩
      rw [gf] at hsk
      obtain ⟨sk1, sk2⟩ := srt_mid hsk
      have hkids : ∀ q ∈ q1 ++ q2, wf h q.2 ∧ 2 ≤ (ents h q.2).length := fun q hm => wf_kid hw (by simp at hm ⊢; rcases hm with hm | hm; exact .inl ⟨_, hm⟩; exact .inr (.inr ⟨_, hm⟩))
      refine go_nkey g1e.drw 1 rfl hem fun z1 a1 => ?_
      refine Ok.rd (fld40_0 _ _) (Ok.rd (ld_key g1e.drw 0 rfl) (Ok.rd2 bin_slss ?_))
      refine Ok.ci (fun hlt => ?_) (fun hlt => ?_)
      · refine Ok.rd2 (bin_add1 (by simp at hl4; omega)) ?_
        refine go_nkid (q := b') (i := l1.length + 1) g1e.drw 1 rfl (by rw [← hq1]; simp) fun z' a' => ?_
        refine Ok.mono (ih b' tb eb x _ (drw w2) (nd n (l1 ++ em :: l2) (q1.map (·.1) ++ p :: b' :: q2.map (·.1)) :: tr h p ta :: (fo h (q1 ++ q2) ++ F)) gwb (by omega) (srt_cons.1 (srt_app.1 hsk).2.1).2 (fun hh => hnok (by rw [gf]; obtain ⟨y, hy, hk⟩ := hh; exact ⟨y, by simp [hy], hk⟩)) ?_ rfl ?_ ?_) ?_
        rotate_left
        · exact e3
        · exact e57
        rotate_left
        · exact g1e.re [0, 3, 1, 2] (by decide)
        · rintro v w' ⟨⟨k', m1, m2, m3, m4, _⟩, m5⟩
          have m6 : Sat w' (tr h b' k' :: nd n (l1 ++ em :: l2) (q1.map (·.1) ++ p :: b' :: q2.map (·.1)) :: (fo h (q1 ++ (p, ta) :: q2) ++ F)) := pull_in (q := (p, ta)) m1
          have e1 : l1 ++ em :: l2 = (l1 ++ [em]) ++ l2 := by simp
          have e2 : q1 ++ (p, ta) :: q2 = (q1 ++ [(p, ta)]) ++ q2 := by simp
          rw [e1, e2] at m6
          have e3' : lpart (l1 ++ [em]) (fk h (q1 ++ [(p, ta)])) = lpart l1 (fk h q1) ++ flat h ta ++ [em] := by
            rw [show fk h (q1 ++ [(p, ta)]) = fk h q1 ++ [flat h ta] from by simp [fk], lpart_snoc (by simpa [fk] using hq1)]
          obtain ⟨t', n1, n2, n3, n4⟩ := ins_close (l1 := l1 ++ [em]) (q1 := q1 ++ [(p, ta)]) (p := b') (k := tb) (k' := k') (x := x) (by simp [hq1]) (by simp) m6 (by simp at hl4 ⊢; omega) (by simp at hqs ⊢; omega)
            (fun q hm => by
              simp only [List.append_assoc, List.singleton_append, List.mem_append, List.mem_cons] at hm
              rcases hm with hm | rfl | hm
              · exact hkids q (by simp [hm])
              · exact ⟨gwa, Nat.le_of_eq gla.symm⟩
              · exact hkids q (by simp [hm])) m2 (by omega)
            (by
              rw [e3']
              intro y hy
              simp only [List.mem_append, List.mem_singleton] at hy
              rcases hy with (hy | hy) | rfl
              · exact hA y hy
              · exact kl_tr (sk1 y hy) hlt
              · exact hlt) hB m3
          refine ⟨⟨t', n1, n2, ?_, by rw [show ents (h + 1) t' = t'.1 from rfl, n4]; show List.length (l1 ++ l2) ≤ _; simp, fun hh => absurd (hh k (by simp)) (by omega)⟩, s1.trans (s2.trans m5.drw)⟩
          rw [n3, e3', gf]; congr 1; simp
      · have hgt := kl_gt hlt hemx
        refine go_nkid (q := p) (i := l1.length) g1e.drw 1 rfl (by rw [← hq1]; simp) fun z' a' => ?_
        refine Ok.mono (ih p ta eb x _ (drw w2) (nd n (l1 ++ em :: l2) (q1.map (·.1) ++ p :: b' :: q2.map (·.1)) :: tr h b' tb :: (fo h (q1 ++ q2) ++ F)) gwa (by omega) (srt_app.1 hsk).1 (fun hh => hnok (by rw [gf]; obtain ⟨y, hy, hk⟩ := hh; exact ⟨y, by simp [hy], hk⟩)) ?_ rfl ?_ ?_) ?_
        rotate_left
        · exact e3
        · exact e57
        rotate_left
        · exact g1e.re [0, 2, 1, 3] (by decide)
        · rintro v w' ⟨⟨k', m1, m2, m3, m4, _⟩, m5⟩
          have m6 : Sat w' (tr h p k' :: nd n (l1 ++ em :: l2) (q1.map (·.1) ++ p :: b' :: q2.map (·.1)) :: (fo h (q1 ++ (b', tb) :: q2) ++ F)) := pull_in (q := (b', tb)) m1
          have e3' : rpart (em :: l2) (fk h ((b', tb) :: q2)) = em :: flat h tb ++ rpart l2 (fk h q2) := by
            rw [show fk h ((b', tb) :: q2) = flat h tb :: fk h q2 from rfl, rpart_cons]
          obtain ⟨t', n1, n2, n3, n4⟩ := ins_close (l2 := em :: l2) (q2 := (b', tb) :: q2) (k := ta) (k' := k') (x := x) hq1 (by simp) m6 (by simp at hl4 ⊢; omega) (by simp at hqs ⊢; omega)
            (fun q hm => by
              simp only [List.mem_append, List.mem_cons] at hm
              rcases hm with hm | rfl | hm
              · exact hkids q (by simp [hm])
              · exact ⟨gwb, Nat.le_of_eq glb.symm⟩
              · exact hkids q (by simp [hm])) m2 (by omega) hA
            (by
              rw [e3']
              intro y hy
              simp only [List.cons_append, List.mem_append, List.mem_cons] at hy
              rcases hy with rfl | hy | hy
              · exact hgt
              · exact kl_tr hgt (sk2 y hy)
              · exact hB y hy) m3
          refine ⟨⟨t', n1, n2, ?_, by rw [show ents (h + 1) t' = t'.1 from rfl, n4]; show List.length (l1 ++ l2) ≤ _; simp, fun hh => absurd (hh k (by simp)) (by omega)⟩, s1.trans (s2.trans m5.drw)⟩
          rw [n3, e3', gf]; congr 1; simp
    · have hfull : (ents h k).length ≤ 4 := by have := wf_ents hkw.1; simp at hfull; omega
      refine go_nkid h2 1 rfl hp fun z' a' => ?_
      refine Ok.mono (ih p k eb x _ w1 (nd n (l1 ++ l2) ((q1 ++ (p, k) :: q2).map (·.1)) :: (fo h (q1 ++ q2) ++ F)) hkw.1 hfull hsk hnok ?_ rfl ?_ ?_) ?_
      rotate_left
      · exact e3
      · exact e57
      rotate_left
      · exact (h2.rot').sw
      · rintro v w' ⟨⟨k', g1, g2, g3, g4, _⟩, g5⟩
        obtain ⟨t', m1, m2, m3, m4⟩ := ins_close (k := k) (k' := k') (x := x) hq1 (by simp) g1 (by simp at hl4 ⊢; omega) (by simp at hqs ⊢; omega) (fun q hm => wf_kid hw (by simp at hm ⊢; rcases hm with hm | hm; exact .inl ⟨_, hm⟩; exact .inr (.inr ⟨_, hm⟩))) g2 (by have := hkw.2; omega) hA hB g3
        refine ⟨⟨t', m1, m2, by rw [m3], by rw [show ents (h + 1) t' = t'.1 from rfl, m4]; exact Nat.le_refl _, ?_⟩, s1.trans g5⟩
        intro _
        exact ⟨l1, l2, q1.map (·.2), q2.map (·.2), k, k', rfl, by simp, by simpa using hq1, hf.1, hhd, by rw [m4, List.map_append, List.map_cons], g3⟩


theorem insert_ok {h n : Nat} {t : BT h} {x : Ent} (hw : wf h t) (h4 : (ents h t).length ≤ 4) (hs : Srt (flat h t)) (hno : ¬ hasL (flat h t) x.1) (hsat : Sat w (tr h n t :: F)) :
    Ok (Fn Pg 140 [ptr n 0, aggE x] w) fun v w' => (∃ t' : BT h, Sat w' (tr h n t' :: F) ∧ wf h t' ∧ flat h t' = putL (flat h t) x ∧ (ents h t).length ≤ (ents h t').length ∧ insX h t x t') ∧ Sm w w' := by
  rw [F140]; unfold S140
  refine Ok.rd2 (box_ok (t := 240) (v := aggE x)) ?_
  have hE := Ext.push (fun _ => False) w (.cells (aggE x).cells 240)
  have h1 := hsat.new (l' := encE x) (T' := 240) hE (fun _ _ hf => hf) (At.new w (encE x) 240) (Nat.le_refl _)
  refine Ok.mono (insert_loop h n t _ x _ _ F hw h4 hs hno h1 rfl rfl rfl) ?_
  rintro v w' ⟨g1, g2⟩
  exact ⟨g1, hE.sm.trans g2⟩

end Go.Cb

/-
  merge and lend at trees; rich; edge.
-/
set_option linter.unusedVariables false
set_option linter.unusedSimpArgs false
namespace Go.Cb
variable {w : World} {F : List HP} {Q : Value → World → Prop}

theorem fo_perm {h : Nat} {qs qs' : List (Nat × BT h)} (hp : qs.Perm qs') : (fo h qs).Perm (fo h qs') := hp.map _

theorem tr_open2 {h a b : Nat} {ta tb : BT h} (hs : Sat w (tr h a ta :: tr h b tb :: F)) : ∃ qa qb : List (Nat × BT (h - 1)), qa.map (·.2) = subs h ta ∧ qb.map (·.2) = subs h tb ∧
    Sat w (nd a (ents h ta) (qa.map (·.1)) :: nd b (ents h tb) (qb.map (·.1)) :: (fo (h - 1) (qa ++ qb) ++ F)) := by
  obtain ⟨qa, h1, hs⟩ := tr_open hs
  obtain ⟨qb, h2, hs⟩ := tr_open ((hs.perm (List.perm_middle.cons _)).sw)
  refine ⟨qa, qb, h1, h2, ?_⟩
  have hp : (nd b (ents h tb) (qb.map (·.1)) :: (fo (h - 1) qb ++ nd a (ents h ta) (qa.map (·.1)) :: (fo (h - 1) qa ++ F))).Perm (nd a (ents h ta) (qa.map (·.1)) :: nd b (ents h tb) (qb.map (·.1)) :: (fo (h - 1) (qa ++ qb) ++ F)) := by
    refine (List.perm_middle.cons _).trans ((List.Perm.swap _ _ _).trans ((List.Perm.cons _ (List.Perm.cons _ ?_))))
    rw [fo_app, ← List.append_assoc]
    exact List.Perm.append_right _ List.perm_append_comm
  exact hs.perm hp
theorem tr_mk2 {h a b : Nat} {la lb : List Ent} {ka kb : List Nat} {qa qb qs : List (Nat × BT (h - 1))} (h0 : h = 0 → qs = []) (hp : qs.Perm (qa ++ qb)) (ha : ka = qa.map (·.1)) (hb : kb = qb.map (·.1))
    (hs : Sat w (nd a la ka :: nd b lb kb :: (fo (h - 1) qs ++ F))) : Sat w (tr h a (mkB h la (qa.map (·.2))) :: tr h b (mkB h lb (qb.map (·.2))) :: F) := by
  subst ha; subst hb
  have h1 : Sat w (nd a la (qa.map (·.1)) :: nd b lb (qb.map (·.1)) :: (fo (h - 1) (qa ++ qb) ++ F)) := hs.perm (((List.Perm.append_right _ (fo_perm hp)).cons _).cons _)
  have h00 : h = 0 → qa = [] ∧ qb = [] := fun hh => by
    have := hp.length_eq
    rw [h0 hh] at this
    simp at this
    exact ⟨List.length_eq_zero_iff.1 (by omega), List.length_eq_zero_iff.1 (by omega)⟩
  have h2 : Sat w (nd b lb (qb.map (·.1)) :: (fo (h - 1) qb ++ nd a la (qa.map (·.1)) :: (fo (h - 1) qa ++ F))) := by
    refine h1.perm ((List.Perm.swap _ _ _).trans (List.Perm.cons _ (List.Perm.trans (List.Perm.cons _ ?_) List.perm_middle.symm)))
    rw [fo_app, ← List.append_assoc]
    exact List.Perm.append_right _ List.perm_append_comm
  have h3 := tr_mk (fun hh => (h00 hh).2) h2
  exact tr_mk (fun hh => (h00 hh).1) (h3.perm ((List.Perm.swap _ _ _).trans (List.perm_middle.symm.cons _)))

/-- with the node above them at the head. -/
theorem tr_open3 {h a b : Nat} {N : HP} {ta tb : BT h} (hs : Sat w (N :: tr h a ta :: tr h b tb :: F)) : ∃ qa qb : List (Nat × BT (h - 1)), qa.map (·.2) = subs h ta ∧ qb.map (·.2) = subs h tb ∧
    Sat w (N :: nd a (ents h ta) (qa.map (·.1)) :: nd b (ents h tb) (qb.map (·.1)) :: (fo (h - 1) (qa ++ qb) ++ F)) := by
  obtain ⟨qa, qb, h1, h2, hs⟩ := tr_open2 hs.rot
  exact ⟨qa, qb, h1, h2, mid_out hs⟩
theorem tr_mk3 {h a b : Nat} {N : HP} {la lb : List Ent} {ka kb : List Nat} {qa qb qs : List (Nat × BT (h - 1))} (h0 : h = 0 → qs = []) (hp : qs.Perm (qa ++ qb)) (ha : ka = qa.map (·.1)) (hb : kb = qb.map (·.1))
    (hs : Sat w (N :: nd a la ka :: nd b lb kb :: (fo (h - 1) qs ++ F))) : Sat w (N :: tr h a (mkB h la (qa.map (·.2))) :: tr h b (mkB h lb (qb.map (·.2))) :: F) := by
  have h1 : Sat w (nd a la ka :: nd b lb kb :: (fo (h - 1) qs ++ N :: F)) := (hs.rot).perm ((List.perm_middle.symm.cons _).cons _)
  exact (tr_mk2 h0 hp ha hb h1).rot'

theorem subs_len {h : Nat} {t : BT h} (hw : wf h t) : (h = 0 → subs h t = []) ∧ (h = 0 ∨ (subs h t).length = (ents h t).length + 1) ∧ (subs h t).length ≤ 6 := by
  have := wf_ents hw
  rcases wf_subs hw with ⟨h1, h2⟩ | ⟨h1, h2⟩
  · exact ⟨fun _ => h2, .inl h1, by rw [h2]; simp⟩
  · exact ⟨fun hh => by omega, .inr h2, by omega⟩

theorem merge_tr {h n a b i : Nat} {l : List Ent} {ps : List Nat} {ta tb : BT h} {e : Ent} (hs : Sat w (nd n l ps :: tr h a ta :: tr h b tb :: F)) (ha : ps[i]? = some a) (hb : ps[i + 1]? = some b) (he : l[i]? = some e) (hwa : wf h ta) (hwb : wf h tb)
    (h2 : (ents h ta).length + (ents h tb).length ≤ 4) (b1 : l.length ≤ 90) (b2 : ps.length ≤ 90) :
    Ok (Fn Pg 205 [ptr n 0, int i] w) fun v w' => (∃ t' : BT h, Sat w' (nd n (l.eraseIdx i) (ps.eraseIdx (i + 1)) :: tr h a t' :: F) ∧ wf h t' ∧ (ents h t').length = (ents h ta).length + (ents h tb).length + 1 ∧ flat h t' = flat h ta ++ e :: flat h tb) ∧ Sm w w' := by
  obtain ⟨qa, qb, ea, eb, h1⟩ := tr_open3 hs
  obtain ⟨a1, a2, a3⟩ := subs_len hwa
  obtain ⟨c1, c2, c3⟩ := subs_len hwb
  have la : qa.length = (subs h ta).length := by rw [← ea, List.length_map]
  have lb : qb.length = (subs h tb).length := by rw [← eb, List.length_map]
  refine Ok.mono (merge_ok h1 ha hb he (by omega) (by omega) (by omega) (by omega) (by rw [List.length_map]; omega) (by rw [List.length_map]; omega)) ?_
  rintro v w' ⟨g1, g2⟩
  have g3 : Sat w' (nd a (ents h ta ++ e :: ents h tb) ((qa ++ qb).map (·.1)) :: (fo (h - 1) (qa ++ qb) ++ nd n (l.eraseIdx i) (ps.eraseIdx (i + 1)) :: F)) := by
    rw [List.map_append]
    exact (g1.sw).perm (List.perm_middle.symm.cons _)
  have h0 : h = 0 → qa ++ qb = [] := fun hh => by
    have e1 := a1 hh; have e2 := c1 hh
    rw [e1] at la; rw [e2] at lb
    rw [List.length_eq_zero_iff.1 la, List.length_eq_zero_iff.1 lb]; rfl
  have g4 := (tr_mk h0 g3).sw
  rw [List.map_append, ea, eb] at g4
  refine ⟨⟨_, g4, ?_, ?_, ?_⟩, g2⟩
  · refine wf_mk (by simp; omega) (by rcases a2 with a2 | a2; exact .inl a2; rcases c2 with c2 | c2; exact .inl c2; right; simp; omega) fun k hk => ?_
    rcases List.mem_append.1 hk with hk | hk
    · exact wf_kids hwa k hk
    · exact wf_kids hwb k hk
  · rw [ents_mk]; simp; omega
  · rw [join_flat (by rcases a2 with a2 | a2; exact .inl a2; rcases c2 with c2 | c2; exact .inl c2; right; omega), mkB_eta, mkB_eta]

theorem lendL_tr {h n t f i j : Nat} {l : List Ent} {ps : List Nat} {tt tf : BT h} {e : Ent} (hs : Sat w (nd n l ps :: tr h t tt :: tr h f tf :: F)) (hij : i = j + 1) (ht : ps[i]? = some t) (hf : ps[j]? = some f) (he : l[j]? = some e) (hwt : wf h tt) (hwf : wf h tf)
    (h3 : 3 ≤ (ents h tf).length) (h2 : (ents h tt).length ≤ 4) (b1 : l.length ≤ 90) (b2 : ps.length ≤ 90) :
    Ok (Fn Pg 230 [ptr n 0, int i, int j] w) fun v w' => (∃ (g : Ent) (tt' tf' : BT h), Sat w' (nd n (l.set j g) ps :: tr h t tt' :: tr h f tf' :: F) ∧ wf h tt' ∧ wf h tf' ∧ (ents h tt').length = (ents h tt).length + 1 ∧ (ents h tf').length + 1 = (ents h tf).length ∧
      flat h tf ++ e :: flat h tt = flat h tf' ++ g :: flat h tt' ∧ ∀ y ∈ flat h tt, y ∈ flat h tt') ∧ Sm w w' := by
  obtain ⟨qt, qf, et, ef, h1⟩ := tr_open3 hs
  obtain ⟨a1, a2, a3⟩ := subs_len hwt
  obtain ⟨c1, c2, c3⟩ := subs_len hwf
  have lt : qt.length = (subs h tt).length := by rw [← et, List.length_map]
  have lf : qf.length = (subs h tf).length := by rw [← ef, List.length_map]
  have wet := wf_ents hwt
  have wef := wf_ents hwf
  obtain ⟨m, hm⟩ : ∃ m, (ents h tf).length = m + 1 := ⟨(ents h tf).length - 1, by omega⟩
  obtain ⟨g, hg⟩ : ∃ g, (ents h tf)[m]? = some g := ⟨_, List.getElem?_eq_getElem (by omega)⟩
  refine Ok.mono (lendL_ok h1 hij ht hf he hm hg (by
    rcases c2 with c2 | c2
    · left; have := c1 c2; rw [this] at lf; rw [List.length_eq_zero_iff.1 lf]; rfl
    · right; rw [List.length_map]; omega) (by omega) (by omega) (by omega) (by omega) (by rw [List.length_map]; omega)) ?_
  rintro v w' ⟨g1, g2⟩
  have h0 : h = 0 → qt ++ qf = [] := fun hh => by
    have e1 := a1 hh; have e2 := c1 hh
    rw [e1] at lt; rw [e2] at lf
    rw [List.length_eq_zero_iff.1 lt, List.length_eq_zero_iff.1 lf]; rfl
  have g4 := tr_mk3 (qa := qf.drop (m + 1) ++ qt) (qb := qf.take (m + 1)) h0 (by
    have : qf.Perm (qf.drop (m + 1) ++ qf.take (m + 1)) := by
      conv => lhs; rw [← List.take_append_drop (m + 1) qf]
      exact List.perm_append_comm
    refine (List.perm_append_comm.trans ((List.Perm.append_right qt this))).trans ?_
    rw [List.append_assoc, List.append_assoc]
    exact List.Perm.append_left _ List.perm_append_comm) (by rw [List.map_append, List.map_drop]) (by rw [List.map_take]) g1
  rw [List.map_append, List.map_drop, List.map_take, et, ef] at g4
  have hcut := cut_flat hg (by rcases c2 with c2 | c2; exact .inl c2; right; omega)
  have hjoin : flat h (mkB h (e :: ents h tt) ((subs h tf).drop (m + 1) ++ subs h tt)) = flat h (mkB h [] ((subs h tf).drop (m + 1))) ++ e :: flat h tt := by
    have := join_flat (h := h) (la := []) (lb := ents h tt) (e := e) (ka := (subs h tf).drop (m + 1)) (kb := subs h tt) (by
      rcases c2 with c2 | c2
      · exact .inl c2
      · rcases a2 with a2 | a2
        · exact .inl a2
        · right; rw [List.length_drop]; simp; omega)
    rw [mkB_eta] at this
    exact this
  have hd0 : (ents h tf).drop (m + 1) = [] := List.drop_eq_nil_of_le (by omega)
  refine ⟨⟨g, _, _, g4, ?_, ?_, ?_, ?_, ?_, ?_⟩, g2⟩
  · refine wf_mk (by simp; omega) (by rcases c2 with c2 | c2; exact .inl c2; rcases a2 with a2 | a2; exact .inl a2; right; simp; omega) fun k hk => ?_
    rcases List.mem_append.1 hk with hk | hk
    · exact wf_kids hwf k (List.mem_of_mem_drop hk)
    · exact wf_kids hwt k hk
  · exact wf_mk (by simp; omega) (by rcases c2 with c2 | c2; exact .inl c2; right; simp; omega) fun k hk => wf_kids hwf k (List.mem_of_mem_take hk)
  · rw [ents_mk]; simp
  · rw [ents_mk]; simp; omega
  · rw [hcut, hjoin, hd0]; simp
  · intro y hy; rw [hjoin]; simp [hy]

theorem lendR_tr {h n t f i j : Nat} {l : List Ent} {ps : List Nat} {tt tf : BT h} {e : Ent} (hs : Sat w (nd n l ps :: tr h t tt :: tr h f tf :: F)) (hij : j = i + 1) (ht : ps[i]? = some t) (hf : ps[j]? = some f) (he : l[i]? = some e) (hwt : wf h tt) (hwf : wf h tf)
    (h3 : 3 ≤ (ents h tf).length) (h2 : (ents h tt).length ≤ 4) (b1 : l.length ≤ 90) (b2 : ps.length ≤ 90) :
    Ok (Fn Pg 230 [ptr n 0, int i, int j] w) fun v w' => (∃ (g : Ent) (tt' tf' : BT h), Sat w' (nd n (l.set i g) ps :: tr h t tt' :: tr h f tf' :: F) ∧ wf h tt' ∧ wf h tf' ∧ (ents h tt').length = (ents h tt).length + 1 ∧ (ents h tf').length + 1 = (ents h tf).length ∧
      flat h tt ++ e :: flat h tf = flat h tt' ++ g :: flat h tf' ∧ ∀ y ∈ flat h tt, y ∈ flat h tt') ∧ Sm w w' := by
  obtain ⟨qt, qf, et, ef, h1⟩ := tr_open3 hs
  obtain ⟨a1, a2, a3⟩ := subs_len hwt
  obtain ⟨c1, c2, c3⟩ := subs_len hwf
  have lt : qt.length = (subs h tt).length := by rw [← et, List.length_map]
  have lf : qf.length = (subs h tf).length := by rw [← ef, List.length_map]
  have wet := wf_ents hwt
  have wef := wf_ents hwf
  obtain ⟨g, hg⟩ : ∃ g, (ents h tf)[0]? = some g := ⟨_, List.getElem?_eq_getElem (by omega)⟩
  refine Ok.mono (lendR_ok h1 hij ht hf he hg (by omega) (by omega) (by omega) (by omega) (by rw [List.length_map]; omega) (by rw [List.length_map]; omega)) ?_
  rintro v w' ⟨g1, g2⟩
  have h0 : h = 0 → qt ++ qf = [] := fun hh => by
    have e1 := a1 hh; have e2 := c1 hh
    rw [e1] at lt; rw [e2] at lf
    rw [List.length_eq_zero_iff.1 lt, List.length_eq_zero_iff.1 lf]; rfl
  have g4 := tr_mk3 (qa := qt ++ qf.take 1) (qb := qf.drop 1) h0 (by rw [List.append_assoc, List.take_append_drop]) (by rw [List.map_append, List.map_take]) (by rw [List.map_drop]) g1
  rw [List.map_append, List.map_drop, List.map_take, et, ef] at g4
  have hcut := cut_flat hg (by rcases c2 with c2 | c2; exact .inl c2; right; omega)
  have hjoin : flat h (mkB h (ents h tt ++ [e]) (subs h tt ++ (subs h tf).take 1)) = flat h tt ++ e :: flat h (mkB h [] ((subs h tf).take 1)) := by
    have := join_flat (h := h) (la := ents h tt) (lb := []) (e := e) (ka := subs h tt) (kb := (subs h tf).take 1) (by
      rcases c2 with c2 | c2
      · exact .inl c2
      · rcases a2 with a2 | a2
        · exact .inl a2
        · right; rw [List.length_take]; omega)
    rw [mkB_eta] at this
    exact this
  refine ⟨⟨g, _, _, g4, ?_, ?_, ?_, ?_, ?_, ?_⟩, g2⟩
  · refine wf_mk (by simp; omega) (by rcases c2 with c2 | c2; exact .inl c2; rcases a2 with a2 | a2; exact .inl a2; right; simp; omega) fun k hk => ?_
    rcases List.mem_append.1 hk with hk | hk
    · exact wf_kids hwt k hk
    · exact wf_kids hwf k (List.mem_of_mem_take hk)
  · exact wf_mk (by simp; omega) (by rcases c2 with c2 | c2; exact .inl c2; right; simp; omega) fun k hk => wf_kids hwf k (List.mem_of_mem_drop hk)
  · rw [ents_mk]; simp
  · rw [ents_mk]; simp; omega
  · rw [hcut, hjoin]; simp
  · intro y hy; rw [hjoin]; simp [hy]

end Go.Cb

/-
  rich; edge.
-/
set_option linter.unusedVariables false
set_option linter.unusedSimpArgs false
namespace Go.Cb
variable {w : World} {F : List HP} {Q : Value → World → Prop}

theorem Ok.g1 {r : Unit → R} {k : Value → World → R} {v : Value} {w w' : World} (h : r () = some (v, w')) (hk : Ok (k v w') Q) : Ok (Cb.rd2 (gate (.bool true) true r w) k) Q := by
  show Ok (Cb.rd2 (r ()) k) Q
  rw [h]; exact hk
theorem Ok.g0 {r : Unit → R} {k : Value → World → R} {w : World} (hk : Ok (k undef w) Q) : Ok (Cb.rd2 (gate (.bool false) true r w) k) Q := hk
theorem gr {o : Option Value} {a : Value} {w : World} (h : o = some a) : (rd o fun v => some (v, w)) = some (a, w) := by rw [h]; rfl
theorem gr2 {o : R} {a : Value} {w' : World} (h : o = some (a, w')) : (rd2 o fun v w => some (v, w)) = some (a, w') := by rw [h]; rfl

theorem nd_facts {p k : Nat} {l : List Ent} {ks : List Nat} (hs : Sat w F) (hk : F[k]? = some (nd p l ks)) : ∃ lv kv, ldV Pg 229 (ptr p 0) w = some lv ∧ ldV Pg 230 (ptr p (0 + 1)) w = some kv ∧
    (∀ i q : Nat, ks[i]? = some q → ∃ b o, ixA Pg 230 kv (int i) = some (ptr b o) ∧ ldV Pg 228 (ptr b o) w = some (ptr q 0)) ∧
    (∀ (i : Nat) (e : Ent), l[i]? = some e → ∃ b o, ixA Pg 229 lv (int i) = some (ptr b o) ∧ ldV Pg 240 (ptr b o) w = some (aggE e) ∧ ldV Pg 9 (ptr b o) w = some (.string e.1) ∧ ldV Pg 43 (ptr b (o + 1)) w = some e.2.1) ∧
    (∀ (st : Bool) (rt : TypeId) (cs : Array Bool) (w' : World), lenG st Pg .len #[229] rt cs [lv] w' = some (int l.length, w')) ∧
    (∀ (st : Bool) (rt : TypeId) (cs : Array Bool) (w' : World), lenG st Pg .len #[230] rt cs [kv] w' = some (int ks.length, w')) := by
  obtain ⟨lv, kv, h⟩ := nd_open (hs.foc hk)
  refine ⟨lv, kv, ld_l h 0 rfl, ld_k h 0 rfl, fun i q hi => ix_k h 2 rfl hi, fun i e hi => ix_l h 1 rfl hi, fun st rt cs w' => sl_len T37 (h.foc (k := 1) rfl) w', fun st rt cs w' => sl_len T98 (h.foc (k := 2) rfl) w'⟩
theorem tr_len {h p k : Nat} {t : BT h} (hs : Sat w F) (hk : F[k]? = some (tr h p t)) : ∃ lv, ldV Pg 229 (ptr p 0) w = some lv ∧ ∀ (st : Bool) (rt : TypeId) (cs : Array Bool) (w' : World), lenG st Pg .len #[229] rt cs [lv] w' = some (int (ents h t).length, w') := by
  obtain ⟨qs, _, hs⟩ := tr_open (hs.foc hk)
  obtain ⟨lv, kv, h1, _, _, _, h2, _⟩ := nd_facts hs (k := 0) rfl
  exact ⟨lv, h1, h2⟩

/-- what is there behind rich. -/
def RichQ (h n : Nat) (F : List HP) (w0 : World) (l1 l2 : List Ent) (q1 q2 : List (Nat × BT h)) (k : BT h) (v : Value) (w' : World) : Prop :=
  ∃ (l1' l2' : List Ent) (q1' q2' : List (Nat × BT h)) (p' : Nat) (k' : BT h), v = int l1'.length ∧ q1'.length = l1'.length ∧ q2'.length = l2'.length ∧
    Sat w' (nd n (l1' ++ l2') ((q1' ++ (p', k') :: q2').map (·.1)) :: (fo h (q1' ++ (p', k') :: q2') ++ F)) ∧ (∀ q ∈ q1' ++ q2', wf h q.2 ∧ 2 ≤ (ents h q.2).length) ∧ wf h k' ∧ 3 ≤ (ents h k').length ∧
    (l1 ++ l2).length ≤ (l1' ++ l2').length + 1 ∧ (l1' ++ l2').length ≤ (l1 ++ l2).length ∧
    lpart l1' (fk h q1') ++ flat h k' ++ rpart l2' (fk h q2') = lpart l1 (fk h q1) ++ flat h k ++ rpart l2 (fk h q2) ∧ (∀ y ∈ flat h k, y ∈ flat h k') ∧ Sm w0 w'

theorem er_mid {β : Type} (A B : List β) (x : β) : (A ++ x :: B).eraseIdx A.length = A ++ B := by
  induction A with
  | nil => rfl
  | cons a A ih => simp [ih]
theorem er_mid1 {β : Type} (A B : List β) (x y : β) : (A ++ x :: y :: B).eraseIdx (A.length + 1) = A ++ x :: B := by
  induction A with
  | nil => rfl
  | cons a A ih => simp [ih]

theorem snoc_of {β : Type} {l : List β} (h : 0 < l.length) : ∃ r x, l = r ++ [x] := ⟨l.dropLast, l.getLast (by intro h0; rw [h0] at h; simp at h), (List.dropLast_concat_getLast _).symm⟩

theorem fk_snoc {h p : Nat} {q : List (Nat × BT h)} {k : BT h} : fk h (q ++ [(p, k)]) = fk h q ++ [flat h k] := by simp [fk]
theorem fk_len {h : Nat} {q : List (Nat × BT h)} : (fk h q).length = q.length := by simp [fk]

theorem rich_ok {h n p : Nat} {l1 l2 : List Ent} {q1 q2 : List (Nat × BT h)} {k : BT h} (hs : Sat w (nd n (l1 ++ l2) ((q1 ++ (p, k) :: q2).map (·.1)) :: (fo h (q1 ++ (p, k) :: q2) ++ F))) (e1 : q1.length = l1.length) (e2 : q2.length = l2.length)
    (hk : ∀ q ∈ q1 ++ (p, k) :: q2, wf h q.2 ∧ 2 ≤ (ents h q.2).length) (h5 : (l1 ++ l2).length ≤ 5) (h1 : 1 ≤ (l1 ++ l2).length) :
    Ok (Fn Pg 206 [ptr n 0, int l1.length] w) (RichQ h n F w l1 l2 q1 q2 k) := by
  obtain ⟨lv, kv, fl, fk', fi, fe, fn, fm⟩ := nd_facts hs (k := 0) rfl
  have hlen : (q1 ++ (p, k) :: q2).length = (l1 ++ l2).length + 1 := by simp; omega
  have hpl : ((q1 ++ (p, k) :: q2).map (·.1)).length ≤ 6 := by rw [List.length_map]; omega
  have hp : ((q1 ++ (p, k) :: q2).map (·.1))[l1.length]? = some p := by rw [← e1]; simp
  obtain ⟨b0, o0, x1, x2⟩ := fi _ _ hp
  have hs1 : Sat w (nd n (l1 ++ l2) ((q1 ++ (p, k) :: q2).map (·.1)) :: tr h p k :: (fo h (q1 ++ q2) ++ F)) := pull1 (q := (p, k)) |>.1 hs
  obtain ⟨klv, y1, y2⟩ := tr_len hs1 (k := 1) rfl
  have hwk : wf h k ∧ 2 ≤ (ents h k).length := hk (p, k) (by simp)
  have hl1 : l1.length ≤ 5 := by simp at h5; omega
  rw [F206]; unfold S206
  refine Ok.rd (nil_ptr _ _) (Ok.rd (fld100_1 _ _) (Ok.rd fk' (Ok.rd x1 (Ok.rd x2 ?_))))
  refine Ok.rd (nil_ptr _ _) (Ok.rd (fld100_0 _ _) (Ok.rd y1 (Ok.rd2 (y2 _ _ _ _) (Ok.rd2 bin_gtr ?_))))
  refine Ok.ci (fun hg => ?_) (fun hg => ?_)
  · have hg : 3 ≤ (ents h k).length := by simp at hg; omega
    refine ⟨_, _, rfl, l1, l2, q1, q2, p, k, rfl, e1, e2, hs, fun q hm => hk q (by simp at hm ⊢; rcases hm with hm | hm; exact .inl hm; exact .inr (.inr hm)), hwk.1, hg, by omega, Nat.le_refl _, rfl, fun y hy => hy, Sm.refl w⟩
  have hk2 : (ents h k).length = 2 := by have := hwk.2; simp at hg; omega
  -- the rest, without the left one
  have rest : (l1 = [] ∨ ∃ l1' e q1' f tf, l1 = l1' ++ [e] ∧ q1 = q1' ++ [(f, tf)] ∧ (ents h tf).length = 2) → Ok (rd (nilV (ptr n 0)) fun x62 =>
  rd (fldA Pg 232 x62 0) fun x63 =>
  rd (ldV Pg 229 x63 w) fun x64 =>
  rd2 (lenG false Pg .len #[229] 3 #[false] [x64] w) fun x65 w66 =>
  rd2 (binG false Pg .lss 3 (.tmp 0) (.tmp 0) (int l1.length) x65 w66) fun x67 w68 =>
  rd2 (gate x67 true (fun _ =>  some (ptr n 0, w68)) w68) fun x69 w70 =>
  rd2 (gate x67 true (fun _ => rd (nilV x69) fun x71 => some (x71, w70)) w70) fun x72 w73 =>
  rd2 (gate x67 true (fun _ => rd (fldA Pg 232 x72 1) fun x74 => some (x74, w73)) w73) fun x75 w76 =>
  rd2 (gate x67 true (fun _ => rd (ldV Pg 230 x75 w76) fun x77 => some (x77, w76)) w76) fun x78 w79 =>
  rd2 (gate x67 true (fun _ =>  some (int l1.length, w79)) w79) fun x80 w81 =>
  rd2 (gate x67 true (fun _ => rd2 (binG false Pg .add 3 (.tmp 0) (.const .nilFunc) x80 (.int .i64 1) w81) fun x82 w83 => some (x82, w83)) w81) fun x84 w85 =>
  rd2 (gate x67 true (fun _ => rd (ixA Pg 230 x78 x84) fun x86 => some (x86, w85)) w85) fun x87 w88 =>
  rd2 (gate x67 true (fun _ => rd (ldV Pg 228 x87 w88) fun x89 => some (x89, w88)) w88) fun x90 w91 =>
  rd2 (gate x67 true (fun _ => rd (nilV x90) fun x92 => some (x92, w91)) w91) fun x93 w94 =>
  rd2 (gate x67 true (fun _ => rd (fldA Pg 232 x93 0) fun x95 => some (x95, w94)) w94) fun x96 w97 =>
  rd2 (gate x67 true (fun _ => rd (ldV Pg 229 x96 w97) fun x98 => some (x98, w97)) w97) fun x99 w100 =>
  rd2 (gate x67 true (fun _ => rd2 (lenG false Pg .len #[229] 3 #[false] [x99] w100) fun x101 w102 => some (x101, w102)) w100) fun x103 w104 =>
  rd2 (gate x67 true (fun _ => rd2 (binG false Pg .gtr 3 (.tmp 0) (.const .nilFunc) x103 (.int .i64 2) w104) fun x105 w106 => some (x105, w106)) w104) fun x107 w108 =>
  rd (pickV x67 x107 (.bool false)) fun x109 =>
  cnd x109 (fun _ => rd2 (binG false Pg .add 3 (.tmp 0) (.const .nilFunc) (int l1.length) (.int .i64 1) w108) fun x110 w111 =>
  rd2 (Fn Pg 230 [ptr n 0, int l1.length, x110] w111) fun x112 w113 =>
  some (int l1.length, w113)) (fun _ => rd (nilV (ptr n 0)) fun x114 =>
  rd (fldA Pg 232 x114 0) fun x115 =>
  rd (ldV Pg 229 x115 w108) fun x116 =>
  rd2 (lenG false Pg .len #[229] 3 #[false] [x116] w108) fun x117 w118 =>
  rd2 (binG false Pg .lss 3 (.tmp 0) (.tmp 0) (int l1.length) x117 w118) fun x119 w120 =>
  cnd x119 (fun _ => rd2 (Fn Pg 205 [ptr n 0, int l1.length] w120) fun x121 w122 =>
  some (int l1.length, w122)) (fun _ => rd2 (binG false Pg .sub 3 (.tmp 0) (.const .nilFunc) (int l1.length) (.int .i64 1) w120) fun x123 w124 =>
  rd2 (Fn Pg 205 [ptr n 0, x123] w124) fun x125 w126 =>
  rd2 (binG false Pg .sub 3 (.tmp 0) (.const .nilFunc) (int l1.length) (.int .i64 1) w126) fun x127 w128 =>
  some (x127, w128)))) (RichQ h n F w l1 l2 q1 q2 k) := by
    intro hleft
    refine Ok.rd (nil_ptr _ _) (Ok.rd (fld100_0 _ _) (Ok.rd fl (Ok.rd2 (fn _ _ _ _) (Ok.rd2 bin_lss ?_))))
    cases l2 with
    | nil =>
      rw [show decide (((l1.length : Nat) : Int) < (((l1 ++ ([] : List Ent)).length : Nat) : Int)) = false from by simp]
      refine Ok.g0 (Ok.g0 (Ok.g0 (Ok.g0 (Ok.g0 (Ok.g0 (Ok.g0 (Ok.g0 (Ok.g0 (Ok.g0 (Ok.g0 (Ok.g0 (Ok.g0 ?_))))))))))))
      refine Ok.rd (pick_f _ _) (Ok.cf rfl ?_)
      refine Ok.rd (nil_ptr _ _) (Ok.rd (fld100_0 _ _) (Ok.rd fl (Ok.rd2 (fn _ _ _ _) (Ok.rd2 bin_lss ?_))))
      refine Ok.cf (by simp) ?_
      rcases hleft with rfl | ⟨l1', e, q1', f, tf, rfl, rfl, htf⟩
      · simp at h1
      have hq2 : q2 = [] := by simpa using e2
      subst hq2
      have e1' : q1'.length = l1'.length := by simpa using e1
      have hm : l1'.length + 1 - 1 = l1'.length := by omega
      have hL : (l1' ++ [e]).length ≤ 2 ^ 62 := by omega
      refine Ok.rd2 (bin_sub1 (by simp) hL) ?_
      rw [List.length_append, List.length_singleton, hm]
      have hs2 : Sat w (nd n ((l1' ++ [e]) ++ []) ((q1' ++ [(f, tf)] ++ [(p, k)]).map (·.1)) :: tr h f tf :: tr h p k :: (fo h (q1' ++ []) ++ F)) := by
        refine pull2 (q1 := q1') (q2 := []) (a := (f, tf)) (b := (p, k)) |>.1 ?_
        rw [show q1' ++ [(f, tf), (p, k)] = q1' ++ [(f, tf)] ++ [(p, k)] from by simp]
        exact hs
      have hwf : wf h tf ∧ 2 ≤ (ents h tf).length := hk (f, tf) (by simp)
      refine Ok.bind (merge_tr hs2 (i := l1'.length) (by rw [← e1']; simp) (by rw [← e1']; simp) (e := e) (by simp) hwf.1 hwk.1 (by omega) (by omega) (by omega)) ?_
      rintro v w2 ⟨⟨t', g1, g2, g3, g4⟩, g5⟩
      refine Ok.rd2 (bin_sub1 (by simp) (by simpa using hL)) ?_
      refine ⟨_, _, rfl, l1', [], q1', [], f, t', by simp, e1', rfl, ?_, ?_, g2, by omega, by simp, by simp, ?_, ?_, g5⟩
      · have hl' : ((l1' ++ [e]) ++ ([] : List Ent)).eraseIdx l1'.length = l1' ++ [] := by rw [List.append_nil]; exact er_mid _ _ _
        have hp' : ((q1' ++ [(f, tf)] ++ [(p, k)]).map (·.1)).eraseIdx (l1'.length + 1) = (q1' ++ [(f, t')]).map (·.1) := by
          have := er_mid1 (q1'.map (·.1)) [] f p
          rw [List.length_map, e1'] at this
          simpa using this
        rw [hl', hp'] at g1
        exact pull1 (q1 := q1') (q2 := []) (q := (f, t')) |>.2 g1
      · intro q hm
        exact hk q (by simp at hm; simp [hm])
      · rw [g4, fk_snoc, lpart_snoc (by rw [fk_len]; exact e1')]
        simp
      · intro y hy; rw [g4]; simp [hy]
    | cons e l2' =>
      rw [show decide (((l1.length : Nat) : Int) < (((l1 ++ e :: l2').length : Nat) : Int)) = true from by simp; omega]
      obtain ⟨⟨f, tf⟩, q2', rfl⟩ : ∃ q r, q2 = q :: r := by
        cases q2 with
        | nil => simp at e2
        | cons q r => exact ⟨q, r, rfl⟩
      have e2' : q2'.length = l2'.length := by simpa using e2
      have hpf : ((q1 ++ (p, k) :: (f, tf) :: q2').map (·.1))[l1.length + 1]? = some f := by rw [← e1]; simp
      obtain ⟨b1, o1, z1, z2⟩ := fi _ _ hpf
      have hs2 : Sat w (nd n (l1 ++ e :: l2') ((q1 ++ (p, k) :: (f, tf) :: q2').map (·.1)) :: tr h p k :: tr h f tf :: (fo h (q1 ++ q2') ++ F)) := pull2 (a := (p, k)) (b := (f, tf)) |>.1 hs
      obtain ⟨flv, u1, u2⟩ := tr_len hs2 (k := 2) rfl
      have hwf : wf h tf ∧ 2 ≤ (ents h tf).length := hk (f, tf) (by simp)
      refine Ok.g1 rfl (Ok.g1 (gr (nil_ptr _ _)) (Ok.g1 (gr (fld100_1 _ _)) (Ok.g1 (gr fk') (Ok.g1 rfl (Ok.g1 (gr2 (bin_add1 (by omega))) ?_)))))
      refine Ok.g1 (gr z1) (Ok.g1 (gr z2) (Ok.g1 (gr (nil_ptr _ _)) (Ok.g1 (gr (fld100_0 _ _)) (Ok.g1 (gr u1) (Ok.g1 (gr2 (u2 _ _ _ _)) (Ok.g1 (gr2 bin_gtr) ?_))))))
      refine Ok.rd (pick_t _ _) ?_
      refine Ok.ci (fun hg2 => ?_) (fun hg2 => ?_)
      · have hg2 : 3 ≤ (ents h tf).length := by simp at hg2; omega
        refine Ok.rd2 (bin_add1 (by omega)) ?_
        refine Ok.bind (lendR_tr hs2 rfl hp hpf (e := e) (by simp) hwk.1 hwf.1 hg2 (by omega) (by omega) (by omega)) ?_
        rintro v w2 ⟨⟨g, k', tf', g1, g2, g3, g4, g5, g6, g7⟩, g8⟩
        refine ⟨_, _, rfl, l1, g :: l2', q1, (f, tf') :: q2', p, k', rfl, e1, by simpa using e2', ?_, ?_, g2, by omega, by simp, by simp, ?_, g7, g8⟩
        · have hl' : (l1 ++ e :: l2').set l1.length g = l1 ++ g :: l2' := by simp
          have hp' : (q1 ++ (p, k) :: (f, tf) :: q2').map (·.1) = (q1 ++ (p, k') :: (f, tf') :: q2').map (·.1) := by simp
          rw [hl', hp'] at g1
          exact pull2 (a := (p, k')) (b := (f, tf')) |>.2 g1
        · intro q hm
          simp only [List.mem_append, List.mem_cons] at hm
          rcases hm with hm | rfl | hm
          · exact hk q (by simp [hm])
          · exact ⟨g3, Nat.le_of_succ_le_succ (Nat.le_trans hg2 (Nat.le_of_eq g5.symm))⟩
          · exact hk q (by simp [hm])
        · rw [show fk h ((f, tf') :: q2') = flat h tf' :: fk h q2' from rfl, show fk h ((f, tf) :: q2') = flat h tf :: fk h q2' from rfl, rpart_cons, rpart_cons]
          have := congrArg (fun z => lpart l1 (fk h q1) ++ z ++ rpart l2' (fk h q2')) g6
          simpa [List.append_assoc] using this.symm
      · have hg2 : (ents h tf).length = 2 := by have := hwf.2; simp at hg2; omega
        refine Ok.rd (nil_ptr _ _) (Ok.rd (fld100_0 _ _) (Ok.rd fl (Ok.rd2 (fn _ _ _ _) (Ok.rd2 bin_lss ?_))))
        refine Ok.ct (by simp; omega) ?_
        refine Ok.bind (merge_tr hs2 hp hpf (e := e) (by simp) hwk.1 hwf.1 (by omega) (by omega) (by omega)) ?_
        rintro v w2 ⟨⟨t', g1, g2, g3, g4⟩, g5⟩
        refine ⟨_, _, rfl, l1, l2', q1, q2', p, t', rfl, e1, e2', ?_, ?_, g2, by omega, by simp; omega, by simp, ?_, ?_, g5⟩
        · have hl' : (l1 ++ e :: l2').eraseIdx l1.length = l1 ++ l2' := er_mid _ _ _
          have hp' : ((q1 ++ (p, k) :: (f, tf) :: q2').map (·.1)).eraseIdx (l1.length + 1) = (q1 ++ (p, t') :: q2').map (·.1) := by
            have := er_mid1 (q1.map (·.1)) (q2'.map (·.1)) p f
            rw [List.length_map, e1] at this
            simpa using this
          rw [hl', hp'] at g1
          exact pull1 (q := (p, t')) |>.2 g1
        · intro q hm
          simp only [List.mem_append] at hm
          rcases hm with hm | hm
          · exact hk q (by simp [hm])
          · exact hk q (by simp [hm])
        · rw [g4, show fk h ((f, tf) :: q2') = flat h tf :: fk h q2' from rfl, rpart_cons]
          simp
        · intro y hy; rw [g4]; simp [hy]
  refine Ok.rd2 bin_gtr ?_
  by_cases h0 : l1 = []
  · rw [show decide ((0 : Int) < ((l1.length : Nat) : Int)) = false from by rw [h0]; rfl]
    refine Ok.g0 (Ok.g0 (Ok.g0 (Ok.g0 (Ok.g0 (Ok.g0 (Ok.g0 (Ok.g0 (Ok.g0 (Ok.g0 (Ok.g0 (Ok.g0 (Ok.g0 ?_))))))))))))
    refine Ok.rd (pick_f _ _) (Ok.cf rfl ?_)
    exact rest (.inl h0)
  · have hpos : 0 < l1.length := List.length_pos_iff.2 h0
    rw [show decide ((0 : Int) < ((l1.length : Nat) : Int)) = true from by simp; omega]
    obtain ⟨l1', e, rfl⟩ := snoc_of hpos
    obtain ⟨q1', ⟨f, tf⟩, rfl⟩ := snoc_of (l := q1) (by omega)
    have e1' : q1'.length = l1'.length := by simpa using e1
    have hm : (l1' ++ [e]).length - 1 = l1'.length := by simp
    have hpf : ((q1' ++ [(f, tf)] ++ (p, k) :: q2).map (·.1))[l1'.length]? = some f := by rw [← e1']; simp
    obtain ⟨b1, o1, z1, z2⟩ := fi _ _ hpf
    have hs2 : Sat w (nd n (l1' ++ [e] ++ l2) ((q1' ++ [(f, tf)] ++ (p, k) :: q2).map (·.1)) :: tr h f tf :: tr h p k :: (fo h (q1' ++ q2) ++ F)) := by
      refine pull2 (a := (f, tf)) (b := (p, k)) |>.1 ?_
      rw [show q1' ++ (f, tf) :: (p, k) :: q2 = q1' ++ [(f, tf)] ++ (p, k) :: q2 from by simp]
      exact hs
    obtain ⟨flv, u1, u2⟩ := tr_len hs2 (k := 1) rfl
    have hwf : wf h tf ∧ 2 ≤ (ents h tf).length := hk (f, tf) (by simp)
    have hsub := bin_sub1 (P := Pg) (st := false) (t := 3) (ox := .tmp 0) (oy := .const .nilFunc) (a := (l1' ++ [e]).length) (w := w) (by simp) (by simp; omega)
    rw [hm] at hsub
    refine Ok.g1 rfl (Ok.g1 (gr (nil_ptr _ _)) (Ok.g1 (gr (fld100_1 _ _)) (Ok.g1 (gr fk') (Ok.g1 rfl (Ok.g1 (gr2 hsub) ?_)))))
    refine Ok.g1 (gr z1) (Ok.g1 (gr z2) (Ok.g1 (gr (nil_ptr _ _)) (Ok.g1 (gr (fld100_0 _ _)) (Ok.g1 (gr u1) (Ok.g1 (gr2 (u2 _ _ _ _)) (Ok.g1 (gr2 bin_gtr) ?_))))))
    refine Ok.rd (pick_t _ _) ?_
    refine Ok.ci (fun hg2 => ?_) (fun hg2 => ?_)
    · have hg2 : 3 ≤ (ents h tf).length := by simp at hg2; omega
      refine Ok.rd2 hsub ?_
      have hs3 := hs2.re [0, 2, 1] (by decide)
      refine Ok.bind (lendL_tr (i := (l1' ++ [e]).length) (j := l1'.length) hs3 (by simp) hp hpf (e := e) (by simp) hwk.1 hwf.1 hg2 (by omega) (by omega) (by omega)) ?_
      rintro v w2 ⟨⟨g, k', tf', g1, g2, g3, g4, g5, g6, g7⟩, g8⟩
      refine ⟨_, _, rfl, l1' ++ [g], l2, q1' ++ [(f, tf')], q2, p, k', by simp, by simpa using e1', e2, ?_, ?_, g2, by omega, by simp, by simp, ?_, g7, g8⟩
      · have hl' : (l1' ++ [e] ++ l2).set l1'.length g = l1' ++ [g] ++ l2 := by simp
        have hp' : (q1' ++ [(f, tf)] ++ (p, k) :: q2).map (·.1) = (q1' ++ [(f, tf')] ++ (p, k') :: q2).map (·.1) := by simp
        rw [hl', hp'] at g1
        have := pull2 (q1 := q1') (q2 := q2) (a := (f, tf')) (b := (p, k')) |>.2 (g1.re [0, 2, 1] (by decide))
        rw [show q1' ++ (f, tf') :: (p, k') :: q2 = q1' ++ [(f, tf')] ++ (p, k') :: q2 from by simp] at this
        exact this
      · intro q hm
        simp only [List.mem_append, List.mem_singleton] at hm
        rcases hm with (hm | rfl) | hm
        · exact hk q (by simp [hm])
        · exact ⟨g3, Nat.le_of_succ_le_succ (Nat.le_trans hg2 (Nat.le_of_eq g5.symm))⟩
        · exact hk q (by simp [hm])
      · rw [fk_snoc, fk_snoc, lpart_snoc (by rw [fk_len]; exact e1'), lpart_snoc (by rw [fk_len]; exact e1')]
        have := congrArg (fun z => lpart l1' (fk h q1') ++ z ++ rpart l2 (fk h q2)) g6
        simpa [List.append_assoc] using this.symm
    · have hg2 : (ents h tf).length = 2 := by have := hwf.2; simp at hg2; omega
      exact rest (.inr ⟨l1', e, q1', f, tf, rfl, rfl, hg2⟩)

end Go.Cb

/-
  edge; remove.
-/
set_option linter.unusedVariables false
set_option linter.unusedSimpArgs false
namespace Go.Cb
variable {w : World} {F : List HP} {Q : Value → World → Prop}

theorem st_ent {rb : Nat} {c : List Value} {e : Ent} (hs : Sat w F) (k : Nat) (hk : F[k]? = some (pt rb c 240)) (hc : c.length = 2) : ∃ w', rawU Pg (Instr.storeAt 240 (ptr rb 0) (aggE e)) w = some (undef, w') ∧ Sat w' (F.set k (pt rb (encE e) 240)) ∧ Sm w w' := by
  obtain ⟨i, z, h1, h2, _⟩ := T37.i
  obtain ⟨w', g1, g2, g3⟩ := storeAt_ok (P := Pg) h1 (hs.foc hk).hp (k := 0) rfl (o := 0) (v := aggE e) (by rw [h2]; rfl) (by rw [h2, hc]; decide) (fun x hx => enE.one e x (by simpa [encE, Value.cells] using hx))
  refine ⟨w', g1, Sat.unf hk ((hs.foc hk).put g3 (fun _ _ hd => hd) ?_ (.inl rfl)), g3.sm⟩
  have := g2.get (k := 0) rfl
  have hl : lay c 0 (aggE e).cells.toList = encE e := by
    rw [lay_eq _ _ _ (by rw [hc]; exact Nat.le_refl 2), List.drop_eq_nil_of_le (by rw [hc]; exact Nat.le_refl 2)]
    simp [encE, Value.cells]
  rw [hl] at this
  exact this

def EdgeQ (h p : Nat) (t : BT h) (F : List HP) (w0 : World) (b : Bool) (v : Value) (w' : World) : Prop :=
  ∃ e, v = aggE e ∧ (b = true → ∃ A, flat h t = A ++ [e]) ∧ (b = false → ∃ B, flat h t = e :: B) ∧ Sat w' (tr h p t :: F) ∧ Sm w0 w'

theorem edge_loop : ∀ (h p : Nat) (t : BT h) (rb : Nat) (c : List Value) (b : Bool) (e : Env) (w : World) (F : List HP), wf h t → 1 ≤ (ents h t).length → c.length = 2 → Sat w (pt rb c 240 :: tr h p t :: F) →
    e 0 = ptr p 0 → e 1 = .bool b → e 4 = ptr rb 0 → e 45 = undef →
    Ok (evalLoop (cx204 (Fn Pg) (Rnd Pg)) (cdA Go.Proofs.Tryz.f204 [1, 0, 0, 0]) (K204_2 (Fn Pg) (Rnd Pg)) e w) (EdgeQ h p t F w b) := by
  intro h
  induction h with
  | zero =>
    intro p t rb c b e w F hw h1 hc hs e0 e1 e4 e45
    have h1 : 1 ≤ List.length t := h1
    have hs : Sat w (pt rb c 240 :: nd p t [] :: F) := hs
    rw [S204_L1_eq]; unfold S204_L1
    rw [e0, e1, e4, e45]
    refine Ok.rd2 (leaf_eq hs 1 rfl) (Ok.rd (un_not _) (Ok.cf rfl ?_))
    cases b with
    | true =>
      obtain ⟨lv, kv, fl, fkv, fi, fe, fn, fm⟩ := nd_facts hs.drw (k := 1) rfl
      refine Ok.ct rfl ?_
      obtain ⟨A, x, rfl⟩ := snoc_of (show 0 < List.length t by omega)
      have hx : (A ++ [x])[A.length]? = some x := by simp
      obtain ⟨b1, o1, y1, y2, _⟩ := fe _ _ hx
      have hA : A.length ≤ 5 := by have : List.length (A ++ [x]) ≤ 5 := hw; simp at this; omega
      have hsub := bin_sub1 (P := Pg) (st := true) (t := 3) (ox := .tmp 0) (oy := .const .nilFunc) (a := (A ++ [x]).length) (w := drw w) (by simp) (by simp; omega)
      rw [show (A ++ [x]).length - 1 = A.length from by simp] at hsub
      refine Ok.rd (nil_ptr _ _) (Ok.rd (fld100_0 _ _) (Ok.rd fl (Ok.rd (nil_ptr _ _) (Ok.rd (fld100_0 _ _) (Ok.rd fl (Ok.rd2 (fn _ _ _ _) (Ok.rd2 hsub (Ok.rd y1 (Ok.rd y2 ?_)))))))))
      obtain ⟨w2, g1, g2, g3⟩ := st_ent (e := x) hs.drw 0 rfl hc
      refine Ok.rd2 g1 ?_
      show Ok (rd (ldV Pg 240 (ptr rb 0) w2) fun x134 => some (x134, w2)) _
      refine Ok.rd (ld_ent g2 0 rfl) ?_
      exact ⟨_, _, rfl, x, rfl, fun _ => ⟨A, rfl⟩, (fun hh => by cases hh), g2.drop, g3.drw⟩
    | false =>
      obtain ⟨lv, kv, fl, fkv, fi, fe, fn, fm⟩ := nd_facts hs (k := 1) rfl
      refine Ok.cf rfl ?_
      obtain ⟨x, B, rfl⟩ : ∃ x B, t = (x :: B : List Ent) := by
        cases t with
        | nil => simp at h1
        | cons x B => exact ⟨x, B, rfl⟩
      obtain ⟨b1, o1, y1, y2, _⟩ := fe 0 x rfl
      refine Ok.rd (nil_ptr _ _) (Ok.rd (fld100_0 _ _) (Ok.rd fl (Ok.rd y1 (Ok.rd y2 ?_))))
      obtain ⟨w2, g1, g2, g3⟩ := st_ent (e := x) hs 0 rfl hc
      refine Ok.rd2 g1 ?_
      show Ok (rd (ldV Pg 240 (ptr rb 0) w2) fun x134 => some (x134, w2)) _
      refine Ok.rd (ld_ent g2 0 rfl) ?_
      exact ⟨_, _, rfl, x, rfl, (fun hh => by cases hh), fun _ => ⟨B, rfl⟩, g2.drop, g3⟩
  | succ h ih =>
    intro p t rb c b e w F hw h1 hc hs e0 e1 e4 e45
    obtain ⟨l, ks⟩ := t
    have hl5 : l.length ≤ 5 := hw.1
    have hkl : ks.length = l.length + 1 := hw.2.1
    obtain ⟨qs, hq, hs0⟩ := tr_open1 hs.sw
    clear hs
    have hq : qs.map (·.2) = ks := hq
    have hqs : qs.length = l.length + 1 := by rw [← hkl, ← hq, List.length_map]
    have hs : Sat w (pt rb c 240 :: nd p l (qs.map (·.1)) :: (fo h qs ++ F)) := (hs0.perm ((List.perm_middle.cons _))).sw
    clear hs0
    subst hq
    rw [S204_L1_eq]; unfold S204_L1
    rw [e0, e1, e4, e45]
    refine Ok.rd2 (leaf_eq hs 1 rfl) (Ok.rd (un_not _) (Ok.ct (by rw [List.length_map, hqs]; simp) ?_))
    have key : ∀ (q1 q2 : List (Nat × BT h)) (f : Nat) (k : BT h), qs = q1 ++ (f, k) :: q2 → ∀ (e' : Env) (w1 : World), Sm w w1 → Sat w1 (pt rb c 240 :: nd p l (qs.map (·.1)) :: (fo h qs ++ F)) → (b = true → q2 = []) → (b = false → q1 = []) → e' 0 = ptr f 0 → e' 1 = .bool b → e' 4 = ptr rb 0 → e' 45 = undef →
        Ok (evalLoop (cx204 (Fn Pg) (Rnd Pg)) (cdA Go.Proofs.Tryz.f204 [1, 0, 0, 0]) (K204_2 (Fn Pg) (Rnd Pg)) e' w1) (EdgeQ (h + 1) p (l, qs.map (·.2)) F w b) := by
      rintro q1 q2 f k rfl e' w1 s1 hs1 hb1 hb2 e0' e1' e4' e45'
      have hkw : wf h k ∧ 2 ≤ (ents h k).length := wf_kid hw (by simp)
      have hs2 : Sat w1 (pt rb c 240 :: tr h f k :: nd p l ((q1 ++ (f, k) :: q2).map (·.1)) :: (fo h (q1 ++ q2) ++ F)) := by
        have := hs1.perm ((pull_perm.cons _).cons _)
        exact this.re [0, 2, 1] (by decide)
      refine Ok.mono (ih f k rb c b e' w1 (nd p l ((q1 ++ (f, k) :: q2).map (·.1)) :: (fo h (q1 ++ q2) ++ F)) hkw.1 (by omega) hc hs2 e0' e1' e4' e45') ?_
      rintro v w2 ⟨x, hv, ht, hf, g1, g2⟩
      refine ⟨x, hv, fun hb => ?_, fun hb => ?_, put_kid rfl g1, s1.trans g2⟩
      · obtain ⟨A, hA⟩ := ht hb
        have := hb1 hb
        subst this
        have hl : q1.length = l.length := by simp at hqs; omega
        have := flat_at (p := f) (l2 := []) (q2 := []) (k := k) hl
        rw [List.append_nil] at this
        rw [this, hA]
        exact ⟨lpart l (fk h q1) ++ A, by simp [rpart, fk]⟩
      · obtain ⟨B, hB⟩ := hf hb
        have := hb2 hb
        subst this
        have := flat_at (p := f) (l1 := []) (l2 := l) (q1 := []) (q2 := q2) (k := k) rfl
        rw [List.nil_append, List.nil_append] at this
        rw [List.nil_append, this, hB]
        exact ⟨B ++ rpart l (fk h q2), by simp [lpart, fk]⟩
    cases b with
    | true =>
      obtain ⟨lv, kv, fl, fkv, fi, fe, fn, fm⟩ := nd_facts hs.drw (k := 1) rfl
      refine Ok.ct rfl ?_
      obtain ⟨q1, ⟨f, k⟩, hqe⟩ := snoc_of (l := qs) (by omega)
      have hq1 : q1.length = l.length := by rw [hqe] at hqs; simp at hqs; omega
      have hp : (qs.map (·.1))[l.length]? = some f := by rw [hqe, ← hq1]; simp
      obtain ⟨b1, o1, y1, y2⟩ := fi _ _ hp
      refine Ok.rd (nil_ptr _ _) (Ok.rd (fld100_1 _ _) (Ok.rd fkv (Ok.rd (nil_ptr _ _) (Ok.rd (fld100_0 _ _) (Ok.rd fl (Ok.rd2 (fn _ _ _ _) (Ok.rd y1 (Ok.rd y2 ?_))))))))
      exact key q1 [] f k hqe _ _ ⟨rfl, rfl, rfl, fun _ => rfl⟩ hs.drw (fun _ => rfl) (fun hh => by cases hh) rfl e1 e4 e45
    | false =>
      obtain ⟨lv, kv, fl, fkv, fi, fe, fn, fm⟩ := nd_facts hs (k := 1) rfl
      refine Ok.cf rfl ?_
      obtain ⟨⟨f, k⟩, q2, hqe⟩ : ∃ q r, qs = q :: r := by
        cases qs with
        | nil => simp at hqs
        | cons q r => exact ⟨q, r, rfl⟩
      have hp : (qs.map (·.1))[0]? = some f := by rw [hqe]; simp
      obtain ⟨b1, o1, y1, y2⟩ := fi _ _ hp
      refine Ok.rd (nil_ptr _ _) (Ok.rd (fld100_1 _ _) (Ok.rd fkv (Ok.rd y1 (Ok.rd y2 ?_))))
      exact key [] q2 f k hqe _ _ (Sm.refl w) hs (fun hh => by cases hh) (fun _ => rfl) rfl e1 e4 e45

theorem edge_ok {h p : Nat} {t : BT h} {b : Bool} (hw : wf h t) (h1 : 1 ≤ (ents h t).length) (hs : Sat w (tr h p t :: F)) : Ok (Fn Pg 204 [ptr p 0, .bool b] w) (EdgeQ h p t F w b) := by
  rw [F204]; unfold S204
  obtain ⟨i, z, g1, g2, g3, g4, _⟩ := T37.i
  refine Ok.rd2 (alloc_ok g1 g3) ?_
  have s1 := hs.new (l' := z.cells.toList) (T' := 240) (Ext.push (fun _ => False) w (.cells z.cells 240)) (fun _ _ hf => hf) (by have := At.new w z.cells.toList 240; simpa using this) (Nat.le_refl _)
  refine Ok.mono (edge_loop h p t _ _ b _ _ F hw h1 (by rw [Array.length_toList, g4]) s1 rfl rfl rfl rfl) ?_
  rintro v w' ⟨x, a1, a2, a3, a4, a5⟩
  exact ⟨x, a1, a2, a3, a4, (Ext.push (fun _ => False) w _).sm.trans a5⟩

end Go.Cb

/-
  remove.
-/
set_option linter.unusedVariables false
set_option linter.unusedSimpArgs false
namespace Go.Cb
variable {w : World} {F : List HP} {Q : Value → World → Prop}

theorem fits_has {key : ByteArray} {l1 l2 : List Ent} {b : Bool} (hf : Fits key l1 l2 b) (hs : Srt (l1 ++ l2)) : (b = true → ∃ e r, l2 = e :: r ∧ e.1 = key) ∧ (b = false → ¬ hasL (l1 ++ l2) key ∧ ∀ e, l2.head? = some e → kl key e.1 = true) := by
  obtain ⟨h1, h2⟩ := hf
  rcases h2 with ⟨rfl, rfl⟩ | ⟨e, r, rfl, he, hb⟩
  · refine ⟨fun h => (by cases h), fun _ => ⟨?_, fun e he => (by cases he)⟩⟩
    rintro ⟨y, hy, rfl⟩
    rw [List.append_nil] at hy
    exact kl_ne (h1 y hy) rfl
  · refine ⟨fun h => ⟨e, r, rfl, by rw [hb] at h; simpa using h⟩, fun h => ?_⟩
    have hne : e.1 ≠ key := by rw [hb] at h; simpa using h
    have hgt := kl_gt he hne
    refine ⟨?_, fun y hy => by simp at hy; subst hy; exact hgt⟩
    rintro ⟨y, hy, rfl⟩
    rcases List.mem_append.1 hy with hy | hy
    · exact kl_ne (h1 y hy) rfl
    · rcases List.mem_cons.1 hy with rfl | hy
      · exact hne rfl
      · have := kl_tr hgt ((srt_mid hs).2 y hy)
        rw [kl_irr] at this; cases this

theorem srt_in {A X B : List Ent} (hs : Srt (A ++ X ++ B)) {key : ByteArray} (hk : hasL X key) : bel A key ∧ abv B key ∧ Srt X := by
  obtain ⟨g1, g2, g3⟩ := srt_app.1 hs
  obtain ⟨g4, g5, g6⟩ := srt_app.1 g1
  obtain ⟨x, hx, rfl⟩ := hk
  exact ⟨fun a ha => g6 a ha x hx, fun b hb => g3 x (by simp [hx]) b hb, g5⟩

theorem rem_close {h n p : Nat} {l1 l2 : List Ent} {ps : List Nat} {q1 q2 : List (Nat × BT h)} {k k' : BT h} (e1 : q1.length = l1.length) (e2 : q2.length = l2.length) (hps : ps = (q1 ++ (p, k) :: q2).map (·.1))
    (hs : Sat w (tr h p k' :: nd n (l1 ++ l2) ps :: (fo h (q1 ++ q2) ++ F))) (h5 : (l1 ++ l2).length ≤ 5) (hk : ∀ q ∈ q1 ++ q2, wf h q.2 ∧ 2 ≤ (ents h q.2).length) (hk' : wf h k') (hk2 : 2 ≤ (ents h k').length) :
    ∃ t' : BT (h + 1), Sat w (tr (h + 1) n t' :: F) ∧ wf (h + 1) t' ∧ flat (h + 1) t' = lpart l1 (fk h q1) ++ flat h k' ++ rpart l2 (fk h q2) ∧ t'.1 = l1 ++ l2 := by
  refine ⟨(l1 ++ l2, (q1 ++ (p, k') :: q2).map (·.2)), put_kid (by rw [hps]; simp) hs, ⟨h5, by simp; omega, ?_⟩, flat_at e1, rfl⟩
  intro q hm
  simp only [List.map_append, List.map_cons, List.mem_append, List.mem_cons, List.mem_map] at hm
  rcases hm with ⟨q, hm, rfl⟩ | rfl | ⟨q, hm, rfl⟩
  · exact hk q (by simp [hm])
  · exact ⟨hk', hk2⟩
  · exact hk q (by simp [hm])

theorem remove_ok : ∀ (h n : Nat) (t : BT h) (key : ByteArray) (w : World) (F : List HP), wf h t → (h = 0 ∨ 1 ≤ (ents h t).length) → Srt (flat h t) → hasL (flat h t) key → Sat w (tr h n t :: F) →
    Ok (Fn Pg 149 [ptr n 0, .string key] w) fun v w' => (∃ t' : BT h, Sat w' (tr h n t' :: F) ∧ wf h t' ∧ flat h t' = delL (flat h t) key ∧ (ents h t).length ≤ (ents h t').length + 1) ∧ Sm w w' := by
  intro h
  induction h with
  | zero =>
    intro n t key w F hw h1 hsr hk hs
    have hs : Sat w (nd n t [] :: F) := hs
    have hsr : Srt (t : List Ent) := hsr
    have hk : hasL (t : List Ent) key := hk
    have hw : List.length t ≤ 5 := hw
    rw [F149]; unfold S149
    refine Ok.bind (find_ok hs (k := 0) rfl (by omega)) ?_
    rintro v w1 ⟨l1, l2, b, hl, hf, rfl, h2, s1⟩
    have hf2 := fits_has hf (hl ▸ hsr)
    cases b with
    | false => exact absurd (hl ▸ hk) (hf2.2 rfl).1
    | true =>
      obtain ⟨e, r, rfl, rfl⟩ := hf2.1 rfl
      refine Ok.rd rfl (Ok.rd rfl ?_)
      refine Ok.g1 rfl (Ok.g1 (gr2 (leaf_eq h2 0 rfl)) ?_)
      refine Ok.rd (pick_t _ _) (Ok.ct rfl ?_)
      obtain ⟨lv, kv, h3⟩ := nd_open h2
      have hl1 : l1.length ≤ 5 := by have := congrArg List.length hl; simp at this; omega
      refine go_l (ld_l h3 0 rfl) ?_
      refine Ok.rd2 (bin_add1 (by omega)) ?_
      refine go_dell h3 1 rfl (by rw [hl]; simp) (by omega) fun v4 w4 h4 s4 => ?_
      refine go_stl h4 0 rfl (slH_one h4 1 rfl) fun w5 h5 s5 => ?_
      have e1 : List.eraseIdx t l1.length = l1 ++ r := by rw [hl]; exact er_mid _ _ _
      refine ⟨_, _, rfl, ⟨l1 ++ r, ?_, ?_, ?_, ?_⟩, s1.trans (s4.trans s5)⟩
      · have h6 := nd_mk h5
        rw [e1] at h6
        exact h6
      · show List.length (l1 ++ r) ≤ 5
        rw [hl] at hw; simp at hw ⊢; omega
      · show l1 ++ r = delL t e.1
        rw [hl] at hsr ⊢
        obtain ⟨m1, m2⟩ := srt_mid hsr
        rw [del_one m1 m2 rfl]
      · rw [hl]; show List.length (l1 ++ e :: r) ≤ List.length (l1 ++ r) + 1; simp; omega
  | succ h ih =>
    intro n t key w F hw h1 hsr hk hs
    obtain ⟨l, ks⟩ := t
    have hl1x : 1 ≤ l.length := h1.resolve_left (by omega)
    clear h1
    have hl5 : l.length ≤ 5 := hw.1
    have hkl : ks.length = l.length + 1 := hw.2.1
    obtain ⟨qs, hq, hs0⟩ := tr_open1 hs
    clear hs
    have hq : qs.map (·.2) = ks := hq
    have hqs : qs.length = l.length + 1 := by rw [← hkl, ← hq, List.length_map]
    subst hq
    have hkids : ∀ q ∈ qs, wf h q.2 ∧ 2 ≤ (ents h q.2).length := fun q hm => wf_kid hw (List.mem_map_of_mem hm)
    rw [F149]; unfold S149
    have hs0 : Sat w (nd n l (qs.map (·.1)) :: (fo h qs ++ F)) := hs0
    have hl30 : l.length ≤ 2 ^ 30 := by omega
    refine Ok.bind (find_ok hs0 (k := 0) rfl hl30) ?_
    rintro v w1 ⟨l1, l2, b, rfl, hf, rfl, h2, s1⟩
    clear hs0
    refine Ok.rd rfl (Ok.rd rfl ?_)
    have hl1 : l1.length ≤ 5 := by simp at hl5; omega
    obtain ⟨q1, ⟨p, k⟩, q2, rfl, e1⟩ := ex_at (xs := qs) (i := l1.length) (by rw [hqs]; simp; omega)
    have e2 : q2.length = l2.length := by simp at hqs; omega
    have hfl := flat_at (p := p) (l2 := l2) (q2 := q2) (k := k) e1
    have hkw : wf h k ∧ 2 ≤ (ents h k).length := hkids (p, k) (by simp)
    have hkids' : ∀ q ∈ q1 ++ q2, wf h q.2 ∧ 2 ≤ (ents h q.2).length := fun q hm => hkids q (by simp at hm ⊢; rcases hm with hm | hm; exact .inl hm; exact .inr (.inr hm))
    rw [hfl] at hsr hk ⊢
    have hpl : ((q1 ++ (p, k) :: q2).map (·.1)).length ≤ 6 := by rw [List.length_map]; omega
    have hp : ((q1 ++ (p, k) :: q2).map (·.1))[l1.length]? = some p := by rw [← e1]; simp
    cases b with
    | false =>
      refine Ok.g0 (Ok.g0 (Ok.rd (pick_f _ _) (Ok.cf rfl ?_)))
      refine Ok.g0 (Ok.g0 (Ok.g0 (Ok.g0 (Ok.g0 (Ok.g0 (Ok.g0 (Ok.g0 (Ok.g0 (Ok.g0 (Ok.g0 (Ok.g0 (Ok.rd (pick_f _ _) (Ok.cf rfl ?_)))))))))))))
      refine Ok.g0 (Ok.g0 (Ok.g0 (Ok.g0 (Ok.g0 (Ok.g0 (Ok.g0 (Ok.g0 (Ok.g0 (Ok.g0 (Ok.g0 (Ok.g0 (Ok.g0 (Ok.rd (pick_f _ _) (Ok.cf rfl (Ok.cf rfl ?_)))))))))))))))
      refine Ok.bind (rich_ok h2 e1 e2 hkids hl5 hl1x) ?_
      rintro v w2 ⟨l1', l2', q1', q2', p', k', rfl, f1, f2, g1, g2, g3, g4, g5, g6, g7, g8, g9⟩
      have hl1' : l1'.length ≤ 5 := by simp at g6 hl5; omega
      have hp' : ((q1' ++ (p', k') :: q2').map (·.1))[l1'.length]? = some p' := by rw [← f1]; simp
      -- the key is in the kid
      have hkk : hasL (flat h k) key := by
        have hs2 := hsr
        obtain ⟨hA, hB⟩ : bel (lpart l1 (fk h q1)) key ∧ abv (rpart l2 (fk h q2)) key := by
          have hx := hf.2
          obtain ⟨m1, m2, _⟩ := srt_app.1 hsr
          obtain ⟨m3, m4, _⟩ := srt_app.1 m1
          refine ⟨lpart_bel m3 hf.1, rpart_abv m2 ?_⟩
          intro y hy
          rcases hf.2 with ⟨rfl, _⟩ | ⟨y', r, rfl, hy', hb⟩
          · cases hy
          · simp at hy; subst hy
            exact kl_gt hy' (by simpa using hb)
        exact (has_mid hA hB).1 hk
      have hkk' : hasL (flat h k') key := let ⟨y, hy, hyk⟩ := hkk; ⟨y, g8 y hy, hyk⟩
      have hsr' := hsr
      rw [← g7] at hsr'
      obtain ⟨nA, nB, nS⟩ := srt_in hsr' hkk'
      refine go_nkid g1 0 rfl hp' fun z a => ?_
      have g1' := pull1 (q := (p', k')) |>.1 g1
      refine Ok.bind (ih p' k' key w2 _ g3 (.inr (by omega)) nS hkk' g1'.sw) ?_
      rintro v w3 ⟨⟨k2, m1, m2, m3, m4⟩, m5⟩
      obtain ⟨t', t1, t2, t3, t4⟩ := rem_close (k := k') f1 f2 rfl m1 (by omega) g2 m2 (by omega)
      refine ⟨_, _, rfl, ⟨t', t1, t2, ?_, ?_⟩, s1.trans (g9.trans m5)⟩
      · rw [t3, m3, ← g7, del_mid nA nB]
      · show (l1 ++ l2).length ≤ t'.1.length + 1
        rw [t4]; exact g5
    | true =>
      obtain ⟨e, l2', rfl, rfl⟩ : ∃ e r, l2 = e :: r ∧ e.1 = key := by
        rcases hf.2 with ⟨_, hh⟩ | ⟨y', r, rfl, hy', hb⟩
        · cases hh
        · exact ⟨y', r, rfl, by simpa using hb⟩
      obtain ⟨⟨f, tf⟩, q2', rfl⟩ : ∃ q r, q2 = q :: r := by
        cases q2 with
        | nil => simp at e2
        | cons q r => exact ⟨q, r, rfl⟩
      have e2' : q2'.length = l2'.length := by simpa using e2
      have hfw : wf h tf ∧ 2 ≤ (ents h tf).length := hkids (f, tf) (by simp)
      have hpf : ((q1 ++ (p, k) :: (f, tf) :: q2').map (·.1))[l1.length + 1]? = some f := by rw [← e1]; simp
      have hle : (l1 ++ e :: l2')[l1.length]? = some e := by simp
      have h3 : Sat w1 (nd n (l1 ++ e :: l2') ((q1 ++ (p, k) :: (f, tf) :: q2').map (·.1)) :: tr h p k :: tr h f tf :: (fo h (q1 ++ q2') ++ F)) := pull2 (a := (p, k)) (b := (f, tf)) |>.1 h2
      clear h2
      obtain ⟨lv, kv, fl, fkv, fi, fe, fn, fm⟩ := nd_facts h3 (k := 0) rfl
      obtain ⟨b0, o0, x1, x2⟩ := fi _ _ hp
      obtain ⟨b1, o1, z1, z2⟩ := fi _ _ hpf
      obtain ⟨klv, y1, y2⟩ := tr_len h3 (k := 1) rfl
      obtain ⟨flv, u1, u2⟩ := tr_len h3 (k := 2) rfl
      have erp : rpart (e :: l2') (fk h ((f, tf) :: q2')) = e :: flat h tf ++ rpart l2' (fk h q2') := by
        rw [show fk h ((f, tf) :: q2') = flat h tf :: fk h q2' from rfl, rpart_cons]
      rw [erp] at hsr hk ⊢
      have hdel : delL (lpart l1 (fk h q1) ++ flat h k ++ (e :: flat h tf ++ rpart l2' (fk h q2'))) e.1 = lpart l1 (fk h q1) ++ flat h k ++ (flat h tf ++ rpart l2' (fk h q2')) := by
        rw [List.cons_append] at hsr ⊢
        obtain ⟨m1, m2⟩ := srt_mid hsr
        exact del_one m1 m2 rfl
      rw [hdel]
      refine Ok.g1 rfl (Ok.g1 (gr2 (leaf_eq h3 0 rfl)) ?_)
      rw [show decide (((q1 ++ (p, k) :: (f, tf) :: q2').map (·.1)).length = 0) = false from by simp]
      refine Ok.rd (pick_t _ _) (Ok.cf rfl ?_)
      refine Ok.g1 rfl (Ok.g1 (gr (nil_ptr _ _)) (Ok.g1 (gr (fld100_1 _ _)) (Ok.g1 (gr fkv) (Ok.g1 rfl ?_))))
      refine Ok.g1 (gr x1) (Ok.g1 (gr x2) (Ok.g1 (gr (nil_ptr _ _)) (Ok.g1 (gr (fld100_0 _ _)) (Ok.g1 (gr y1) (Ok.g1 (gr2 (y2 _ _ _ _)) (Ok.g1 (gr2 bin_gtr) ?_))))))
      refine Ok.rd (pick_t _ _) ?_
      refine Ok.ci (fun hg => ?_) (fun hg => ?_)
      · have hg : 3 ≤ (ents h k).length := by simp at hg; omega
        obtain ⟨lv, kv, h4⟩ := nd_open h3
        refine Ok.rd (nil_ptr _ _) (Ok.rd (fld100_0 _ _) (Ok.rd (ld_l h4.drw 0 rfl) ?_))
        refine go_k (ld_k h4.drw 0 rfl) (go_kid h4.drw 2 rfl hp ?_)
        refine Ok.bind (edge_ok (b := true) hkw.1 (by omega) (Sat.foc h4.drw (k := 3) rfl)) ?_
        rintro v w2 ⟨e', rfl, ht, _, g1, g2⟩
        obtain ⟨A, hA⟩ := ht rfl
        refine Ok.chk (show ldV Pg 229 (ptr n 0) w2 = some lv from ld_l g1 1 rfl) ?_
        refine go_set (i := l1.length) g1 2 rfl (by simp) fun w3 g3 s3 => ?_
        have hset : (l1 ++ e :: l2').set l1.length e' = l1 ++ e' :: l2' := by simp
        have g4 : Sat w3 (nd n (l1 ++ e' :: l2') ((q1 ++ (p, k) :: (f, tf) :: q2').map (·.1)) :: tr h p k :: tr h f tf :: (fo h (q1 ++ q2') ++ F)) := by
          have := g3.re [1, 2, 3, 0] (by decide)
          rw [← hset]
          exact nd_mk this
        refine go_nkid g4.drw 0 rfl hp fun z a => go_nkey g4.drw 0 rfl (e := e') (by simp) fun z a => ?_
        have hsk : Srt (flat h k) := (srt_app.1 (srt_app.1 hsr).1).2.1
        have hdk : delL (flat h k) e'.1 = A := by
          rw [hA] at hsk ⊢
          have := del_one (B := []) (srt_mid hsk).1 (srt_mid hsk).2 (rfl : e'.1 = e'.1)
          rw [List.append_nil] at this
          exact this
        refine Ok.bind (ih p k e'.1 (drw w3) _ hkw.1 (.inr (by omega)) hsk ⟨e', by rw [hA]; simp, rfl⟩ g4.drw.sw) ?_
        rintro v w4 ⟨⟨k', m1, m2, m3, m4⟩, m5⟩
        obtain ⟨t', t1, t2, t3, t4⟩ := rem_close (k := k) (l2 := e' :: l2') (q2 := (f, tf) :: q2') e1 (by simpa using e2') rfl (pull_in (q := (f, tf)) m1) (by simp at hl5 ⊢; omega) hkids' m2 (by omega)
        refine ⟨_, _, rfl, ⟨t', t1, t2, ?_, ?_⟩, s1.trans (g2.drw.trans (s3.trans m5.drw))⟩
        · rw [t3, m3, hdk, hA, show fk h ((f, tf) :: q2') = flat h tf :: fk h q2' from rfl, rpart_cons]; simp
        · show (l1 ++ e :: l2').length ≤ t'.1.length + 1
          rw [t4]; simp
      · have hk2 : (ents h k).length = 2 := by have := hkw.2; simp at hg; omega
        refine Ok.g1 rfl (Ok.g1 (gr (nil_ptr _ _)) (Ok.g1 (gr (fld100_1 _ _)) (Ok.g1 (gr fkv) (Ok.g1 rfl (Ok.g1 (gr2 (bin_add1 (by omega))) ?_)))))
        refine Ok.g1 (gr z1) (Ok.g1 (gr z2) (Ok.g1 (gr (nil_ptr _ _)) (Ok.g1 (gr (fld100_0 _ _)) (Ok.g1 (gr u1) (Ok.g1 (gr2 (u2 _ _ _ _)) (Ok.g1 (gr2 bin_gtr) ?_))))))
        refine Ok.rd (pick_t _ _) ?_
        refine Ok.ci (fun hg2 => ?_) (fun hg2 => ?_)
        · have hg2 : 3 ≤ (ents h tf).length := by simp at hg2; omega
          obtain ⟨lv, kv, h4⟩ := nd_open h3
          refine Ok.rd (nil_ptr _ _) (Ok.rd (fld100_0 _ _) (Ok.rd (ld_l h4.drw 0 rfl) ?_))
          refine go_k (ld_k h4.drw 0 rfl) ?_
          refine Ok.rd2 (bin_add1 (by omega)) ?_
          refine go_kid h4.drw 2 rfl hpf ?_
          refine Ok.bind (edge_ok (b := false) hfw.1 (by omega) (Sat.foc h4.drw (k := 4) rfl)) ?_
          rintro v w2 ⟨e', rfl, _, ht, g1, g2⟩
          obtain ⟨B, hB⟩ := ht rfl
          refine Ok.chk (show ldV Pg 229 (ptr n 0) w2 = some lv from ld_l g1 1 rfl) ?_
          refine go_set (i := l1.length) g1 2 rfl (by simp) fun w3 g3 s3 => ?_
          have hset : (l1 ++ e :: l2').set l1.length e' = l1 ++ e' :: l2' := by simp
          have g4 : Sat w3 (nd n (l1 ++ e' :: l2') ((q1 ++ (p, k) :: (f, tf) :: q2').map (·.1)) :: tr h f tf :: tr h p k :: (fo h (q1 ++ q2') ++ F)) := by
            have := g3.re [1, 2, 3, 0] (by decide)
            rw [← hset]
            exact nd_mk this
          refine Ok.rd (nil_ptr _ _) (Ok.rd (fld100_1 _ _) ?_)
          obtain ⟨lv2, kv2, fl2, fkv2, fi2, fe2, _, _⟩ := nd_facts g4.drw (k := 0) rfl
          obtain ⟨b3, o3, i1, i2⟩ := fi2 _ _ hpf
          obtain ⟨b4, o4, j1, _, j2, _⟩ := fe2 l1.length e' (by simp)
          refine Ok.rd fkv2 (Ok.rd2 (bin_add1 (by omega)) (Ok.rd i1 (Ok.rd i2 ?_)))
          refine Ok.rd (nil_ptr _ _) (Ok.rd (fld100_0 _ _) (Ok.rd fl2 (Ok.rd j1 (Ok.rd (fld40_0 _ _) (Ok.rd j2 ?_)))))
          have hst : Srt (flat h tf) := by
            have := (srt_app.1 hsr).2.1
            exact (srt_cons.1 (srt_app.1 this).1).2
          have hdk : delL (flat h tf) e'.1 = B := by
            rw [hB] at hst ⊢
            exact del_one (A := []) (by intro y hy; cases hy) (srt_cons.1 hst).1 (rfl : e'.1 = e'.1)
          refine Ok.bind (ih f tf e'.1 (drw w3) _ hfw.1 (.inr (by omega)) hst ⟨e', by rw [hB]; simp, rfl⟩ g4.drw.sw) ?_
          rintro v w4 ⟨⟨k', m1, m2, m3, m4⟩, m5⟩
          have m6 : Sat w4 (tr h f k' :: nd n ((l1 ++ [e']) ++ l2') ((q1 ++ (p, k) :: (f, tf) :: q2').map (·.1)) :: (fo h ((q1 ++ [(p, k)]) ++ q2') ++ F)) := by
            have := pull_in (q := (p, k)) m1
            simpa using this
          obtain ⟨t', t1, t2, t3, t4⟩ := rem_close (k := tf) (l1 := l1 ++ [e']) (q1 := q1 ++ [(p, k)]) (by simp [e1]) e2' (by simp) m6 (by simp at hl5 ⊢; omega) (fun q hm => by
            simp only [List.append_assoc, List.singleton_append, List.mem_append, List.mem_cons] at hm
            rcases hm with hm | rfl | hm
            · exact hkids q (by simp [hm])
            · exact hkw
            · exact hkids q (by simp [hm])) m2 (by omega)
          refine ⟨_, _, rfl, ⟨t', t1, t2, ?_, ?_⟩, s1.trans (g2.drw.trans (s3.trans m5.drw))⟩
          · rw [t3, m3, hdk, hB, fk_snoc, lpart_snoc (by rw [fk_len]; exact e1)]; simp
          · show (l1 ++ e :: l2').length ≤ t'.1.length + 1
            rw [t4]; simp
        · have hg2 : (ents h tf).length = 2 := by have := hfw.2; simp at hg2; omega
          refine Ok.ct rfl ?_
          refine Ok.bind (merge_tr h3 hp hpf hle hkw.1 hfw.1 (by omega) (by omega) (by omega)) ?_
          rintro v w2 ⟨⟨tm, g1, g2, g3, g4⟩, g5⟩
          have hl' : (l1 ++ e :: l2').eraseIdx l1.length = l1 ++ l2' := er_mid _ _ _
          have hp' : ((q1 ++ (p, k) :: (f, tf) :: q2').map (·.1)).eraseIdx (l1.length + 1) = (q1 ++ (p, tm) :: q2').map (·.1) := by
            have := er_mid1 (q1.map (·.1)) (q2'.map (·.1)) p f
            rw [List.length_map, e1] at this
            simpa using this
          rw [hl', hp'] at g1
          refine go_nkid (i := l1.length) (q := p) g1 0 rfl (by rw [← e1]; simp) fun z a => ?_
          have hsm : Srt (flat h tm) := by
            rw [g4]
            have : Srt (lpart l1 (fk h q1) ++ (flat h k ++ e :: flat h tf) ++ rpart l2' (fk h q2')) := by simpa [List.append_assoc] using hsr
            exact (srt_app.1 (srt_app.1 this).1).2.1
          refine Ok.bind (ih p tm e.1 w2 _ g2 (.inr (by omega)) hsm ⟨e, by rw [g4]; simp, rfl⟩ g1.sw) ?_
          rintro v w4 ⟨⟨k', m1, m2, m3, m4⟩, m5⟩
          obtain ⟨t', t1, t2, t3, t4⟩ := rem_close (k := tm) e1 e2' rfl m1 (by simp at hl5 ⊢; omega) (fun q hm => by
            simp only [List.mem_append] at hm
            rcases hm with hm | hm
            · exact hkids q (by simp [hm])
            · exact hkids q (by simp [hm])) m2 (by omega)
          refine ⟨_, _, rfl, ⟨t', t1, t2, ?_, ?_⟩, s1.trans (g5.trans m5)⟩
          · rw [t3, m3, g4]
            rw [g4] at hsm
            rw [del_one (srt_mid hsm).1 (srt_mid hsm).2 rfl]; simp
          · show (l1 ++ e :: l2').length ≤ t'.1.length + 1
            rw [t4]; simp; omega

end Go.Cb
