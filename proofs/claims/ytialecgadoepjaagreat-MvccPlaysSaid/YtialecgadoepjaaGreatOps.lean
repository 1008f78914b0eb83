/-
  What the built-in operations on slices do to a slice of rows.
-/
import Derived.Test.YtialecgadoepjaaGreatSep
import Derived.Lib.Overlaps
set_option linter.unusedVariables false
set_option linter.unusedSimpArgs false
namespace Go.Cb
variable {P : Program} {w : World} {F : List HP}

structure SlT (P : Program) (t elem : TypeId) (k : Nat) : Prop where
  u : P.underlying t = some (.slice elem)
  i : ∃ i z, P.info? elem = some i ∧ i.size = k ∧ i.zero = some z ∧ z.cells.size = k ∧ i.bytes ≤ 1000 ∧ 0 < i.bytes ∧ (∀ y ∈ z.cells.toList, one y = true)
  k0 : 0 < k
def slTb (P : Program) (t e : TypeId) (k : Nat) : Bool :=
  match P.underlying t with
  | some (.slice e') => Nat.beq e e' && Nat.blt 0 k && (match P.info? e with
    | some i => Nat.beq i.size k && (match i.zero with
      | some z => Nat.beq z.cells.size k && Nat.ble i.bytes 1000 && Nat.blt 0 i.bytes && z.cells.toList.all one
      | none => false)
    | none => false)
  | _ => false
theorem slT_of {P : Program} {t e : TypeId} {k : Nat} (h : slTb P t e k = true) : SlT P t e k := by
  unfold slTb at h
  split at h
  · rename_i e' hu
    simp only [Bool.and_eq_true] at h
    obtain ⟨⟨h1, h2⟩, h⟩ := h
    have he : e = e' := Nat.eq_of_beq_eq_true h1
    subst he
    split at h
    · rename_i i hi
      simp only [Bool.and_eq_true] at h
      obtain ⟨h3, h⟩ := h
      split at h
      · rename_i z hz
        simp only [Bool.and_eq_true, List.all_eq_true] at h
        exact ⟨hu, ⟨i, z, hi, Nat.eq_of_beq_eq_true h3, hz, Nat.eq_of_beq_eq_true h.1.1.1, Nat.le_of_ble_eq_true h.1.1.2, Nat.le_of_ble_eq_true h.1.2, h.2⟩, Nat.le_of_ble_eq_true h2⟩
      · cases h
    · cases h
  · cases h
theorem SlT.app {t elem : TypeId} {k : Nat} (h : SlT P t elem k) : AppT P t t elem k :=
  ⟨h.u, let ⟨i, z, h1, h2, h3, h4, h5, h6, _⟩ := h.i; ⟨i, z, h1, h2, h3, h4, h5, h6⟩, ⟨_, h.u⟩⟩

structure En {α : Type} (enc : α → List Value) (k : Nat) : Prop where
  len : ∀ x, (enc x).length = k
  one : ∀ x, ∀ v ∈ enc x, one v = true

variable {t e : TypeId} {k : Nat} {α : Type} {enc : α → List Value} {v x : Value} {xs ys : List α}

theorem app_raw {P : Program} {ts : Array TypeId} {t : TypeId} {cs : Array Bool} {a b : Value} {w : World} {r : R} (h : rawN P (builtin .append ts t cs #[a, b]) w = r) : lenG false P .append ts t cs [a, b] w = r := h
theorem copy_raw {P : Program} {ts : Array TypeId} {t : TypeId} {cs : Array Bool} {a b : Value} {w : World} {r : R} (h : rawN P (builtin .copy ts t cs #[a, b]) w = r) : lenG false P .copy ts t cs [a, b] w = r := h
theorem clear_raw {P : Program} {ts : Array TypeId} {t : TypeId} {cs : Array Bool} {a : Value} {w : World} {r : R} (h : rawN P (builtin .clear ts t cs #[a]) w = r) : lenG false P .clear ts t cs [a] w = r := h

theorem take_app {β : Type} (A B : List β) (n : Nat) (h : A.length ≤ n) : (A ++ B).take n = A ++ B.take (n - A.length) := by
  rw [List.take_append, List.take_of_length_le h]

theorem sl_append (hT : SlT P t e k) (hE : En enc k) (h : Sat w (slH e k enc v xs :: F)) (hx : Src w x ys.length k (ys.flatMap enc)) (hb : xs.length + ys.length ≤ 2 ^ 30) {rt : TypeId} {cs : Array Bool} :
    ∃ v' w', lenG false P .append #[t, t] rt cs [v, x] w = some (v', w') ∧ Sat w' (slH e k enc v' (xs ++ ys) :: F) ∧ Sm w w' := by
  rcases slH_cases h with ⟨a, rfl, rfl, h'⟩ | ⟨b, c, l, rfl, h1, h2, h3, h'⟩
  · cases ys with
    | nil =>
      refine ⟨.slice a 0 0, w, ?_, slH_nil a h', Sm.refl w⟩
      exact append_nil0 hT.app hx
    | cons y ys =>
      obtain ⟨c', l', w', h1, h2, h3, h4, h5, h6, _⟩ := append_nil hT.app (a := a) (m := []) ⟨by simp, by simp⟩ hx (by simp) (by simpa using hb) (rt := rt) (cs := cs)
      refine ⟨_, w', h1, ?_, h3.sm⟩
      exact slH_mk (by simp) h5 (by simpa using h6) (by simpa using h4) (h'.new h3 (fun _ _ hf => hf) (h2.get (k := 0) rfl) (Nat.le_refl _))
  · obtain ⟨b', c', l', w', g1, g2, g3, g4, g5, g6, g7⟩ := append_ok hT.app h'.hp (j := 0) rfl hx h1 h2 hb (fun y hy => flat_one hE.one ys y hy) (rt := rt) (cs := cs)
    refine ⟨_, w', g1, ?_, g3.sm⟩
    refine slH_mk (by simp) g6 (by simpa using g7) ?_ (h'.put g3 (fun _ _ hd => hd) (g2.get (k := 0) rfl) g4)
    rw [List.length_append, g5, h3, List.flatMap_append]

theorem sl_append' (hT : SlT P t e k) (hE : En enc k) (h : Sat w (slH e k enc v xs :: F)) (hx : Src w x ys.length k (ys.flatMap enc)) (hb : xs.length + ys.length ≤ 2 ^ 30) {rt : TypeId} {cs : Array Bool} :
    Ok (lenG false P .append #[t, t] rt cs [v, x] w) fun v' w' => Sat w' (slH e k enc v' (xs ++ ys) :: F) ∧ Sm w w' := by
  obtain ⟨v', w', h1, h2, h3⟩ := sl_append hT hE h hx hb (rt := rt) (cs := cs)
  exact ⟨v', w', h1, h2, h3⟩

/-- v[:hi]. -/
theorem sl_pre (hT : SlT P t e k) (hE : En enc k) (h : Sat w (slH e k enc v xs :: F)) {hi : Nat} (hh : hi ≤ xs.length) :
    ∃ v', slV P t v none (some (int hi)) none = some v' ∧ Sat w (slH e k enc v' (xs.take hi) :: F) := by
  obtain ⟨i, z, hi', hk, _⟩ := hT.i
  rcases slH_cases h with ⟨a, rfl, rfl, h'⟩ | ⟨b, c, l, rfl, h1, h2, h3, h'⟩
  · simp at hh; subst hh
    exact ⟨_, sl_hi hT.u hi' (Nat.le_refl _), slH_nil a h'⟩
  · refine ⟨_, sl_hi hT.u hi' (by omega), ?_⟩
    refine slH_mk (by simp; omega) h1 (by simp; omega) ?_ h'
    rw [← flat_take hE.len, ← h3, List.take_take, List.length_take, Nat.min_eq_left hh, Nat.min_eq_left (Nat.mul_le_mul_right k hh)]

/-- v[lo:]. -/
theorem sl_suf (hT : SlT P t e k) (hE : En enc k) (h : Sat w (slH e k enc v xs :: F)) {lo : Nat} (hh : lo ≤ xs.length) :
    ∃ v', slV P t v (some (int lo)) none none = some v' ∧ Src w v' (xs.drop lo).length k ((xs.drop lo).flatMap enc) := by
  obtain ⟨i, z, hi', hk, _⟩ := hT.i
  rcases slH_cases h with ⟨a, rfl, rfl, h'⟩ | ⟨b, c, l, rfl, h1, h2, h3, h'⟩
  · simp at hh; subst hh
    refine ⟨_, sl_lo hT.u hi' (Nat.le_refl _), ?_⟩
    cases a with
    | none => exact .inl ⟨_, rfl, rfl, rfl⟩
    | some a => exact .inr ⟨_, _, rfl, by simp [cellsAt]⟩
  · refine ⟨_, sl_lo hT.u hi' hh, ?_⟩
    have hmul : xs.length * k ≤ c * k := Nat.mul_le_mul_right k h2
    have hmul2 : lo * k ≤ xs.length * k := Nat.mul_le_mul_right k hh
    have hs : (xs.length - lo) * k = xs.length * k - lo * k := Nat.sub_mul _ _ _
    rw [List.length_drop]
    by_cases hc : c = lo
    · have : xs.length = lo := by omega
      rw [if_pos hc]
      refine .inr ⟨_, _, rfl, ?_⟩
      rw [← this, Nat.sub_self, List.drop_length]; simp [cellsAt]
    · rw [if_neg hc]
      have := src_at (w := w) (c := c - lo) h'.at (show lo * k + (xs.length - lo) * k ≤ l.length by omega)
      rw [hk]
      simp only [Option.map_some, show (⟨b, 0, none⟩ : Addr) = ad b 0 from rfl, add_ad, Nat.zero_add]
      rw [← flat_drop hE.len, ← h3, List.drop_take, ← hs]
      exact this

/-- v[i] 's place. -/
theorem sl_ix (hT : SlT P t e k) (hE : En enc k) (h : Sat w (slH e k enc v xs :: F)) {i : Nat} (hi : i < xs.length) :
    ∃ b l, ixA P t v (int i) = some (ptr b (i * k)) ∧ At w b l e ∧ i * k + k ≤ l.length ∧ (l.drop (i * k)).take k = enc xs[i] := by
  obtain ⟨i', z, hi', hk, _⟩ := hT.i
  obtain ⟨b, c, l, rfl, ha, hl, he⟩ := slH_cell hE.len h hi
  have h4 : i * k + k ≤ xs.length * k := by rw [← Nat.succ_mul]; exact Nat.mul_le_mul_right k hi
  refine ⟨b, l, ?_, ha, by omega, he⟩
  rw [ix_sl hT.u hi' hi, hk, Nat.zero_add]

theorem sl_len (hT : SlT P t e k) (h : Sat w (slH e k enc v xs :: F)) {st : Bool} {rt : TypeId} {cs : Array Bool} (w' : World) : lenG st P .len #[t] rt cs [v] w' = some (int xs.length, w') := by
  obtain ⟨a, c, rfl, _⟩ := slH_len h
  exact len_sl hT.u _ _ _ _

/-- an element is turned. -/
theorem sl_set (hT : SlT P t e k) (hE : En enc k) (h : Sat w (slH e k enc v xs :: F)) {i : Nat} (hi : i < xs.length) {y : α} {u : Value} (hu : u.cells.toList = enc y) {b o : Nat} (hb : ixA P t v (int i) = some (ptr b o)) :
    ∃ w', rawU P (Instr.storeAt e (ptr b o) u) w = some (undef, w') ∧ Sat w' (slH e k enc v (xs.set i y) :: F) ∧ Sm w w' := by
  obtain ⟨i', z, hi', hk, _⟩ := hT.i
  rcases slH_cases h with ⟨a, rfl, rfl, h'⟩ | ⟨b', c, l, rfl, h1, h2, h3, h'⟩
  · simp at hi
  · rw [ix_sl hT.u hi' hi, hk, Nat.zero_add] at hb
    simp only [Option.some.injEq, Value.pointer.injEq, Addr.mk.injEq, and_true] at hb
    obtain ⟨rfl, rfl⟩ := hb
    have h4 : i * k + k ≤ xs.length * k := by rw [← Nat.succ_mul]; exact Nat.mul_le_mul_right k hi
    have hmul : xs.length * k ≤ c * k := Nat.mul_le_mul_right k h2
    obtain ⟨w', g1, g2, g3⟩ := storeAt_ok hi' h'.hp (k := 0) rfl (o := i * k) (v := u) (by rw [← Array.length_toList, hu, hE.len, hk]) (by omega) (by rw [hu]; exact hE.one y)
    refine ⟨w', g1, ?_, g3.sm⟩
    refine slH_mk (by simp) (by rw [lay_length]; exact h1) (by simpa using h2) ?_ (h'.put g3 (fun _ _ hd => hd) (g2.get (k := 0) rfl) (.inl rfl))
    have hl0 : (l.take (i * k)).length = i * k := by rw [List.length_take]; omega
    rw [hu, List.length_set, lay_eq _ _ _ (by rw [hE.len]; omega), hE.len, flat_set hE.len _ _ _ hi, List.append_assoc, List.append_assoc]
    have e1 : l.take (i * k) = (xs.take i).flatMap enc := by rw [← flat_take hE.len, ← h3, List.take_take, Nat.min_eq_left (by omega)]
    rw [take_app _ _ _ (by omega), hl0, e1, take_app _ _ _ (by rw [hE.len]; omega), hE.len]
    congr 2
    rw [← flat_drop hE.len, ← h3, List.drop_take, Nat.succ_mul]
    congr 1; omega


theorem cell_ext {w w' : World} {S : Nat → Prop} (hE : Ext S w w') (hS : ∀ c, c < w.heap.size → ¬ S c) {a : Addr} {v : Value} (h : w.cell? a = some v) : w'.cell? a = some v := by
  have hb : a.block < w.heap.size := by
    cases hh : w.heap[a.block]? with
    | none => simp [World.cell?, hh] at h
    | some o => exact (Array.getElem?_eq_some_iff.1 hh).1
  unfold World.cell? at h ⊢
  rw [hE.old a.block hb (hS _ hb)]; exact h

theorem cellsAt_ext {w w' : World} {S : Nat → Prop} (hE : Ext S w w') (hS : ∀ c, c < w.heap.size → ¬ S c) {a : Addr} : ∀ {n i : Nat} {l : List Value}, cellsAt w a i n = some l → cellsAt w' a i n = some l := by
  intro n
  induction n with
  | zero => intro i l h; exact h
  | succ n ih =>
    intro i l h
    simp only [cellsAt, Option.bind_eq_some_iff, Option.map_eq_some_iff] at h ⊢
    obtain ⟨v, hv, r, hr, rfl⟩ := h
    exact ⟨v, cell_ext hE hS hv, r, ih hr, rfl⟩

theorem Src.ext {w w' : World} {S : Nat → Prop} (hE : Ext S w w') (hS : ∀ c, c < w.heap.size → ¬ S c) {x : Value} {n k : Nat} {ys : List Value} (h : Src w x n k ys) : Src w' x n k ys := by
  rcases h with h | ⟨a, c, hx, hc⟩
  · exact .inl h
  · exact .inr ⟨a, c, hx, cellsAt_ext hE hS hc⟩


theorem lay_mid (A M R vs : List Value) (h : M.length = vs.length) {i : Nat} (hi : i = A.length) : lay (A ++ (M ++ R)) i vs = A ++ (vs ++ R) := by
  subst hi
  rw [lay_eq _ _ _ (by simp; omega), List.take_left, List.append_assoc, List.drop_append, List.drop_eq_nil_of_le (by omega), List.nil_append]
  congr 2
  rw [show A.length + vs.length - A.length = M.length from by omega, List.drop_left]

theorem split_at (l : List Value) {a b c : Nat} (h : a + b + c ≤ l.length) : ∃ A M N R, l = A ++ (M ++ (N ++ R)) ∧ A.length = a ∧ M.length = b ∧ N.length = c ∧ A = l.take a := by
  refine ⟨l.take a, (l.drop a).take b, (l.drop (a + b)).take c, l.drop (a + b + c), ?_, ?_, ?_, ?_, rfl⟩
  · have e1 : l.drop (a + b) = (l.drop (a + b)).take c ++ l.drop (a + b + c) := by rw [← List.drop_drop (i := c) (j := a + b), List.take_append_drop]
    have e2 : l.drop a = (l.drop a).take b ++ l.drop (a + b) := by rw [← List.drop_drop (i := b) (j := a), List.take_append_drop]
    rw [← e1, ← e2, List.take_append_drop]
  · rw [List.length_take]; omega
  · rw [List.length_take, List.length_drop]; omega
  · rw [List.length_take, List.length_drop]; omega

theorem Fn_ext {P : Program} {f : FuncId} {g : Func} {e : Array Value → Sem Value} (hf : P.funcs[f]? = some g) (hnm : (g.name == "runtime.NumGoroutine") = false) (hb : g.body.isNone = true) (hn : Extern.findNext g = none) (he : Extern.find g = some e)
    {args : List Value} {w w' : World} {v : Value} (hr : (e args.toArray).run P w = .ok v w') : Fn P f args w = some (v, w') := by
  rw [Fn_eq]
  unfold fnS
  rw [hf]
  have hb' : g.body = none := by simpa using hb
  simp only [hb', rawN]
  rw [run_callFunc_extern hf hnm hb hn he, hr]
  rfl

theorem At.shape {w : World} {b : Nat} {l : List Value} {T : TypeId} (h : At w b l T) : w.shape? b = some (T, l.length) := by
  unfold At at h
  simp [World.shape?, h]


def szb (P : Program) (t : TypeId) (n : Nat) : Bool :=
  match P.info? t with
  | some i => Nat.beq i.size n
  | none => false
theorem sz_of {P : Program} {t : TypeId} {n : Nat} (h : szb P t n = true) : ∃ i, P.info? t = some i ∧ i.size = n := by
  unfold szb at h
  split at h
  · rename_i i hi
    exact ⟨i, hi, Nat.eq_of_beq_eq_true h⟩
  · cases h

theorem cells_one {v : Value} (h : one v = true) : v.cells = #[v] := by cases v <;> simp_all [one, Value.cells]

/-- a store of one cell. -/
theorem st_one {P : Program} {w : World} {F : List HP} {t : TypeId} (hs : ∃ i, P.info? t = some i ∧ i.size = 1) {b o : Nat} {l : List Value} {T : TypeId} (h : Sat w F) (k : Nat) (hk : F[k]? = some (pt b l T)) (ho : o < l.length) {v : Value} (hv : one v = true) :
    ∃ w', rawU P (Instr.storeAt t (ptr b o) v) w = some (undef, w') ∧ Sat w' (F.set k (pt b (l.set o v) T)) ∧ Sm w w' := by
  obtain ⟨i, hi, hz⟩ := hs
  have hc := cells_one hv
  obtain ⟨w', g1, g2, g3⟩ := storeAt_ok (P := P) (t := t) hi (h.foc hk).hp (k := 0) rfl (o := o) (v := v) (by rw [hc, hz]; rfl) (by omega) (by rw [hc]; simpa using hv)
  refine ⟨w', g1, Sat.unf hk ((h.foc hk).put g3 (fun _ _ hd => hd) ?_ (.inl rfl)), g3.sm⟩
  have := g2.get (k := 0) rfl
  rw [hc] at this
  exact this

end Go.Cb
