/-
  What shape a tree has.
-/
import Derived.Test.YtialecgadoepjaaSha
set_option linter.unusedVariables false
set_option linter.unusedSimpArgs false
namespace Go.Cb

theorem lvs_top : ∀ {h : Nat} {ts : List (BT h)}, (lvs h ts)[0]? = some (ts.map fun t => (ents h t).length)
  | 0, _ => rfl
  | _ + 1, _ => rfl
theorem lvs_len : ∀ {h : Nat} {ts : List (BT h)}, (lvs h ts).length = h + 1
  | 0, _ => rfl
  | h + 1, ts => by show (lvs h _).length + 1 = _; rw [lvs_len]

def wfs (h : Nat) (ts : List (BT h)) : Prop := ∀ t ∈ ts, wf h t ∧ 2 ≤ (ents h t).length

theorem kids_wfs {h : Nat} {ts : List (BT (h + 1))} (hw : ∀ t ∈ ts, wf (h + 1) t) : wfs h (ts.flatMap fun t => t.2) := by
  intro k hk
  obtain ⟨t, ht, hk⟩ := List.mem_flatMap.1 hk
  exact (hw t ht).2.2 k hk

theorem lvs_cnt : ∀ {h : Nat} {ts : List (BT h)}, wfs h ts → ∀ (i : Nat) (r : List Nat), (lvs h ts)[i]? = some r → ∀ c ∈ r, 2 ≤ c ∧ c ≤ 5
  | 0, ts, hw, i, r, hr, c, hc => by
    cases i with
    | zero =>
      rw [lvs_top] at hr
      simp only [Option.some.injEq] at hr
      subst hr
      obtain ⟨t, ht, rfl⟩ := List.mem_map.1 hc
      exact ⟨(hw t ht).2, wf_ents (hw t ht).1⟩
    | succ i => simp [lvs] at hr
  | h + 1, ts, hw, i, r, hr, c, hc => by
    cases i with
    | zero =>
      rw [lvs_top] at hr
      simp only [Option.some.injEq] at hr
      subst hr
      obtain ⟨t, ht, rfl⟩ := List.mem_map.1 hc
      exact ⟨(hw t ht).2, wf_ents (hw t ht).1⟩
    | succ i => exact lvs_cnt (kids_wfs fun t ht => (hw t ht).1) i r hr c hc

theorem kid_count {h : Nat} : ∀ {ts : List (BT (h + 1))}, (∀ t ∈ ts, wf (h + 1) t) → (ts.flatMap fun t => t.2).length = (ts.map fun t => (ents (h + 1) t).length).sum + ts.length
  | [], _ => rfl
  | t :: ts, hw => by
    have ih := kid_count (ts := ts) fun t ht => hw t (by simp [ht])
    have h1 := (hw t (by simp)).2.1
    simp only [List.flatMap_cons, List.length_append, List.map_cons, List.sum_cons, List.length_cons, ih, h1]
    show t.1.length + 1 + _ = (t.1.length + _) + _
    omega

theorem lvs_below : ∀ {h : Nat} {ts : List (BT h)}, (∀ t ∈ ts, wf h t) → ∀ (i : Nat) (r r' : List Nat), (lvs h ts)[i]? = some r → (lvs h ts)[i + 1]? = some r' → r'.length = r.sum + r.length
  | 0, ts, hw, i, r, r', hr, hr' => by simp [lvs] at hr'
  | h + 1, ts, hw, i, r, r', hr, hr' => by
    cases i with
    | zero =>
      rw [lvs_top] at hr
      simp only [Option.some.injEq] at hr
      subst hr
      have hr' : (lvs h (ts.flatMap fun t => t.2))[0]? = some r' := hr'
      rw [lvs_top] at hr'
      simp only [Option.some.injEq] at hr'
      subst hr'
      rw [List.length_map, List.length_map, kid_count hw]
    | succ i => exact lvs_below (fun t ht => (kids_wfs hw t ht).1) i r r' hr hr'

theorem flat_sum {h : Nat} : ∀ {ts : List (BT (h + 1))}, (∀ t ∈ ts, wf (h + 1) t) → (ts.map fun t => (flat (h + 1) t).length).sum = (ts.map fun t => (ents (h + 1) t).length).sum + ((ts.flatMap fun t => t.2).map fun k => (flat h k).length).sum
  | [], _ => rfl
  | t :: ts, hw => by
    have ih := flat_sum (ts := ts) fun t ht => hw t (by simp [ht])
    have h1 := flat_len (hw t (by simp))
    simp only [List.map_cons, List.sum_cons, List.flatMap_cons, List.map_append, List.sum_append, ih, h1]
    show _ = (t.1.length + _) + _
    omega

theorem lvs_sum : ∀ {h : Nat} {ts : List (BT h)}, (∀ t ∈ ts, wf h t) → (lvs h ts).flatten.sum = (ts.map fun t => (flat h t).length).sum
  | 0, ts, _ => by
    show (List.flatten [ts.map fun t => (ents 0 t).length]).sum = _
    simp [ents, flat]
  | h + 1, ts, hw => by
    show (List.flatten ((ts.map fun t => (ents (h + 1) t).length) :: lvs h (ts.flatMap fun t => t.2))).sum = _
    rw [List.flatten_cons, List.sum_append, lvs_sum (fun t ht => (kids_wfs hw t ht).1), flat_sum hw]

theorem sum_two : ∀ {r : List Nat}, (∀ c ∈ r, 2 ≤ c) → 2 * r.length ≤ r.sum
  | [], _ => Nat.le_refl _
  | c :: r, h => by
    have ih := sum_two (r := r) fun c hc => h c (by simp [hc])
    have := h c (by simp)
    simp only [List.length_cons, List.sum_cons]; omega
theorem sum_le_flat {rows : List (List Nat)} {r : List Nat} (h : r ∈ rows) : r.sum ≤ rows.flatten.sum := by
  obtain ⟨A, B, rfl⟩ := List.append_of_mem h
  simp; omega

theorem shp_of {h : Nat} {t : BT h} (hw : wf h t) (h0 : h = 0 ∨ 1 ≤ (ents h t).length) (hb : (flat h t).length ≤ 2 ^ 20) : Shp (lvs h [t]) (flat h t).length := by
  have hws : ∀ t' ∈ [t], wf h t' := fun t' ht => by simp at ht; subst ht; exact hw
  have hsum : (lvs h [t]).flatten.sum = (flat h t).length := by rw [lvs_sum hws]; simp
  have hcn : ∀ (i : Nat) (r : List Nat), (lvs h [t])[i + 1]? = some r → ∀ c ∈ r, 2 ≤ c ∧ c ≤ 5 := by
    intro i r hr
    cases h with
    | zero => simp [lvs] at hr
    | succ h => exact lvs_cnt (kids_wfs hws) i r hr
  refine ⟨⟨_, lvs_top⟩, fun i r hr c hc => ?_, lvs_below hws, hsum, hb, fun r hr => ?_⟩
  · cases i with
    | zero =>
      rw [lvs_top] at hr
      simp only [Option.some.injEq] at hr
      subst hr
      simp at hc
      subst hc
      refine ⟨?_, wf_ents hw⟩
      rw [if_pos rfl]
      rcases h0 with rfl | h0
      · exact Nat.min_le_left _ _
      · omega
    | succ i => rw [if_neg (by omega)]; exact hcn i r hr c hc
  · obtain ⟨i, hi⟩ := List.getElem?_of_mem hr
    cases i with
    | zero =>
      rw [lvs_top] at hi
      simp only [Option.some.injEq] at hi
      subst hi
      simp
    | succ i =>
      have h1 := sum_two fun c hc => (hcn i r hi c hc).1
      have h2 := sum_le_flat hr
      omega

/-- a tree of so many levels has so many keys. -/
theorem many : ∀ {h : Nat} {t : BT h}, wf h t → 2 ≤ (ents h t).length → 3 ^ (h + 1) ≤ (flat h t).length + 1
  | 0, t, hw, h2 => by have := ents_le hw; omega
  | h + 1, t, hw, h2 => by
    have h2 : 2 ≤ t.1.length := h2
    rw [flat_len hw]
    have key : ∀ (ks : List (BT h)), (∀ k ∈ ks, wf h k ∧ 2 ≤ (ents h k).length) → ks.length * 3 ^ (h + 1) ≤ (ks.map fun k => (flat h k).length).sum + ks.length := by
      intro ks
      induction ks with
      | nil => intro _; simp
      | cons k ks ih =>
        intro hk
        have h3 := many (hk k (by simp)).1 (hk k (by simp)).2
        have h4 := ih fun k hm => hk k (by simp [hm])
        simp only [List.length_cons, List.map_cons, List.sum_cons, Nat.succ_mul]
        omega
    have h5 := key t.2 hw.2.2
    rw [hw.2.1] at h5
    have h6 : 3 * 3 ^ (h + 1) ≤ (t.1.length + 1) * 3 ^ (h + 1) := Nat.mul_le_mul_right _ (by omega)
    rw [Nat.pow_succ 3 (h + 1), Nat.mul_comm]
    omega

theorem many_root {h : Nat} {t : BT h} (hw : wf h t) (h0 : h = 0 ∨ 1 ≤ (ents h t).length) : h = 0 ∨ 2 * 3 ^ h ≤ (flat h t).length + 1 := by
  cases h with
  | zero => exact .inl rfl
  | succ h =>
    right
    have h1 : 1 ≤ t.1.length := h0.resolve_left (by omega)
    rw [flat_len hw]
    have key : ∀ (ks : List (BT h)), (∀ k ∈ ks, wf h k ∧ 2 ≤ (ents h k).length) → ks.length * 3 ^ (h + 1) ≤ (ks.map fun k => (flat h k).length).sum + ks.length := by
      intro ks
      induction ks with
      | nil => intro _; simp
      | cons k ks ih =>
        intro hk
        have h3 := many (hk k (by simp)).1 (hk k (by simp)).2
        have h4 := ih fun k hm => hk k (by simp [hm])
        simp only [List.length_cons, List.map_cons, List.sum_cons, Nat.succ_mul]
        omega
    have h5 := key t.2 hw.2.2
    rw [hw.2.1] at h5
    have h6 : 2 * 3 ^ (h + 1) ≤ (t.1.length + 1) * 3 ^ (h + 1) := Nat.mul_le_mul_right _ (by omega)
    omega

theorem ht_le {h : Nat} {t : BT h} (hw : wf h t) (h0 : h = 0 ∨ 1 ≤ (ents h t).length) : h ≤ (flat h t).length := by
  rcases many_root hw h0 with rfl | h1
  · exact Nat.zero_le _
  · have : h < 3 ^ h := Nat.lt_pow_self (by decide)
    omega

end Go.Cb
