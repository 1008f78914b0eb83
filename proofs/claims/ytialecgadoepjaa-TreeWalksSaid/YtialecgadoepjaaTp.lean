/-
  What comes in, and what goes out: from a run to the form of the statement.
-/
import Derived.Test.YtialecgadoepjaaRows
import Derived.Test.YtialecgadoepjaaTs
import Derived.ProofKit
import Derived.Deep.Slices
import Derived.Deep.Strs
set_option linter.unusedVariables false
set_option linter.unusedSimpArgs false
namespace Go.Cb
open Go.ChangeShapes Go.WideShapes

theorem c28 : Pg.cellsOf 28 = 3 := by kernel_rfl
theorem c3 : Pg.cellsOf 3 = 1 := by kernel_rfl
theorem c9 : Pg.cellsOf 9 = 1 := by kernel_rfl
theorem a28 : aggT Pg 28 = some true := by kernel_rfl

theorem ixA_sl {P : Program} {t elem : TypeId} {i : TypeInfo} (hu : P.underlying t = some (.slice elem)) (hi : P.info? elem = some i) {a : Addr} {n c k : Nat} (h : k < n) : ixA P t (.slice (some a) n c) (int k) = some (.pointer (some (a.add (k * i.size)))) := by
  unfold ixA; simp [hu, hi, h]

section
variable {H : Type} {enc : TypeId × Value → H} {W : World} {base : Nat} {spare : Nat → Bool} {held : Bool}

set_option maxRecDepth 100000 in
theorem act_cells {n : Nat} {cs : List Value} {x : DataW H × List MemPlace} (h : DataW.trod enc Pg W base spare held n 28 cs = some x) : ∃ a : Act, cs = cellsA a := by
  obtain ⟨y0, y1, y2, m, _, hl, g0, g1, g2⟩ := Go.Deep.trod_struct3 Go.Proofs.Try.underlying28 h
  rw [c28] at hl
  match cs, hl with
  | [v0, v1, v2], _ =>
    simp [c3, c9] at g0 g1 g2
    obtain ⟨i, e0, _⟩ := DataW.trod_int Go.Proofs.Try.underlying3 g0
    obtain ⟨s, e1, _⟩ := DataW.trod_string Go.Proofs.Try.underlying9 g1
    obtain ⟨j, e2, _⟩ := DataW.trod_int Go.Proofs.Try.underlying3 g2
    simp at e0 e1 e2
    subst e0 e1 e2
    exact ⟨(i, s, j), rfl⟩

theorem acts_of {n : Nat} {v : Value} {x : DataW H × List MemPlace} (h : DataW.trod enc Pg W base spare held n 22 [v] = some x) : ∃ acts, ActsF v acts W := by
  obtain ⟨iA, zA, i1, i2, i3, i4, _⟩ := T22.i
  rcases Go.Deep.open_slice Go.Proofs.Try.underlying22 h with ⟨hc, _⟩ | ⟨a, len, cap, m, k, D, Pl, hc, _, hlc, _, hm, _, hi⟩
  · simp at hc
    subst hc
    exact ⟨[], ⟨fun i a hi => by simp at hi, fun _ _ _ _ => len_sl T22.u _ _ _ _⟩⟩
  · simp at hc
    subst hc
    have hle : len ≤ m := by rw [hm]; split <;> omega
    have key : ∀ i : Nat, ∃ a' : Act, i < len → ∀ j, j < 3 → W.cell? ((a.add (i * 3)).add j) = (cellsA a')[j]? := by
      intro i
      by_cases hlt : i < len
      · obtain ⟨cs, g1, g2⟩ := hi i (by omega)
        rw [c28] at g1
        obtain ⟨a', rfl⟩ := act_cells g2
        obtain ⟨_, _, g3⟩ := World.cells?_some g1
        exact ⟨a', fun _ j hj => g3 j hj⟩
      · exact ⟨(0, ByteArray.empty, 0), fun h => absurd h hlt⟩
    obtain ⟨f, hf⟩ := Classical.axiomOfChoice key
    refine ⟨(List.range len).map f, ⟨fun i a' hi' => ?_, fun _ _ _ _ => by simpa using len_sl T22.u _ _ _ _⟩⟩
    have hlt : i < len := by
      have := (List.getElem?_eq_some_iff.1 hi').1
      simpa using this
    have : a' = f i := by simp [hlt] at hi'; exact hi'.symm
    subst this
    have hc := hf i hlt
    refine ⟨a.add (i * 3), ?_, ?_, ?_⟩
    · rw [ixA_sl T22.u i1 hlt, i2]
    · have h0 := hc 0 (by decide)
      have h1 := hc 1 (by decide)
      have h2 := hc 2 (by decide)
      simp only [ldV, a28, i1, i2, cellsAt]
      rw [h0, h1, h2]
      rfl
    · rw [ldV_sc a9]
      exact hc 1 (by decide)
end

theorem ldV_old {W w : World} (hb : ∀ b, b < W.heap.size → w.heap[b]? = W.heap[b]?) {t : TypeId} {p v : Value} (h : ldV Pg t p W = some v) : ldV Pg t p w = some v := by
  have hc : ∀ {a : Addr} {x : Value}, W.cell? a = some x → w.cell? a = some x := by
    intro a x hx
    have : a.block < W.heap.size := by
      unfold World.cell? at hx
      by_cases hlt : a.block < W.heap.size
      · exact hlt
      · rw [Array.getElem?_eq_none (by omega)] at hx; cases hx
    exact (World.cell?_of_block (w := W) (hb a.block this)).trans hx
  have hcs : ∀ (n i : Nat) {a : Addr} {l : List Value}, cellsAt W a i n = some l → cellsAt w a i n = some l := by
    intro n
    induction n with
    | zero => intro i a l h; exact h
    | succ n ih =>
      intro i a l h
      unfold cellsAt at h ⊢
      obtain ⟨x, hx, h⟩ := Option.bind_eq_some_iff.1 h
      obtain ⟨l', hl', rfl⟩ := Option.map_eq_some_iff.1 h
      rw [hc hx, ih _ hl']
      rfl
  unfold ldV at h ⊢
  split at h
  · rename_i a
    split at h
    · rename_i hx
      split at h
      · rename_i i hi
        obtain ⟨l, hl, rfl⟩ := Option.map_eq_some_iff.1 h
        rw [hcs _ _ hl]
        rfl
      · cases h
    · exact hc h
    · cases h
  · cases h

theorem ActsF.mono {v : Value} {acts : List Act} {W w : World} (h : ActsF v acts W) (hb : ∀ b, b < W.heap.size → w.heap[b]? = W.heap[b]?) : ActsF v acts w :=
  ⟨fun i a hi => by
    obtain ⟨p, h1, h2, h3⟩ := h.at_ i a hi
    exact ⟨p, h1, ldV_old hb h2, ldV_old hb h3⟩, h.len⟩

theorem acts_all {v : Value} {acts : List Act} {W : World} (h : ActsF v acts W) {w : World} {F : List HP} (k : Nat) (hs : Sat w F) (hk : F[k]? = some (all W)) : ActsF v acts w :=
  h.mono (hs.foc hk).all_old

theorem below_of {W w : World} {F : List HP} (hs : Sat w (all W :: F)) (hm : Sm W w) : RowKit.Below W.heap.size W w := by
  have hb := hs.all_old
  refine ⟨hm.os, hm.tape, hm.out, ?_, hb⟩
  rcases Nat.lt_or_ge w.heap.size W.heap.size with h | h
  · have := hb _ h
    rw [Array.getElem?_eq_none (Nat.le_refl _), Array.getElem?_eq_getElem h] at this
    cases this
  · exact h

set_option maxRecDepth 100000 in
/-- the end of each statement's wrap: nothing that was there is turned, and the answer is true. -/
theorem post_true {H : Type} {enc : TypeId × Value → H} {f : Func} {s : ChangeSpec} {apart fresh handsOn again : Bool} {W W' : World} {args : Array Value} {ds gs : List (DataW H)} {before : List MemPlace} {F : List HP}
    (hW : DataW.Whole enc Pg f.params.toList s.vars apart W args.toList ds gs before) (hv : s.vars = []) (hr : f.resultTypes = #[4])
    (hlt : ∀ t ∈ f.params.toList, Pg.readableRec t = true ∧ t < Pg.types.size) (hlaid : laidOutB Pg = true)
    (hfn : (s.fn H (ds ++ gs)).results = [.lit (.bool true)] ∧ (s.fn H (ds ++ gs)).args = ds ∧ (s.fn H (ds ++ gs)).vars = [])
    (hs : Sat W' (all W :: F)) (hm : Sm W W') : s.post enc Pg f apart fresh handsOn again W args (.bool true) W' := by
  have hB := below_of hs hm
  have hlts := hW.lt
  obtain ⟨p, q, hA, hV, hpq, hz, hn⟩ := id hW
  rw [hv] at hV
  obtain ⟨hg, hq⟩ := trodVars_none hV
  subst hq
  have stay : ∀ (sp : Nat → Bool) (ts : List TypeId) (vs : List Value) (es : List (DataW H)) (ps : List MemPlace), (∀ t ∈ ts, Pg.readableRec t = true ∧ t < Pg.types.size) → (∀ p ∈ ps, sp p.block = true ∧ p.block < W.heap.size) →
      DataW.TrodAll enc Pg W 0 (fun _ => true) true ts vs es ps → DataW.TrodAll enc Pg W' 0 sp true ts vs es ps := by
    intro sp ts
    induction ts with
    | nil => intro vs es ps _ _ h; obtain ⟨rfl, rfl, rfl⟩ := trodAll_nil h; exact rfl
    | cons t ts ih =>
      intro vs es ps ht hp h
      obtain ⟨v, vs1, d, ds1, a, b, rfl, rfl, rfl, h1, h2⟩ := trodAll_cons h
      refine ⟨a, b, ?_, ih _ _ _ (fun t h => ht t (by simp [h])) (fun p h => hp p (by simp [h])) h2, rfl⟩
      exact Go.WideElems.Trod_stays hlaid (ht t (by simp)).1 (ht t (by simp)).2 h1 (fun p h => hB.same (hp p (by simp [h])).2) (fun p h => (hp p (by simp [h])).1)
  refine post_of_same (pa := p) (pv := []) hW ?_ ?_ ?_ (by rw [hpq]) (hB.frame _) hm.fz (RowKit.ok_one hr rfl (RowKit.okWide_bool_mk Go.Proofs.Try.underlying4 _))
  · intro b sp hd
    rw [hr, hfn.1]
    exact trodAll_mk1 (RowKit.shut_bool Go.Proofs.Try.underlying4 _)
  · intro sp hsp
    rw [hfn.2.1]
    refine stay sp _ _ _ _ hlt (fun p h => ⟨hsp p (by rw [hpq]; simpa using h), hlts p (by rw [hpq]; simpa using h)⟩) hA
  · intro sp hsp
    rw [hv, hfn.2.2]
    exact rfl
end Go.Cb
