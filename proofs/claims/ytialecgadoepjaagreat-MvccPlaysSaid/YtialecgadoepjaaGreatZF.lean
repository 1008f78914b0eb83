import Derived.Test.YtialecgadoepjaaGreatRows
import Derived.Test.YtialecgadoepjaaGreatZD
import Derived.ProofKit
import Derived.Deep.Slices
import Derived.Deep.Strs
import Derived.Lib.SmallJoins
import Derived.Test.YtialecgadoepjaaGreatZE
/-
  What comes in, and what goes out: from a run to the form of the statement.
-/
set_option linter.unusedVariables false
set_option linter.unusedSimpArgs false
namespace Go.Cb
open Go.ChangeShapes Go.WideShapes

/-- all that lies there. -/
def hl (W : World) : Hl := fun b => W.heap[b]?
theorem sat_hl (W : World) : Sat W [kn (hl W)] := ⟨hl W, fun b o h => h, hl W, fun _ => none, fun b => .inr rfl, by
  funext b
  show hl W b = (hl W b).or none
  cases hl W b <;> rfl, rfl, fun _ => rfl⟩
theorem on_cell {W w : World} (hw : (hl W).on w) {a : Addr} {v : Value} (h : W.cell? a = some v) : w.cell? a = some v := by
  have hlt : a.block < W.heap.size := by
    unfold World.cell? at h
    by_cases hlt : a.block < W.heap.size
    · exact hlt
    · rw [Array.getElem?_eq_none (by omega)] at h; cases h
  have := hw a.block _ (Array.getElem?_eq_getElem hlt)
  rw [← Array.getElem?_eq_getElem hlt] at this
  exact (World.cell?_of_block (w := W) this).trans h
theorem cellsAt_of : ∀ (k i : Nat) {w : World} {p : Addr} {l : List Value}, l.length = k → (∀ j, j < k → w.cell? (p.add (i + j)) = l[j]?) → cellsAt w p i k = some l
  | 0, i, w, p, l, h, _ => by rw [List.length_eq_zero_iff.1 h]; rfl
  | k + 1, i, w, p, [], h, _ => by simp at h
  | k + 1, i, w, p, x :: l, h, hj => by
    unfold cellsAt
    have h0 := hj 0 (by omega)
    simp only [Nat.add_zero, List.getElem?_cons_zero] at h0
    rw [h0, cellsAt_of k (i + 1) (l := l) (by simpa using h) fun j hlt => by
      have := hj (j + 1) (by omega)
      rw [show i + (j + 1) = i + 1 + j by omega] at this
      simpa using this]
    rfl
theorem flat_get {α : Type} {enc : α → List Value} {k : Nat} (hE : ∀ x, (enc x).length = k) {xs : List α} {i j : Nat} {x : α} (hx : xs[i]? = some x) (hj : j < k) : (xs.flatMap enc)[i * k + j]? = (enc x)[j]? := by
  obtain ⟨hi, rfl⟩ := List.getElem?_eq_some_iff.1 hx
  have h1 : ((xs.flatMap enc).drop (i * k))[j]? = (enc xs[i])[j]? := by
    rw [flat_drop hE, List.drop_eq_getElem_cons hi, List.flatMap_cons, List.getElem?_append_left (by rw [hE]; exact hj)]
  rw [List.getElem?_drop] at h1
  exact h1
theorem flat_len {α : Type} {enc : α → List Value} {k : Nat} (hE : ∀ x, (enc x).length = k) : ∀ xs : List α, (xs.flatMap enc).length = xs.length * k
  | [] => by simp
  | x :: xs => by rw [List.flatMap_cons, List.length_append, hE, flat_len hE xs, List.length_cons, Nat.succ_mul, Nat.add_comm]

section
variable {H : Type} {enc : TypeId × Value → H} {W : World} {base : Nat} {spare : Nat → Bool} {held : Bool}

theorem ixA_sl {P : Program} {t elem : TypeId} {i : TypeInfo} (hu : P.underlying t = some (.slice elem)) (hi : P.info? elem = some i) {a : Addr} {n c k : Nat} (h : k < n) : ixA P t (.slice (some a) n c) (int k) = some (.pointer (some (a.add (k * i.size)))) := by
  unfold ixA; simp [hu, hi, h]

/-- a slice that comes in, whose elements are known. -/
theorem rd_of {t elem k : Nat} {α : Type} {ec : α → List Value} {P : α → Prop} (hT : SlT Pg t elem k) (hE : En ec k) (hk : Pg.cellsOf elem = k) (h0 : 0 < k) (a0 : α)
    (hel : ∀ (n : Nat) (cs : List Value) (x : DataW H × List MemPlace), DataW.trod enc Pg W base spare held n elem cs = some x → ∃ a : α, cs = ec a ∧ P a)
    {n : Nat} {v : Value} {x : DataW H × List MemPlace} (h : DataW.trod enc Pg W base spare held n t [v] = some x) : ∃ xs, RdS (hl W) t k ec v xs ∧ ∀ x ∈ xs, P x := by
  obtain ⟨iA, zA, i1, i2, i3, i4, _⟩ := hT.i
  rcases Go.Deep.open_slice hT.u h with ⟨hc, _⟩ | ⟨a, len, cap, m, k', D, Pl, hc, _, hlc, _, hm, _, hi⟩
  · simp at hc
    subst hc
    exact ⟨[], RdS.nil none 0, fun x hx => by simp at hx⟩
  · simp at hc
    subst hc
    have hle : len ≤ m := by rw [hm]; split <;> omega
    have key : ∀ i : Nat, ∃ a' : α, i < len → P a' ∧ ∀ j, j < k → W.cell? ((a.add (i * k)).add j) = (ec a')[j]? := by
      intro i
      by_cases hlt : i < len
      · obtain ⟨cs, g1, g2⟩ := hi i (by omega)
        rw [hk] at g1
        obtain ⟨a', rfl, hp⟩ := hel _ _ _ g2
        obtain ⟨_, _, g3⟩ := World.cells?_some g1
        exact ⟨a', fun _ => ⟨hp, fun j hj => g3 j hj⟩⟩
      · exact ⟨a0, fun h => absurd h hlt⟩
    obtain ⟨f, hf⟩ := Classical.axiomOfChoice key
    have hget : ∀ i y, ((List.range len).map f)[i]? = some y → i < len ∧ y = f i := by
      intro i y hy
      have hlt : i < len := by
        have := (List.getElem?_eq_some_iff.1 hy).1
        simpa using this
      exact ⟨hlt, by simp [hlt] at hy; exact hy.symm⟩
    have hlen : ((List.range len).map f).length = len := by simp
    refine ⟨(List.range len).map f, ⟨⟨some a, cap, by rw [hlen]⟩, fun i y hy => ?_, fun w hw => ?_⟩, fun y hy => ?_⟩
    · obtain ⟨hlt, rfl⟩ := hget i y hy
      refine ⟨a.add (i * k), by rw [ixA_sl hT.u i1 hlt, i2], fun w hw => ?_⟩
      refine cellsAt_of k 0 (hE.len _) fun j hj => ?_
      rw [Nat.zero_add, ← (hf i hlt).2 j hj]
      have hs := (hf i hlt).2 j hj
      have hjl : j < (ec (f i)).length := by rw [hE.len]; exact hj
      rw [List.getElem?_eq_getElem hjl] at hs
      rw [hs]
      exact on_cell hw hs
    · refine .inr ⟨a, cap, by rw [hlen], ?_⟩
      refine cellsAt_of _ 0 (flat_len hE.len _) fun j hj => ?_
      rw [hlen] at hj
      have hi' : j / k < len := Nat.div_lt_of_lt_mul (by rw [Nat.mul_comm]; exact hj)
      have hj' : j % k < k := Nat.mod_lt _ h0
      have hjk : j = j / k * k + j % k := by rw [Nat.mul_comm]; exact (Nat.div_add_mod j k).symm
      have hx : ((List.range len).map f)[j / k]? = some (f (j / k)) := by simp [hi']
      have h1 := flat_get hE.len hx hj'
      rw [← hjk] at h1
      rw [Nat.zero_add, h1]
      have hs := (hf _ hi').2 _ hj'
      have hjl : j % k < (ec (f (j / k))).length := by rw [hE.len]; exact hj'
      rw [List.getElem?_eq_getElem hjl] at hs ⊢
      have ha : (a.add (j / k * k)).add (j % k) = a.add j := by
        rw [Go.Deep.add_add, ← hjk]
      rw [ha] at hs
      exact on_cell hw hs
    · simp at hy
      obtain ⟨i, hlt, rfl⟩ := hy
      exact (hf i hlt).1

theorem c64 : Pg.cellsOf 23 = 1 := by kernel_rfl
theorem c3 : Pg.cellsOf 3 = 1 := by kernel_rfl
theorem c4 : Pg.cellsOf 4 = 1 := by kernel_rfl
theorem c9 : Pg.cellsOf 9 = 1 := by kernel_rfl
theorem c81 : Pg.cellsOf 80 = 1 := by kernel_rfl
theorem c65 : Pg.cellsOf 34 = 1 := by kernel_rfl
theorem c68 : Pg.cellsOf 37 = 1 := by kernel_rfl
theorem c83 : Pg.cellsOf 82 = 3 := by kernel_rfl
theorem c67 : Pg.cellsOf 36 = 2 := by kernel_rfl
theorem c70 : Pg.cellsOf 39 = 5 := by kernel_rfl
theorem c116 : Pg.cellsOf 135 = 5 := by kernel_rfl

theorem places_of {n : Nat} {v : Value} {x : DataW H × List MemPlace} (h : DataW.trod enc Pg W base spare held n 80 [v] = some x) : ∃ xs, RdS (hl W) 80 1 encI v xs := by
  obtain ⟨xs, h1, _⟩ := rd_of (P := fun _ => True) T81 enI c3 (by decide) 0 (fun n cs x h => by
    obtain ⟨i, e0, _⟩ := DataW.trod_int Go.Proofs.Tryz.underlying3 h
    exact ⟨i, e0, trivial⟩) h
  exact ⟨xs, h1⟩
theorem starts_of {n : Nat} {v : Value} {x : DataW H × List MemPlace} (h : DataW.trod enc Pg W base spare held n 37 [v] = some x) : ∃ xs, RdS (hl W) 37 1 encU v xs := by
  obtain ⟨xs, h1, _⟩ := rd_of (P := fun _ => True) T68 enU c64 (by decide) 0 (fun n cs x h => by
    obtain ⟨i, e0, _⟩ := DataW.trod_int Go.Proofs.Tryz.underlying23 h
    exact ⟨i, e0, trivial⟩) h
  exact ⟨xs, h1⟩
set_option maxRecDepth 100000 in
theorem blob_of {n : Nat} {cs : List Value} {x : DataW H × List MemPlace} (h : DataW.trod enc Pg W base spare held n 82 cs = some x) : ∃ (pv : V1) (g z : Int) (ps : List Int), cs = [pv.1, u64 g, int z] ∧ RdS (hl W) 80 1 encI pv.1 ps := by
  obtain ⟨y0, y1, y2, m, _, hl', g0, g1, g2⟩ := Go.Deep.trod_struct3 Go.Proofs.Tryz.underlying82 h
  rw [c83] at hl'
  match cs, hl' with
  | [v0, v1, v2], _ =>
    simp [c81, c64, c3] at g0 g1 g2
    obtain ⟨xs, hx⟩ := places_of g0
    obtain ⟨i, e1, _⟩ := DataW.trod_int Go.Proofs.Tryz.underlying23 g1
    obtain ⟨j, e2, _⟩ := DataW.trod_int Go.Proofs.Tryz.underlying3 g2
    simp at e1 e2
    subst e1 e2
    exact ⟨⟨v0, hx.one⟩, i, j, xs, rfl, hx⟩
/-- what a change that came in is. -/
def CgP (W : World) (x : Cg) : Prop := ∃ ps, RdS (hl W) 80 1 encI x.pv.1 ps
set_option maxRecDepth 100000 in
theorem changes_of {n : Nat} {v : Value} {x : DataW H × List MemPlace} (h : DataW.trod enc Pg W base spare held n 34 [v] = some x) : ∃ xs, RdS (hl W) 34 5 encCg v xs ∧ ∀ x ∈ xs, CgP W x := by
  refine rd_of (P := CgP W) T65 enCg c116 (by decide) cg1 (fun n cs x h => ?_) h
  obtain ⟨y0, y1, y2, m, _, hl', g0, g1, g2⟩ := Go.Deep.trod_struct3 Go.Proofs.Tryz.underlying135 h
  rw [c116] at hl'
  match cs, hl' with
  | [v0, v1, v2, v3, v4], _ =>
    simp [c9, c4, c83] at g0 g1 g2
    obtain ⟨s, e0, _⟩ := DataW.trod_string Go.Proofs.Tryz.underlying9 g0
    obtain ⟨b, e1, _⟩ := DataW.trod_bool Go.Proofs.Tryz.underlying4 g1
    obtain ⟨pv, g, z, ps, e2, hp⟩ := blob_of g2
    simp at e0 e1 e2
    obtain ⟨e2, e3, e4⟩ := e2
    subst e0 e1 e2 e3 e4
    exact ⟨⟨s, b, pv, g, z⟩, rfl, ps, hp⟩
theorem rcg_of {W : World} {s : Int} {xs : List Cg} (h : ∀ x ∈ xs, CgP W x) : ∃ gs, Rcg (hl W) s xs gs := by
  have key : ∀ x : Cg, ∃ a : ByteArray × AV, x ∈ xs → x.key = a.1 ∧ Rv (hl W) (verOf s x) a.2 := by
    intro x
    by_cases hx : x ∈ xs
    · obtain ⟨ps, hp⟩ := h x hx
      exact ⟨(x.key, ⟨s, x.dead, ps, x.gen, x.size⟩), fun _ => ⟨rfl, rfl, rfl, rfl, rfl, hp⟩⟩
    · exact ⟨(noB, zA), fun h => absurd h hx⟩
  obtain ⟨f, hf⟩ := Classical.axiomOfChoice key
  refine ⟨xs.map f, by simp, fun i x a hx ha => ?_⟩
  rw [List.getElem?_map, hx] at ha
  simp at ha
  subst ha
  exact hf x (List.mem_of_getElem? hx)
/-- what an act that came in is. -/
def AcP (W : World) (x : MAct) : Prop := ∃ a, Rac (hl W) x a
set_option maxRecDepth 100000 in
theorem act_of {n : Nat} {cs : List Value} {x : DataW H × List MemPlace} (h : DataW.trod enc Pg W base spare held n 39 cs = some x) : ∃ x : MAct, cs = encAc x ∧ AcP W x := by
  obtain ⟨y0, y1, y2, y3, m, _, hl', g0, g1, g2, g3⟩ := Go.Joins.trod_struct4 Go.Proofs.Tryz.underlying39 h
  rw [c70] at hl'
  match cs, hl' with
  | [v0, v1, v2, v3, v4], _ =>
    simp [c9, c3, c67, c68] at g0 g1 g2 g3
    obtain ⟨k, e0, _⟩ := DataW.trod_int Go.Proofs.Tryz.underlying3 g0
    obtain ⟨z0, z1, m', _, _, q0, q1⟩ := trod_struct2 Go.Proofs.Tryz.underlying36 g1
    simp [c64, c65] at q0 q1
    obtain ⟨st, e1, _⟩ := DataW.trod_int Go.Proofs.Tryz.underlying23 q0
    obtain ⟨cs', hcs, hcp⟩ := changes_of q1
    obtain ⟨s, e2, _⟩ := DataW.trod_string Go.Proofs.Tryz.underlying9 g2
    obtain ⟨ss, hss⟩ := starts_of g3
    simp at e0 e1 e2
    subst e0 e1 e2
    obtain ⟨gs, hgs⟩ := rcg_of (s := st) hcp
    exact ⟨⟨k, st, ⟨v2, hcs.one⟩, s, ⟨v4, hss.one⟩⟩, rfl, ⟨k, st, gs, s, ss⟩, rfl, rfl, rfl, ⟨cs', hcs, hgs⟩, hss⟩
theorem acts_of {n : Nat} {v : Value} {x : DataW H × List MemPlace} (h : DataW.trod enc Pg W base spare held n 22 [v] = some x) : ∃ xs gs, RdS (hl W) 22 5 encAc v xs ∧ Racs (hl W) xs gs := by
  obtain ⟨xs, h1, h2⟩ := rd_of (P := AcP W) T58 enAc c70 (by decide) ⟨0, 0, nilV1, noB, nilV1⟩ (fun n cs x h => act_of h) h
  have key : ∀ x : MAct, ∃ a : AAct, x ∈ xs → Rac (hl W) x a := by
    intro x
    by_cases hx : x ∈ xs
    · obtain ⟨a, ha⟩ := h2 x hx
      exact ⟨a, fun _ => ha⟩
    · exact ⟨⟨0, 0, [], noB, []⟩, fun h => absurd h hx⟩
  obtain ⟨f, hf⟩ := Classical.axiomOfChoice key
  refine ⟨xs, xs.map f, h1, by simp, fun i x a hx ha => ?_⟩
  rw [List.getElem?_map, hx] at ha
  simp at ha
  subst ha
  exact hf x (List.mem_of_getElem? hx)
set_option maxRecDepth 100000 in
theorem act_of' {r : Reach} {b0 : Nat} {v : Value} {d : DataW H} {ps : List MemPlace} (hv : Value.okWide Pg W r b0 39 v) (h : DataW.Trod enc Pg W base spare held 39 v d ps) : ∃ x a, v = aggAc x ∧ Rac (hl W) x a := by
  obtain ⟨cs, rfl, hsz⟩ := okWide_struct Go.Proofs.Tryz.underlying39 hv
  obtain ⟨n, h⟩ := h
  obtain ⟨x, hx, a, ha⟩ := act_of h
  have hcs : (Value.agg cs).cells.toList = cs.toList := rfl
  rw [hcs] at hx
  refine ⟨x, a, ?_, ha⟩
  congr 1
  exact Array.toList_inj.1 (by rw [hx])
set_option maxRecDepth 100000 in
theorem acts_of' {r : Reach} {b0 : Nat} {v : Value} {d : DataW H} {ps : List MemPlace} (hv : Value.okWide Pg W r b0 22 v) (h : DataW.Trod enc Pg W base spare held 22 v d ps) : ∃ xs gs, RdS (hl W) 22 5 encAc v xs ∧ Racs (hl W) xs gs := by
  obtain ⟨a, len, cap, rfl⟩ := okWide_slice Go.Proofs.Tryz.underlying22 hv
  obtain ⟨n, h⟩ := h
  exact acts_of h
end

theorem below_of {W w : World} (hw : (hl W).on w) (hm : Sm W w) : RowKit.Below W.heap.size W w := by
  have hb : ∀ b, b < W.heap.size → w.heap[b]? = W.heap[b]? := fun b hlt => by
    rw [Array.getElem?_eq_getElem hlt]
    exact hw b _ (Array.getElem?_eq_getElem hlt)
  refine ⟨hm.os, hm.tape, hm.out, ?_, hb⟩
  rcases Nat.lt_or_ge w.heap.size W.heap.size with h | h
  · have := hb _ h
    rw [Array.getElem?_eq_none (Nat.le_refl _), Array.getElem?_eq_getElem h] at this
    cases this
  · exact h

set_option maxRecDepth 100000 in
/-- the end of each statement's wrap: nothing that was there is turned, and the answer is true. -/
theorem post_true {H : Type} {enc : TypeId × Value → H} {f : Func} {s : ChangeSpec} {apart fresh handsOn again : Bool} {W W' : World} {args : Array Value} {ds gs : List (DataW H)} {before : List MemPlace}
    (hW : DataW.Whole enc Pg f.params.toList s.vars apart W args.toList ds gs before) (hv : s.vars = []) (hr : f.resultTypes = #[4])
    (hlt : ∀ t ∈ f.params.toList, Pg.readableRec t = true ∧ t < Pg.types.size) (hlaid : laidOutB Pg = true)
    (hfn : (s.fn H (ds ++ gs)).results = [.lit (.bool true)] ∧ (s.fn H (ds ++ gs)).args = ds ∧ (s.fn H (ds ++ gs)).vars = [])
    (hs : (hl W).on W') (hm : Sm W W') : s.post enc Pg f apart fresh handsOn again W args (.bool true) W' := by
  have hB := below_of hs hm
  have hlts := hW.lt
  obtain ⟨p, q, hA, hV, hpq, hz, hn⟩ := id hW
  rw [hv] at hV
  obtain ⟨hg, hq⟩ := trodVars_none hV
  subst hq
  have stay : ∀ (sp : Nat → Bool) (ts : List TypeId) (vs : List Value) (es : List (DataW H)) (ps : List MemPlace), (∀ t ∈ ts, Pg.readableRec t = true ∧ t < Pg.types.size) → (∀ p ∈ ps, sp p.block = true ∧ p.block < W.heap.size) →
      DataW.TrodAll enc Pg W 0 (fun _ => true) true ts vs es ps → DataW.TrodAll enc Pg W' 0 sp true ts vs es ps := by
    intro sp ts
    induction ts with
    | nil => intro vs es ps _ _ h; obtain ⟨rfl, rfl, rfl⟩ := trodAll_nil h; exact rfl
    | cons t ts ih =>
      intro vs es ps ht hp h
      obtain ⟨v, vs1, d, ds1, a, b, rfl, rfl, rfl, h1, h2⟩ := trodAll_cons h
      refine ⟨a, b, ?_, ih _ _ _ (fun t h => ht t (by simp [h])) (fun p h => hp p (by simp [h])) h2, rfl⟩
      exact Go.WideElems.Trod_stays hlaid (ht t (by simp)).1 (ht t (by simp)).2 h1 (fun p h => hB.same (hp p (by simp [h])).2) (fun p h => (hp p (by simp [h])).1)
  refine post_of_same (pa := p) (pv := []) hW ?_ ?_ ?_ (by rw [hpq]) (hB.frame _) hm.fz (RowKit.ok_one hr rfl (RowKit.okWide_bool_mk Go.Proofs.Tryz.underlying4 _))
  · intro b sp hd
    rw [hr, hfn.1]
    exact trodAll_mk1 (RowKit.shut_bool Go.Proofs.Tryz.underlying4 _)
  · intro sp hsp
    rw [hfn.2.1]
    refine stay sp _ _ _ _ hlt (fun p h => ⟨hsp p (by rw [hpq]; simpa using h), hlts p (by rw [hpq]; simpa using h)⟩) hA
  · intro sp hsp
    rw [hv, hfn.2.2]
    exact rfl
end Go.Cb

/-
  MvccPlays is true at every input, and leaves the input as it was. No condition.
-/
set_option linter.unusedVariables false
set_option linter.unusedSimpArgs false
set_option maxRecDepth 100000
namespace Go.Cb
open Go.ChangeShapes Go.WideShapes
section
variable {H : Type} {enc : TypeId × Value → H} {W : World} {base : Nat} {spare : Nat → Bool} {held : Bool}
theorem span_of {r : Reach} {b0 : Nat} {v : Value} {d : DataW H} {ps : List MemPlace} (hv : Value.okWide Pg W r b0 25 v) (h : DataW.Trod enc Pg W base spare held 25 v d ps) : ∃ f t, v = .agg #[.string f, .string t] := by
  obtain ⟨cs, rfl, hsz⟩ := okWide_struct Go.Proofs.Tryz.underlying25 hv
  obtain ⟨n, h⟩ := h
  have hcs : (Value.agg cs).cells.toList = cs.toList := rfl
  rw [hcs] at h
  obtain ⟨z0, z1, m, _, _, g0, g1⟩ := trod_struct2 Go.Proofs.Tryz.underlying25 h
  obtain ⟨s, e0, _⟩ := DataW.trod_string Go.Proofs.Tryz.underlying9 g0
  obtain ⟨s', e1, _⟩ := DataW.trod_string Go.Proofs.Tryz.underlying9 g1
  have hc : Pg.cellsOf 25 = 2 := by kernel_rfl
  have hc9 : Pg.cellsOf 9 = 1 := by kernel_rfl
  rw [hc] at hsz
  rw [hc9] at e0 e1
  refine ⟨s, s', ?_⟩
  congr 1
  apply Array.toList_inj.1
  have hlen : cs.toList.length = 2 := by simpa using hsz
  match hl : cs.toList, hlen with
  | [a, b], _ =>
    rw [hl] at e0 e1
    simp at e0 e1
    rw [e0, e1]
end
end Go.Cb
namespace Go.Proofs.YtialecgadoepjaaGreat
open Go.ChangeShapes Go.WideShapes Go.ChangeAt Go.RowKit

theorem Tryz.own : ownKnob Tryz.prog.godebug = none := by kernel_rfl
theorem Tryz.laidOut : laidOutB Tryz.prog = true := by kernel_rfl

set_option maxRecDepth 100000 in
theorem mvccPlays_lifted (os : Os) (started : os.Started) (H : Type) (enc : TypeId × Value → H) :
    ReturnsInHanded {} Tryz.checked os 3 .any (Rows.mvccPlaysSpec.pre6 enc Tryz.prog Tryz.f3 Rows.mvccPlaysRow.domain false) (Rows.mvccPlaysSpec.post enc Tryz.prog Tryz.f3 false true false false) := by
  refine returnsInHanded_of_change (C := Tryz.checked) Tryz.own started (by kernel_rfl) Tryz.func3
    (ChangeSpec.witness6 (enc := enc) (C := Tryz.checked) false ⟨#[], #[.slice none 0 0, .int .u64 0, .agg #[.string { data := #[] }, .string { data := #[] }], .int .i64 0], []⟩ 8 (by kernel_rfl) (by kernel_rfl) (by kernel_rfl) (by kernel_rfl)) ?_
  intro W base args ds gs before hval0 hW hcnd _
  have hval : ∀ (j : Nat) t v, Tryz.f3.params[j]? = some t → args[j]? = some v → Value.okWide Tryz.prog W .any base t v := hval0
  have hW' := hW
  obtain ⟨p, q, hA0, hV, rfl, hfz, hnd⟩ := hW
  have hA : DataW.TrodAll enc Tryz.prog W 0 (fun _ => true) true Tryz.f3.params.toList args.toList ds p := hA0
  rw [Tryz.params3] at hA hval
  obtain ⟨v0, vs0, d0, ds0, p0, q0, e0, rfl, rfl, h0, hA⟩ := trodAll_cons hA
  obtain ⟨v1, vs1, d1, ds1, p1, q1, rfl, rfl, rfl, h1, hA⟩ := trodAll_cons hA
  obtain ⟨v2, vs2, d2, ds2, p2, q2, rfl, rfl, rfl, h2, hA⟩ := trodAll_cons hA
  obtain ⟨v3, vs3, d3, ds3, p3, q3, rfl, rfl, rfl, h3, hA⟩ := trodAll_cons hA
  obtain ⟨rfl, rfl, rfl⟩ := trodAll_nil hA
  obtain ⟨rfl, rfl⟩ := trodVars_none hV
  have hargs : args = #[v0, v1, v2, v3] := Array.toList_inj.1 e0
  subst hargs
  obtain ⟨xs, as_, hr, hx⟩ := Go.Cb.acts_of' (hval 0 22 v0 rfl rfl) h0
  obtain ⟨n1, rfl⟩ := okWide_int Tryz.underlying23 (hval 1 23 v1 rfl rfl)
  obtain ⟨f, t, rfl⟩ := Go.Cb.span_of (hval 2 25 v2 rfl rfl) h2
  obtain ⟨m, rfl⟩ := okWide_int Tryz.underlying3 (hval 3 3 v3 rfl rfl)
  clear hA0 hval0
  obtain ⟨v, W', hrun, rfl, K', hl, hs, hm⟩ := Go.Cb.plays_ok (F := []) (at' := n1) (f := f) (t := t) (m := m) hr hx (Go.Cb.sat_hl W)
  refine (Go.Cb.Fn_calls (by kernel_rfl) hrun).mono fun e W'' ⟨he, hw⟩ => ?_
  subst he; subst hw
  refine ⟨_, rfl, Go.Cb.post_true hW' rfl (by kernel_rfl) ?_ Tryz.laidOut ⟨rfl, rfl, rfl⟩ (hl _ (Go.Cb.kn_on (j := 0) hs rfl)) hm⟩
  rw [Tryz.params3]
  intro t ht
  simp at ht
  rcases ht with rfl | rfl | rfl | rfl
  all_goals exact ⟨by kernel_rfl, of_decide_eq_true (by kernel_rfl)⟩

theorem mvccPlays_holds : Rows.MvccPlaysSaid :=
  OpenClaim.holds_of_wide 3 Tryz.f3 rfl rfl rfl rfl rfl rfl rfl ⟨rfl, rfl, rfl, rfl, rfl⟩ rfl rfl rfl rfl rfl (by kernel_rfl) Tryz.func3 (by kernel_rfl)
    (of_decide_eq_true (by kernel_rfl)) (by unfold Func.isWrapper; first | (rw [if_pos (by decide +kernel)]; kernel_rfl) | (rw [if_neg (by decide +kernel)]; exact ⟨rfl, rfl⟩))
    (fun os started H enc _ => mvccPlays_lifted os started H enc)
#print axioms mvccPlays_holds

end Go.Proofs.YtialecgadoepjaaGreat
