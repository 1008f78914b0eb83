/-
  Symbolic memory: a list of blocks that are known whole; what loads, stores, new blocks, append, copy and clear do to it.
-/
import Derived.Test.YtialecgadoepjaaGreatEng5
namespace Go.Cb

/-! ### What a run comes to -/

def Ok (r : R) (Q : Value → World → Prop) : Prop := ∃ v w', r = some (v, w') ∧ Q v w'

theorem Ok.ret {v : Value} {w : World} {Q : Value → World → Prop} (h : Q v w) : Ok (some (v, w)) Q := ⟨v, w, rfl, h⟩
theorem Ok.mono {r : R} {Q Q' : Value → World → Prop} (h : Ok r Q) (hq : ∀ v w, Q v w → Q' v w) : Ok r Q' :=
  let ⟨v, w, e, q⟩ := h; ⟨v, w, e, hq v w q⟩
theorem Ok.bind {o : R} {k : Value → World → R} {Q Q' : Value → World → Prop} (h : Ok o Q) (hk : ∀ v w, Q v w → Ok (k v w) Q') : Ok (rd2 o k) Q' := by
  obtain ⟨v, w, rfl, q⟩ := h
  exact hk v w q
theorem Ok.rd {α : Type} {o : Option α} {k : α → R} {Q : Value → World → Prop} {a : α} (h : o = some a) (hk : Ok (k a) Q) : Ok (rd o k) Q := by
  subst h; exact hk
theorem Ok.rd2 {o : R} {k : Value → World → R} {Q : Value → World → Prop} {v : Value} {w : World} (h : o = some (v, w)) (hk : Ok (k v w) Q) : Ok (rd2 o k) Q := by
  subst h; exact hk
theorem Ok.chk {p : Prop} {k : Unit → R} {Q : Value → World → Prop} (h : p) (hk : Ok (k ()) Q) : Ok (chk p k) Q := by
  unfold Cb.chk; rw [if_pos h]; exact hk

theorem hold_ld {P : Program} {t : TypeId} {x v : Value} {w : World} (h : ldV P t x w = some v) : holdsAt P none (.ld t) x v w := h
theorem rd_some' {α : Type} (a : α) (k : α → R) : Cb.rd (some a) k = k a := rfl
theorem rd2_some' (v : Value) (w : World) (k : Value → World → R) : Cb.rd2 (some (v, w)) k = k v w := rfl
theorem cnd_t (a b : Unit → R) : cnd (.bool true) a b = a () := rfl
theorem cnd_f (a b : Unit → R) : cnd (.bool false) a b = b () := rfl
theorem gate_t (r : Unit → R) (w : World) : gate (.bool true) true r w = r () := rfl
theorem gate_f (r : Unit → R) (w : World) : gate (.bool false) true r w = some (undef, w) := rfl
theorem gate_tf (r : Unit → R) (w : World) : gate (.bool true) false r w = some (undef, w) := rfl
theorem gate_ff (r : Unit → R) (w : World) : gate (.bool false) false r w = r () := rfl

/-- the continuation is left alone. -/
theorem rd_cg {α : Type} {o o' : Option α} {k : α → R} (h : o = o') : Cb.rd o k = Cb.rd o' k := by rw [h]
theorem rd2_cg {o o' : R} {k : Value → World → R} (h : o = o') : Cb.rd2 o k = Cb.rd2 o' k := by rw [h]
theorem cnd_cg {c c' : Value} {a b : Unit → R} (h : c = c') : cnd c a b = cnd c' a b := by rw [h]
theorem gate_cg {x x' : Value} {b : Bool} {r : Unit → R} {w : World} (h : x = x') : gate x b r w = gate x' b r w := by rw [h]
theorem Ok_cg {r r' : R} {Q : Value → World → Prop} (h : r = r') : Ok r Q = Ok r' Q := by rw [h]

/-! ### Blocks -/

abbrev ad (b o : Nat) : Addr := ⟨b, o, none⟩
abbrev ptr (b o : Nat) : Value := .pointer (some ⟨b, o, none⟩)
abbrev int (n : Int) : Value := .int .i64 n
abbrev sl (b o n c : Nat) : Value := .slice (some ⟨b, o, none⟩) n c
abbrev nilS : Value := .slice none 0 0

/-- block b holds just these cells. -/
def At (w : World) (b : Nat) (l : List Value) (T : TypeId) : Prop := w.heap[b]? = some (.cells l.toArray T (0, 0))

theorem At.lt {w : World} {b : Nat} {l : List Value} {T : TypeId} (h : At w b l T) : b < w.heap.size := (Array.getElem?_eq_some_iff.1 h).1
theorem At.cell {w : World} {b : Nat} {l : List Value} {T : TypeId} (h : At w b l T) (i : Nat) : w.cell? (ad b i) = l[i]? := by
  unfold At at h
  simp [World.cell?, h]
theorem At.free {w : World} {b : Nat} {l : List Value} {T : TypeId} (h : At w b l T) (i : Nat) : w.frozen? (ad b i) = false := by
  unfold At at h
  simp [World.frozen?, h]

/-- no cell of it is frozen. -/
def soft : Obj → Bool
  | .cells _ _ (lo, hi) => Nat.beq lo 0 && Nat.beq hi 0
  | _ => true

/-- beside the blocks of S all is as it was. -/
structure Ext (S : Nat → Prop) (w w' : World) : Prop where
  size : w.heap.size ≤ w'.heap.size
  old : ∀ b, b < w.heap.size → ¬ S b → w'.heap[b]? = w.heap[b]?
  os : w'.os = w.os
  out : w'.output = w.output
  tape : w'.tape = w.tape
  fz : ∀ a, w'.frozen? a = w.frozen? a

theorem Ext.refl (S : Nat → Prop) (w : World) : Ext S w w := ⟨Nat.le_refl _, fun _ _ _ => rfl, rfl, rfl, rfl, fun _ => rfl⟩
theorem Ext.trans {S S' T : Nat → Prop} {w w1 w2 : World} (h : Ext S w w1) (h' : Ext S' w1 w2) (hs : ∀ b, b < w.heap.size → S b → T b) (hs' : ∀ b, b < w.heap.size → S' b → T b) : Ext T w w2 :=
  ⟨Nat.le_trans h.size h'.size, fun b hb hn => (h'.old b (Nat.lt_of_lt_of_le hb h.size) fun hh => hn (hs' b hb hh)).trans (h.old b hb fun hh => hn (hs b hb hh)), h'.os.trans h.os, h'.out.trans h.out, h'.tape.trans h.tape, fun a => (h'.fz a).trans (h.fz a)⟩
theorem Ext.mono {S T : Nat → Prop} {w w' : World} (h : Ext S w w') (hs : ∀ b, b < w.heap.size → S b → T b) : Ext T w w' :=
  ⟨h.size, fun b hb hn => h.old b hb fun hh => hn (hs b hb hh), h.os, h.out, h.tape, h.fz⟩
theorem Ext.drw (S : Nat → Prop) (w : World) : Ext S w (drw w) := ⟨Nat.le_refl _, fun _ _ _ => rfl, rfl, rfl, rfl, fun _ => rfl⟩
theorem Ext.push (S : Nat → Prop) (w : World) (o : Obj) (ho : soft o = true := by rfl) : Ext S w { w with heap := w.heap.push o } :=
  ⟨by simp, fun b hb _ => by rw [Array.getElem?_push_lt hb, Array.getElem?_eq_getElem hb], rfl, rfl, rfl, fun a => by
    by_cases hb : a.block = w.heap.size
    · have e1 : (w.heap.push o)[a.block]? = some o := by rw [hb]; simp
      have e2 : w.heap[a.block]? = none := by rw [hb]; simp
      simp only [World.frozen?, e1, e2]
      cases o with
      | cells c t fr =>
        obtain ⟨lo, hi⟩ := fr
        simp only [soft, Bool.and_eq_true] at ho
        have h1 := Nat.eq_of_beq_eq_true ho.1
        have h2 := Nat.eq_of_beq_eq_true ho.2
        subst h1; subst h2; simp
      | _ => rfl
    · have e1 : (w.heap.push o)[a.block]? = w.heap[a.block]? := by rw [Array.getElem?_push, if_neg hb]
      simp only [World.frozen?, e1]⟩
theorem Ext.set {S : Nat → Prop} (w : World) {b : Nat} (i : Nat) (v : Value) (hS : S b) : Ext S w (w.setCell (ad b i) v) :=
  ⟨by simp [World.setCell], fun c _ hn => by
    have hne : b ≠ c := fun he => hn (he ▸ hS)
    simp [World.setCell, Array.getElem?_modify, hne], rfl, rfl, rfl, fun a => by
    by_cases hb : b = a.block
    · subst hb
      simp only [World.frozen?, World.setCell, Array.getElem?_modify, if_pos]
      cases w.heap[a.block]? with
      | none => rfl
      | some o => cases o <;> rfl
    · simp only [World.frozen?, World.setCell, Array.getElem?_modify, if_neg hb]⟩
theorem Ext.at {S : Nat → Prop} {w w' : World} (h : Ext S w w') {b : Nat} {l : List Value} {T : TypeId} (ha : At w b l T) (hn : ¬ S b) : At w' b l T := by
  unfold At at ha ⊢; rw [h.old b (At.lt ha) hn]; exact ha

theorem At.set {w : World} {b : Nat} {l : List Value} {T : TypeId} (h : At w b l T) (i : Nat) (v : Value) : At (w.setCell (ad b i) v) b (l.set i v) T := by
  unfold At at h ⊢
  simp [World.setCell, Array.getElem?_modify, h]
theorem At.new (w : World) (l : List Value) (T : TypeId) : At { w with heap := w.heap.push (.cells l.toArray T) } w.heap.size l T := by
  unfold At; simp

/-- a list of blocks that are known whole, no one twice. -/
structure Hp (w : World) (m : List (Nat × List Value × TypeId)) : Prop where
  at_ : ∀ x ∈ m, At w x.1 x.2.1 x.2.2
  nd : (m.map (·.1)).Nodup

theorem Hp.sub {w : World} {m m' : List (Nat × List Value × TypeId)} (h : Hp w m) (hs : ∀ x ∈ m', x ∈ m) (hn : (m'.map (·.1)).Nodup) : Hp w m' := ⟨fun x hx => h.at_ x (hs x hx), hn⟩
theorem Hp.get {w : World} {m : List (Nat × List Value × TypeId)} (h : Hp w m) {k b : Nat} {l : List Value} {T : TypeId} (hk : m[k]? = some (b, l, T)) : At w b l T :=
  h.at_ _ (List.mem_of_getElem? hk)
theorem Hp.drw {w : World} {m : List (Nat × List Value × TypeId)} (h : Hp w m) : Hp (drw w) m := ⟨h.at_, h.nd⟩
theorem Hp.lt {w : World} {m : List (Nat × List Value × TypeId)} (h : Hp w m) : ∀ x ∈ m, x.1 < w.heap.size := fun x hx => (h.at_ x hx).lt

theorem Hp.ext {S : Nat → Prop} {w w' : World} {m : List (Nat × List Value × TypeId)} (h : Hp w m) (he : Ext S w w') (hn : ∀ x ∈ m, ¬ S x.1) : Hp w' m := ⟨fun x hx => he.at (h.at_ x hx) (hn x hx), h.nd⟩

theorem nodup_at {α : Type} {l : List α} : l.Nodup ↔ ∀ i j : Nat, i ≠ j → ∀ a b, l[i]? = some a → l[j]? = some b → a ≠ b := by
  unfold List.Nodup
  rw [List.pairwise_iff_getElem]
  constructor
  · intro h i j hij a b ha hb
    obtain ⟨hi, rfl⟩ := List.getElem?_eq_some_iff.1 ha
    obtain ⟨hj, rfl⟩ := List.getElem?_eq_some_iff.1 hb
    rcases Nat.lt_or_gt_of_ne hij with h1 | h1
    · exact h i j hi hj h1
    · exact fun he => h j i hj hi h1 he.symm
  · intro h i j hi hj hij
    exact h i j (by omega) _ _ (List.getElem?_eq_getElem hi) (List.getElem?_eq_getElem hj)

theorem key_ne {m : List (Nat × List Value × TypeId)} (hn : (m.map (·.1)).Nodup) {j k : Nat} (hjk : j ≠ k) {x y : Nat × List Value × TypeId} (hj : m[j]? = some x) (hk : m[k]? = some y) : x.1 ≠ y.1 :=
  nodup_at.1 hn j k hjk _ _ (by rw [List.getElem?_map, hj]; rfl) (by rw [List.getElem?_map, hk]; rfl)

theorem nodup_set {m : List (Nat × List Value × TypeId)} (hn : (m.map (·.1)).Nodup) {k : Nat} {y : Nat × List Value × TypeId} (hy : ∀ j, j ≠ k → ∀ x, m[j]? = some x → x.1 ≠ y.1) : ((m.set k y).map (·.1)).Nodup := by
  rw [nodup_at]
  intro i j hij a b ha hb
  rw [List.getElem?_map] at ha hb
  simp only [Option.map_eq_some_iff] at ha hb
  obtain ⟨x, hx, rfl⟩ := ha
  obtain ⟨z, hz, rfl⟩ := hb
  rw [List.getElem?_set] at hx hz
  by_cases hi : k = i
  · subst hi
    rw [if_pos rfl] at hx
    split at hx
    · injection hx with hx; subst hx
      rw [if_neg hij] at hz
      exact fun he => hy j (Ne.symm hij) z hz he.symm
    · cases hx
  · rw [if_neg hi] at hx
    by_cases hj : k = j
    · subst hj
      rw [if_pos rfl] at hz
      split at hz
      · injection hz with hz; subst hz
        exact hy i hij x hx
      · cases hz
    · rw [if_neg hj] at hz
      exact key_ne hn hij hx hz

/-- a block is turned, the others stay. -/
theorem Hp.put {S : Nat → Prop} {w w' : World} {m : List (Nat × List Value × TypeId)} (h : Hp w m) {k b : Nat} {l : List Value} {T : TypeId} (hk : m[k]? = some (b, l, T)) {b' : Nat} {l' : List Value} {T' : TypeId}
    (hE : Ext S w w') (hS : ∀ c, c < w.heap.size → S c → c = b) (ha : At w' b' l' T') (hb : b' = b ∨ w.heap.size ≤ b') : Hp w' (m.set k (b', l', T')) := by
  have hne : ∀ j, j ≠ k → ∀ x, m[j]? = some x → x.1 ≠ b' := by
    intro j hj x hx
    rcases hb with rfl | hb
    · exact key_ne h.nd hj hx hk
    · have := h.lt x (List.mem_of_getElem? hx); omega
  refine ⟨fun x hx => ?_, nodup_set h.nd hne⟩
  obtain ⟨j, hj⟩ := List.getElem?_of_mem hx
  rw [List.getElem?_set] at hj
  by_cases hkj : k = j
  · subst hkj
    rw [if_pos rfl] at hj
    split at hj
    · injection hj with hj; subst hj; exact ha
    · cases hj
  · rw [if_neg hkj] at hj
    have hlt := h.lt x (List.mem_of_getElem? hj)
    refine hE.at (h.at_ x (List.mem_of_getElem? hj)) fun hs => ?_
    exact key_ne h.nd (Ne.symm hkj) hj hk (hS _ hlt hs)

theorem Hp.setCell {w : World} {m : List (Nat × List Value × TypeId)} (h : Hp w m) {k b : Nat} {l : List Value} {T : TypeId} (hk : m[k]? = some (b, l, T)) (i : Nat) (v : Value) :
    Hp (w.setCell (ad b i) v) (m.set k (b, l.set i v, T)) :=
  h.put hk (Ext.set (S := fun c => c = b) w i v rfl) (fun _ _ hc => hc) ((h.get hk).set i v) (.inl rfl)

theorem Hp.push {w : World} {m : List (Nat × List Value × TypeId)} (h : Hp w m) (l : List Value) (T : TypeId) : Hp { w with heap := w.heap.push (.cells l.toArray T) } (m ++ [(w.heap.size, l, T)]) := by
  refine ⟨fun x hx => ?_, ?_⟩
  · rcases List.mem_append.1 hx with hx | hx
    · exact (Ext.push (fun _ => False) w _).at (h.at_ x hx) (fun hf => hf)
    · simp only [List.mem_singleton] at hx; subst hx; exact At.new w l T
  · rw [List.map_append, List.nodup_append]
    refine ⟨h.nd, by simp, fun a ha b hb => ?_⟩
    simp only [List.mem_map] at ha
    obtain ⟨x, hx, rfl⟩ := ha
    simp at hb; subst hb
    exact Nat.ne_of_lt (h.lt x hx)

/-! ### Loads and stores -/

theorem At.cells {w : World} {b : Nat} {l : List Value} {T : TypeId} (h : At w b l T) (o : Nat) : ∀ (n i : Nat), o + i + n ≤ l.length → cellsAt w (ad b o) i n = some ((l.drop (o + i)).take n) := by
  intro n
  induction n with
  | zero => intro i _; simp [cellsAt]
  | succ n ih =>
    intro i hi
    have hlt : o + i < l.length := by omega
    have hadd : (ad b o).add i = ad b (o + i) := by
      unfold Addr.add ad
      split
      · rename_i h0; subst h0; rfl
      · rfl
    unfold cellsAt
    rw [hadd, h.cell, List.getElem?_eq_getElem hlt]
    simp only [Option.bind_some]
    rw [ih (i + 1) (by omega)]
    simp only [Option.map_some, Option.some.injEq]
    rw [show o + (i + 1) = o + i + 1 from by omega, List.drop_eq_getElem_cons hlt, List.take_succ_cons]

theorem add_ad (b o n : Nat) : (ad b o).add n = ad b (o + n) := by
  unfold Addr.add ad
  split
  · rename_i h0; subst h0; rfl
  · rfl

theorem ldV_sc {P : Program} {t : TypeId} (h : aggT P t = some false) (a : Addr) (w : World) : ldV P t (.pointer (some a)) w = w.cell? a := by simp [ldV, h]
theorem ldV_ag {P : Program} {t : TypeId} (h : aggT P t = some true) {i : TypeInfo} (hi : P.info? t = some i) (a : Addr) (w : World) :
    ldV P t (.pointer (some a)) w = (cellsAt w a 0 i.size).map fun l => .agg l.toArray := by simp [ldV, h, hi]

def one (v : Value) : Bool :=
  match v with
  | .agg _ => false
  | .tuple _ => false
  | _ => true

theorem store1_run {P : Program} {w : World} {b i : Nat} {l : List Value} {T : TypeId} (h : At w b l T) (hi : i < l.length) {v : Value} (hv : one v = true) : (store (ad b i) v).run P w = .ok () (w.setCell (ad b i) v) := by
  rw [run_store P w _ v .plain (by cases v <;> simp_all [one, Value.oneCell'])]
  rw [h.cell, List.getElem?_eq_getElem hi]
  simp [h.free]

/-- l with vs laid in from place i on. -/
def lay (l : List Value) (i : Nat) : List Value → List Value
  | [] => l
  | v :: r => lay (l.set i v) (i + 1) r

theorem lay_length : ∀ (vs l : List Value) (i : Nat), (lay l i vs).length = l.length
  | [], _, _ => rfl
  | v :: r, l, i => by rw [lay, lay_length r]; simp

theorem lay_eq : ∀ (vs l : List Value) (i : Nat), i + vs.length ≤ l.length → lay l i vs = l.take i ++ vs ++ l.drop (i + vs.length)
  | [], l, i, _ => by simp [lay]
  | v :: r, l, i, h => by
    have hl : i < l.length := by simp at h; omega
    rw [lay, lay_eq r _ _ (by simp at h ⊢; omega)]
    rw [List.take_set, List.drop_set_of_lt (by omega)]
    have h1 : (l.take (i + 1)).set i v = l.take i ++ [v] := by
      rw [List.take_succ_eq_append_getElem hl, List.set_append_right _ _ (by rw [List.length_take]; exact Nat.min_le_left _ _)]
      rw [List.length_take, Nat.min_eq_left (Nat.le_of_lt hl), Nat.sub_self]; rfl
    rw [h1]
    simp [show i + 1 + r.length = i + (r.length + 1) from by omega]

theorem storeCells_run {P : Program} {b o : Nat} {T : TypeId} : ∀ (vs : List Value) (i : Nat) (l : List Value) (w : World), At w b l T → o + i + vs.length ≤ l.length → (∀ v ∈ vs, one v = true) →
    ∃ w', (storeCells (ad b o) vs i).run P w = .ok () w' ∧ At w' b (lay l (o + i) vs) T ∧ Ext (fun c => c = b) w w' := by
  intro vs
  induction vs with
  | nil => intro i l w h _ _; exact ⟨w, rfl, h, Ext.refl _ _⟩
  | cons v r ih =>
    intro i l w h hl hv
    have hi : o + i < l.length := by simp at hl; omega
    obtain ⟨w', hr, ha, he⟩ := ih (i + 1) (l.set (o + i) v) (w.setCell (ad b (o + i)) v) (h.set _ _) (by simp at hl ⊢; omega) (fun x hx => hv x (by simp [hx]))
    refine ⟨w', ?_, ?_, (Ext.set (S := fun c => c = b) w (o + i) v rfl).trans he (fun _ _ hs => hs) (fun _ _ hs => hs)⟩
    · unfold storeCells
      rw [Sem.run_bind, add_ad, store1_run h hi (hv v (by simp))]
      exact hr
    · exact ha

/-- a store of a value of n cells into a known block. -/
theorem storeAt_ok {P : Program} {t : TypeId} {i : TypeInfo} (hi : P.info? t = some i) {w : World} {m : List (Nat × List Value × TypeId)} (h : Hp w m) {k b o : Nat} {l : List Value} {T : TypeId} (hk : m[k]? = some (b, l, T)) {v : Value}
    (hs : v.cells.size = i.size) (hl : o + i.size ≤ l.length) (hv : ∀ x ∈ v.cells.toList, one x = true) :
    ∃ w', rawU P (Instr.storeAt t (ptr b o) v) w = some (undef, w') ∧ Hp w' (m.set k (b, lay l o v.cells.toList, T)) ∧ Ext (fun c => c = b) w w' := by
  have hlen : v.cells.toList.length = i.size := by rw [Array.length_toList]; exact hs
  obtain ⟨w', hr, ha, he⟩ := storeCells_run (P := P) (o := o) v.cells.toList 0 l w (h.get hk) (by omega) hv
  refine ⟨w', ?_, h.put hk he (fun _ _ hc => hc) (by simpa using ha) (.inl rfl), he⟩
  simp [rawU, Instr.storeAt, Instr.sureAddr, storeVar, siz_run hi, hs, hr]

theorem at_load {w : World} {b o n : Nat} {l : List Value} {T : TypeId} (h : At w b l T) (hl : o + n ≤ l.length) {P : Program} {t : TypeId} {i : TypeInfo} (ha : aggT P t = some true) (hi : P.info? t = some i) (hn : i.size = n) :
    ldV P t (ptr b o) w = some (.agg ((l.drop o).take n).toArray) := by
  subst hn
  rw [ldV_ag ha hi, h.cells o _ 0 (by simpa using hl)]
  simp

/-! ### New blocks -/

theorem box_ok {P : Program} {t : TypeId} {w : World} {v : Value} : rawV P (Instr.box t v) w = some (ptr w.heap.size 0, { w with heap := w.heap.push (.cells v.cells t) }) := by
  simp [rawV, Instr.box, newVar, newRow]

theorem zero_ok {P : Program} {t : TypeId} {i : TypeInfo} {z : Value} (hi : P.info? t = some i) (hz : i.zero = some z) (w : World) : (zeroValue t).run P w = .ok z w := by
  simp [zeroValue, inf_run hi, hz]

theorem alloc_ok {P : Program} {t : TypeId} {i : TypeInfo} {z : Value} (hi : P.info? t = some i) (hz : i.zero = some z) {w : World} :
    rawV P (Instr.alloc t true (.tuple #[])) w = some (ptr w.heap.size 0, { w with heap := w.heap.push (.cells z.cells t) }) := by
  simp [rawV, Instr.alloc, zero_ok hi hz, newVar, newRow]

/-- a slice of no or of one element, laid out. -/
theorem slice0_ok {P : Program} {t elem : TypeId} {i : TypeInfo} (hu : P.underlying t = some (.slice elem)) (hi : P.info? elem = some i) {w : World} :
    rawV P (Instr.buildSlice t 0 #[]) w = some (sl w.heap.size 0 0 0, { w with heap := w.heap.push (.cells #[] elem) }) := by
  have hr : (Array.range 0).map (fun _ => (default : Value)) = #[] := by apply Array.ext <;> simp
  simp [rawV, Instr.buildSlice, und_run hu, siz_run hi, Instr.fill, newRow, hr]

theorem fill_one (z v : List Value) (h : v.length = z.length) : (v.toArray.zipIdx.foldl (fun cs (c, j) => cs.setIfInBounds (0 + j) c) z.toArray : Array Value) = v.toArray := by
  have key : ∀ (v : List Value) (k : Nat) (z : List Value), k + v.length = z.length →
      ((v.zipIdx k).foldl (fun (cs : Array Value) (x : Value × Nat) => cs.setIfInBounds (0 + x.2) x.1) z.toArray) = (z.take k ++ v).toArray := by
    intro v
    induction v with
    | nil => intro k z hz; simp at hz; simp [hz]
    | cons x v ih =>
      intro k z hz
      rw [List.zipIdx_cons, List.foldl_cons]
      simp only [Nat.zero_add]
      have hk : k < z.length := by simp at hz; omega
      have h1 : z.toArray.setIfInBounds k x = (z.set k x).toArray := by simp
      rw [h1]
      have := ih (k + 1) (z.set k x) (by simp at hz ⊢; omega)
      simp only [Nat.zero_add] at this
      rw [this]
      congr 1
      rw [List.take_set, List.take_succ_eq_append_getElem hk, List.set_append_right _ _ (by rw [List.length_take]; exact Nat.min_le_left _ _)]
      rw [List.length_take, Nat.min_eq_left (Nat.le_of_lt hk), Nat.sub_self]
      simp
  have := key v 0 z (by omega)
  rw [← Array.foldl_toList, Array.toList_zipIdx]
  simpa using this

theorem slice1_ok {P : Program} {t elem : TypeId} {i : TypeInfo} {z v : Value} (hu : P.underlying t = some (.slice elem)) (hi : P.info? elem = some i) (hz : i.zero = some z) (hs : v.cells.size = i.size) (h0 : 0 < i.size)
    (hbig : i.size ≤ 1000) {w : World} :
    rawV P (Instr.buildSlice t 1 #[(0, v)]) w = some (sl w.heap.size 0 1 1, { w with heap := w.heap.push (.cells v.cells elem) }) := by
  have hne : i.size ≠ 0 := by omega
  have hb : ¬ 1 * i.size > 2 ^ 24 := by omega
  have hfill : ∀ cs : Array Value, cs.size = i.size → Instr.fill (fun j => some (j * i.size, i.size)) cs [(0, v)] = some v.cells := by
    intro cs hcs
    unfold Instr.fill
    simp only [Nat.zero_mul]
    rw [if_neg (by simp [hs, hcs])]
    simp only [Instr.fill]
    congr 1
    have := fill_one cs.toList v.cells.toList (by simp [hs, hcs])
    simpa using this
  simp only [rawV, Instr.buildSlice, Sem.run_bind, und_run hu, Result.andThen_ok, siz_run hi, Nat.one_mul]
  rw [if_neg (by simpa using hb), if_neg hne]
  simp only [Sem.run_bind, zero_ok hi hz, Result.andThen_ok, Sem.run_pure]
  rw [hfill _ (by simp)]
  simp [newRow]

/-! ### append, copy, clear -/

theorem w64 {n : Int} (h1 : -9223372036854775808 ≤ n) (h2 : n ≤ 9223372036854775807) : IntKind.i64.wrap n = n := by
  simp [IntKind.wrap, IntKind.bits, IntKind.signed]
  split <;> omega
theorem i64max : IntKind.i64.max = 9223372036854775807 := by decide

theorem growBy_le (n : Nat) : ∀ (r c : Nat), c ≤ 2 * n + 768 → Builtin.growBy n r c ≤ 2 * n + 768
  | 0, c, h => by simp [Builtin.growBy]; exact h
  | r + 1, c, h => by
    unfold Builtin.growBy
    split
    · exact h
    · exact growBy_le n r _ (by omega)

theorem nextslicecap_le (n c : Nat) (h : c < n) : Builtin.nextslicecap n c ≤ 2 * n + 768 := by
  unfold Builtin.nextslicecap
  split
  · omega
  · split
    · omega
    · exact growBy_le n 4 c (by omega)

theorem choose_run (P : Program) (w : World) (need old : Nat) (elem : TypeId) : ∃ c, need ≤ c ∧ (choose (.appendCap need old elem)).run P w = .ok c (drw w) := by
  refine ⟨need + w.tape w.drawn (.appendCap need old elem) % (2 ^ 63 - need), by omega, ?_⟩
  simp [choose, Sem.run, Question.forced, Question.cut, drw]

/-- what may be read as the n elements of a source, of q cells in all. -/
def Src (w : World) (x : Value) (n : Nat) (k : Nat) (ys : List Value) : Prop :=
  (∃ c, x = .slice none n c ∧ n = 0 ∧ ys = []) ∨ ∃ a c, x = .slice (some a) n c ∧ cellsAt w a 0 (n * k) = some ys

theorem firstCells_run {P : Program} {w : World} {x : Value} {n k : Nat} {ys : List Value} (h : Src w x n k ys) : (Builtin.firstCells k n x).run P w = .ok ys.toArray w := by
  rcases h with ⟨c, rfl, hn, rfl⟩ | ⟨a, c, rfl, hc⟩
  · subst hn; simp [Builtin.firstCells]
  · simp [Builtin.firstCells, loadCells, cells_run w a _ _ _ _ hc]

theorem cellsAt_heap {w w' : World} (h : w'.heap = w.heap) (a : Addr) : ∀ (n i : Nat), cellsAt w' a i n = cellsAt w a i n := by
  intro n
  induction n with
  | zero => intro i; rfl
  | succ n ih => intro i; unfold cellsAt World.cell?; rw [h, ih]

theorem Src.drw {w : World} {x : Value} {n k : Nat} {ys : List Value} (h : Src w x n k ys) : Src (drw w) x n k ys := by
  rcases h with h | ⟨a, c, hx, hc⟩
  · exact .inl h
  · exact .inr ⟨a, c, hx, (cellsAt_heap (w := w) (w' := Cb.drw w) rfl a _ _).trans hc⟩

theorem Src.len {w : World} {x : Value} {n k : Nat} {ys : List Value} (h : Src w x n k ys) : ∃ b c, x = .slice b n c := by
  rcases h with ⟨c, rfl, _, _⟩ | ⟨a, c, rfl, _⟩
  · exact ⟨_, _, rfl⟩
  · exact ⟨_, _, rfl⟩

theorem cellsAt_length {w : World} {a : Addr} : ∀ {n i : Nat} {l : List Value}, cellsAt w a i n = some l → l.length = n := by
  intro n
  induction n with
  | zero => intro i l h; simp only [cellsAt, Option.some.injEq] at h; subst h; rfl
  | succ n ih =>
    intro i l h
    simp only [cellsAt, Option.bind_eq_some_iff, Option.map_eq_some_iff] at h
    obtain ⟨v, hv, r, hr, rfl⟩ := h
    simp [ih hr]

theorem Src.length {w : World} {x : Value} {n k : Nat} {ys : List Value} (h : Src w x n k ys) : ys.length = n * k := by
  rcases h with ⟨c, rfl, hn, rfl⟩ | ⟨a, c, rfl, hc⟩
  · subst hn; simp
  · exact cellsAt_length hc

theorem src_at {w : World} {b o n c k : Nat} {l : List Value} {T : TypeId} (h : At w b l T) (hl : o + n * k ≤ l.length) : Src w (sl b o n c) n k ((l.drop o).take (n * k)) :=
  .inr ⟨_, c, rfl, by have := h.cells o (n * k) 0 (by simpa using hl); simpa using this⟩

/-- what an append of slices needs to know of its types. -/
structure AppT (P : Program) (t t2 elem : TypeId) (k : Nat) : Prop where
  u : P.underlying t = some (.slice elem)
  i : ∃ i z, P.info? elem = some i ∧ i.size = k ∧ i.zero = some z ∧ z.cells.size = k ∧ i.bytes ≤ 1000 ∧ 0 < i.bytes
  u2 : ∃ e2, P.underlying t2 = some (.slice e2)

/-- append within the capacity. -/
theorem append_room {P : Program} {t t2 elem : TypeId} {k : Nat} (hT : AppT P t t2 elem k) {w : World} {m : List (Nat × List Value × TypeId)} (h : Hp w m) {j b : Nat} {l : List Value} {T : TypeId} (hj : m[j]? = some (b, l, T))
    {n c q : Nat} {x : Value} {ys : List Value} (hx : Src w x q k ys) (hl : l.length = c * k) (hc : n + q ≤ c) (hv : ∀ y ∈ ys, one y = true) {rt : TypeId} {cs : Array Bool} :
    ∃ w', rawN P (builtin .append #[t, t2] rt cs #[sl b 0 n c, x]) w = some (sl b 0 (n + q) c, w') ∧ Hp w' (m.set j (b, lay l (n * k) ys, T)) ∧ Ext (fun d => d = b) w w' := by
  obtain ⟨i, z, hi, hk, hz, hzs, hby, _⟩ := hT.i
  obtain ⟨e2, hu2⟩ := hT.u2
  obtain ⟨bx, cx, hxs⟩ := hx.len
  have hlen := hx.length
  have hmul : n * k + q * k ≤ c * k := by rw [← Nat.add_mul]; exact Nat.mul_le_mul_right k hc
  obtain ⟨w', hr, ha, he⟩ := storeCells_run (P := P) (o := n * k) ys 0 l w (h.get hj) (by omega) hv
  refine ⟨w', ?_, h.put hj he (fun _ _ hd => hd) (by simpa using ha) (.inl rfl), he⟩
  have hfc := firstCells_run (P := P) hx
  have hlo : (Builtin.lenOf x).run P w = .ok q w := by rw [hxs]; rfl
  simp [rawN, builtin, Builtin.append_, und_run hT.u, und_run hu2, siz_run hi, hk, hlo, hc, hfc, add_ad, hr]

/-- append that may have to grow: the new row lies where the old one was, or in a block of its own. -/
theorem append_ok {P : Program} {t t2 elem : TypeId} {k : Nat} (hT : AppT P t t2 elem k) {w : World} {m : List (Nat × List Value × TypeId)} (h : Hp w m) {j b : Nat} {l : List Value} (hj : m[j]? = some (b, l, elem))
    {n c q : Nat} {x : Value} {ys : List Value} (hx : Src w x q k ys) (hl : l.length = c * k) (hn : n ≤ c) (hbd : n + q ≤ 2 ^ 30) (hv : ∀ y ∈ ys, one y = true) {rt : TypeId} {cs : Array Bool} :
    ∃ b' c' l' w', rawN P (builtin .append #[t, t2] rt cs #[sl b 0 n c, x]) w = some (sl b' 0 (n + q) c', w') ∧ Hp w' (m.set j (b', l', elem)) ∧ Ext (fun d => d = b) w w' ∧
      (b' = b ∨ w.heap.size ≤ b') ∧ l'.take ((n + q) * k) = l.take (n * k) ++ ys ∧ l'.length = c' * k ∧ n + q ≤ c' := by
  by_cases hc : n + q ≤ c
  · obtain ⟨w', h1, h2, h3⟩ := append_room hT h hj hx hl hc hv (rt := rt) (cs := cs)
    have hlen := hx.length
    have hmul : n * k + q * k ≤ c * k := by rw [← Nat.add_mul]; exact Nat.mul_le_mul_right k hc
    have hlk : n * k ≤ l.length := by omega
    refine ⟨b, c, _, w', h1, h2, h3, .inl rfl, ?_, by rw [lay_length]; exact hl, hc⟩
    rw [lay_eq _ _ _ (by omega), List.take_append_of_le_length (by simp [Nat.add_mul, hlen]; omega), List.take_of_length_le (by simp [Nat.add_mul, hlen]; omega)]
  · obtain ⟨i, z, hi, hk, hz, hzs, hby, hby0⟩ := hT.i
    obtain ⟨e2, hu2⟩ := hT.u2
    obtain ⟨bx, cx, hxs⟩ := hx.len
    have hlen := hx.length
    have hmul : n * k ≤ c * k := Nat.mul_le_mul_right k hn
    obtain ⟨nc, hnc, hch⟩ := choose_run P w (n + q) c elem
    have hfc : (Builtin.firstCells k q x).run P (drw w) = .ok ys.toArray (drw w) := firstCells_run (P := P) (w := drw w) hx.drw
    have hold : (Builtin.firstCells k n (sl b 0 n c)).run P (drw w) = .ok (l.take (n * k)).toArray (drw w) := by
      have := firstCells_run (P := P) (src_at (w := w) (c := c) (h.get hj) (show 0 + n * k ≤ l.length by omega)).drw
      simpa using this
    have hlo : (Builtin.lenOf x).run P w = .ok q w := by rw [hxs]; rfl
    have hcap : ¬ (Builtin.nextslicecap (n + q) c * i.bytes > 2 ^ 48) := by
      have h1 := nextslicecap_le (n + q) c (by omega)
      have h2 : Builtin.nextslicecap (n + q) c * i.bytes ≤ (2 * 2 ^ 30 + 768) * 1000 := Nat.mul_le_mul (by omega) hby
      omega
    have h0 : ¬ (((n + q : Nat) : Int) > IntKind.i64.max ∧ (False ∨ i.bytes = 0)) := by
      rintro ⟨_, hh | hh⟩
      · exact hh
      · omega
    refine ⟨w.heap.size, nc, l.take (n * k) ++ ys ++ (Builtin.zeroCells z.cells (nc - (n + q))).toList, { drw w with heap := w.heap.push (.cells (l.take (n * k) ++ ys ++ (Builtin.zeroCells z.cells (nc - (n + q))).toList).toArray elem) }, ?_, ?_, ?_, .inr (Nat.le_refl _), ?_, ?_, hnc⟩
    · simp only [rawN, builtin, Builtin.append_]
      simp [und_run hT.u, und_run hu2, siz_run hi, hk, hlo, hc, inf_run hi, -run_choose]
      rw [if_neg (by simpa using h0), if_neg (by simpa using hcap)]
      simp [hch, hold, hfc, zero_ok hi hz, newRow, -run_choose]
      refine ⟨rfl, ?_⟩
      change w.heap.push _ = _
      congr 2
      apply Array.ext' <;> simp
    · exact h.put hj (S := fun _ => False) ((Ext.drw _ w).trans (Ext.push (fun _ => False) (drw w) _) (fun _ _ hf => hf) (fun _ _ hf => hf)) (fun _ _ hf => hf.elim) (At.new (drw w) _ _) (.inr (Nat.le_refl _))
    · exact ((Ext.drw (fun _ => False) w).trans (Ext.push (fun _ => False) (drw w) _) (fun _ _ hf => hf) (fun _ _ hf => hf)).mono fun _ _ hf => hf.elim
    · rw [List.take_append_of_le_length (by simp [Nat.add_mul, hlen]; omega), List.take_of_length_le (by simp [Nat.add_mul, hlen]; omega)]
    · simp [Builtin.zeroCells, hzs, hlen, Nat.min_eq_left (show n * k ≤ l.length by omega)]
      rw [← Nat.add_mul, ← Nat.add_mul]
      congr 1; omega


/-- append to nil. -/
theorem append_nil {P : Program} {a : Option Addr} {t t2 elem : TypeId} {k : Nat} (hT : AppT P t t2 elem k) {w : World} {m : List (Nat × List Value × TypeId)} (h : Hp w m)
    {q : Nat} {x : Value} {ys : List Value} (hx : Src w x q k ys) (hq : 0 < q) (hbd : q ≤ 2 ^ 30) {rt : TypeId} {cs : Array Bool} :
    ∃ c' l' w', rawN P (builtin .append #[t, t2] rt cs #[.slice a 0 0, x]) w = some (sl w.heap.size 0 q c', w') ∧ Hp w' (m ++ [(w.heap.size, l', elem)]) ∧ Ext (fun _ => False) w w' ∧
      l'.take (q * k) = ys ∧ l'.length = c' * k ∧ q ≤ c' ∧ w.heap.size < w'.heap.size := by
  obtain ⟨i, z, hi, hk, hz, hzs, hby, hby0⟩ := hT.i
  obtain ⟨e2, hu2⟩ := hT.u2
  obtain ⟨bx, cx, hxs⟩ := hx.len
  have hlen := hx.length
  obtain ⟨nc, hnc, hch⟩ := choose_run P w q 0 elem
  have hfc : (Builtin.firstCells k q x).run P (drw w) = .ok ys.toArray (drw w) := firstCells_run (P := P) (w := drw w) hx.drw
  have hlo : (Builtin.lenOf x).run P w = .ok q w := by rw [hxs]; rfl
  have hcap : ¬ (Builtin.nextslicecap q 0 * i.bytes > 2 ^ 48) := by
    have h1 := nextslicecap_le q 0 (by omega)
    have h2 : Builtin.nextslicecap q 0 * i.bytes ≤ (2 * 2 ^ 30 + 768) * 1000 := Nat.mul_le_mul (by omega) hby
    omega
  have h0 : ¬ (((q : Nat) : Int) > IntKind.i64.max ∧ i.bytes = 0) := by rintro ⟨_, hh⟩; omega
  have hne : q ≠ 0 := by omega
  have hE := (Ext.drw (fun _ => False) w).trans (Ext.push (fun _ => False) (drw w) (.cells (ys ++ (Builtin.zeroCells z.cells (nc - q)).toList).toArray elem)) (fun _ _ hf => hf) (T := fun _ => False) (fun _ _ hf => hf)
  refine ⟨nc, ys ++ (Builtin.zeroCells z.cells (nc - q)).toList, { drw w with heap := w.heap.push (.cells (ys ++ (Builtin.zeroCells z.cells (nc - q)).toList).toArray elem) }, ?_, ?_, hE, ?_, ?_, hnc, ?_⟩
  · simp only [rawN, builtin, Builtin.append_]
    simp [und_run hT.u, und_run hu2, siz_run hi, hk, hlo, hne, inf_run hi, -run_choose]
    rw [if_neg h0, if_neg (by simpa using hcap)]
    have hf0 : (Builtin.firstCells k 0 (.slice a 0 0)).run P (drw w) = .ok #[] (drw w) := by cases a <;> simp [Builtin.firstCells, loadCells, loadCellsFrom]
    simp [hch, hf0, hfc, zero_ok hi hz, newRow, -run_choose]
    refine ⟨rfl, ?_⟩
    change w.heap.push _ = _
    congr 2
    apply Array.ext' <;> simp
  · exact (h.drw).push _ _
  · rw [List.take_append_of_le_length (by omega), List.take_of_length_le (by omega)]
  · simp [Builtin.zeroCells, hzs, hlen]
    rw [← Nat.add_mul]; congr 1; omega
  · simp

theorem append_nil0 {P : Program} {a : Option Addr} {t t2 elem : TypeId} {k : Nat} (hT : AppT P t t2 elem k) {w : World} {x : Value} {ys : List Value} (hx : Src w x 0 k ys) {rt : TypeId} {cs : Array Bool} :
    rawN P (builtin .append #[t, t2] rt cs #[.slice a 0 0, x]) w = some (.slice a 0 0, w) := by
  obtain ⟨i, z, hi, hk, hz, hzs, hby, hby0⟩ := hT.i
  obtain ⟨e2, hu2⟩ := hT.u2
  obtain ⟨bx, cx, hxs⟩ := hx.len
  have hlo : (Builtin.lenOf x).run P w = .ok 0 w := by rw [hxs]; rfl
  have hfc := firstCells_run (P := P) hx
  have hys : ys = [] := by have := hx.length; simpa using this
  subst hys
  cases a <;> simp [rawN, builtin, Builtin.append_, und_run hT.u, und_run hu2, siz_run hi, hk, hlo, hfc, storeCells]

/-- append(s, make(S, q)...) where it must grow: a block of its own. -/
theorem append_make {P : Program} {t t2 elem : TypeId} {k : Nat} {ik : IntKind} (hT : P.underlying t = some (.slice elem)) {i : TypeInfo} {z : Value} (hi : P.info? elem = some i) (hk : i.size = k) (hz : i.zero = some z) (hzs : z.cells.size = k) (hby : i.bytes ≤ 1000) (hk0 : 0 < k)
    (hu2 : P.underlying t2 = some (.int ik)) {w : World} {m : List (Nat × List Value × TypeId)} (h : Hp w m) {j b : Nat} {l : List Value} {T : TypeId} (hj : m[j]? = some (b, l, T))
    {n c q : Nat} (hl : l.length = c * k) (hn : n ≤ c) (hc : c < n + q) (hq : 0 < q) (hbd : n + q ≤ 2 ^ 30) {rt : TypeId} {cs : Array Bool} :
    ∃ c' l' w', rawN P (builtin .append #[t, t2] rt cs #[sl b 0 n c, int q]) w = some (sl w.heap.size 0 (n + q) c', w') ∧ Hp w' (m ++ [(w.heap.size, l', elem)]) ∧ Ext (fun _ => False) w w' ∧
      l'.take (n * k) = l.take (n * k) ∧ l'.length = c' * k ∧ n + q ≤ c' ∧ w.heap.size < w'.heap.size := by
  have hmul : n * k ≤ c * k := Nat.mul_le_mul_right k hn
  obtain ⟨nc, hnc, hch⟩ := choose_run P w (n + q) c elem
  have hold : (Builtin.firstCells k n (sl b 0 n c)).run P (drw w) = .ok (l.take (n * k)).toArray (drw w) := by
    have := firstCells_run (P := P) (src_at (w := w) (c := c) (h.get hj) (show 0 + n * k ≤ l.length by omega)).drw
    simpa using this
  have hcap : ¬ (Builtin.nextslicecap (n + q) c * i.bytes > 2 ^ 48) := by
    have h1 := nextslicecap_le (n + q) c (by omega)
    have h2 : Builtin.nextslicecap (n + q) c * i.bytes ≤ (2 * 2 ^ 30 + 768) * 1000 := Nat.mul_le_mul (by omega) hby
    omega
  have h0 : ¬ (((n : Int) + (q : Int)) > IntKind.i64.max) := by rw [i64max]; omega
  have hwrap : IntKind.i64.wrap (q : Int) = q := by
    exact w64 (by omega) (by omega)
  have hq48 : ¬ ((q : Int) * (i.bytes : Int) > 2 ^ 48) := by
    have h2 : (q * i.bytes : Nat) ≤ 1073741824000 := Nat.le_trans (Nat.mul_le_mul (show q ≤ 1073741824 by omega) hby) (by decide)
    have h3 : ((q * i.bytes : Nat) : Int) = (q : Int) * (i.bytes : Int) := Int.natCast_mul _ _
    rw [← h3]
    omega
  have hqk : ¬ (q * k = 0) := by
    intro hh; rcases Nat.mul_eq_zero.1 hh with hh | hh <;> omega
  let row : List Value := l.take (n * k) ++ (Builtin.zeroCells z.cells q).toList ++ (Builtin.zeroCells z.cells (nc - (n + q))).toList
  have hE := (Ext.drw (fun _ => False) w).trans (Ext.push (fun _ => False) (drw w) (.cells row.toArray elem)) (fun _ _ hf => hf) (T := fun _ => False) (fun _ _ hf => hf)
  refine ⟨nc, row, { drw w with heap := w.heap.push (.cells row.toArray elem) }, ?_, (h.drw).push _ _, hE, ?_, ?_, hnc, by simp⟩
  · simp only [rawN, builtin, Builtin.append_]
    simp [und_run hT, und_run hu2, siz_run hi, hk, inf_run hi, asInt, asIntOf, hwrap, -run_choose]
    rw [if_neg (by omega), if_neg (by simpa using hq48)]
    simp [show ¬ n + q ≤ c from by omega, inf_run hi, -run_choose]
    rw [if_neg (by simpa using h0), if_neg (by simpa using hcap)]
    simp [hch, hold, zero_ok hi hz, newRow, hqk, -run_choose]
    refine ⟨rfl, ?_⟩
    change w.heap.push _ = _
    congr 2
    apply Array.ext' <;> simp [row]
  · simp only [row]
    rw [List.append_assoc, List.take_append_of_le_length (by simp; omega), List.take_take, Nat.min_self]
  · simp [row, Builtin.zeroCells, hzs, Nat.min_eq_left (show n * k ≤ l.length by omega)]
    rw [← Nat.add_mul, ← Nat.add_mul]; congr 1; omega

/-- copy into a known block. -/
theorem copy_ok {P : Program} {t t2 elem : TypeId} {i : TypeInfo} {k : Nat} (hT : P.underlying t = some (.slice elem)) (hi : P.info? elem = some i) (hk : i.size = k) {w : World} {m : List (Nat × List Value × TypeId)} (h : Hp w m) {j b : Nat} {l : List Value} {T : TypeId}
    (hj : m[j]? = some (b, l, T)) {o n c q : Nat} {x : Value} {bx : Option Addr} {cx : Nat} {ys : List Value} (hxs : x = .slice bx q cx) (hx : (Builtin.firstCells k (min q n) x).run P w = .ok ys.toArray w) (hys : ys.length = min q n * k) (hl : o + n * k ≤ l.length)
    (hv : ∀ y ∈ ys, one y = true) {rt : TypeId} {cs : Array Bool} :
    ∃ w', rawN P (builtin .copy #[t, t2] rt cs #[sl b o n c, x]) w = some (int (min q n : Nat), w') ∧ Hp w' (m.set j (b, lay l o ys, T)) ∧ Ext (fun d => d = b) w w' := by
  have hmin : min q n * k ≤ n * k := Nat.mul_le_mul_right k (Nat.min_le_right _ _)
  obtain ⟨w', hr, ha, he⟩ := storeCells_run (P := P) (o := o) ys 0 l w (h.get hj) (by omega) hv
  refine ⟨w', ?_, h.put hj he (fun _ _ hd => hd) (by simpa using ha) (.inl rfl), he⟩
  have hlo : (Builtin.lenOf x).run P w = .ok q w := by rw [hxs]; rfl
  have hx' : (Builtin.firstCells k (Nat.min q n) x).run P w = .ok ys.toArray w := hx
  simp [rawN, builtin, Builtin.copy_, und_run hT, siz_run hi, hk, hlo, hx', hr, goInt]

/-- a copy of nothing. -/
theorem copy_nil {P : Program} {t t2 elem : TypeId} {i : TypeInfo} (hT : P.underlying t = some (.slice elem)) (hi : P.info? elem = some i) {w : World} {x : Value} {bx : Option Addr} {q cx : Nat} (hxs : x = .slice bx q cx) {rt : TypeId} {cs : Array Bool} {c : Nat} :
    rawN P (builtin .copy #[t, t2] rt cs #[.slice none 0 c, x]) w = some (int 0, w) := by
  have hlo : (Builtin.lenOf x).run P w = .ok q w := by rw [hxs]; rfl
  have hf : (Builtin.firstCells i.size (Nat.min q 0) x).run P w = .ok #[] w := by
    rw [hxs]
    have : Nat.min q 0 = 0 := Nat.min_zero q
    rw [this]
    cases bx <;> simp [Builtin.firstCells, loadCells, loadCellsFrom]
  have h0 : Nat.min q 0 = 0 := Nat.min_zero q
  rw [h0] at hf
  simp only [rawN, builtin, Builtin.copy_]
  simp [und_run hT, siz_run hi, hlo, hf, goInt]

/-- clear: zeroes. -/
theorem clear_ok {P : Program} {t elem : TypeId} {i : TypeInfo} {z : Value} {k : Nat} (hT : P.underlying t = some (.slice elem)) (hi : P.info? elem = some i) (hz : i.zero = some z) (hzs : z.cells.size = k) (hz1 : ∀ y ∈ z.cells.toList, one y = true)
    {w : World} {m : List (Nat × List Value × TypeId)} (h : Hp w m) {j b : Nat} {l : List Value} {T : TypeId} (hj : m[j]? = some (b, l, T)) {o n c : Nat} (hl : o + n * k ≤ l.length) {rt : TypeId} {cs : Array Bool} :
    ∃ l' w', rawN P (builtin .clear #[t] rt cs #[sl b o n c]) w = some (.tuple #[], w') ∧ Hp w' (m.set j (b, l', T)) ∧ Ext (fun d => d = b) w w' ∧ l'.length = l.length ∧ l'.take o = l.take o := by
  cases n with
  | zero =>
    refine ⟨l, w, ?_, ?_, Ext.refl _ _, rfl, rfl⟩
    · simp [rawN, builtin, Builtin.clear_, und_run hT]
    · exact h.put hj (Ext.refl (fun d => d = b) w) (fun _ _ hd => hd) (h.get hj) (.inl rfl)
  | succ n =>
    have hzl : (Builtin.zeroCells z.cells (n + 1)).toList.length = (n + 1) * k := by simp [Builtin.zeroCells, hzs]
    have hz2 : ∀ y ∈ (Builtin.zeroCells z.cells (n + 1)).toList, one y = true := by
      intro y hy
      simp only [Builtin.zeroCells, Array.toList_map, List.mem_map, Array.mem_toList_iff, Array.mem_range] at hy
      obtain ⟨d, hd, rfl⟩ := hy
      have hpos : 0 < z.cells.size := by
        rcases Nat.eq_zero_or_pos z.cells.size with h0 | h0
        · rw [h0] at hd; simp at hd
        · exact h0
      have hlt : d % z.cells.size < z.cells.size := Nat.mod_lt _ hpos
      rw [getElem!_pos z.cells _ hlt]
      exact hz1 _ (by simp)
    obtain ⟨w', hr, ha, he⟩ := storeCells_run (P := P) (o := o) (Builtin.zeroCells z.cells (n + 1)).toList 0 l w (h.get hj) (by omega) hz2
    refine ⟨_, w', ?_, h.put hj he (fun _ _ hd => hd) (by simpa using ha) (.inl rfl), he, lay_length _ _ _, ?_⟩
    · simp [rawN, builtin, Builtin.clear_, und_run hT, zero_ok hi hz, hr]
    · rw [lay_eq _ _ _ (by omega), List.append_assoc, List.take_append_of_le_length (by simp; omega), List.take_take, Nat.min_self]

end Go.Cb
