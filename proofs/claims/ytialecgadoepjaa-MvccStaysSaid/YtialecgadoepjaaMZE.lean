import Derived.Test.YtialecgadoepjaaMZD
import Derived.Maps.RangeRun
/-
  A set of numbers: a map to true.
-/
set_option linter.unusedVariables false
set_option linter.unusedSimpArgs false
namespace Go.Cb
open Classical
variable {w : World} {F : List HP} {Q Q' : Value → World → Prop}

def mEl : List Int → Nat → List MapEntry
  | [], _ => []
  | k :: r, i => { key := int k, val := .bool true, born := i } :: mEl r (i + 1)
def mE (ks : List Int) : Array MapEntry := (mEl ks 0).toArray
def mset (m : Nat) (ks : List Int) : HP := ob m (.map (mE ks) ks.length)

theorem mEl_len : ∀ (ks : List Int) (i : Nat), (mEl ks i).length = ks.length
  | [], _ => rfl
  | k :: r, i => by simp [mEl, mEl_len r]
theorem mEl_get : ∀ (ks : List Int) (i n : Nat), (mEl ks i)[n]? = (ks[n]?).map fun k => { key := int k, val := .bool true, born := i + n }
  | [], i, n => by simp [mEl]
  | k :: r, i, 0 => by simp [mEl]
  | k :: r, i, n + 1 => by
    simp only [mEl, List.getElem?_cons_succ, mEl_get r (i + 1) n]
    congr 1
    funext x
    rw [show i + 1 + n = i + (n + 1) by omega]
theorem mEl_snoc : ∀ (ks : List Int) (i : Nat) (k : Int), mEl (ks ++ [k]) i = mEl ks i ++ [{ key := int k, val := .bool true, born := i + ks.length }]
  | [], i, k => rfl
  | x :: r, i, k => by
    simp only [List.cons_append, mEl, mEl_snoc r (i + 1) k]
    rw [show i + 1 + r.length = i + (x :: r).length by simp; omega]
theorem find_in (k : Int) : ∀ (ks : List Int) (i j : Nat), (k ∈ ks ∧ ∃ n, ks[n]? = some k ∧ Instr.findNow (.int .i64) (int k) (mEl ks i) j = some (some (j + n, .bool true))) ∨ (k ∉ ks ∧ Instr.findNow (.int .i64) (int k) (mEl ks i) j = some none)
  | [], i, j => .inr ⟨by simp, rfl⟩
  | x :: r, i, j => by
    by_cases h : k = x
    · subst h
      left
      refine ⟨by simp, 0, rfl, ?_⟩
      simp [mEl, Instr.findNow, Instr.sameNow]
    · have hb : (k == x) = false := by simpa using h
      rcases find_in k r (i + 1) (j + 1) with ⟨h1, n, h2, h3⟩ | ⟨h1, h2⟩
      · left
        refine ⟨by simp [h1], n + 1, by simpa using h2, ?_⟩
        simp only [mEl, Instr.findNow, Instr.sameNow, if_true, hb, h3]
        rw [show j + 1 + n = j + (n + 1) by omega]
      · right
        refine ⟨by simp [h, h1], ?_⟩
        simp only [mEl, Instr.findNow, Instr.sameNow, if_true, hb, h2]

theorem u163 : Pg.underlying 163 = some (.map 3 4) := by kernel_rfl
theorem u3' : Pg.underlying 3 = some (.int .i64) := by kernel_rfl
theorem zb4 : ∃ i z, Pg.info? 4 = some i ∧ i.zero = some z ∧ z = .bool false := by
  have h : ((Pg.info? 4).bind fun i => i.zero) = some (.bool false) := by kernel_rfl
  obtain ⟨i, hi, hz⟩ := Option.bind_eq_some_iff.1 h
  exact ⟨i, _, hi, hz, rfl⟩
theorem chk_key' {b : Bool} {k : Int} (n : Nat) : (Instr.checkKey b (n + 1) 3 (int k)).run Pg w = .ok () w := by
  simp [Instr.checkKey, und_run u3']
theorem chk_key {b : Bool} {k : Int} : (Instr.checkKey b 10000 3 (int k)).run Pg w = .ok () w := chk_key' 9999
theorem set_run {r : Nat} {o o' : Obj} (hr : w.heap[r]? = some o) (hn : nocell o = true) : (setObj r o').run Pg w = .ok () (World.putObj w r o') := by
  have hlt := (Array.getElem?_eq_some_iff.1 hr).1
  simp only [setObj, Sem.run, hr, World.putObj]
  cases o <;> first | rfl | exact absurd hn Bool.false_ne_true

theorem mget {m j : Nat} {ks : List Int} (hs : Sat w F) (hj : F[j]? = some (mset m ks)) (k : Int) : rawV Pg (Instr.lookup 163 (.map (some m)) (int k) false) w = some (.bool (decide (k ∈ ks)), w) := by
  have hat := (hs.foc hj).obAt
  obtain ⟨i, z, hi, hz, rfl⟩ := zb4
  have hrun : (Instr.lookup 163 (.map (some m)) (int k) false).run Pg w = .ok (.bool (decide (k ∈ ks))) w := by
    have hl : (mE ks).toList = mEl ks 0 := by simp [mE]
    rcases find_in k ks 0 0 with ⟨h1, n, h2, h3⟩ | ⟨h1, h2⟩
    · rw [decide_eq_true h1]
      have hf : (Instr.findKey 3 (int k) (mEl ks 0)).run Pg w = .ok (some (0 + n, .bool true)) w := by
        simp [Instr.findKey, und_run u3', h3]
      simp [Instr.lookup, und_run u163, getObj, Sem.run, hat, chk_key, hl, hf]
    · rw [decide_eq_false h1]
      have hf : (Instr.findKey 3 (int k) (mEl ks 0)).run Pg w = .ok none w := by
        simp [Instr.findKey, und_run u3', h2]
      simp [Instr.lookup, und_run u163, getObj, Sem.run, hat, chk_key, hl, hf, zero_ok hi hz]
  simp [rawV, hrun]

theorem mod_same {es : Array MapEntry} {n : Nat} {f : MapEntry → MapEntry} (h : ∀ e, es[n]? = some e → f e = e) : es.modify n f = es := by
  apply Array.ext_getElem?
  intro i
  rw [Array.getElem?_modify]
  split
  · rename_i hi
    subst hi
    cases he : es[n]? with
    | none => rfl
    | some e => simp [h e he]
  · rfl
theorem go_mput {m j : Nat} {ks : List Int} (hs : Sat w F) (hj : F[j]? = some (mset m ks)) (k : Int) {κ : Value → World → R} (hκ : ∀ w', Sat w' (F.set j (mset m (if k ∈ ks then ks else ks ++ [k]))) → Sm w w' → Ok (κ undef w') Q) :
    Ok (rd2 (rawU Pg (Instr.mapUpdate 163 (.map (some m)) (int k) (.bool true)) w) κ) Q := by
  have hf := hs.foc hj
  have hat := hf.obAt
  have hl : (mE ks).toList = mEl ks 0 := by simp [mE]
  rcases find_in k ks 0 0 with ⟨h1, n, h2, h3⟩ | ⟨h1, h2⟩
  · have hfk : (Instr.findKey 3 (int k) (mEl ks 0)).run Pg w = .ok (some (0 + n, .bool true)) w := by
      simp [Instr.findKey, und_run u3', h3]
    have hen : (mE ks)[n]? = some { key := int k, val := .bool true, born := 0 + n } := by
      have := mEl_get ks 0 n
      rw [h2] at this
      simpa [mE] using this
    have hks : (Instr.keyThatStays (int k) (int k)).run Pg w = .ok (int k) w := by
      simp [Instr.keyThatStays, Instr.sameBits]
    have hmod : (mE ks).modify n (fun e => { e with key := int k, val := .bool true }) = mE ks := mod_same fun e he => by
      have he2 := Option.some.inj (hen.symm.trans he)
      rw [← he2]
    have hrun : (Instr.mapUpdate 163 (.map (some m)) (int k) (.bool true)).run Pg w = .ok () (World.putObj w m (.map (mE ks) ks.length)) := by
      have hset := set_run (o' := .map (mE ks) ks.length) hat rfl
      simp only [Instr.mapUpdate, Sem.run_bind, und_run u163, Result.andThen_ok, getObj, Sem.run, hat, Result.andThen, chk_key, hl, hfk, Nat.zero_add, hen, Option.map_some, Option.getD_some, hks, hmod, hset]
    rw [if_pos h1] at hκ
    obtain ⟨g, s⟩ := hf.obPut (o' := .map (mE ks) ks.length) rfl rfl
    refine Ok.rd2 (v := undef) (w := World.putObj w m (.map (mE ks) ks.length)) ?_ (hκ _ (Sat.unf hj g) s)
    unfold rawU; rw [hrun]
  · have hfk : (Instr.findKey 3 (int k) (mEl ks 0)).run Pg w = .ok none w := by
      simp [Instr.findKey, und_run u3', h2]
    have hpush : (mE ks).push { key := int k, val := .bool true, born := ks.length } = mE (ks ++ [k]) := by
      apply Array.ext'
      simp [mE, mEl_snoc]
    have hrun : (Instr.mapUpdate 163 (.map (some m)) (int k) (.bool true)).run Pg w = .ok () (World.putObj w m (.map (mE (ks ++ [k])) (ks ++ [k]).length)) := by
      have hset := set_run (o' := .map (mE (ks ++ [k])) (ks ++ [k]).length) hat rfl
      have hlen : ks.length + 1 = (ks ++ [k]).length := by simp
      simp only [Instr.mapUpdate, Sem.run_bind, und_run u163, Result.andThen_ok, getObj, Sem.run, hat, Result.andThen, chk_key, hl, hfk, hpush, hlen, hset]
    rw [if_neg h1] at hκ
    obtain ⟨g, s⟩ := hf.obPut (o' := .map (mE (ks ++ [k])) (ks ++ [k]).length) rfl rfl
    refine Ok.rd2 (v := undef) (w := World.putObj w m (.map (mE (ks ++ [k])) (ks ++ [k]).length)) ?_ (hκ _ (Sat.unf hj g) s)
    unfold rawU; rw [hrun]
theorem go_mmake (hs : Sat w F) {κ : Value → World → R} (hκ : ∀ m w', Sat w' (mset m [] :: F) → Sm w w' → Ok (κ (.map (some m)) w') Q) : Ok (rd2 (rawV Pg (Instr.makeMap 163 none) w) κ) Q := by
  obtain ⟨g, s⟩ := hs.obNew (o := .map #[] 0) rfl
  refine Ok.rd2 (v := .map (some w.heap.size)) (w := World.push w (.map #[] 0)) ?_ (hκ _ _ g s)
  rfl
end Go.Cb

/-
  A range over a set of numbers.
-/
set_option linter.unusedVariables false
set_option linter.unusedSimpArgs false
namespace Go.Cb
open Classical
variable {w : World} {F : List HP} {Q Q' : Value → World → Prop}

def mit (r m n : Nat) (seen : Array Nat) : HP := ob r (.mapIter (some m) n seen n)

theorem mE_mem {ks : List Int} {e : MapEntry} (h : e ∈ (mE ks).toList) : ∃ (n : Nat) (k : Int), ks[n]? = some k ∧ e = { key := int k, val := .bool true, born := n } := by
  have hl : (mE ks).toList = mEl ks 0 := by simp [mE]
  rw [hl] at h
  obtain ⟨n, hn⟩ := List.getElem?_of_mem h
  rw [mEl_get, Nat.zero_add] at hn
  obtain ⟨k, hk, rfl⟩ := Option.map_eq_some_iff.1 hn
  exact ⟨n, k, hk, rfl⟩
theorem mE_born (ks : List Int) : ∀ x ∈ (mE ks).toList, x.born < ks.length := by
  intro x hx
  obtain ⟨n, k, hk, rfl⟩ := mE_mem hx
  exact (List.getElem?_eq_some_iff.1 hk).1
theorem mE_nodup (ks : List Int) : ((mE ks).toList.map (·.born)).Nodup := by
  have hl : (mE ks).toList = mEl ks 0 := by simp [mE]
  rw [hl]
  have : ∀ (ks : List Int) (i : Nat), (mEl ks i).map (·.born) = List.range' i ks.length := by
    intro ks
    induction ks with
    | nil => intro i; rfl
    | cons k r ih => intro i; simp [mEl, ih, List.range'_succ]
  rw [this]
  exact List.nodup_range'

theorem go_range {m j : Nat} {ks : List Int} (hs : Sat w F) (hj : F[j]? = some (mset m ks)) {κ : Value → World → R} (hκ : ∀ r w', Sat w' (mit r m ks.length #[] :: F) → Sm w w' → Ok (κ (ptr r 0) w') Q) :
    Ok (rd2 (rawV Pg (Instr.range 163 (.map (some m))) w) κ) Q := by
  have hat := (hs.foc hj).obAt
  obtain ⟨g, s⟩ := hs.obNew (o := .mapIter (some m) ks.length #[] ks.length) rfl
  refine Ok.rd2 (v := ptr w.heap.size 0) (w := World.push w (.mapIter (some m) ks.length #[] ks.length)) ?_ (hκ _ _ g s)
  have hrun : (Instr.range 163 (.map (some m))).run Pg w = .ok (ptr w.heap.size 0) (World.push w (.mapIter (some m) ks.length #[] ks.length)) := by
    simp only [Instr.range, Sem.run_bind, und_run u163, Result.andThen_ok, getObj, Sem.run, hat, Result.andThen]
    rfl
  unfold rawV
  rw [hrun]

theorem go_next {r m i j : Nat} {ks : List Int} {seen : Array Nat} {ty : TypeId} (hs : Sat w F) (hi : F[i]? = some (mit r m ks.length seen)) (hj : F[j]? = some (mset m ks)) {κ : Value → World → R}
    (h0 : (∀ n, n < ks.length → n ∈ seen) → Ok (κ (.tuple #[.bool false]) w) Q)
    (h1 : ∀ (n : Nat) (k : Int) (w' : World), ks[n]? = some k → n ∉ seen → Sat w' (F.set i (mit r m ks.length (seen.push n))) → Sm w w' → Ok (κ (.tuple #[.bool true, int k, .bool true]) w') Q) :
    Ok (rd2 (rawV Pg (Instr.next (ptr r 0) false ty) w) κ) Q := by
  have hfi := hs.foc hi
  have hati := hfi.obAt
  have hatj := (hs.foc hj).obAt
  rcases run_next_at (P := Pg) w ty r m ks.length ks.length seen (mE ks) ks.length hati hatj (mE_born ks) (Nat.le_refl _) with ⟨hz, hrun⟩ | ⟨e, he, w1, hw1, hrun⟩
  · refine Ok.rd2 (v := .tuple #[.bool false]) (w := w) (by unfold rawV; rw [hrun]) (h0 fun n hn => ?_)
    have hemp : leftOf (mE ks) seen = #[] := Array.eq_empty_of_size_eq_zero hz
    unfold leftOf at hemp
    rw [Array.filter_eq_empty_iff] at hemp
    have hen : (mE ks)[n]? = some { key := int ks[n], val := .bool true, born := n } := by
      have := mEl_get ks 0 n
      rw [List.getElem?_eq_getElem hn, Nat.zero_add] at this
      simpa [mE] using this
    have hmem := Array.mem_of_getElem? hen
    have := hemp _ hmem
    simpa using this
  · unfold leftOf at he
    rw [Array.mem_toList_iff, Array.mem_filter] at he
    obtain ⟨n, k, hk, rfl⟩ := mE_mem (Array.mem_toList_iff.2 he.1)
    have hns : n ∉ seen := by have := he.2; simpa using this
    have hset : Go.ChangeMaps.setBlock w1 r (.mapIter (some m) ks.length (seen.push n) ks.length) = World.putObj w1 r (.mapIter (some m) ks.length (seen.push n) ks.length) := rfl
    rw [hset] at hrun
    have hf1 : Sat w1 (mit r m ks.length seen :: F.eraseIdx i) := by
      rcases hw1 with rfl | rfl
      · exact hfi
      · exact hfi.drw
    have hs1 : Sm w w1 := by
      rcases hw1 with rfl | rfl
      · exact Sm.refl _
      · exact ⟨rfl, rfl, rfl, fun _ => rfl⟩
    obtain ⟨g, s⟩ := hf1.obPut (o' := .mapIter (some m) ks.length (seen.push n) ks.length) rfl rfl
    exact Ok.rd2 (v := .tuple #[.bool true, int k, .bool true]) (w := World.putObj w1 r (.mapIter (some m) ks.length (seen.push n) ks.length)) (by unfold rawV; rw [hrun]) (h1 n k _ hk hns (Sat.unf hi g) (hs1.trans s))

theorem entry_at {r m i j n : Nat} {k : Int} {ks : List Int} {seen : Array Nat} (hs : Sat w F) (hi : F[i]? = some (mit r m ks.length (seen.push n))) (hj : F[j]? = some (mset m ks)) (hk : ks[n]? = some k) :
    rawV Pg (Instr.entry (ptr r 0)) w = some (.tuple #[int k, .bool true], w) := by
  have hati := (hs.foc hi).obAt
  have hatj := (hs.foc hj).obAt
  have hen : (mE ks)[n]? = some { key := int k, val := .bool true, born := n } := by
    have := mEl_get ks 0 n
    rw [hk, Nat.zero_add] at this
    simpa [mE] using this
  have hrun := run_entry_at (P := Pg) w r m ks.length seen (mE ks) ks.length { key := int k, val := .bool true, born := n } hati hatj (Array.mem_toList_iff.2 (Array.mem_of_getElem? hen)) (mE_nodup ks)
  have hrun : (Instr.entry (ptr r 0)).run Pg w = .ok (.tuple #[int k, .bool true]) w := hrun
  unfold rawV
  rw [hrun]
end Go.Cb

/-
  Steps of a walk that are found by themselves: fields, loads, stores, new blocks, gates, picks.
-/
set_option linter.unusedVariables false
set_option linter.unusedSimpArgs false
namespace Go.Cb
variable {w w0 : World} {F : List HP} {Q Q' : Value → World → Prop}

/-! ### What is known of types and values -/

class Sc (t : Nat) : Prop where
  a : aggT Pg t = some false
  s : szb Pg t 1 = true
class Ag (t : Nat) (n : outParam Nat) : Prop where
  a : aggT Pg t = some true
  s : tyB Pg t n = true
class Fl (t f : Nat) (k : outParam Nat) : Prop where
  h : ∀ a : Addr, fldA Pg t (.pointer (some a)) f = some (.pointer (some (a.add k)))
class Ze (t : Nat) (l : outParam (List Value)) : Prop where
  h : zeroL Pg t = some l
class Sls (t : Nat) (e k : outParam Nat) : Prop where
  h : SlT Pg t e k
class Un (t : Nat) (u : outParam TypeDesc) : Prop where
  h : Pg.underlying t = some u
class Bv (t : Nat) (ps : List (Nat × Value)) (v : outParam Value) : Prop where
  h : bldV Pg t ps = some v
class On (v : Value) : Prop where
  h : one v = true
instance On.int {k : IntKind} {n : Int} : On (.int k n) := ⟨rfl⟩
instance On.bool {b : Bool} : On (.bool b) := ⟨rfl⟩
instance On.string {s : ByteArray} : On (.string s) := ⟨rfl⟩
instance On.pointer {a : Option Addr} : On (.pointer a) := ⟨rfl⟩
instance On.slice {a : Option Addr} {n c : Nat} : On (.slice a n c) := ⟨rfl⟩
instance On.map {a : Option Nat} : On (.map a) := ⟨rfl⟩
instance On.func {f : Go.Fn} {a b : Array Value} : On (.func f a b) := ⟨rfl⟩
instance On.v1 {x : V1} : On x.1 := ⟨x.2⟩
class Ons (l : List Value) : Prop where
  h : ∀ v ∈ l, one v = true
instance Ons.nil : Ons [] := ⟨fun v h => by simp at h⟩
instance Ons.cons {v : Value} {l : List Value} [h : On v] [h' : Ons l] : Ons (v :: l) := ⟨fun x hx => by
  rcases List.mem_cons.1 hx with rfl | hx
  · exact h.h
  · exact h'.h x hx⟩
/-- the first n of a list from place o on. -/
class Tk (l : List Value) (o n : Nat) (r : outParam (List Value)) : Prop where
  h : (l.drop o).take n = r ∧ o + n ≤ l.length
instance Tk.zero {l : List Value} : Tk l 0 0 [] := ⟨by simp, by simp⟩
instance Tk.take {x : Value} {l r : List Value} {n : Nat} [h : Tk l 0 n r] : Tk (x :: l) 0 (n + 1) (x :: r) := ⟨by
  have := h.h.1
  simpa using this, by have := h.h.2; simp at this ⊢; omega⟩
instance Tk.drop {x : Value} {l r : List Value} {o n : Nat} [h : Tk l o n r] : Tk (x :: l) (o + 1) n r := ⟨by
  have := h.h.1
  simpa using this, by have := h.h.2; simp at this ⊢; omega⟩

/-! ### What lies where -/

class Bl (F : List HP) (b : Nat) (l : outParam (List Value)) (T : outParam TypeId) : Prop where
  h : ∃ k : Nat, F[k]? = some (pt b l T)
instance Bl.here {b : Nat} {l : List Value} {T : TypeId} : Bl (pt b l T :: F) b l T := ⟨0, rfl⟩
instance Bl.there {b : Nat} {l : List Value} {T : TypeId} {A : HP} [h : Bl F b l T] : Bl (A :: F) b l T := let ⟨k, hk⟩ := h.h; ⟨k + 1, hk⟩
class Kn (F : List HP) (K : outParam Hl) : Prop where
  h : ∃ k : Nat, F[k]? = some (kn K)
instance Kn.here {K : Hl} : Kn (kn K :: F) K := ⟨0, rfl⟩
instance Kn.there {K : Hl} {A : HP} [h : Kn F K] : Kn (A :: F) K := let ⟨k, hk⟩ := h.h; ⟨k + 1, hk⟩
/-- block b, and what becomes of the list if it is turned. -/
class Bs (F : List HP) (b : Nat) (l : outParam (List Value)) (T : outParam TypeId) (G : outParam (List Value → List HP)) : Prop where
  h : ∃ k : Nat, F[k]? = some (pt b l T) ∧ ∀ x, F.set k (pt b x T) = G x
instance Bs.here {b : Nat} {l : List Value} {T : TypeId} : Bs (pt b l T :: F) b l T (fun x => pt b x T :: F) := ⟨0, rfl, fun _ => rfl⟩
instance Bs.there {b : Nat} {l : List Value} {T : TypeId} {A : HP} {G : List Value → List HP} [h : Bs F b l T G] : Bs (A :: F) b l T (fun x => A :: G x) :=
  let ⟨k, hk, hg⟩ := h.h; ⟨k + 1, hk, fun x => by rw [List.set_cons_succ, hg]⟩
/-- a slice's rows; and what becomes of the list if they are turned. -/
class Ss (F : List HP) (v : Value) (e k : outParam Nat) (α : outParam Type) (enc : outParam (α → List Value)) (xs : outParam (List α)) : Prop where
  h : ∃ j : Nat, F[j]? = some (slH e k enc v xs)
instance Ss.here {v : Value} {e k : Nat} {α : Type} {enc : α → List Value} {xs : List α} : Ss (slH e k enc v xs :: F) v e k α enc xs := ⟨0, rfl⟩
instance Ss.there {v : Value} {e k : Nat} {α : Type} {enc : α → List Value} {xs : List α} {A : HP} [h : Ss F v e k α enc xs] : Ss (A :: F) v e k α enc xs := let ⟨j, hj⟩ := h.h; ⟨j + 1, hj⟩
class Sp (F : List HP) (v : Value) (e k : outParam Nat) (α : outParam Type) (enc : outParam (α → List Value)) (xs : outParam (List α)) (G : outParam (Value → List α → List HP)) : Prop where
  h : ∃ j : Nat, F[j]? = some (slH e k enc v xs) ∧ ∀ u ys, F.set j (slH e k enc u ys) = G u ys
instance Sp.here {v : Value} {e k : Nat} {α : Type} {enc : α → List Value} {xs : List α} : Sp (slH e k enc v xs :: F) v e k α enc xs (fun u ys => slH e k enc u ys :: F) := ⟨0, rfl, fun _ _ => rfl⟩
instance Sp.there {v : Value} {e k : Nat} {α : Type} {enc : α → List Value} {xs : List α} {A : HP} {G : Value → List α → List HP} [h : Sp F v e k α enc xs G] : Sp (A :: F) v e k α enc xs (fun u ys => A :: G u ys) :=
  let ⟨j, hj, hg⟩ := h.h; ⟨j + 1, hj, fun u ys => by rw [List.set_cons_succ, hg]⟩

theorem Sat.kn {K : Hl} [h : Kn F K] (hs : Sat w F) : K.on w := let ⟨_, hk⟩ := h.h; kn_on hs hk
/-- known cells. -/
def PtK (K : Hl) (p : Addr) (l : List Value) : Prop := ∀ w, K.on w → cellsAt w p 0 l.length = some l
theorem PtK.mono {K K' : Hl} {p : Addr} {l : List Value} (h : PtK K p l) (hl : Le K K') : PtK K' p l := fun w hw => h w (hl w hw)
theorem cellsAt_get' : ∀ (k i : Nat) {w : World} {p : Addr} {l : List Value}, cellsAt w p i k = some l → l.length = k ∧ ∀ j, j < k → w.cell? (p.add (i + j)) = l[j]?
  | 0, i, w, p, l, h => by
    have : some [] = some l := h
    injection this with this
    subst this
    exact ⟨rfl, fun j hj => absurd hj (Nat.not_lt_zero _)⟩
  | k + 1, i, w, p, l, h => by
    unfold cellsAt at h
    obtain ⟨x, hx, h⟩ := Option.bind_eq_some_iff.1 h
    obtain ⟨l', hl', rfl⟩ := Option.map_eq_some_iff.1 h
    obtain ⟨h1, h2⟩ := cellsAt_get' k (i + 1) hl'
    refine ⟨by simp [h1], fun j hj => ?_⟩
    cases j with
    | zero => simpa using hx
    | succ j =>
      have := h2 j (by omega)
      rw [show i + 1 + j = i + (j + 1) by omega] at this
      simpa using this
theorem cellsAt_mk' : ∀ (k i : Nat) {w : World} {p : Addr} {l : List Value}, l.length = k → (∀ j, j < k → w.cell? (p.add (i + j)) = l[j]?) → cellsAt w p i k = some l
  | 0, i, w, p, l, h, _ => by rw [List.length_eq_zero_iff.1 h]; rfl
  | k + 1, i, w, p, [], h, _ => by simp at h
  | k + 1, i, w, p, x :: l, h, hj => by
    unfold cellsAt
    have h0 := hj 0 (by omega)
    simp only [Nat.add_zero, List.getElem?_cons_zero] at h0
    rw [h0, cellsAt_mk' k (i + 1) (l := l) (by simpa using h) fun j hlt => by
      have := hj (j + 1) (by omega)
      rw [show i + (j + 1) = i + 1 + j by omega] at this
      simpa using this]
    rfl

theorem addA (a : Addr) (x y : Nat) : (a.add x).add y = a.add (x + y) := by
  by_cases h1 : x = 0
  · subst h1; simp [Addr.add]
  · by_cases h2 : y = 0
    · subst h2; simp [Addr.add, h1]
    · simp [Addr.add, h1, h2, Nat.add_assoc]

/-! ### A walk's goal: what lies there, and what came of the world so far -/

def Go (w0 : World) (F : List HP) (w : World) (r : R) (Q : Value → World → Prop) : Prop := Sat w F → Sm w0 w → Ok r Q
theorem Ok.go {r : R} (hs : Sat w F) (hm : Sm w0 w) (h : Go w0 F w r Q) : Ok r Q := h hs hm
theorem Go.ok {r : R} (h : Sat w F → Sm w0 w → Ok r Q) : Go w0 F w r Q := h
theorem Go.mono {r : R} (h : Go w0 F w r Q) (hq : ∀ v w', Q v w' → Q' v w') : Go w0 F w r Q' := fun a b => (h a b).mono hq
theorem Go.re {r : R} (ix : List Nat) (hp : ix.Perm (List.range ix.length)) (h : Go w0 (ix.map (fun i => F.getD i Cb.emp) ++ F.drop ix.length) w r Q) : Go w0 F w r Q := fun hs hm => h (hs.re ix hp) hm
theorem Go.dr {A : HP} {r : R} (h : Go w0 F w r Q) : Go w0 (A :: F) w r Q := fun hs hm => h hs.drop hm
theorem Go.keep {r : R} (h : Sat w F → Sm w0 w → Go w0 F w r Q) : Go w0 F w r Q := fun hs hm => h hs hm hs hm
theorem Go.ret {v : Value} (h : Sat w F → Sm w0 w → Q v w) : Go w0 F w (some (v, w)) Q := fun hs hm => ⟨_, _, rfl, h hs hm⟩

section
variable {κ : Value → R} {κ2 : Value → World → R}

theorem Go.rd {α : Type} {o : Option α} {k : α → R} {a : α} (h : o = some a) (hk : Go w0 F w (k a) Q) : Go w0 F w (Cb.rd o k) Q := by subst h; exact hk
theorem Go.rd2 {o : R} {v : Value} (h : o = some (v, w)) (hk : Go w0 F w (κ2 v w) Q) : Go w0 F w (Cb.rd2 o κ2) Q := by subst h; exact hk
/-- a call whose contract is known. -/
theorem Go.bind {o : R} {Q1 : Value → World → Prop} (hc : Sat w F → Ok o Q1) (hk : ∀ v w', Q1 v w' → Sm w0 w → Ok (κ2 v w') Q) : Go w0 F w (Cb.rd2 o κ2) Q := fun hs hm => Ok.bind (hc hs) fun v w' hq => hk v w' hq hm
theorem Go.fl {t f k b o : Nat} [h0 : Fl t f k] (h : Go w0 F w (κ (ptr b (o + k))) Q) : Go w0 F w (Cb.rd (fldA Pg t (ptr b o) f) κ) Q := Go.rd ((h0.h _).trans (by rw [show (⟨b, o, none⟩ : Addr) = ad b o from rfl, add_ad])) h
theorem Go.fla {t f k : Nat} {a : Addr} [h0 : Fl t f k] (h : Go w0 F w (κ (.pointer (some (a.add k)))) Q) : Go w0 F w (Cb.rd (fldA Pg t (.pointer (some a)) f) κ) Q := Go.rd (h0.h _) h
theorem Go.fla2 {t f k k0 : Nat} {a : Addr} [h0 : Fl t f k] (h : Go w0 F w (κ (.pointer (some (a.add (k0 + k))))) Q) : Go w0 F w (Cb.rd (fldA Pg t (.pointer (some (a.add k0))) f) κ) Q := by
  refine Go.rd (h0.h _) ?_
  rw [addA]; exact h
theorem ld_of {t b o : Nat} {l : List Value} {T : TypeId} {v : Value} [h0 : Sc t] [h1 : Bl F b l T] (hs : Sat w F) (hv : l[o]? = some v) : ldV Pg t (ptr b o) w = some v := by
  obtain ⟨k, hk⟩ := h1.h
  exact ((ldV_sc h0.a _ _).trans ((hs.foc hk).at.cell o)).trans hv
theorem Go.ls {t b o : Nat} {l : List Value} {T : TypeId} {v : Value} [h0 : Sc t] [h1 : Bl F b l T] (hv : l[o]? = some v) (h : Go w0 F w (κ v) Q) : Go w0 F w (Cb.rd (ldV Pg t (ptr b o) w) κ) Q := fun hs hm => Ok.rd (ld_of hs hv) (h hs hm)
theorem lda_of {t n b : Nat} {l : List Value} {T : TypeId} [h0 : Ag t n] [h1 : Bl F b l T] (hs : Sat w F) (hn : l.length = n) : ldV Pg t (ptr b 0) w = some (.agg l.toArray) := by
  obtain ⟨k, hk⟩ := h1.h
  exact ld_agg h0.a h0.s hn hs k hk
theorem Go.la {t n b : Nat} {l : List Value} {T : TypeId} [h0 : Ag t n] [h1 : Bl F b l T] (hn : l.length = n) (h : Go w0 F w (κ (.agg l.toArray)) Q) : Go w0 F w (Cb.rd (ldV Pg t (ptr b 0) w) κ) Q := fun hs hm => Ok.rd (lda_of hs hn) (h hs hm)
theorem lap_of {t n b o : Nat} {l vs : List Value} {T : TypeId} [h0 : Ag t n] [h1 : Bl F b l T] [h2 : Tk l o n vs] (hs : Sat w F) : ldV Pg t (ptr b o) w = some (.agg vs.toArray) := by
  obtain ⟨k, hk⟩ := h1.h
  obtain ⟨i, z, g1, g2, _⟩ := ty_of h0.s
  rw [at_load (hs.foc hk).at (o := o) (n := n) h2.h.2 h0.a g1 g2, h2.h.1]
theorem Go.lap {t n b o : Nat} {l vs : List Value} {T : TypeId} [h0 : Ag t n] [h1 : Bl F b l T] [h2 : Tk l o n vs] (h : Go w0 F w (κ (.agg vs.toArray)) Q) : Go w0 F w (Cb.rd (ldV Pg t (ptr b o) w) κ) Q := fun hs hm => Ok.rd (lap_of hs) (h hs hm)

/-! known cells -/
theorem ldk_of {K : Hl} {t o : Nat} {p : Addr} {l : List Value} {v : Value} [h0 : Sc t] [h1 : Kn F K] (hs : Sat w F) (hp : PtK K p l) (hv : l[o]? = some v) : ldV Pg t (.pointer (some (p.add o))) w = some v := by
  obtain ⟨g1, g2⟩ := cellsAt_get' _ _ (hp w hs.kn)
  have ho := (List.getElem?_eq_some_iff.1 hv).1
  rw [ldV_sc h0.a, ← hv, ← g2 o ho, Nat.zero_add]
theorem Go.lk {K : Hl} {t o : Nat} {p : Addr} {l : List Value} {v : Value} [h0 : Sc t] [h1 : Kn F K] (hp : PtK K p l) (hv : l[o]? = some v) (h : Go w0 F w (κ v) Q) : Go w0 F w (Cb.rd (ldV Pg t (.pointer (some (p.add o))) w) κ) Q := fun hs hm => Ok.rd (ldk_of hs hp hv) (h hs hm)
theorem Go.lk0 {K : Hl} {t : Nat} {p : Addr} {l : List Value} {v : Value} [h0 : Sc t] [h1 : Kn F K] (hp : PtK K p l) (hv : l[0]? = some v) (h : Go w0 F w (κ v) Q) : Go w0 F w (Cb.rd (ldV Pg t (.pointer (some p)) w) κ) Q := fun hs hm => Ok.rd (by
  have h3 : p.add 0 = p := by simp [Addr.add]
  have h4 : ldV Pg t (.pointer (some (p.add 0))) w = some v := ldk_of hs hp hv
  rw [h3] at h4
  exact h4) (h hs hm)
theorem ldka_of {K : Hl} {t n : Nat} {p : Addr} {l : List Value} [h0 : Ag t n] [h1 : Kn F K] (hs : Sat w F) (hp : PtK K p l) (hn : l.length = n) : ldV Pg t (.pointer (some p)) w = some (.agg l.toArray) := by
  obtain ⟨i, z, g1, g2, _⟩ := ty_of h0.s
  rw [ldV_ag h0.a g1, g2, ← hn, hp w hs.kn, Option.map_some]
theorem Go.lka {K : Hl} {t n : Nat} {p : Addr} {l : List Value} [h0 : Ag t n] [h1 : Kn F K] (hp : PtK K p l) (hn : l.length = n) (h : Go w0 F w (κ (.agg l.toArray)) Q) : Go w0 F w (Cb.rd (ldV Pg t (.pointer (some p)) w) κ) Q := fun hs hm => Ok.rd (ldka_of hs hp hn) (h hs hm)
theorem Go.lkp {K : Hl} {t n o : Nat} {p : Addr} {l vs : List Value} [h0 : Ag t n] [h1 : Kn F K] (hp : PtK K p l) [h2 : Tk l o n vs] (h : Go w0 F w (κ (.agg vs.toArray)) Q) : Go w0 F w (Cb.rd (ldV Pg t (.pointer (some (p.add o))) w) κ) Q := fun hs hm => Ok.rd (by
  obtain ⟨i, z, g1, g2, _⟩ := ty_of h0.s
  obtain ⟨g3, g4⟩ := cellsAt_get' _ _ (hp w hs.kn)
  have ht := h2.h.2
  have hl : vs.length = n := by rw [← h2.h.1, List.length_take, List.length_drop]; omega
  rw [ldV_ag h0.a g1, g2]
  rw [cellsAt_mk' n 0 hl fun j hj => ?_]
  · rw [Option.map_some]
  · rw [addA, show o + (0 + j) = 0 + (o + j) by omega, g4 (o + j) (by omega), ← h2.h.1, List.getElem?_take, if_pos hj, List.getElem?_drop]) (h hs hm)
theorem Go.ixr {K : Hl} {t k i : Nat} {α : Type} {enc : α → List Value} {v : Value} {xs : List α} {x : α} (hr : RdS K t k enc v xs) (hx : xs[i]? = some x) (hk : (enc x).length = k) (h : ∀ p, PtK K p (enc x) → Go w0 F w (κ (.pointer (some p))) Q) : Go w0 F w (Cb.rd (ixA Pg t v (int i)) κ) Q := by
  obtain ⟨p, h1, h2⟩ := hr.ix i x hx
  exact Go.rd h1 (h p fun w hw => by rw [hk]; exact h2 w hw)

theorem RdS.get {K : Hl} {t k i : Nat} {α : Type} {enc : α → List Value} {v : Value} {xs : List α} {x : α} (hr : RdS K t k enc v xs) (hx : xs[i]? = some x) (hk : (enc x).length = k) : ∃ p, ixA Pg t v (int i) = some (.pointer (some p)) ∧ PtK K p (enc x) := by
  obtain ⟨p, h1, h2⟩ := hr.ix i x hx
  exact ⟨p, h1, fun w hw => by rw [hk]; exact h2 w hw⟩

/-! stores, new blocks -/
theorem Go.st {t b o : Nat} {l : List Value} {T : TypeId} {v : Value} {G : List Value → List HP} [h0 : Sc t] [h1 : Bs F b l T G] [h2 : On v] (ho : o < l.length) (h : ∀ w', Go w0 (G (l.set o v)) w' (κ2 undef w') Q) : Go w0 F w (Cb.rd2 (rawU Pg (Instr.storeAt t (ptr b o) v) w) κ2) Q := fun hs hm => by
  obtain ⟨k, hk, hg⟩ := h1.h
  obtain ⟨w1, m1, t1, s1⟩ := st_one (P := Pg) (t := t) (sz_of h0.s) hs k hk ho h2.h
  rw [hg] at t1
  exact Ok.rd2 m1 (h w1 t1 (hm.trans s1))
theorem Go.sta {t b n : Nat} {l cs : List Value} {T : TypeId} {G : List Value → List HP} [h0 : Ag t n] [h1 : Bs F b l T G] [h2 : Ons cs] (hl : l.length = n) (hc : cs.length = n) (h : ∀ w', Go w0 (G cs) w' (κ2 undef w') Q) : Go w0 F w (Cb.rd2 (rawU Pg (Instr.storeAt t (ptr b 0) (.agg cs.toArray)) w) κ2) Q := fun hs hm => by
  obtain ⟨k, hk, hg⟩ := h1.h
  obtain ⟨w1, m1, t1, s1⟩ := st_agg h0.s hl (cs := cs.toArray) (by simpa using hc) (fun v hv => h2.h v (by simpa using hv)) hs k hk
  rw [hg] at t1
  exact Ok.rd2 m1 (h w1 t1 (hm.trans s1))
theorem Go.al {t : Nat} {l : List Value} [h0 : Ze t l] (h : ∀ nb w', Go w0 (pt nb l t :: F) w' (κ2 (ptr nb 0) w') Q) : Go w0 F w (Cb.rd2 (rawV Pg (Instr.alloc t true (.tuple #[])) w) κ2) Q := fun hs hm => go_new h0.h hs fun nb w' t1 s1 => h nb w' t1 (hm.trans s1)
theorem Go.bxa {t : Nat} {l : List Value} (h : ∀ nb w', Go w0 (pt nb l t :: F) w' (κ2 (ptr nb 0) w') Q) : Go w0 F w (Cb.rd2 (rawV Pg (Instr.box t (.agg l.toArray)) w) κ2) Q := fun hs hm => go_box (l := l) rfl hs fun nb w' t1 s1 => h nb w' t1 (hm.trans s1)
theorem Go.bxs {t : Nat} {v : Value} [h0 : On v] (h : ∀ nb w', Go w0 (pt nb [v] t :: F) w' (κ2 (ptr nb 0) w') Q) : Go w0 F w (Cb.rd2 (rawV Pg (Instr.box t v) w) κ2) Q := fun hs hm => go_box (l := [v]) (by rw [cells_one h0.h]) hs fun nb w' t1 s1 => h nb w' t1 (hm.trans s1)
theorem Go.bv {t : Nat} {ps : List (Nat × Value)} {v : Value} [h0 : Bv t ps v] (h : Go w0 F w (κ v) Q) : Go w0 F w (Cb.rd (bldV Pg t ps) κ) Q := Go.rd h0.h h
theorem Go.dw {r : R} (h : Go w0 F (drw w) r Q) : Go w0 F w r Q := fun hs hm => h hs.drw ⟨hm.os, hm.out, hm.tape, hm.fz⟩

theorem Go.dl {t : Nat} {x : Value} (h : Go w0 F (drw w) (Cb.rd (ldV Pg t x (drw w)) κ) Q) : Go w0 F w (Cb.rd (ldV Pg t x (drw w)) κ) Q := Go.dw h
theorem Go.db {st : Bool} {op : BinOp} {t : TypeId} {ox oy : Operand} {x y : Value} (h : Go w0 F (drw w) (Cb.rd2 (binG st Pg op t ox oy x y (drw w)) κ2) Q) : Go w0 F w (Cb.rd2 (binG st Pg op t ox oy x y (drw w)) κ2) Q := Go.dw h
theorem Go.dg {x : Value} {b : Bool} {r : Unit → R} (h : Go w0 F (drw w) (Cb.rd2 (gate x b r (drw w)) κ2) Q) : Go w0 F w (Cb.rd2 (gate x b r (drw w)) κ2) Q := Go.dw h
theorem Go.dn {st : Bool} {b : Builtin} {ts : Array TypeId} {t : TypeId} {cs : Array Bool} {l : List Value} (h : Go w0 F (drw w) (Cb.rd2 (lenG st Pg b ts t cs l (drw w)) κ2) Q) : Go w0 F w (Cb.rd2 (lenG st Pg b ts t cs l (drw w)) κ2) Q := Go.dw h
theorem Go.dv {s : Sem Value} (h : Go w0 F (drw w) (Cb.rd2 (rawV Pg s (drw w)) κ2) Q) : Go w0 F w (Cb.rd2 (rawV Pg s (drw w)) κ2) Q := Go.dw h
theorem Go.dc {st : Bool} {s d : TypeId} {x : Value} (h : Go w0 F (drw w) (Cb.rd2 (cvG st Pg s d x (drw w)) κ2) Q) : Go w0 F w (Cb.rd2 (cvG st Pg s d x (drw w)) κ2) Q := Go.dw h
theorem Go.df {f : FuncId} {l : List Value} (h : Go w0 F (drw w) (Cb.rd2 (Cb.Fn Pg f l (drw w)) κ2) Q) : Go w0 F w (Cb.rd2 (Cb.Fn Pg f l (drw w)) κ2) Q := Go.dw h
theorem Go.dk {st : Bool} {t : TypeId} {x i : Value} {ok : Bool} (h : Go w0 F (drw w) (Cb.rd2 (lkG st Pg t x i ok (drw w)) κ2) Q) : Go w0 F w (Cb.rd2 (lkG st Pg t x i ok (drw w)) κ2) Q := Go.dw h
/-- what is read is held against what is read at another moment. -/
theorem hold_go {t : TypeId} {x y v : Value} {w : World} {b : Bool} (h : ldV Pg t x w = some v) : holdsAt Pg (some (y, b)) (.ld t) x v w := fun _ => h
theorem hold_no {k : RK} {x y v : Value} {w : World} {b : Bool} (h : y ≠ .bool b) : holdsAt Pg (some (y, b)) k x v w := fun e => absurd e h
theorem Go.oo {b : Bool} {x y : Unit → R} (h1 : Go w0 F w (x ()) Q) (h2 : Go w0 F w (y ()) Q) : Go w0 F w (oneOf b x y) Q := by cases b <;> assumption

/-! gates, picks, answers -/
theorem Go.gtt {r : Unit → R} (h : Go w0 F w (Cb.rd2 (r ()) κ2) Q) : Go w0 F w (Cb.rd2 (gate (.bool true) true r w) κ2) Q := h
theorem Go.gff {r : Unit → R} (h : Go w0 F w (Cb.rd2 (r ()) κ2) Q) : Go w0 F w (Cb.rd2 (gate (.bool false) false r w) κ2) Q := h
theorem Go.gtf {r : Unit → R} (h : Go w0 F w (κ2 undef w) Q) : Go w0 F w (Cb.rd2 (gate (.bool true) false r w) κ2) Q := h
theorem Go.gft {r : Unit → R} (h : Go w0 F w (κ2 undef w) Q) : Go w0 F w (Cb.rd2 (gate (.bool false) true r w) κ2) Q := h
theorem Go.gut {r : Unit → R} {b : Bool} (h : Go w0 F w (κ2 undef w) Q) : Go w0 F w (Cb.rd2 (gate undef b r w) κ2) Q := h
theorem Go.as1 {α : Type} {o : Option α} {f : α → R} (h : Go w0 F w (Cb.rd o fun a => Cb.rd2 (f a) κ2) Q) : Go w0 F w (Cb.rd2 (Cb.rd o f) κ2) Q := by cases o <;> exact h
theorem Go.as2 {o : R} {f : Value → World → R} (h : Go w0 F w (Cb.rd2 o fun a w => Cb.rd2 (f a w) κ2) Q) : Go w0 F w (Cb.rd2 (Cb.rd2 o f) κ2) Q := by cases o <;> exact h
theorem Go.so {v : Value} (h : Go w0 F w (κ2 v w) Q) : Go w0 F w (Cb.rd2 (some (v, w)) κ2) Q := h
theorem Go.pt_ {a b : Value} (h : Go w0 F w (κ a) Q) : Go w0 F w (Cb.rd (pickV (.bool true) a b) κ) Q := h
theorem Go.pf_ {a b : Value} (h : Go w0 F w (κ b) Q) : Go w0 F w (Cb.rd (pickV (.bool false) a b) κ) Q := h
theorem Go.nt {x y : Bool} (hx : (!x) = y) (h : Go w0 F w (κ (.bool y)) Q) : Go w0 F w (Cb.rd (unV .not (.bool x)) κ) Q := by subst hx; exact h
theorem Go.ntt (h : Go w0 F w (κ (.bool false)) Q) : Go w0 F w (Cb.rd (unV .not (.bool true)) κ) Q := h
theorem Go.ntf (h : Go w0 F w (κ (.bool true)) Q) : Go w0 F w (Cb.rd (unV .not (.bool false)) κ) Q := h
theorem Go.ntb {x : Bool} (h : Go w0 F w (κ (.bool (!x))) Q) : Go w0 F w (Cb.rd (unV .not (.bool x)) κ) Q := h
theorem Go.ct {a b : Unit → R} (h : Go w0 F w (a ()) Q) : Go w0 F w (cnd (.bool true) a b) Q := h
theorem Go.cf {a b : Unit → R} (h : Go w0 F w (b ()) Q) : Go w0 F w (cnd (.bool false) a b) Q := h
theorem Go.ci {a b : Unit → R} {x : Bool} (ht : x = true → Go w0 F w (a ()) Q) (hf : x = false → Go w0 F w (b ()) Q) : Go w0 F w (cnd (.bool x) a b) Q := by
  cases x with
  | true => exact ht rfl
  | false => exact hf rfl
theorem Go.ck {p : Prop} {k : Unit → R} (hp : p) (h : Go w0 F w (k ()) Q) : Go w0 F w (chk p k) Q := fun hs hm => Ok.chk hp (h hs hm)
theorem Go.sh {k : World → R} (h : Go w0 F w (k w) Q) : Go w0 F w (shutK undef w k) Q := h
theorem Go.ex {l : List Value} {i : Nat} {v : Value} (hv : l[i]? = some v) (h : Go w0 F w (κ v) Q) : Go w0 F w (Cb.rd (extV (.tuple l.toArray) i) κ) Q := Go.rd (by show l.toArray[i]? = some v; simpa using hv) h
theorem Go.nl {a : Addr} (h : Go w0 F w (κ (.pointer (some a))) Q) : Go w0 F w (Cb.rd (nilV (.pointer (some a))) κ) Q := h

/-! operators -/
section
variable {st : Bool} {t : TypeId} {ox oy : Operand} {k : IntKind} {a b : Int} {s s' : ByteArray}
theorem Go.bI {op : BinOp} {x y v : Value} (hb : binV op x y = some v) (h : Go w0 F w (κ2 v w) Q) : Go w0 F w (Cb.rd2 (binG st Pg op t ox oy x y w) κ2) Q := Go.rd2 (by unfold binG; rw [hb]) h
theorem Go.eq_ (h : Go w0 F w (κ2 (.bool (decide (a = b))) w) Q) : Go w0 F w (Cb.rd2 (binG st Pg .eql t ox oy (.int k a) (.int k b) w) κ2) Q := Go.bI (v := .bool (decide (a = b))) (by simp [binV]; rfl) h
theorem Go.ne_ (h : Go w0 F w (κ2 (.bool (!decide (a = b))) w) Q) : Go w0 F w (Cb.rd2 (binG st Pg .neq t ox oy (.int k a) (.int k b) w) κ2) Q := Go.bI (v := .bool (!decide (a = b))) (by simp [binV]; rfl) h
theorem Go.lt_ (h : Go w0 F w (κ2 (.bool (decide (a < b))) w) Q) : Go w0 F w (Cb.rd2 (binG st Pg .lss t ox oy (.int k a) (.int k b) w) κ2) Q := Go.bI (by simp [binV]) h
theorem Go.le_ (h : Go w0 F w (κ2 (.bool (decide (a ≤ b))) w) Q) : Go w0 F w (Cb.rd2 (binG st Pg .leq t ox oy (.int k a) (.int k b) w) κ2) Q := Go.bI (by simp [binV]) h
theorem Go.gt_ (h : Go w0 F w (κ2 (.bool (decide (b < a))) w) Q) : Go w0 F w (Cb.rd2 (binG st Pg .gtr t ox oy (.int k a) (.int k b) w) κ2) Q := Go.bI (by simp [binV]) h
theorem Go.ge_ (h : Go w0 F w (κ2 (.bool (decide (b ≤ a))) w) Q) : Go w0 F w (Cb.rd2 (binG st Pg .geq t ox oy (.int k a) (.int k b) w) κ2) Q := Go.bI (by simp [binV]) h
theorem Go.seq_ (h : Go w0 F w (κ2 (.bool (decide (s = s'))) w) Q) : Go w0 F w (Cb.rd2 (binG st Pg .eql t ox oy (.string s) (.string s') w) κ2) Q := Go.bI (v := .bool (decide (s = s'))) (by simp only [binV]; rw [key_beq]) h
theorem Go.sne_ (h : Go w0 F w (κ2 (.bool (!decide (s = s'))) w) Q) : Go w0 F w (Cb.rd2 (binG st Pg .neq t ox oy (.string s) (.string s') w) κ2) Q := Go.bI (v := .bool (!decide (s = s'))) (by simp only [binV]; rw [key_beq]) h
theorem Go.slt_ (h : Go w0 F w (κ2 (.bool (kl s s')) w) Q) : Go w0 F w (Cb.rd2 (binG st Pg .lss t ox oy (.string s) (.string s') w) κ2) Q := Go.bI rfl h
theorem sle_v : binV .leq (.string s) (.string s') = some (.bool !kl s' s) := by
  have : binV .leq (.string s) (.string s') = some (.bool (kl s s' || s.toList == s'.toList)) := rfl
  rw [this, key_beq]
  congr 2
  cases h : kl s' s with
  | true => rw [kl_asym h, decide_eq_false (Ne.symm (kl_ne h))]; rfl
  | false =>
    by_cases e : s' = s
    · subst e; simp
    · rw [kl_gt h e]; rfl
theorem Go.sle_ (h : Go w0 F w (κ2 (.bool (!kl s' s)) w) Q) : Go w0 F w (Cb.rd2 (binG st Pg .leq t ox oy (.string s) (.string s') w) κ2) Q := Go.bI sle_v h
theorem Go.sgt_ (h : Go w0 F w (κ2 (.bool (kl s' s)) w) Q) : Go w0 F w (Cb.rd2 (binG st Pg .gtr t ox oy (.string s) (.string s') w) κ2) Q := Go.bI (by
  have : binV .gtr (.string s) (.string s') = some (.bool !(Op.bytesLess s.toList s'.toList || s.toList == s'.toList)) := rfl
  have h2 : binV .leq (.string s) (.string s') = some (.bool (Op.bytesLess s.toList s'.toList || s.toList == s'.toList)) := rfl
  rw [sle_v] at h2
  injection h2 with h2
  injection h2 with h2
  rw [this, ← h2, Bool.not_not]) h
theorem Go.sge_ (h : Go w0 F w (κ2 (.bool (!kl s s')) w) Q) : Go w0 F w (Cb.rd2 (binG st Pg .geq t ox oy (.string s) (.string s') w) κ2) Q := Go.bI rfl h
theorem Go.ad1 {n : Nat} (hn : n ≤ 2 ^ 62) (h : Go w0 F w (κ2 (int (n + 1 : Nat)) w) Q) : Go w0 F w (Cb.rd2 (binG st Pg .add t ox oy (int n) (int 1) w) κ2) Q := Go.rd2 (bin_add1 hn) h
theorem Go.adn {m n : Nat} (hn : m + n ≤ 2 ^ 62) (h : Go w0 F w (κ2 (int (m + n : Nat)) w) Q) : Go w0 F w (Cb.rd2 (binG st Pg .add t ox oy (int m) (int n) w) κ2) Q := Go.rd2 (bin_addn hn) h
theorem Go.sbn {m n : Nat} (h1 : n ≤ m) (hn : m ≤ 2 ^ 62) (h : Go w0 F w (κ2 (int (m - n : Nat)) w) Q) : Go w0 F w (Cb.rd2 (binG st Pg .sub t ox oy (int m) (int n) w) κ2) Q := Go.rd2 (bin_subn h1 hn) h
theorem Go.sb1 {m : Nat} (h1 : 1 ≤ m) (hn : m ≤ 2 ^ 62) (h : Go w0 F w (κ2 (int (m - 1 : Nat)) w) Q) : Go w0 F w (Cb.rd2 (binG st Pg .sub t ox oy (int m) (int 1) w) κ2) Q := Go.rd2 (bin_sub1 h1 hn) h
class Bo (t : Nat) : Prop where
  h : Pg.underlying t = some .bool
theorem Go.beq_ {x y : Bool} [h0 : Bo t] (h : Go w0 F w (κ2 (.bool (x == y)) w) Q) : Go w0 F w (Cb.rd2 (binG st Pg .eql t ox oy (.bool x) (.bool y) w) κ2) Q := Go.rd2 (by
  have h1 : cmpV Pg .eql t (.bool x) (.bool y) = some (.bool (x == y)) := by
    show (eqV Pg (9999 + 1) t (.bool x) (.bool y)).map Value.bool = _
    unfold eqV; rw [h0.h]; rfl
  unfold binG
  have h2 : binV .eql (.bool x) (.bool y) = none := rfl
  rw [h2, h1]) h
theorem Go.bne_ {x y : Bool} [h0 : Bo t] (h : Go w0 F w (κ2 (.bool (!(x == y))) w) Q) : Go w0 F w (Cb.rd2 (binG st Pg .neq t ox oy (.bool x) (.bool y) w) κ2) Q := Go.rd2 (by
  have h1 : cmpV Pg .neq t (.bool x) (.bool y) = some (.bool (!(x == y))) := by
    show (eqV Pg (9999 + 1) t (.bool x) (.bool y)).map (fun b => Value.bool !b) = _
    unfold eqV; rw [h0.h]; rfl
  unfold binG
  have h2 : binV .neq (.bool x) (.bool y) = none := rfl
  rw [h2, h1]) h
end

/-! lengths -/
section
variable {st : Bool} {t rt : TypeId} {cs : Array Bool}
theorem Go.lnL {e k : Nat} {a : Option Addr} {n c : Nat} [h0 : Sls t e k] (h : Go w0 F w (κ2 (int n) w) Q) : Go w0 F w (Cb.rd2 (lenG st Pg .len #[t] rt cs [.slice a n c] w) κ2) Q := Go.rd2 (len_sl h0.h.u _ _ _ _) h
theorem Go.lnS {e k : Nat} {α : Type} {enc : α → List Value} {v : Value} {xs : List α} [h1 : Ss F v e k α enc xs] [h0 : Sls t e k] (h : Go w0 F w (κ2 (int xs.length) w) Q) : Go w0 F w (Cb.rd2 (lenG st Pg .len #[t] rt cs [v] w) κ2) Q := fun hs hm => by
  obtain ⟨j, hj⟩ := h1.h
  exact Ok.rd2 (sl_len h0.h (hs.foc hj) w) (h hs hm)
theorem Go.lnR {K : Hl} {e k k' : Nat} {α : Type} {enc : α → List Value} {v : Value} {xs : List α} (hr : RdS K t k' enc v xs) [h0 : Sls t e k] (h : Go w0 F w (κ2 (int xs.length) w) Q) : Go w0 F w (Cb.rd2 (lenG st Pg .len #[t] rt cs [v] w) κ2) Q := Go.rd2 (by
  obtain ⟨a, c, rfl⟩ := hr.sl
  exact len_sl h0.h.u _ _ _ _) h
class Str (t : Nat) : Prop where
  h : Pg.underlying t = some .string
theorem Go.lnT {s : ByteArray} [h0 : Str t] (h : Go w0 F w (κ2 (int s.size) w) Q) : Go w0 F w (Cb.rd2 (lenG st Pg .len #[t] rt cs [.string s] w) κ2) Q := Go.rd2 (len_str h0.h _ _) h
end

/-! slices -/
theorem Go.bs1 {t e k : Nat} {α : Type} {enc : α → List Value} [h0 : Sls t e k] (hE : En enc k) (hk : k ≤ 1000) {x : α} {v : Value} (hv : v.cells.toList = enc x) (h : ∀ nb w', Src w' (sl nb 0 1 1) [x].length k ([x].flatMap enc) → Go w0 (pt nb (enc x) e :: F) w' (κ2 (sl nb 0 1 1) w') Q) :
    Go w0 F w (Cb.rd2 (rawV Pg (Instr.buildSlice t 1 #[(0, v)]) w) κ2) Q := fun hs hm => go_bs1 h0.h hE hk hv hs fun nb w' t1 hv' s1 => h nb w' hv' t1 (hm.trans s1)
theorem src1 {k nb : Nat} {α : Type} {enc : α → List Value} (hE : En enc k) (x : α) {T : TypeId} [h1 : Bl F nb (enc x) T] (hs : Sat w F) : Src w (sl nb 0 1 1) [x].length k ([x].flatMap enc) := by
  obtain ⟨j, hj⟩ := h1.h
  have := src_at (o := 0) (n := 1) (k := k) (c := 1) (hs.foc hj).at (by rw [hE.len]; omega)
  rw [List.drop_zero, Nat.one_mul, List.take_of_length_le (by rw [hE.len]; exact Nat.le_refl _)] at this
  simpa using this
theorem Go.bs0 {t e k : Nat} {α : Type} (enc : α → List Value) [h0 : Sls t e k] (h : ∀ v w', Go w0 (slH e k enc v ([] : List α) :: F) w' (κ2 v w') Q) :
    Go w0 F w (Cb.rd2 (rawV Pg (Instr.buildSlice t 0 #[]) w) κ2) Q := fun hs hm => go_bs0 h0.h hs fun v w' t1 s1 => h v w' t1 (hm.trans s1)
theorem Go.app {t e k : Nat} {α : Type} {enc : α → List Value} {v x : Value} {xs ys : List α} {rt : TypeId} {cs : Array Bool} {G : Value → List α → List HP} [h0 : Sls t e k] [h1 : Sp F v e k α enc xs G] (hE : En enc k) (hx : Sat w F → Src w x ys.length k (ys.flatMap enc)) (hb : xs.length + ys.length ≤ 2 ^ 30)
    (h : ∀ u w', Go w0 (G u (xs ++ ys)) w' (κ2 u w') Q) : Go w0 F w (Cb.rd2 (lenG false Pg .append #[t, t] rt cs [v, x] w) κ2) Q := fun hs hm => by
  obtain ⟨j, hj, hg⟩ := h1.h
  refine go_app h0.h hE hs j hj (hx hs) hb fun u w' t1 s1 => ?_
  rw [hg] at t1
  exact h u w' t1 (hm.trans s1)
end

/-! ### One step, found by its form -/
class Stp (F : List HP) (w : World) (r : R) (r' : outParam R) (w' : outParam World) : Prop where
  h : ∀ {w0 : World} {Q : Value → World → Prop}, Go w0 F w' r' Q → Go w0 F w r Q
theorem Go.s {r r' : R} {w' : World} [h : Stp F w r r' w'] (hk : Go w0 F w' r' Q) : Go w0 F w r Q := h.h hk
section
variable {κ : Value → R} {κ2 : Value → World → R}
instance Stp.fl {t f k b o : Nat} [h0 : Fl t f k] : Stp F w (Cb.rd (fldA Pg t (ptr b o) f) κ) (κ (ptr b (o + k))) w := ⟨fun h => Go.fl h⟩
instance Stp.fla2 {t f k k0 : Nat} {a : Addr} [h0 : Fl t f k] : Stp F w (Cb.rd (fldA Pg t (.pointer (some (a.add k0))) f) κ) (κ (.pointer (some (a.add (k0 + k))))) w := ⟨fun h => Go.fla2 h⟩
instance (priority := 500) Stp.fla {t f k : Nat} {a : Addr} [h0 : Fl t f k] : Stp F w (Cb.rd (fldA Pg t (.pointer (some a)) f) κ) (κ (.pointer (some (a.add k)))) w := ⟨fun h => Go.fla h⟩
instance Stp.lap {t n b o : Nat} {l vs : List Value} {T : TypeId} [h0 : Ag t n] [h1 : Bl F b l T] [h2 : Tk l o n vs] : Stp F w (Cb.rd (ldV Pg t (ptr b o) w) κ) (κ (.agg vs.toArray)) w := ⟨fun h => Go.lap h⟩
instance Stp.bv {t : Nat} {ps : List (Nat × Value)} {v : Value} [h0 : Bv t ps v] : Stp F w (Cb.rd (bldV Pg t ps) κ) (κ v) w := ⟨fun h => Go.bv h⟩
instance Stp.gtt {r : Unit → R} : Stp F w (Cb.rd2 (gate (.bool true) true r w) κ2) (Cb.rd2 (r ()) κ2) w := ⟨fun h => Go.gtt h⟩
instance Stp.gff {r : Unit → R} : Stp F w (Cb.rd2 (gate (.bool false) false r w) κ2) (Cb.rd2 (r ()) κ2) w := ⟨fun h => Go.gff h⟩
instance Stp.gtf {r : Unit → R} : Stp F w (Cb.rd2 (gate (.bool true) false r w) κ2) (κ2 undef w) w := ⟨fun h => Go.gtf h⟩
instance Stp.gft {r : Unit → R} : Stp F w (Cb.rd2 (gate (.bool false) true r w) κ2) (κ2 undef w) w := ⟨fun h => Go.gft h⟩
instance Stp.gut {r : Unit → R} {b : Bool} : Stp F w (Cb.rd2 (gate undef b r w) κ2) (κ2 undef w) w := ⟨fun h => Go.gut h⟩
instance Stp.as1 {α : Type} {o : Option α} {f : α → R} : Stp F w (Cb.rd2 (Cb.rd o f) κ2) (Cb.rd o fun a => Cb.rd2 (f a) κ2) w := ⟨fun h => Go.as1 h⟩
instance Stp.as2 {o : R} {f : Value → World → R} : Stp F w (Cb.rd2 (Cb.rd2 o f) κ2) (Cb.rd2 o fun a w => Cb.rd2 (f a w) κ2) w := ⟨fun h => Go.as2 h⟩
instance Stp.so {v : Value} : Stp F w (Cb.rd2 (some (v, w)) κ2) (κ2 v w) w := ⟨fun h => Go.so h⟩
instance Stp.pt_ {a b : Value} : Stp F w (Cb.rd (pickV (.bool true) a b) κ) (κ a) w := ⟨fun h => Go.pt_ h⟩
instance Stp.pf_ {a b : Value} : Stp F w (Cb.rd (pickV (.bool false) a b) κ) (κ b) w := ⟨fun h => Go.pf_ h⟩
instance Stp.ntt : Stp F w (Cb.rd (unV .not (.bool true)) κ) (κ (.bool false)) w := ⟨fun h => Go.ntt h⟩
instance Stp.ntf : Stp F w (Cb.rd (unV .not (.bool false)) κ) (κ (.bool true)) w := ⟨fun h => Go.ntf h⟩
instance (priority := 500) Stp.ntb {x : Bool} : Stp F w (Cb.rd (unV .not (.bool x)) κ) (κ (.bool (!x))) w := ⟨fun h => Go.ntb h⟩
instance Stp.ct {a b : Unit → R} : Stp F w (cnd (.bool true) a b) (a ()) w := ⟨fun h => Go.ct h⟩
instance Stp.cf {a b : Unit → R} : Stp F w (cnd (.bool false) a b) (b ()) w := ⟨fun h => Go.cf h⟩
instance Stp.sh {k : World → R} : Stp F w (shutK undef w k) (k w) w := ⟨fun h => Go.sh h⟩
instance Stp.nl {a : Addr} : Stp F w (Cb.rd (nilV (.pointer (some a))) κ) (κ (.pointer (some a))) w := ⟨fun h => Go.nl h⟩
instance Stp.eq_ {st : Bool} {t : TypeId} {ox oy : Operand} {k : IntKind} {a b : Int} : Stp F w (Cb.rd2 (binG st Pg .eql t ox oy (.int k a) (.int k b) w) κ2) (κ2 (.bool (decide (a = b))) w) w := ⟨fun h => Go.eq_ h⟩
instance Stp.ne_ {st : Bool} {t : TypeId} {ox oy : Operand} {k : IntKind} {a b : Int} : Stp F w (Cb.rd2 (binG st Pg .neq t ox oy (.int k a) (.int k b) w) κ2) (κ2 (.bool (!decide (a = b))) w) w := ⟨fun h => Go.ne_ h⟩
instance Stp.lt_ {st : Bool} {t : TypeId} {ox oy : Operand} {k : IntKind} {a b : Int} : Stp F w (Cb.rd2 (binG st Pg .lss t ox oy (.int k a) (.int k b) w) κ2) (κ2 (.bool (decide (a < b))) w) w := ⟨fun h => Go.lt_ h⟩
instance Stp.le_ {st : Bool} {t : TypeId} {ox oy : Operand} {k : IntKind} {a b : Int} : Stp F w (Cb.rd2 (binG st Pg .leq t ox oy (.int k a) (.int k b) w) κ2) (κ2 (.bool (decide (a ≤ b))) w) w := ⟨fun h => Go.le_ h⟩
instance Stp.gt_ {st : Bool} {t : TypeId} {ox oy : Operand} {k : IntKind} {a b : Int} : Stp F w (Cb.rd2 (binG st Pg .gtr t ox oy (.int k a) (.int k b) w) κ2) (κ2 (.bool (decide (b < a))) w) w := ⟨fun h => Go.gt_ h⟩
instance Stp.ge_ {st : Bool} {t : TypeId} {ox oy : Operand} {k : IntKind} {a b : Int} : Stp F w (Cb.rd2 (binG st Pg .geq t ox oy (.int k a) (.int k b) w) κ2) (κ2 (.bool (decide (b ≤ a))) w) w := ⟨fun h => Go.ge_ h⟩
instance Stp.seq_ {st : Bool} {t : TypeId} {ox oy : Operand} {s s' : ByteArray} : Stp F w (Cb.rd2 (binG st Pg .eql t ox oy (.string s) (.string s') w) κ2) (κ2 (.bool (decide (s = s'))) w) w := ⟨fun h => Go.seq_ h⟩
instance Stp.sne_ {st : Bool} {t : TypeId} {ox oy : Operand} {s s' : ByteArray} : Stp F w (Cb.rd2 (binG st Pg .neq t ox oy (.string s) (.string s') w) κ2) (κ2 (.bool (!decide (s = s'))) w) w := ⟨fun h => Go.sne_ h⟩
instance Stp.slt_ {st : Bool} {t : TypeId} {ox oy : Operand} {s s' : ByteArray} : Stp F w (Cb.rd2 (binG st Pg .lss t ox oy (.string s) (.string s') w) κ2) (κ2 (.bool (kl s s')) w) w := ⟨fun h => Go.slt_ h⟩
instance Stp.sle_ {st : Bool} {t : TypeId} {ox oy : Operand} {s s' : ByteArray} : Stp F w (Cb.rd2 (binG st Pg .leq t ox oy (.string s) (.string s') w) κ2) (κ2 (.bool (!kl s' s)) w) w := ⟨fun h => Go.sle_ h⟩
instance Stp.sgt_ {st : Bool} {t : TypeId} {ox oy : Operand} {s s' : ByteArray} : Stp F w (Cb.rd2 (binG st Pg .gtr t ox oy (.string s) (.string s') w) κ2) (κ2 (.bool (kl s' s)) w) w := ⟨fun h => Go.sgt_ h⟩
instance Stp.sge_ {st : Bool} {t : TypeId} {ox oy : Operand} {s s' : ByteArray} : Stp F w (Cb.rd2 (binG st Pg .geq t ox oy (.string s) (.string s') w) κ2) (κ2 (.bool (!kl s s')) w) w := ⟨fun h => Go.sge_ h⟩
instance Stp.beq_ {st : Bool} {t : TypeId} {ox oy : Operand} {x y : Bool} [h0 : Bo t] : Stp F w (Cb.rd2 (binG st Pg .eql t ox oy (.bool x) (.bool y) w) κ2) (κ2 (.bool (x == y)) w) w := ⟨fun h => Go.beq_ h⟩
instance Stp.bne_ {st : Bool} {t : TypeId} {ox oy : Operand} {x y : Bool} [h0 : Bo t] : Stp F w (Cb.rd2 (binG st Pg .neq t ox oy (.bool x) (.bool y) w) κ2) (κ2 (.bool (!(x == y))) w) w := ⟨fun h => Go.bne_ h⟩
instance Stp.lnL {st : Bool} {t : TypeId} {rt : TypeId} {cs : Array Bool} {e k : Nat} {a : Option Addr} {n c : Nat} [h0 : Sls t e k] : Stp F w (Cb.rd2 (lenG st Pg .len #[t] rt cs [.slice a n c] w) κ2) (κ2 (int n) w) w := ⟨fun h => Go.lnL h⟩
instance Stp.lnS {st : Bool} {t : TypeId} {rt : TypeId} {cs : Array Bool} {e k : Nat} {α : Type} {enc : α → List Value} {v : Value} {xs : List α} [h1 : Ss F v e k α enc xs] [h0 : Sls t e k] : Stp F w (Cb.rd2 (lenG st Pg .len #[t] rt cs [v] w) κ2) (κ2 (int xs.length) w) w := ⟨fun h => Go.lnS h⟩
instance Stp.lnT {st : Bool} {t : TypeId} {rt : TypeId} {cs : Array Bool} {s : ByteArray} [h0 : Str t] : Stp F w (Cb.rd2 (lenG st Pg .len #[t] rt cs [.string s] w) κ2) (κ2 (int s.size) w) w := ⟨fun h => Go.lnT h⟩
instance Stp.dl {t : Nat} {x : Value} : Stp F w (Cb.rd (ldV Pg t x (drw w)) κ) (Cb.rd (ldV Pg t x (drw w)) κ) (drw w) := ⟨fun h => Go.dl h⟩
instance Stp.db {st : Bool} {op : BinOp} {t : TypeId} {ox oy : Operand} {x y : Value} : Stp F w (Cb.rd2 (binG st Pg op t ox oy x y (drw w)) κ2) (Cb.rd2 (binG st Pg op t ox oy x y (drw w)) κ2) (drw w) := ⟨fun h => Go.db h⟩
instance Stp.dg {x : Value} {b : Bool} {r : Unit → R} : Stp F w (Cb.rd2 (gate x b r (drw w)) κ2) (Cb.rd2 (gate x b r (drw w)) κ2) (drw w) := ⟨fun h => Go.dg h⟩
instance Stp.dn {st : Bool} {b : Builtin} {ts : Array TypeId} {t : TypeId} {cs : Array Bool} {l : List Value} : Stp F w (Cb.rd2 (lenG st Pg b ts t cs l (drw w)) κ2) (Cb.rd2 (lenG st Pg b ts t cs l (drw w)) κ2) (drw w) := ⟨fun h => Go.dn h⟩
instance Stp.dv {s : Sem Value} : Stp F w (Cb.rd2 (rawV Pg s (drw w)) κ2) (Cb.rd2 (rawV Pg s (drw w)) κ2) (drw w) := ⟨fun h => Go.dv h⟩
instance Stp.dc {st : Bool} {s d : TypeId} {x : Value} : Stp F w (Cb.rd2 (cvG st Pg s d x (drw w)) κ2) (Cb.rd2 (cvG st Pg s d x (drw w)) κ2) (drw w) := ⟨fun h => Go.dc h⟩
instance Stp.df {f : FuncId} {l : List Value} : Stp F w (Cb.rd2 (Cb.Fn Pg f l (drw w)) κ2) (Cb.rd2 (Cb.Fn Pg f l (drw w)) κ2) (drw w) := ⟨fun h => Go.df h⟩
instance Stp.dk {st : Bool} {t : TypeId} {x i : Value} {ok : Bool} : Stp F w (Cb.rd2 (lkG st Pg t x i ok (drw w)) κ2) (Cb.rd2 (lkG st Pg t x i ok (drw w)) κ2) (drw w) := ⟨fun h => Go.dk h⟩
/-- what a truth value comes to. -/
class Bn (b : Bool) (c : outParam Bool) : Prop where
  h : b = c
instance Bn.t : Bn true true := ⟨rfl⟩
instance Bn.f : Bn false false := ⟨rfl⟩
instance Bn.nt {b : Bool} [h : Bn b true] : Bn (!b) false := ⟨by rw [h.h]; rfl⟩
instance Bn.nf {b : Bool} [h : Bn b false] : Bn (!b) true := ⟨by rw [h.h]; rfl⟩
instance Bn.ett {a b : Bool} [h : Bn a true] [h' : Bn b true] : Bn (a == b) true := ⟨by rw [h.h, h'.h]; rfl⟩
instance Bn.etf {a b : Bool} [h : Bn a true] [h' : Bn b false] : Bn (a == b) false := ⟨by rw [h.h, h'.h]; rfl⟩
instance Bn.eft {a b : Bool} [h : Bn a false] [h' : Bn b true] : Bn (a == b) false := ⟨by rw [h.h, h'.h]; rfl⟩
instance Bn.eff {a b : Bool} [h : Bn a false] [h' : Bn b false] : Bn (a == b) true := ⟨by rw [h.h, h'.h]; rfl⟩
instance (priority := 400) Stp.gtt' {b : Bool} [h0 : Bn b true] {r : Unit → R} : Stp F w (Cb.rd2 (gate (.bool b) true r w) κ2) (Cb.rd2 (r ()) κ2) w := ⟨fun h => by rw [h0.h]; exact Go.gtt h⟩
instance (priority := 400) Stp.gff' {b : Bool} [h0 : Bn b false] {r : Unit → R} : Stp F w (Cb.rd2 (gate (.bool b) false r w) κ2) (Cb.rd2 (r ()) κ2) w := ⟨fun h => by rw [h0.h]; exact Go.gff h⟩
instance (priority := 400) Stp.gtf' {b : Bool} [h0 : Bn b true] {r : Unit → R} : Stp F w (Cb.rd2 (gate (.bool b) false r w) κ2) (κ2 undef w) w := ⟨fun h => by rw [h0.h]; exact Go.gtf h⟩
instance (priority := 400) Stp.gft' {b : Bool} [h0 : Bn b false] {r : Unit → R} : Stp F w (Cb.rd2 (gate (.bool b) true r w) κ2) (κ2 undef w) w := ⟨fun h => by rw [h0.h]; exact Go.gft h⟩
instance (priority := 400) Stp.pt' {b : Bool} [h0 : Bn b true] {x y : Value} : Stp F w (Cb.rd (pickV (.bool b) x y) κ) (κ x) w := ⟨fun h => by rw [h0.h]; exact Go.pt_ h⟩
instance (priority := 400) Stp.pf' {b : Bool} [h0 : Bn b false] {x y : Value} : Stp F w (Cb.rd (pickV (.bool b) x y) κ) (κ y) w := ⟨fun h => by rw [h0.h]; exact Go.pf_ h⟩
instance (priority := 400) Stp.ct' {b : Bool} [h0 : Bn b true] {x y : Unit → R} : Stp F w (cnd (.bool b) x y) (x ()) w := ⟨fun h => by rw [h0.h]; exact Go.ct h⟩
instance (priority := 400) Stp.cf' {b : Bool} [h0 : Bn b false] {x y : Unit → R} : Stp F w (cnd (.bool b) x y) (y ()) w := ⟨fun h => by rw [h0.h]; exact Go.cf h⟩
class Nth (l : List Value) (o : Nat) (v : outParam Value) : Prop where
  h : l[o]? = some v
instance Nth.here {x : Value} {l : List Value} : Nth (x :: l) 0 x := ⟨rfl⟩
instance Nth.there {x v : Value} {l : List Value} {o : Nat} [h : Nth l o v] : Nth (x :: l) (o + 1) v := ⟨by rw [List.getElem?_cons_succ]; exact h.h⟩
instance Stp.ls {t b o : Nat} {l : List Value} {T : TypeId} {v : Value} [h0 : Sc t] [h1 : Bl F b l T] [h2 : Nth l o v] : Stp F w (Cb.rd (ldV Pg t (ptr b o) w) κ) (κ v) w := ⟨fun h => Go.ls h2.h h⟩
instance Stp.ex {l : List Value} {i : Nat} {v : Value} [h2 : Nth l i v] : Stp F w (Cb.rd (extV (.tuple l.toArray) i) κ) (κ v) w := ⟨fun h => Go.ex h2.h h⟩
end

/-! ### The types -/
instance : Sc 3 := ⟨by kernel_rfl, by kernel_rfl⟩
instance : Sc 4 := ⟨by kernel_rfl, by kernel_rfl⟩
instance : Sc 9 := ⟨by kernel_rfl, by kernel_rfl⟩
instance : Sc 58 := ⟨by kernel_rfl, by kernel_rfl⟩
instance : Sc 64 := ⟨by kernel_rfl, by kernel_rfl⟩
instance : Sc 65 := ⟨by kernel_rfl, by kernel_rfl⟩
instance : Sc 68 := ⟨by kernel_rfl, by kernel_rfl⟩
instance : Sc 71 := ⟨by kernel_rfl, by kernel_rfl⟩
instance : Sc 73 := ⟨by kernel_rfl, by kernel_rfl⟩
instance : Sc 76 := ⟨by kernel_rfl, by kernel_rfl⟩
instance : Sc 81 := ⟨by kernel_rfl, by kernel_rfl⟩
instance : Sc 93 := ⟨by kernel_rfl, by kernel_rfl⟩
instance : Sc 132 := ⟨by kernel_rfl, by kernel_rfl⟩
instance : Bo 4 := ⟨by kernel_rfl⟩
instance : Str 9 := ⟨by kernel_rfl⟩
instance : Sls 58 70 5 := ⟨slT_of (by kernel_rfl)⟩
instance : Sls 65 116 5 := ⟨slT_of (by kernel_rfl)⟩
instance : Sls 68 64 1 := ⟨slT_of (by kernel_rfl)⟩
instance : Sls 71 80 2 := ⟨slT_of (by kernel_rfl)⟩
instance : Sls 73 134 6 := ⟨slT_of (by kernel_rfl)⟩
instance : Sls 76 85 5 := ⟨slT_of (by kernel_rfl)⟩
instance : Sls 81 3 1 := ⟨slT_of (by kernel_rfl)⟩
instance : Ag 36 2 := ⟨by kernel_rfl, by kernel_rfl⟩
instance : Ag 67 2 := ⟨by kernel_rfl, by kernel_rfl⟩
instance : Ag 70 5 := ⟨by kernel_rfl, by kernel_rfl⟩
instance : Ag 80 2 := ⟨by kernel_rfl, by kernel_rfl⟩
instance : Ag 83 3 := ⟨by kernel_rfl, by kernel_rfl⟩
instance : Ag 85 5 := ⟨by kernel_rfl, by kernel_rfl⟩
instance : Ag 95 2 := ⟨by kernel_rfl, by kernel_rfl⟩
instance : Ag 116 5 := ⟨by kernel_rfl, by kernel_rfl⟩
instance : Ag 134 6 := ⟨by kernel_rfl, by kernel_rfl⟩
instance : Fl 36 0 0 := ⟨fun _ => by kernel_rfl⟩
instance : Fl 36 1 1 := ⟨fun _ => by kernel_rfl⟩
instance : Fl 67 0 0 := ⟨fun _ => by kernel_rfl⟩
instance : Fl 67 1 1 := ⟨fun _ => by kernel_rfl⟩
instance : Fl 70 0 0 := ⟨fun _ => by kernel_rfl⟩
instance : Fl 70 1 1 := ⟨fun _ => by kernel_rfl⟩
instance : Fl 70 2 3 := ⟨fun _ => by kernel_rfl⟩
instance : Fl 70 3 4 := ⟨fun _ => by kernel_rfl⟩
instance : Fl 80 0 0 := ⟨fun _ => by kernel_rfl⟩
instance : Fl 80 1 1 := ⟨fun _ => by kernel_rfl⟩
instance : Fl 83 0 0 := ⟨fun _ => by kernel_rfl⟩
instance : Fl 83 1 1 := ⟨fun _ => by kernel_rfl⟩
instance : Fl 83 2 2 := ⟨fun _ => by kernel_rfl⟩
instance : Fl 85 0 0 := ⟨fun _ => by kernel_rfl⟩
instance : Fl 85 1 1 := ⟨fun _ => by kernel_rfl⟩
instance : Fl 85 2 2 := ⟨fun _ => by kernel_rfl⟩
instance : Fl 95 0 0 := ⟨fun _ => by kernel_rfl⟩
instance : Fl 95 1 1 := ⟨fun _ => by kernel_rfl⟩
instance : Fl 116 0 0 := ⟨fun _ => by kernel_rfl⟩
instance : Fl 116 1 1 := ⟨fun _ => by kernel_rfl⟩
instance : Fl 116 2 2 := ⟨fun _ => by kernel_rfl⟩
instance : Fl 134 0 0 := ⟨fun _ => by kernel_rfl⟩
instance : Fl 134 1 1 := ⟨fun _ => by kernel_rfl⟩
instance : Fl 134 2 2 := ⟨fun _ => by kernel_rfl⟩
instance : Fl 134 3 3 := ⟨fun _ => by kernel_rfl⟩
instance : Ze 85 [u64 0, .bool false, .slice none 0 0, u64 0, int 0] := ⟨by kernel_rfl⟩
instance : Ze 71 [.slice none 0 0] := ⟨by kernel_rfl⟩
instance : Ze 73 [.slice none 0 0] := ⟨by kernel_rfl⟩
end Go.Cb

/-
  Chains: gone.
-/
set_option linter.unusedVariables false
set_option linter.unusedSimpArgs false
namespace Go.Cb
open Classical
variable {w : World} {F : List HP} {Q Q' : Value → World → Prop}

abbrev encU (n : Int) : List Value := [u64 n]
theorem enU : En encU 1 := ⟨fun _ => rfl, fun x v hv => by simp [encU] at hv; subst hv; rfl⟩
theorem T68 : SlT Pg 68 64 1 := slT_of (by kernel_rfl)
theorem bin_lt64 {st : Bool} {t : TypeId} {ox oy : Operand} {a b : Int} {w : World} : binG st Pg .lss t ox oy (u64 a) (u64 b) w = some (.bool (decide (a < b)), w) := rfl
theorem RdS.u {K : Hl} {sv : Value} {ss : List Int} (h : RdS K 68 1 encU sv ss) {i : Nat} {s : Int} (hi : ss[i]? = some s) : ∃ p : Addr, ixA Pg 68 sv (int i) = some (.pointer (some p)) ∧ ∀ w, K.on w → ldV Pg 64 (.pointer (some p)) w = some (u64 s) := by
  obtain ⟨p, h1, h2⟩ := h.ix i s hi
  refine ⟨p, h1, fun w hw => ?_⟩
  have hc := h2 w hw
  rw [ldV_sc a64]
  simp only [cellsAt, encU, Option.bind_eq_some_iff, Option.map_eq_some_iff] at hc
  obtain ⟨v0, g0, l, _, he⟩ := hc
  simp at he
  have h0 : p.add 0 = p := by simp [Addr.add]
  rw [h0] at g0
  rw [g0, he.1]

def goneP (vs : List AV) (ks ss : List Int) : Prop := ∃ a, vs[0]? = some a ∧ a.dead = true ∧ (∀ k ∈ ks, k = 0) ∧ ∀ s ∈ ss, ¬ s < a.st
def GoneQ (K : Hl) (m : Nat) (vs : List AV) (ks ss : List Int) (F : List HP) (w : World) (x : Value) (w' : World) : Prop :=
  x = .bool (decide (goneP vs ks ss)) ∧ Sat w' (mset m ks :: kn K :: F) ∧ Sm w w'

theorem gone_loop2 {K : Hl} {m : Nat} {v sv : Value} {vs : List AV} {ks ss : List Int} {a : AV} (hr : Rc K v vs) (hu : RdS K 68 1 encU sv ss) (ha : vs[0]? = some a) (hd : a.dead = true) (hks : ∀ k ∈ ks, k = 0) (hb : ss.length ≤ 2 ^ 30) :
    ∀ (j i : Nat) (e : Env) (w : World) (F : List HP), i + j = ss.length → (∀ (k : Nat) (s : Int), k < i → ss[k]? = some s → ¬ s < a.st) → Sat w (mset m ks :: kn K :: F) →
    e 0 = v → e 28 = sv → e 29 = int ss.length → e 30 = int i → e 41 = undef →
    Ok (evalLoop (cx103 (Fn Pg) (Rnd Pg)) (cdA Go.Proofs.Try.f103 [1, 0, 1, 1, 1, 0, 1, 0, 0]) (K103_5 (Fn Pg) (Rnd Pg)) e w) (GoneQ K m vs ks ss F w) := by
  intro j
  induction j with
  | zero =>
    intro i e w F hij hlo hs e0 e28 e29 e30 e41
    rw [S103_L2_eq]; unfold S103_L2
    rw [e0, e28, e29, e30, e41]
    refine Ok.rd2 bin_lss (Ok.cf (by simp; omega) ?_)
    have hg : goneP vs ks ss := ⟨a, ha, hd, hks, fun s hs => by
      obtain ⟨k, hk⟩ := List.getElem?_of_mem hs
      have := (List.getElem?_eq_some_iff.1 hk).1
      exact hlo k s (by omega) hk⟩
    exact ⟨_, _, rfl, by rw [decide_eq_true hg], hs, Sm.refl _⟩
  | succ j ih =>
    intro i e w F hij hlo hs e0 e28 e29 e30 e41
    have hi : i < ss.length := by omega
    obtain ⟨s, hss⟩ : ∃ s, ss[i]? = some s := ⟨_, List.getElem?_eq_getElem hi⟩
    obtain ⟨p, h1, h2⟩ := hu.u hss
    obtain ⟨q, x, g1, hx, g2⟩ := hr.at ha
    have hon := kn_on hs (j := 1) rfl
    have g1 : ixA Pg 76 v (int 0) = some (.pointer (some q)) := g1
    rw [S103_L2_eq]; unfold S103_L2
    rw [e0, e28, e29, e30, e41]
    refine Ok.rd2 bin_lss (Ok.ct (by simp; omega) ?_)
    refine Ok.rd h1 (Ok.rd (h2 w hon) (Ok.rd g1 (Ok.rd (fld85_0' _) (Ok.rd (g2 w hon).2.1 (Ok.rd2 bin_lt64 ?_)))))
    by_cases hlt : s < a.st
    · refine Ok.ct (decide_eq_true hlt) ?_
      refine ⟨_, _, rfl, ?_, hs, Sm.refl _⟩
      rw [decide_eq_false]
      rintro ⟨b, hb, _, _, hall⟩
      rw [ha] at hb
      have := Option.some.inj hb
      subst this
      exact hall s (List.mem_of_getElem? hss) hlt
    · refine Ok.cf (decide_eq_false hlt) (Ok.rd2 (bin_add1 (by omega)) ?_)
      refine Ok.mono (ih (i + 1) _ w F (by omega) (fun k t hk ht => by
        rcases Nat.lt_or_ge k i with h | h
        · exact hlo k t h ht
        · have : k = i := by omega
          rw [this, hss] at ht
          have := Option.some.inj ht
          subst this; exact hlt) hs ?_ ?_ ?_ ?_ ?_) ?_
      · exact e0
      · exact e28
      · exact e29
      · rfl
      · exact e41
      · rintro x w' hq; exact hq

def unseen (n : Nat) (seen : Array Nat) : Nat := ((List.range n).filter fun i => !seen.contains i).length
theorem unseen_lt {n i : Nat} {seen : Array Nat} (hi : i < n) (hs : i ∉ seen) : unseen n (seen.push i) < unseen n seen := by
  unfold unseen
  have : (List.range n).filter (fun k => !(seen.push i).contains k) = ((List.range n).filter fun k => !seen.contains k).filter fun k => decide (k ≠ i) := by
    rw [List.filter_filter]
    congr 1
    funext k
    simp only [Array.contains_push]
    by_cases h : k = i
    · subst h; simp
    · simp [h]
  rw [this, List.length_filter_lt_length_iff_exists]
  exact ⟨i, List.mem_filter.2 ⟨List.mem_range.2 hi, by simpa using hs⟩, by simp⟩

theorem gone_loop1 {K : Hl} {m r : Nat} {v sv : Value} {vs : List AV} {ks ss : List Int} {a : AV} (hr : Rc K v vs) (hu : RdS K 68 1 encU sv ss) (ha : vs[0]? = some a) (hd : a.dead = true) (hb : ss.length ≤ 2 ^ 30) :
    ∀ (d : Nat) (seen : Array Nat) (e : Env) (w : World) (F : List HP), unseen ks.length seen ≤ d → (∀ (n : Nat) (k : Int), n ∈ seen → ks[n]? = some k → k = 0) → Sat w (mit r m ks.length seen :: mset m ks :: kn K :: F) →
    e 0 = v → e 2 = sv → e 21 = ptr r 0 → e 41 = undef →
    Ok (evalLoop (cx103 (Fn Pg) (Rnd Pg)) (cdA Go.Proofs.Try.f103 [1, 0, 1, 1, 0, 1, 0, 0]) (K103_3 (Fn Pg) (Rnd Pg)) e w) (GoneQ K m vs ks ss F w) := by
  intro d
  induction d with
  | zero =>
    intro seen e w F hd0 hseen hs e0 e2 e21 e41
    rw [S103_L1_eq]; unfold S103_L1
    rw [e2, e21, e41]
    refine go_next hs (i := 0) (j := 1) rfl rfl (fun hall => ?_) (fun n k w1 hk hn _ _ => ?_)
    · refine Ok.rd rfl (Ok.cf rfl (Ok.rd2 (hu.len T68 w) ?_))
      refine gone_loop2 hr hu ha hd (fun k hk => ?_) hb ss.length 0 _ w F (by omega) (fun k s hk => absurd hk (Nat.not_lt_zero _)) hs.drop e0 rfl rfl rfl e41
      obtain ⟨n, hn⟩ := List.getElem?_of_mem hk
      exact hseen n k (hall n (List.getElem?_eq_some_iff.1 hn).1) hn
    · have := unseen_lt (List.getElem?_eq_some_iff.1 hk).1 hn
      omega
  | succ d ih =>
    intro seen e w F hd0 hseen hs e0 e2 e21 e41
    rw [S103_L1_eq]; unfold S103_L1
    rw [e2, e21, e41]
    refine go_next hs (i := 0) (j := 1) rfl rfl (fun hall => ?_) (fun n k w1 hk hn h1 s1 => ?_)
    · refine Ok.rd rfl (Ok.cf rfl (Ok.rd2 (hu.len T68 w) ?_))
      refine gone_loop2 hr hu ha hd (fun k hk => ?_) hb ss.length 0 _ w F (by omega) (fun k s hk => absurd hk (Nat.not_lt_zero _)) hs.drop e0 rfl rfl rfl e41
      obtain ⟨n, hn⟩ := List.getElem?_of_mem hk
      exact hseen n k (hall n (List.getElem?_eq_some_iff.1 hn).1) hn
    · have h1 : Sat w1 (mit r m ks.length (seen.push n) :: mset m ks :: kn K :: F) := h1
      refine Ok.rd rfl (Ok.ct rfl ?_)
      refine Ok.rd2 (entry_at h1 (i := 0) (j := 1) rfl rfl hk) (Ok.rd rfl (Ok.rd2 bin_eql ?_))
      by_cases h0 : k = 0
      · refine Ok.ct (by simp [h0]) ?_
        have hlt := unseen_lt (List.getElem?_eq_some_iff.1 hk).1 hn
        refine Ok.mono (ih (seen.push n) _ w1 F (by omega) (fun i c hi hc => ?_) h1 ?_ ?_ ?_ ?_) ?_
        · rcases Array.mem_push.1 hi with h | h
          · exact hseen i c h hc
          · rw [h, hk] at hc
            have := Option.some.inj hc
            omega
        · exact e0
        · exact e2
        · exact e21
        · exact e41
        · rintro x w' ⟨m1, m2, m3⟩
          exact ⟨m1, m2, s1.trans m3⟩
      · refine Ok.cf (by simpa using h0) ?_
        refine ⟨_, _, rfl, ?_, h1.drop, s1⟩
        rw [decide_eq_false]
        rintro ⟨b, _, _, hall, _⟩
        exact h0 (hall k (List.mem_of_getElem? hk))

theorem gone_ok {K : Hl} {m : Nat} {v sv : Value} {vs : List AV} {ks ss : List Int} (hr : Rc K v vs) (hu : RdS K 68 1 encU sv ss) (hb : ss.length ≤ 2 ^ 30) (hs : Sat w (mset m ks :: kn K :: F)) :
    Ok (Fn Pg 103 [v, .map (some m), sv] w) (GoneQ K m vs ks ss F w) := by
  rw [F103]; unfold S103
  have no : ¬ goneP vs ks ss → Ok (some (.bool false, w)) (GoneQ K m vs ks ss F w) := fun h => ⟨_, _, rfl, by rw [decide_eq_false h], hs, Sm.refl _⟩
  refine Ok.rd2 (hr.len w) (Ok.rd2 bin_eql ?_)
  match vs, hr, no with
  | [], hr, no =>
    refine Ok.f0 (Ok.f0 (Ok.f0 (Ok.f0 (Ok.f0 (Ok.rd (pick_t _ _) (Ok.ct rfl (no ?_)))))))
    rintro ⟨a, ha, _⟩
    simp at ha
  | a :: r, hr, no =>
    have hx : ((((a :: r).length : Nat) : Int) == 0) = false := by simp; omega
    have hon := kn_on hs (j := 1) rfl
    obtain ⟨q, x, g1, hxx, g2⟩ := hr.at (i := 0) (a := a) rfl
    have g1 : ixA Pg 76 v (int 0) = some (.pointer (some q)) := g1
    refine f_ok hx rfl (f_ok hx (by rw [g1]; rfl) (f_ok hx (by rw [fld85_1']; rfl) (f_ok hx (by rw [(g2 w hon).2.2]; rfl) (f_ok hx (by rw [un_not]; rfl) (pk_f hx ?_)))))
    cases hd : a.dead with
    | false =>
      refine Ok.ct rfl (no ?_)
      rintro ⟨b, hb, hbd, _⟩
      have := Option.some.inj hb
      subst this
      rw [hd] at hbd; cases hbd
    | true =>
      refine Ok.cf rfl ?_
      refine go_range hs (j := 0) rfl fun rr w1 h1 s1 => ?_
      refine Ok.mono (gone_loop1 hr hu rfl hd hb (unseen ks.length #[]) #[] _ w1 F (Nat.le_refl _) (fun n k hn => by simp at hn) h1 rfl rfl rfl rfl) ?_
      rintro y w' ⟨m1, m2, m3⟩
      exact ⟨m1, m2, s1.trans m3⟩
end Go.Cb

/-
  Chains: Prune.
-/
set_option linter.unusedVariables false
set_option linter.unusedSimpArgs false
namespace Go.Cb
open Classical
variable {w : World} {F : List HP} {Q Q' : Value → World → Prop}

theorem place_uniq {vs : List AV} {s : Int} {p q : Nat} (hp : PlaceP vs s p) (hq : PlaceP vs s q) : p = q := by
  have key : ∀ {p q : Nat}, PlaceP vs s p → PlaceP vs s q → ¬ p < q := by
    intro p q hp hq h
    have hlt : p < vs.length := by have := hq.le; omega
    exact hq.ahead p vs[p] h (List.getElem?_eq_getElem hlt) (hp.here _ (List.getElem?_eq_getElem hlt))
  rcases Nat.lt_trichotomy p q with h | h | h
  · exact absurd h (key hp hq)
  · exact h
  · exact absurd h (key hq hp)

/-- is a version seen, or the newest? -/
def seenP (vs : List AV) (ss : List Int) (i : Nat) : Prop := i = 0 ∨ ∃ s ∈ ss, i < vs.length ∧ PlaceP vs s i
def noneP (vs : List AV) (ss : List Int) : Prop := ∃ a, vs[0]? = some a ∧ a.dead = true ∧ (∀ i, seenP vs ss i → i = 0) ∧ ∀ s ∈ ss, ¬ s < a.st
def keepP (vs : List AV) (ss : List Int) (i : Nat) : Prop := ¬ RightP vs ∨ (seenP vs ss i ∧ ¬ noneP vs ss)
noncomputable def keptL (vs : List AV) (p : Nat → Prop) : List AV := (vs.zipIdx.filter fun x => decide (p x.2)).map (·.1)
theorem keptL_snoc (l : List AV) (a : AV) (p : Nat → Prop) : keptL (l ++ [a]) p = keptL l p ++ (if p l.length then [a] else []) := by
  unfold keptL
  rw [List.zipIdx_append, List.filter_append, List.map_append]
  congr 1
  by_cases h : p l.length <;> simp [h]
theorem keptL_len (l : List AV) (p : Nat → Prop) : (keptL l p).length ≤ l.length := by
  unfold keptL
  rw [List.length_map]
  exact Nat.le_trans (List.length_filter_le _ _) (by simp)

/-- the keys of those seen. -/
def Keys (vs : List AV) (ss : List Int) (ks : List Int) : Prop := RightP vs → ∀ k : Int, k ∈ ks ↔ ∃ i : Nat, k = i ∧ seenP vs ss i

theorem prune_loop1 {w0 : World} {K : Hl} {m : Nat} {v sv : Value} {vs : List AV} {ss : List Int} (hr : Rc K v vs) (hu : RdS K 68 1 encU sv ss) (hb : vs.length ≤ 2 ^ 28) (hb2 : ss.length ≤ 2 ^ 28)
    (cont : ∀ (ks : List Int) (e : Env) (w : World), Keys vs ss ks → Sat w (mset m ks :: kn K :: F) → Sm w0 w → e 0 = v → e 1 = sv → e 6 = .map (some m) → e 7 = .bool (!decide (RightP vs)) → e 21 = sv → e 22 = int ss.length → e 23 = int ss.length → e 75 = undef →
      Ok (evalLoop (cx67 (Fn Pg) (Rnd Pg)) (cdA Go.Proofs.Try.f67 [1, 1, 1, 0, 1, 0, 0]) (K67_2 (Fn Pg) (Rnd Pg)) e w) Q) : ∀ (j i : Nat) (ks : List Int) (e : Env) (w : World), i + j = ss.length → Keys vs (ss.take i) ks → Sat w (mset m ks :: kn K :: F) → Sm w0 w →
    e 0 = v → e 1 = sv → e 6 = .map (some m) → e 7 = .bool (!decide (RightP vs)) → e 21 = sv → e 22 = int ss.length → e 23 = int i → e 75 = undef →
    Ok (evalLoop (cx67 (Fn Pg) (Rnd Pg)) (cdA Go.Proofs.Try.f67 [1, 1, 1, 0, 1, 0, 0]) (K67_2 (Fn Pg) (Rnd Pg)) e w) Q := by
  intro j
  induction j with
  | zero =>
    intro i ks e w hij hk hs s0 e0 e1 e6 e7 e21 e22 e23 e75
    have hi : i = ss.length := by omega
    subst hi
    rw [List.take_length] at hk
    exact cont ks e w hk hs s0 e0 e1 e6 e7 e21 e22 e23 e75
  | succ j ih =>
    intro i ks e w hij hk hs s0 e0 e1 e6 e7 e21 e22 e23 e75
    have hi : i < ss.length := by omega
    obtain ⟨s, hss⟩ : ∃ s, ss[i]? = some s := ⟨_, List.getElem?_eq_getElem hi⟩
    obtain ⟨p, h1, h2⟩ := hu.u hss
    rw [S67_L1_eq]; unfold S67_L1
    rw [e0, e6, e21, e22, e23]
    refine Ok.rd2 bin_lss (Ok.ct (by simp; omega) ?_)
    refine Ok.rd h1 (Ok.rd (h2 w (kn_on hs (j := 1) rfl)) ?_)
    refine Ok.bind (place_any hr (by omega) hs.sw) ?_
    rintro x w1 ⟨⟨n, rfl, hn, hpl⟩, t1, s1⟩
    have htake : ss.take (i + 1) = ss.take i ++ [s] := by rw [List.take_add_one, hss]; rfl
    refine Ok.rd2 (hr.len w1) (Ok.rd2 bin_lss ?_)
    by_cases hlt : n < vs.length
    · refine Ok.ct (by simpa using hlt) ?_
      refine go_mput t1.sw (j := 0) rfl (n : Int) fun w2 t2 s2 => ?_
      refine Ok.rd2 (bin_add1 (by omega)) ?_
      have hk' : Keys vs (ss.take (i + 1)) (if (n : Int) ∈ ks then ks else ks ++ [(n : Int)]) := by
        intro hR k
        have hp := hpl hR
        have h0 := hk hR k
        have hmem : k ∈ (if (n : Int) ∈ ks then ks else ks ++ [(n : Int)]) ↔ k ∈ ks ∨ k = n := by
          by_cases hin : (n : Int) ∈ ks
          · rw [if_pos hin]
            exact ⟨.inl, fun h => h.elim id fun h => by rw [h]; exact hin⟩
          · rw [if_neg hin]; simp
        rw [hmem, h0, htake]
        constructor
        · rintro (⟨c, rfl, hc⟩ | rfl)
          · refine ⟨c, rfl, ?_⟩
            rcases hc with h | ⟨t, ht, h⟩
            · exact .inl h
            · exact .inr ⟨t, by simp [ht], h⟩
          · exact ⟨n, rfl, .inr ⟨s, by simp, hlt, hp⟩⟩
        · rintro ⟨c, rfl, hc⟩
          rcases hc with h | ⟨t, ht, hcl, hcp⟩
          · exact .inl ⟨c, rfl, .inl h⟩
          · rcases List.mem_append.1 ht with ht | ht
            · exact .inl ⟨c, rfl, .inr ⟨t, ht, hcl, hcp⟩⟩
            · simp at ht; subst ht
              right
              rw [place_uniq hcp hp]
      refine ih (i + 1) _ _ w2 (by omega) hk' t2 (s0.trans (s1.trans s2)) ?_ ?_ ?_ ?_ ?_ ?_ ?_ ?_
      · exact e0
      · exact e1
      · exact e6
      · exact e7
      · exact e21
      · exact e22
      · rfl
      · exact e75
    · refine Ok.cf (by simpa using hlt) (Ok.rd2 (bin_add1 (by omega)) ?_)
      have hk' : Keys vs (ss.take (i + 1)) ks := by
        intro hR k
        have hp := hpl hR
        rw [hk hR k, htake]
        constructor
        · rintro ⟨c, rfl, hc⟩
          refine ⟨c, rfl, ?_⟩
          rcases hc with h | ⟨t, ht, h⟩
          · exact .inl h
          · exact .inr ⟨t, by simp [ht], h⟩
        · rintro ⟨c, rfl, hc⟩
          refine ⟨c, rfl, ?_⟩
          rcases hc with h | ⟨t, ht, hcl, hcp⟩
          · exact .inl h
          · rcases List.mem_append.1 ht with ht | ht
            · exact .inr ⟨t, ht, hcl, hcp⟩
            · simp at ht; subst ht
              have := place_uniq hcp hp
              omega
      refine ih (i + 1) _ _ w1 (by omega) hk' t1.sw (s0.trans s1) ?_ ?_ ?_ ?_ ?_ ?_ ?_ ?_
      · exact e0
      · exact e1
      · exact e6
      · exact e7
      · exact e21
      · exact e22
      · rfl
      · exact e75

/-- is it kept? -/
theorem kp_ok {A N : Bool} {m j i : Nat} {ks : List Int} (hs : Sat w F) (hj : F[j]? = some (mset m ks)) {κ : Value → Value → Value → Value → Value → Value → Value → Value → World → R}
    (hκ : ∀ y1 y2 y3 y4 y5 y6 y7, Ok (κ y1 y2 y3 y4 y5 y6 y7 (.bool (A || (decide ((i : Int) ∈ ks) && !N))) w) Q) :
    Ok (rd2 (gate (.bool A) false (fun _ => some (.map (some m), w)) w) fun x109 w110 => rd2 (gate (.bool A) false (fun _ => some (int i, w110)) w110) fun x111 w112 =>
      rd2 (gate (.bool A) false (fun _ => rd2 (rawV Pg (Instr.lookup 163 x109 x111 false) w112) fun x113 w114 => some (x113, w114)) w112) fun x115 w116 =>
      rd2 (gate (.bool A) false (fun _ => some (x115, w116)) w116) fun x117 w118 => rd2 (gate x117 true (fun _ => some (.bool N, w118)) w118) fun x119 w120 =>
      rd2 (gate x117 true (fun _ => rd (unV .not x119) fun x121 => some (x121, w120)) w120) fun x122 w123 =>
      rd2 (gate (.bool A) false (fun _ => rd (pickV x117 x122 (.bool false)) fun x124 => some (x124, w123)) w123) fun x125 w126 =>
      rd (pickV (.bool A) (.bool true) x125) fun x127 => κ x109 x111 x115 x117 x119 x122 x125 x127 w126) Q := by
  cases A with
  | true =>
    refine Ok.f0 (Ok.f0 (Ok.f0 (Ok.f0 (Ok.rd2 (v := undef) (w := w) rfl (Ok.rd2 (v := undef) (w := w) rfl (Ok.f0 (Ok.rd (pick_t _ _) ?_)))))))
    exact hκ _ _ _ _ _ _ _
  | false =>
    refine f_ok rfl rfl (f_ok rfl rfl (f_ok rfl (gr2 (mget hs hj (i : Int))) (f_ok rfl rfl ?_)))
    cases hin : decide ((i : Int) ∈ ks) with
    | true =>
      refine t_ok rfl rfl (t_ok rfl (by rw [un_not]; rfl) (f_ok rfl (by rw [pick_t]; rfl) (pk_f rfl ?_)))
      have := hκ (.map (some m)) (int i) (.bool true) (.bool true) (.bool N) (.bool !N) (.bool !N)
      rw [hin] at this
      exact this
    | false =>
      refine t_no rfl (t_no rfl (f_ok rfl (by rw [pick_f]; rfl) (pk_f rfl ?_)))
      have := hκ (.map (some m)) (int i) (.bool false) (.bool false) undef undef (.bool false)
      rw [hin] at this
      exact this

/-- what Prune answers. -/
def PruneQ (K : Hl) (vs : List AV) (ss : List Int) (F : List HP) (w : World) (x : Value) (w' : World) : Prop :=
  ∃ K' kv dv, Le K K' ∧ x = .tuple #[kv, dv] ∧ Rc K' kv (keptL vs (keepP vs ss)) ∧ Rc K' dv (keptL vs fun i => ¬ keepP vs ss i) ∧ Sat w' (kn K' :: F) ∧ Sm w w'

theorem prune_loop2 {m : Nat} {v : Value} {vs : List AV} {ss ks : List Int} {A N : Bool} (hpb : PlB vs) (hb : vs.length ≤ 2 ^ 28) (hkp : ∀ i, i < vs.length → ((A || (decide ((i : Int) ∈ ks) && !N)) = true ↔ keepP vs ss i)) :
    ∀ (j i : Nat) (K : Hl) (xs ys : List Ver) (kv dv : Value) (e : Env) (w : World) (F : List HP), i + j = vs.length → Rc K v vs → Rvs K xs (keptL (vs.take i) (keepP vs ss)) → Rvs K ys (keptL (vs.take i) fun i => ¬ keepP vs ss i) →
    Sat w (slH 85 5 encVer kv xs :: slH 85 5 encVer dv ys :: mset m ks :: kn K :: F) →
    e 6 = .map (some m) → e 7 = .bool A → e 11 = .bool N → e 12 = kv → e 13 = dv → e 45 = v → e 46 = int vs.length → e 47 = int i → e 75 = undef →
    Ok (evalLoop (cx67 (Fn Pg) (Rnd Pg)) (cdA Go.Proofs.Try.f67 [1, 1, 1, 1, 1, 1, 0, 1, 0, 0]) (K67_4 (Fn Pg) (Rnd Pg)) e w) (PruneQ K vs ss F w) := by
  intro j
  induction j with
  | zero =>
    intro i K xs ys kv dv e w F hij hr hxs hys hs e6 e7 e11 e12 e13 e45 e46 e47 e75
    rw [S67_L2_eq]; unfold S67_L2
    rw [e6, e7, e11, e12, e13, e45, e46, e47, e75]
    refine Ok.rd2 bin_lss (Ok.cf (by simp; omega) ?_)
    have hi : i = vs.length := by omega
    rw [hi, List.take_length] at hxs hys
    obtain ⟨K1, l1, r1, h1⟩ := share T76 enVer (hs.re [0, 3, 1, 2] (by decide))
    have h1 : Sat w (kn K1 :: slH 85 5 encVer dv ys :: mset m ks :: F) := h1
    obtain ⟨K2, l2, r2, h2⟩ := share T76 enVer h1.sw
    exact ⟨_, _, rfl, K2, kv, dv, l1.trans l2, rfl, ⟨xs, r1.mono l2, hxs.mono (l1.trans l2)⟩, ⟨ys, r2, hys.mono (l1.trans l2)⟩, h2.sw.drop, Sm.refl _⟩
  | succ j ih =>
    intro i K xs ys kv dv e w F hij hr hxs hys hs e6 e7 e11 e12 e13 e45 e46 e47 e75
    have hi : i < vs.length := by omega
    obtain ⟨a, ha⟩ : ∃ a, vs[i]? = some a := ⟨_, List.getElem?_eq_getElem hi⟩
    obtain ⟨p, x, g1, hx, g2⟩ := hr.at ha
    have htake : vs.take (i + 1) = vs.take i ++ [a] := by rw [List.take_add_one, ha]; rfl
    have hlt : (vs.take i).length = i := by rw [List.length_take]; omega
    have hkb := hkp i hi
    have hxl : xs.length ≤ i := by rw [hxs.len]; exact Nat.le_trans (keptL_len _ _) (by rw [hlt]; exact Nat.le_refl _)
    have hyl : ys.length ≤ i := by rw [hys.len]; exact Nat.le_trans (keptL_len _ _) (by rw [hlt]; exact Nat.le_refl _)
    rw [S67_L2_eq]; unfold S67_L2
    rw [e6, e7, e11, e12, e13, e45, e46, e47, e75]
    refine Ok.rd2 bin_lss (Ok.ct (by simp; omega) ?_)
    refine Ok.rd g1 (Ok.rd (g2 w (kn_on hs (j := 3) rfl)).1 ?_)
    refine go_tmpG ty85 rfl (ones_ver x) hs fun nb w1 t1 s1 => ?_
    refine kp_ok t1 (j := 3) rfl fun y1 y2 y3 y4 y5 y6 y7 => ?_
    have hpa := hpb a (List.mem_of_getElem? ha)
    refine Ok.ci (fun hk => ?_) (fun hk => ?_)
    · have hkeep := hkb.1 hk
      refine Ok.rd (ldv t1 0 rfl) ?_
      refine Ok.bind (own_ok (j := 0) hx hpa (t1.re [4, 0, 1, 2, 3] (by decide))) ?_
      rintro y w2 ⟨K', x', hl, rfl, hx', t2, s2⟩
      have t2 : Sat w2 (kn K' :: pt nb (encVer x) 85 :: slH 85 5 encVer kv xs :: slH 85 5 encVer dv ys :: mset m ks :: F) := t2
      refine go_bs1 T76 enVer (by decide) (x := x') rfl t2 fun b w3 t3 hv3 s3 => ?_
      refine go_app T76 enVer t3 3 rfl hv3 (by simp; omega) fun a4 w4 t4 s4 => ?_
      have t4 : Sat w4 (pt b (encVer x') 85 :: kn K' :: pt nb (encVer x) 85 :: slH 85 5 encVer a4 (xs ++ [x']) :: slH 85 5 encVer dv ys :: mset m ks :: F) := t4
      refine Ok.rd2 (bin_add1 (by omega)) ?_
      have hxs' : Rvs K' (xs ++ [x']) (keptL (vs.take (i + 1)) (keepP vs ss)) := by
        rw [htake, keptL_snoc, hlt, if_pos hkeep]
        exact (hxs.mono hl).snoc hx'
      have hys' : Rvs K' ys (keptL (vs.take (i + 1)) fun i => ¬ keepP vs ss i) := by
        rw [htake, keptL_snoc, hlt, if_neg (by simpa using hkeep), List.append_nil]
        exact hys.mono hl
      refine Ok.mono (ih (i + 1) K' _ ys a4 dv _ w4 F (by omega) (hr.mono hl) hxs' hys' ((t4.re [0, 2, 3, 4, 5, 1] (by decide)).drop.drop) ?_ ?_ ?_ ?_ ?_ ?_ ?_ ?_ ?_) ?_
      · exact e6
      · exact e7
      · exact e11
      · rfl
      · exact e13
      · exact e45
      · exact e46
      · rfl
      · exact e75
      · rintro y w5 ⟨K2, k2, d2, l2, m1, m2, m3, m4, m5⟩
        exact ⟨K2, k2, d2, hl.trans l2, m1, m2, m3, m4, s1.trans (s2.trans (s3.trans (s4.trans m5)))⟩
    · have hkeep : ¬ keepP vs ss i := fun h => by rw [hkb.2 h] at hk; cases hk
      refine Ok.rd (ldv t1 0 rfl) ?_
      refine Ok.bind (own_ok (j := 0) hx hpa (t1.re [4, 0, 1, 2, 3] (by decide))) ?_
      rintro y w2 ⟨K', x', hl, rfl, hx', t2, s2⟩
      have t2 : Sat w2 (kn K' :: pt nb (encVer x) 85 :: slH 85 5 encVer kv xs :: slH 85 5 encVer dv ys :: mset m ks :: F) := t2
      refine go_bs1 T76 enVer (by decide) (x := x') rfl t2 fun b w3 t3 hv3 s3 => ?_
      refine go_app T76 enVer t3 4 rfl hv3 (by simp; omega) fun a4 w4 t4 s4 => ?_
      have t4 : Sat w4 (pt b (encVer x') 85 :: kn K' :: pt nb (encVer x) 85 :: slH 85 5 encVer kv xs :: slH 85 5 encVer a4 (ys ++ [x']) :: mset m ks :: F) := t4
      refine Ok.rd2 (bin_add1 (by omega)) ?_
      have hxs' : Rvs K' xs (keptL (vs.take (i + 1)) (keepP vs ss)) := by
        rw [htake, keptL_snoc, hlt, if_neg hkeep, List.append_nil]
        exact hxs.mono hl
      have hys' : Rvs K' (ys ++ [x']) (keptL (vs.take (i + 1)) fun i => ¬ keepP vs ss i) := by
        rw [htake, keptL_snoc, hlt, if_pos hkeep]
        exact (hys.mono hl).snoc hx'
      refine Ok.mono (ih (i + 1) K' xs _ kv a4 _ w4 F (by omega) (hr.mono hl) hxs' hys' ((t4.re [0, 2, 3, 4, 5, 1] (by decide)).drop.drop) ?_ ?_ ?_ ?_ ?_ ?_ ?_ ?_ ?_) ?_
      · exact e6
      · exact e7
      · exact e11
      · exact e12
      · rfl
      · exact e45
      · exact e46
      · rfl
      · exact e75
      · rintro y w5 ⟨K2, k2, d2, l2, m1, m2, m3, m4, m5⟩
        exact ⟨K2, k2, d2, hl.trans l2, m1, m2, m3, m4, s1.trans (s2.trans (s3.trans (s4.trans m5)))⟩
end Go.Cb

/-
  Chains: Prune, whole.
-/
set_option linter.unusedVariables false
set_option linter.unusedSimpArgs false
namespace Go.Cb
open Classical
variable {w : World} {F : List HP} {Q Q' : Value → World → Prop}

theorem gone_none {vs : List AV} {ss ks : List Int} (hR : RightP vs) (hk : Keys vs ss ks) : goneP vs ks ss ↔ noneP vs ss := by
  have hk := hk hR
  constructor
  · rintro ⟨a, h1, h2, h3, h4⟩
    refine ⟨a, h1, h2, fun i hi => ?_, h4⟩
    have := h3 (i : Int) ((hk i).2 ⟨i, rfl, hi⟩)
    omega
  · rintro ⟨a, h1, h2, h3, h4⟩
    refine ⟨a, h1, h2, fun k hkk => ?_, h4⟩
    obtain ⟨i, rfl, hi⟩ := (hk k).1 hkk
    rw [h3 i hi]; rfl

theorem prune_ok {K : Hl} {v sv : Value} {vs : List AV} {ss : List Int} (hpb : PlB vs) (hb : vs.length ≤ 2 ^ 28) (hb2 : ss.length ≤ 2 ^ 28) (hr : Rc K v vs) (hu : RdS K 68 1 encU sv ss) (hs : Sat w (kn K :: F)) :
    Ok (Fn Pg 67 [v, sv] w) (PruneQ K vs ss F w) := by
  rw [F67]; unfold S67
  refine go_mmake hs fun m w1 h1 s1 => ?_
  refine go_mput h1 (j := 0) rfl 0 fun w2 h2 s2 => ?_
  rw [if_neg (by simp)] at h2
  have h2 : Sat w2 (mset m [0] :: kn K :: F) := h2
  refine Ok.bind (right_ok hr (by omega) h2.sw) ?_
  rintro x w3 ⟨rfl, h3, s3⟩
  have h3 : Sat w3 (mset m [0] :: kn K :: F) := h3.sw
  refine Ok.rd (un_not _) (Ok.rd2 (hu.len T68 w3) ?_)
  have s0 := s1.trans (s2.trans s3)
  have hk0 : Keys vs (ss.take 0) [0] := by
    intro _ k
    simp only [List.take_zero, List.mem_singleton, seenP, List.not_mem_nil, false_and, exists_false, or_false]
    exact ⟨fun h => ⟨0, h, rfl⟩, fun ⟨i, h1, h2⟩ => by rw [h1, h2]; rfl⟩
  obtain ⟨e0, he0⟩ : ∃ e : Env, e = (upd (upd (upd (upd (upd (upd (upd (upd (upd (upd (upd (upd (envL [v, sv]) 4 (.slice none 0 0)) 5 (.slice none 0 0)) 16 (.map (some m))) 17 (.map (some m))) 6 (.map (some m))) 18 v) 19 (.bool (decide (RightP vs)))) 20 (.bool !decide (RightP vs))) 7 (.bool !decide (RightP vs))) 21 sv) 22 (int ss.length)) 23 (.int .i64 0)) := ⟨_, rfl⟩
  rw [← he0]
  have key : Ok (evalLoop (cx67 (Fn Pg) (Rnd Pg)) (cdA Go.Proofs.Try.f67 [1, 1, 1, 0, 1, 0, 0]) (K67_2 (Fn Pg) (Rnd Pg)) e0 w3) (PruneQ K vs ss F w) := by
    refine prune_loop1 (w0 := w) (F := F) (m := m) hr hu hb hb2 ?_ ss.length 0 [0] e0 w3 (by omega) hk0 h3 s0 (by rw [he0]; rfl) (by rw [he0]; rfl) (by rw [he0]; rfl) (by rw [he0]; rfl) (by rw [he0]; rfl) (by rw [he0]; rfl) (by rw [he0]; rfl) (by rw [he0]; rfl)
    intro ks e w4 hk h4 s4 e0 e1 e6 e7 e21 e22 e23 e75
    have fin : ∀ (N : Bool) (w5 : World) (e' : Env), (∀ i, i < vs.length → (((!decide (RightP vs)) || (decide ((i : Int) ∈ ks) && !N)) = true ↔ keepP vs ss i)) → Sat w5 (mset m ks :: kn K :: F) → Sm w w5 →
        e' 6 = .map (some m) → e' 7 = .bool (!decide (RightP vs)) → e' 11 = .bool N → e' 12 = .slice none 0 0 → e' 13 = .slice none 0 0 → e' 45 = v → e' 46 = int vs.length → e' 47 = int 0 → e' 75 = undef →
        Ok (evalLoop (cx67 (Fn Pg) (Rnd Pg)) (cdA Go.Proofs.Try.f67 [1, 1, 1, 1, 1, 1, 0, 1, 0, 0]) (K67_4 (Fn Pg) (Rnd Pg)) e' w5) (PruneQ K vs ss F w) := by
      intro N w5 e' hkp h5 s5 d6 d7 d11 d12 d13 d45 d46 d47 d75
      have h6 := slH_nil (T := 85) (k := 5) (enc := encVer) none (slH_nil (T := 85) (k := 5) (enc := encVer) none h5)
      refine Ok.mono (prune_loop2 (m := m) (ks := ks) (A := !decide (RightP vs)) (N := N) hpb hb hkp vs.length 0 K [] [] _ _ e' w5 F (by omega) hr Rvs.nil Rvs.nil h6 d6 d7 d11 d12 d13 d45 d46 d47 d75) ?_
      rintro y w6 ⟨K2, k2, d2, l2, m1, m2, m3, m4, m5⟩
      exact ⟨K2, k2, d2, l2, m1, m2, m3, m4, s5.trans m5⟩
    rw [S67_L1_eq]; unfold S67_L1
    rw [e0, e1, e6, e7, e21, e22, e23]
    refine Ok.rd2 bin_lss (Ok.cf (by simp) (Ok.rd (un_not _) ?_))
    by_cases hR : RightP vs
    · have hA : (!decide (RightP vs)) = false := by simp [hR]
      rw [hA] at fin ⊢
      refine t_ok rfl rfl (t_ok rfl rfl (t_ok rfl rfl ?_))
      refine t_call rfl (gone_ok hr hu (by omega) h4) ?_
      rintro y w5 ⟨rfl, h5, s5⟩
      refine pk_t rfl (Ok.rd2 (hr.len w5) ?_)
      refine fin (decide (goneP vs ks ss)) w5 _ (fun i hi => ?_) h5 (s4.trans s5) ?_ ?_ ?_ ?_ ?_ ?_ ?_ ?_ ?_
      · have hki := hk hR (i : Int)
        have hmem : (i : Int) ∈ ks ↔ seenP vs ss i := by
          rw [hki]
          exact ⟨fun ⟨c, h1, h2⟩ => by have : i = c := by omega
                                       rw [this]; exact h2, fun h => ⟨i, rfl, h⟩⟩
        rw [Bool.false_or, Bool.and_eq_true, decide_eq_true_iff, Bool.not_eq_true', decide_eq_false_iff_not, hmem, gone_none hR hk]
        exact ⟨fun h => .inr h, fun h => h.resolve_left (fun h' => h' hR)⟩
      · exact e6
      · exact e7.trans (by rw [hA])
      · rfl
      · rfl
      · rfl
      · rfl
      · rfl
      · rfl
      · exact e75
    · have hA : (!decide (RightP vs)) = true := by simp [hR]
      rw [hA] at fin ⊢
      refine t_no rfl (t_no rfl (t_no rfl (t_no rfl (pk_f rfl (Ok.rd2 (hr.len w4) ?_)))))
      refine fin false w4 _ (fun i hi => ?_) h4 s4 ?_ ?_ ?_ ?_ ?_ ?_ ?_ ?_ ?_
      · simp only [Bool.true_or, true_iff]
        exact .inl hR
      · exact e6
      · exact e7.trans (by rw [hA])
      · rfl
      · rfl
      · rfl
      · rfl
      · rfl
      · rfl
      · exact e75
  exact key
end Go.Cb
