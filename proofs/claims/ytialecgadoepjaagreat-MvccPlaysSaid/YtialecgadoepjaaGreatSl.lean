/-
  Slices in symbolic memory: a slice value that has rows of k cells each; the values of small operations.
-/
import Derived.Test.YtialecgadoepjaaGreatHp
set_option linter.unusedVariables false
set_option linter.unusedSimpArgs false
namespace Go.Cb
variable {P : Program}

/-! ### Small operations on values that are known -/

theorem bin_int {st : Bool} {op : BinOp} {t : TypeId} {ox oy : Operand} {a b : Int} {w : World} {v : Value} (h : binV op (int a) (int b) = some v) : binG st P op t ox oy (int a) (int b) w = some (v, w) := by
  unfold binG; rw [h]
theorem bin_eql {st : Bool} {t : TypeId} {ox oy : Operand} {a b : Int} {w : World} : binG st P .eql t ox oy (int a) (int b) w = some (.bool (a == b), w) := bin_int (by simp [binV])
theorem bin_neq {st : Bool} {t : TypeId} {ox oy : Operand} {a b : Int} {w : World} : binG st P .neq t ox oy (int a) (int b) w = some (.bool (a != b), w) := bin_int (by simp [binV])
theorem bin_lss {st : Bool} {t : TypeId} {ox oy : Operand} {a b : Int} {w : World} : binG st P .lss t ox oy (int a) (int b) w = some (.bool (decide (a < b)), w) := bin_int (by simp [binV])
theorem bin_leq {st : Bool} {t : TypeId} {ox oy : Operand} {a b : Int} {w : World} : binG st P .leq t ox oy (int a) (int b) w = some (.bool (decide (a ≤ b)), w) := bin_int (by simp [binV])
theorem bin_gtr {st : Bool} {t : TypeId} {ox oy : Operand} {a b : Int} {w : World} : binG st P .gtr t ox oy (int a) (int b) w = some (.bool (decide (b < a)), w) := bin_int (by simp [binV])
theorem bin_geq {st : Bool} {t : TypeId} {ox oy : Operand} {a b : Int} {w : World} : binG st P .geq t ox oy (int a) (int b) w = some (.bool (decide (b ≤ a)), w) := bin_int (by simp [binV])
theorem bin_add {st : Bool} {t : TypeId} {ox oy : Operand} {a b : Int} {w : World} (h1 : -9223372036854775808 ≤ a + b) (h2 : a + b ≤ 9223372036854775807) : binG st P .add t ox oy (int a) (int b) w = some (int (a + b), w) :=
  bin_int (by simp [binV, w64 h1 h2])
theorem bin_sub {st : Bool} {t : TypeId} {ox oy : Operand} {a b : Int} {w : World} (h1 : -9223372036854775808 ≤ a - b) (h2 : a - b ≤ 9223372036854775807) : binG st P .sub t ox oy (int a) (int b) w = some (int (a - b), w) :=
  bin_int (by simp [binV, w64 h1 h2])
theorem bin_mul {st : Bool} {t : TypeId} {ox oy : Operand} {a b : Int} {w : World} (h1 : -9223372036854775808 ≤ a * b) (h2 : a * b ≤ 9223372036854775807) : binG st P .mul t ox oy (int a) (int b) w = some (int (a * b), w) :=
  bin_int (by simp [binV, w64 h1 h2])
theorem bin_addn {st : Bool} {t : TypeId} {ox oy : Operand} {a b : Nat} {w : World} (h2 : a + b ≤ 2 ^ 62) : binG st P .add t ox oy (int a) (int b) w = some (int (a + b : Nat), w) :=
  bin_int (by simp only [binV, if_true]; rw [w64 (by omega) (by omega), ← Int.natCast_add])
theorem bin_add1 {st : Bool} {t : TypeId} {ox oy : Operand} {a : Nat} {w : World} (h2 : a ≤ 2 ^ 62) : binG st P .add t ox oy (int a) (int 1) w = some (int (a + 1 : Nat), w) :=
  bin_int (by simp only [binV, if_true]; rw [w64 (by omega) (by omega)]; rfl)
theorem bin_add2 {st : Bool} {t : TypeId} {ox oy : Operand} {a : Nat} {w : World} (h2 : a ≤ 2 ^ 62) : binG st P .add t ox oy (int a) (int 2) w = some (int (a + 2 : Nat), w) :=
  bin_int (by simp only [binV, if_true]; rw [w64 (by omega) (by omega)]; rfl)
theorem bin_subn {st : Bool} {t : TypeId} {ox oy : Operand} {a b : Nat} {w : World} (h1 : b ≤ a) (h2 : a ≤ 2 ^ 62) : binG st P .sub t ox oy (int a) (int b) w = some (int (a - b : Nat), w) :=
  bin_int (by simp only [binV, if_true]; rw [w64 (by omega) (by omega), Int.natCast_sub h1])
theorem bin_sub1 {st : Bool} {t : TypeId} {ox oy : Operand} {a : Nat} {w : World} (h1 : 1 ≤ a) (h2 : a ≤ 2 ^ 62) : binG st P .sub t ox oy (int a) (int 1) w = some (int (a - 1 : Nat), w) :=
  bin_int (by simp only [binV, if_true]; rw [w64 (by omega) (by omega), Int.natCast_sub h1]; rfl)
theorem nil_ptr (b o : Nat) : nilV (ptr b o) = some (ptr b o) := rfl
theorem un_not (b : Bool) : unV .not (.bool b) = some (.bool !b) := rfl
theorem pick_t (a b : Value) : pickV (.bool true) a b = some a := rfl
theorem pick_f (a b : Value) : pickV (.bool false) a b = some b := rfl
theorem ext_at (vs : Array Value) (i : Nat) : extV (.tuple vs) i = vs[i]? := rfl

theorem len_sl {st : Bool} {t rt : TypeId} {elem : TypeId} {cs : Array Bool} (hu : P.underlying t = some (.slice elem)) (a : Option Addr) (n c : Nat) (w : World) : lenG st P .len #[t] rt cs [.slice a n c] w = some (int n, w) := by
  unfold lenG; simp [hu, goInt]
theorem cap_sl {st : Bool} {t rt : TypeId} {elem : TypeId} {cs : Array Bool} (hu : P.underlying t = some (.slice elem)) (a : Option Addr) (n c : Nat) (w : World) : lenG st P .cap #[t] rt cs [.slice a n c] w = some (int c, w) := by
  unfold lenG; simp [hu, goInt]
theorem len_str {st : Bool} {t rt : TypeId} {cs : Array Bool} (hu : P.underlying t = some .string) (s : ByteArray) (w : World) : lenG st P .len #[t] rt cs [.string s] w = some (int s.size, w) := by
  unfold lenG; simp [hu, goInt]

/-- is a slice nil? -/
theorem eql_nilS {t elem : TypeId} {ox oy : Operand} (hu : P.underlying t = some (.slice elem)) {a : Option Addr} {n c : Nat} {w : World} :
    binG false P .eql t ox oy (.slice a n c) nilS w = some (.bool a.isNone, w) := by
  unfold binG
  have : binV .eql (.slice a n c) nilS = none := by simp [binV]
  rw [this]
  have h0 : cmpV P .eql t (.slice a n c) nilS = none := rfl
  rw [h0]
  have h1 : (eqGuard .eql t ox oy (.slice a n c) nilS).run P w = .ok () w := rfl
  have h3 : ∀ d, (Op.equalIn (d + 1) t (.slice a n c) nilS).run P w = .ok a.isNone w := by
    intro d; cases a <;> simp [Op.equalIn, und_run hu]
  have h2 : (binOp .eql t (.slice a n c) nilS).run P w = .ok (.bool a.isNone) w := by
    have h4 : (Op.equal t (.slice a n c) nilS).run P w = .ok a.isNone w := h3 9999
    simp only [binOp]
    simp [h4]
  simp only [cond_false, rawV]
  rw [Sem.run_bind, h1]
  simp only [Result.andThen_ok, h2]

theorem sl_lo {t elem : TypeId} {i : TypeInfo} (hu : P.underlying t = some (.slice elem)) (hi : P.info? elem = some i) {a : Option Addr} {n c : Nat} {lo : Nat} (h : lo ≤ n) :
    slV P t (.slice a n c) (some (int lo)) none none = some (.slice (if c = lo then a else a.map (·.add (lo * i.size))) (n - lo) (c - lo)) := by
  have hb : bdV (int lo) n = some lo := by simp [bdV, h]
  simp [slV, hu, hi, bdO, hb]
theorem sl_hi {t elem : TypeId} {i : TypeInfo} (hu : P.underlying t = some (.slice elem)) (hi : P.info? elem = some i) {a : Option Addr} {n c : Nat} {hh : Nat} (h : hh ≤ c) :
    slV P t (.slice a n c) none (some (int hh)) none = some (.slice a hh c) := by
  have hb : bdV (int hh) c = some hh := by simp [bdV, h]
  have hadd : ∀ x : Addr, x.add (0 * i.size) = x := fun x => by simp [Addr.add]
  cases a <;> simp [slV, hu, hi, bdO, hb, Addr.add]
theorem sl_lohi {t elem : TypeId} {i : TypeInfo} (hu : P.underlying t = some (.slice elem)) (hi : P.info? elem = some i) {a : Option Addr} {n c : Nat} {lo hh : Nat} (h : hh ≤ c) (h' : lo ≤ hh) :
    slV P t (.slice a n c) (some (int lo)) (some (int hh)) none = some (.slice (if c = lo then a else a.map (·.add (lo * i.size))) (hh - lo) (c - lo)) := by
  have hb : bdV (int hh) c = some hh := by simp [bdV, h]
  have hb2 : bdV (int lo) hh = some lo := by simp [bdV, h']
  simp [slV, hu, hi, bdO, hb, hb2]
theorem sl_lohimx {t elem : TypeId} {i : TypeInfo} (hu : P.underlying t = some (.slice elem)) (hi : P.info? elem = some i) {a : Option Addr} {n c : Nat} {lo hh : Nat} (h : hh ≤ c) (h' : lo ≤ hh) {mx : Nat} (h1 : hh ≤ mx) (h2 : mx ≤ c) :
    (slV P t (.slice a n c) (some (int lo)) (some (int hh)) (some (int mx))).isSome = true := by
  have hb : bdV (int hh) mx = some hh := by simp [bdV, h1]
  have hb2 : bdV (int lo) hh = some lo := by simp [bdV, h']
  have hb3 : bdV (int mx) c = some mx := by simp [bdV, h2]
  simp [slV, hu, hi, bdO, hb, hb2, hb3]

theorem ix_sl {t elem : TypeId} {i : TypeInfo} (hu : P.underlying t = some (.slice elem)) (hi : P.info? elem = some i) {b o n c k : Nat} (h : k < n) : ixA P t (sl b o n c) (int k) = some (ptr b (o + k * i.size)) := by
  have : (0 : Int) ≤ k ∧ (k : Int) < n := by omega
  simp [ixA, hu, hi, this.2]
  rw [show (⟨b, o, none⟩ : Addr) = ad b o from rfl, add_ad]

/-! ### Slices of rows -/

/-- v is a slice of the rows xs, of k cells each, alone in the blocks of f (no or one). -/
def SlR (T k : Nat) {α : Type} (enc : α → List Value) (w : World) (v : Value) (xs : List α) (f : List Nat) : Prop :=
  (v = nilS ∧ xs = [] ∧ f = []) ∨
  ∃ b c l, v = sl b 0 xs.length c ∧ f = [b] ∧ At w b l T ∧ l.length = c * k ∧ xs.length ≤ c ∧ l.take (xs.length * k) = xs.flatMap enc

theorem SlR.ext {T k : Nat} {α : Type} {enc : α → List Value} {w w' : World} {v : Value} {xs : List α} {f : List Nat} {S : Nat → Prop} (h : SlR T k enc w v xs f) (he : Ext S w w') (hn : ∀ c ∈ f, ¬ S c) : SlR T k enc w' v xs f := by
  rcases h with h | ⟨b, c, l, h1, h2, h3, h4, h5, h6⟩
  · exact .inl h
  · subst h2
    exact .inr ⟨b, c, l, h1, rfl, he.at h3 (hn b (by simp)), h4, h5, h6⟩

theorem SlR.lt {T k : Nat} {α : Type} {enc : α → List Value} {w : World} {v : Value} {xs : List α} {f : List Nat} (h : SlR T k enc w v xs f) : ∀ c ∈ f, c < w.heap.size := by
  rcases h with ⟨_, _, rfl⟩ | ⟨b, c, l, h1, rfl, h3, _⟩
  · intro c hc; cases hc
  · intro c hc; simp at hc; subst hc; exact h3.lt

theorem SlR.nd {T k : Nat} {α : Type} {enc : α → List Value} {w : World} {v : Value} {xs : List α} {f : List Nat} (h : SlR T k enc w v xs f) : f.Nodup := by
  rcases h with ⟨_, _, rfl⟩ | ⟨b, c, l, h1, rfl, h3, _⟩ <;> simp

theorem SlR.val {T k : Nat} {α : Type} {enc : α → List Value} {w : World} {v : Value} {xs : List α} {f : List Nat} (h : SlR T k enc w v xs f) : ∃ a c, v = .slice a xs.length c ∧ xs.length ≤ c ∧ (xs = [] ∨ ∃ b, a = some (ad b 0) ∧ f = [b]) := by
  rcases h with ⟨rfl, rfl, rfl⟩ | ⟨b, c, l, rfl, rfl, h3, h4, h5, h6⟩
  · exact ⟨none, 0, rfl, Nat.le_refl _, .inl rfl⟩
  · exact ⟨_, c, rfl, h5, .inr ⟨b, rfl, rfl⟩⟩

theorem flat_length {α : Type} {enc : α → List Value} {k : Nat} (hk : ∀ x, (enc x).length = k) : ∀ xs : List α, (xs.flatMap enc).length = xs.length * k
  | [] => by simp
  | x :: r => by rw [List.flatMap_cons, List.length_append, hk, flat_length hk r, List.length_cons, Nat.succ_mul]; omega

theorem flat_drop {α : Type} {enc : α → List Value} {k : Nat} (hk : ∀ x, (enc x).length = k) : ∀ (xs : List α) (i : Nat), (xs.flatMap enc).drop (i * k) = (xs.drop i).flatMap enc
  | [], i => by simp
  | x :: r, 0 => by simp
  | x :: r, i + 1 => by
    rw [List.flatMap_cons, List.drop_succ_cons, ← flat_drop hk r i, Nat.succ_mul, Nat.add_comm, ← List.drop_drop]
    congr 1
    rw [List.drop_append_of_le_length (by rw [hk]; omega), ← hk x, List.drop_length, List.nil_append]

theorem flat_take {α : Type} {enc : α → List Value} {k : Nat} (hk : ∀ x, (enc x).length = k) : ∀ (xs : List α) (i : Nat), (xs.flatMap enc).take (i * k) = (xs.take i).flatMap enc
  | [], i => by simp
  | x :: r, 0 => by simp
  | x :: r, i + 1 => by
    rw [List.flatMap_cons, List.take_succ_cons, List.flatMap_cons, ← flat_take hk r i, Nat.succ_mul, Nat.add_comm, ← hk x, List.take_length_add_append]

theorem flat_set {α : Type} {enc : α → List Value} {k : Nat} (hk : ∀ x, (enc x).length = k) (xs : List α) (i : Nat) (y : α) (h : i < xs.length) :
    (xs.set i y).flatMap enc = (xs.take i).flatMap enc ++ enc y ++ (xs.drop (i + 1)).flatMap enc := by
  rw [List.set_eq_take_append_cons_drop, if_pos h, List.flatMap_append, List.flatMap_cons, List.append_assoc]

theorem flat_one {α : Type} {enc : α → List Value} (h1 : ∀ x, ∀ v ∈ enc x, one v = true) (xs : List α) : ∀ v ∈ xs.flatMap enc, one v = true := by
  intro v hv
  obtain ⟨x, _, hx⟩ := List.mem_flatMap.1 hv
  exact h1 x v hx

/-- a source whose rows are known. -/
theorem SlR.src {T k : Nat} {α : Type} {enc : α → List Value} {w : World} {v : Value} {xs : List α} {f : List Nat} (h : SlR T k enc w v xs f) : Src w v xs.length k (xs.flatMap enc) := by
  rcases h with ⟨rfl, rfl, rfl⟩ | ⟨b, c, l, rfl, rfl, h3, h4, h5, h6⟩
  · exact .inl ⟨0, rfl, rfl, rfl⟩
  · have hmul : xs.length * k ≤ c * k := Nat.mul_le_mul_right k h5
    have := src_at (w := w) (c := c) h3 (show 0 + xs.length * k ≤ l.length by omega)
    rw [List.drop_zero, h6] at this
    exact this

end Go.Cb
