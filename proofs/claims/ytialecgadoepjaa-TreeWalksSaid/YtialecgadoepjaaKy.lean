/-
  Keys and their order; sorted entries; put, delete; entries interleaved with those of kids.
-/
import Derived.Test.YtialecgadoepjaaLe
set_option linter.unusedVariables false
set_option linter.unusedSimpArgs false
namespace Go.Cb

/-! ### The order of keys -/

theorem bl_irr : ∀ x : List UInt8, Op.bytesLess x x = false
  | [] => rfl
  | a :: x => by
    have : ¬ a < a := UInt8.lt_irrefl a
    simp [Op.bytesLess, bl_irr x, this]
theorem bl_tr : ∀ {x y z : List UInt8}, Op.bytesLess x y = true → Op.bytesLess y z = true → Op.bytesLess x z = true
  | [], y, z, h1, h2 => by
    cases z with
    | nil => cases y <;> simp [Op.bytesLess] at h2
    | cons c z => simp [Op.bytesLess]
  | a :: x, [], z, h1, h2 => by simp [Op.bytesLess] at h1
  | a :: x, b :: y, [], h1, h2 => by simp [Op.bytesLess] at h2
  | a :: x, b :: y, c :: z, h1, h2 => by
    simp only [Op.bytesLess, Bool.or_eq_true, decide_eq_true_iff, Bool.and_eq_true, beq_iff_eq] at h1 h2 ⊢
    rcases h1 with h1 | ⟨rfl, h1⟩
    · rcases h2 with h2 | ⟨rfl, h2⟩
      · exact .inl (UInt8.lt_trans h1 h2)
      · exact .inl h1
    · rcases h2 with h2 | ⟨rfl, h2⟩
      · exact .inl h2
      · exact .inr ⟨rfl, bl_tr h1 h2⟩
theorem bl_tot : ∀ {x y : List UInt8}, Op.bytesLess x y = false → Op.bytesLess y x = false → x = y
  | [], [], _, _ => rfl
  | [], b :: y, h1, h2 => by simp [Op.bytesLess] at h1
  | a :: x, [], h1, h2 => by simp [Op.bytesLess] at h2
  | a :: x, b :: y, h1, h2 => by
    simp only [Op.bytesLess, Bool.or_eq_false_iff, decide_eq_false_iff_not, Bool.and_eq_false_iff, beq_eq_false_iff_ne] at h1 h2
    have hab : a = b := by
      apply UInt8.le_antisymm
      · exact UInt8.not_lt.1 h2.1
      · exact UInt8.not_lt.1 h1.1
    subst hab
    have h3 : Op.bytesLess x y = false := h1.2.resolve_left (fun h => h rfl)
    have h4 : Op.bytesLess y x = false := h2.2.resolve_left (fun h => h rfl)
    rw [bl_tot h3 h4]

def kl (a b : ByteArray) : Bool := Op.bytesLess a.toList b.toList
theorem tl_inj {a b : ByteArray} (h : a.toList = b.toList) : a = b := by
  rw [ByteArray.toList_eq, ByteArray.toList_eq] at h
  cases a; cases b
  simp only [ByteArray.mk.injEq]
  exact Array.ext' h
theorem kl_irr (a : ByteArray) : kl a a = false := bl_irr _
theorem kl_tr {a b c : ByteArray} (h : kl a b = true) (h' : kl b c = true) : kl a c = true := bl_tr h h'
theorem kl_tot {a b : ByteArray} (h : kl a b = false) (h' : kl b a = false) : a = b := tl_inj (bl_tot h h')
theorem kl_asym {a b : ByteArray} (h : kl a b = true) : kl b a = false := by
  cases hb : kl b a with
  | false => rfl
  | true => have := kl_tr h hb; rw [kl_irr] at this; cases this
theorem kl_ne {a b : ByteArray} (h : kl a b = true) : a ≠ b := by rintro rfl; rw [kl_irr] at h; cases h
/-- not below, and not the same: above. -/
theorem kl_gt {a b : ByteArray} (h : kl a b = false) (h' : a ≠ b) : kl b a = true := by
  cases hb : kl b a with
  | true => rfl
  | false => exact absurd (kl_tot h hb) h'
theorem key_beq (a b : ByteArray) : (a.toList == b.toList) = decide (a = b) := by
  rw [Bool.eq_iff_iff, beq_iff_eq, decide_eq_true_iff]
  exact ⟨tl_inj, fun h => by rw [h]⟩

/-! ### Sorted entries -/

def Srt (L : List Ent) : Prop := L.Pairwise fun a b => kl a.1 b.1 = true
theorem srt_app {A B : List Ent} : Srt (A ++ B) ↔ Srt A ∧ Srt B ∧ ∀ a ∈ A, ∀ b ∈ B, kl a.1 b.1 = true := List.pairwise_append
theorem srt_cons {a : Ent} {B : List Ent} : Srt (a :: B) ↔ (∀ b ∈ B, kl a.1 b.1 = true) ∧ Srt B := List.pairwise_cons

def lows (L : List Ent) (k : ByteArray) : List Ent := L.filter fun e => kl e.1 k
def upps (L : List Ent) (k : ByteArray) : List Ent := L.filter fun e => kl k e.1
def putL (L : List Ent) (e : Ent) : List Ent := lows L e.1 ++ e :: upps L e.1
def delL (L : List Ent) (k : ByteArray) : List Ent := lows L k ++ upps L k
def hasL (L : List Ent) (k : ByteArray) : Prop := ∃ e ∈ L, e.1 = k
def bel (L : List Ent) (k : ByteArray) : Prop := ∀ e ∈ L, kl e.1 k = true
def abv (L : List Ent) (k : ByteArray) : Prop := ∀ e ∈ L, kl k e.1 = true

theorem lows_app (A B : List Ent) (k : ByteArray) : lows (A ++ B) k = lows A k ++ lows B k := List.filter_append ..
theorem upps_app (A B : List Ent) (k : ByteArray) : upps (A ++ B) k = upps A k ++ upps B k := List.filter_append ..
theorem lows_bel {A : List Ent} {k : ByteArray} (h : bel A k) : lows A k = A := List.filter_eq_self.2 h
theorem upps_abv {A : List Ent} {k : ByteArray} (h : abv A k) : upps A k = A := List.filter_eq_self.2 h
theorem lows_abv {A : List Ent} {k : ByteArray} (h : abv A k) : lows A k = [] := List.filter_eq_nil_iff.2 fun e he => by rw [kl_asym (h e he)]; simp
theorem upps_bel {A : List Ent} {k : ByteArray} (h : bel A k) : upps A k = [] := List.filter_eq_nil_iff.2 fun e he => by rw [kl_asym (h e he)]; simp

theorem put_mid {A X B : List Ent} {e : Ent} (hA : bel A e.1) (hB : abv B e.1) : putL (A ++ X ++ B) e = A ++ putL X e ++ B := by
  simp only [putL, lows_app, upps_app, lows_bel hA, lows_abv hB, upps_bel hA, upps_abv hB, List.nil_append, List.append_nil, List.append_assoc, List.cons_append]
theorem del_mid {A X B : List Ent} {k : ByteArray} (hA : bel A k) (hB : abv B k) : delL (A ++ X ++ B) k = A ++ delL X k ++ B := by
  simp only [delL, lows_app, upps_app, lows_bel hA, lows_abv hB, upps_bel hA, upps_abv hB, List.nil_append, List.append_nil, List.append_assoc]
theorem has_mid {A X B : List Ent} {k : ByteArray} (hA : bel A k) (hB : abv B k) : hasL (A ++ X ++ B) k ↔ hasL X k := by
  constructor
  · rintro ⟨e, he, rfl⟩
    rcases List.mem_append.1 he with he | he
    · rcases List.mem_append.1 he with he | he
      · exact absurd rfl (kl_ne (hA e he))
      · exact ⟨e, he, rfl⟩
    · exact absurd rfl (kl_ne (hB e he))
  · rintro ⟨e, he, rfl⟩
    exact ⟨e, by simp [he], rfl⟩
theorem put_one {A B : List Ent} {e : Ent} (hA : bel A e.1) (hB : abv B e.1) : putL (A ++ B) e = A ++ e :: B := by
  have := put_mid (X := []) hA hB
  simpa [putL, lows, upps] using this
theorem put_set {A B : List Ent} {e x : Ent} (hA : bel A e.1) (hB : abv B e.1) (hx : x.1 = e.1) : putL (A ++ x :: B) e = A ++ e :: B := by
  have := put_mid (X := [x]) hA hB
  simpa [putL, lows, upps, hx, kl_irr] using this
theorem del_one {A B : List Ent} {k : ByteArray} {x : Ent} (hA : bel A k) (hB : abv B k) (hx : x.1 = k) : delL (A ++ x :: B) k = A ++ B := by
  have := del_mid (X := [x]) hA hB
  simpa [delL, lows, upps, hx, kl_irr] using this
theorem srt_mid {A B : List Ent} {x : Ent} (h : Srt (A ++ x :: B)) : bel A x.1 ∧ abv B x.1 := by
  obtain ⟨h1, h2, h3⟩ := srt_app.1 h
  obtain ⟨h4, h5⟩ := srt_cons.1 h2
  exact ⟨fun e he => h3 e he x (by simp), h4⟩
theorem bel_tr {A : List Ent} {k k' : ByteArray} (h : bel A k) (hk : kl k k' = true) : bel A k' := fun e he => kl_tr (h e he) hk
theorem abv_tr {A : List Ent} {k k' : ByteArray} (h : abv A k) (hk : kl k' k = true) : abv A k' := fun e he => kl_tr hk (h e he)

theorem has_split {L : List Ent} {k : ByteArray} (h : hasL L k) : ∃ A x B, L = A ++ x :: B ∧ x.1 = k := by
  obtain ⟨e, he, rfl⟩ := h
  obtain ⟨A, B, rfl⟩ := List.append_of_mem he
  exact ⟨A, e, B, rfl, rfl⟩

/-- where a key stands, or would stand. -/
theorem srt_cases {L : List Ent} (h : Srt L) (k : ByteArray) : (hasL L k ∧ ∃ A x B, L = A ++ x :: B ∧ x.1 = k ∧ bel A k ∧ abv B k) ∨ (¬ hasL L k ∧ ∃ A B, L = A ++ B ∧ bel A k ∧ abv B k) := by
  induction L with
  | nil => exact .inr ⟨(by rintro ⟨e, he, _⟩; cases he), [], [], rfl, (by intro e he; cases he), (by intro e he; cases he)⟩
  | cons a L ih =>
    obtain ⟨h1, h2⟩ := srt_cons.1 h
    cases hak : kl a.1 k with
    | true =>
      rcases ih h2 with ⟨hh, A, x, B, rfl, hx, hA, hB⟩ | ⟨hh, A, B, rfl, hA, hB⟩
      · refine .inl ⟨?_, a :: A, x, B, rfl, hx, ?_, hB⟩
        · obtain ⟨e, he, hk⟩ := hh; exact ⟨e, List.mem_cons_of_mem _ he, hk⟩
        · intro e he; rcases List.mem_cons.1 he with rfl | he
          · exact hak
          · exact hA e he
      · refine .inr ⟨?_, a :: A, B, rfl, ?_, hB⟩
        · rintro ⟨e, he, rfl⟩
          rcases List.mem_cons.1 he with rfl | he
          · rw [kl_irr] at hak; cases hak
          · exact hh ⟨e, he, rfl⟩
        · intro e he; rcases List.mem_cons.1 he with rfl | he
          · exact hak
          · exact hA e he
    | false =>
      by_cases hk : a.1 = k
      · subst hk
        exact .inl ⟨⟨a, by simp, rfl⟩, [], a, L, rfl, rfl, (by intro e he; cases he), h1⟩
      · have hgt := kl_gt hak hk
        refine .inr ⟨?_, [], a :: L, rfl, (by intro e he; cases he), ?_⟩
        · rintro ⟨e, he, rfl⟩
          rcases List.mem_cons.1 he with rfl | he
          · exact hk rfl
          · have := kl_tr hgt (h1 e he)
            rw [kl_irr] at this; cases this
        · intro e he; rcases List.mem_cons.1 he with rfl | he
          · exact hgt
          · exact kl_tr hgt (h1 e he)

theorem put_srt {L : List Ent} (h : Srt L) (e : Ent) : Srt (putL L e) := by
  rcases srt_cases h e.1 with ⟨_, A, x, B, rfl, hx, hA, hB⟩ | ⟨_, A, B, rfl, hA, hB⟩
  · rw [put_set hA hB hx]
    obtain ⟨h1, h2, h3⟩ := srt_app.1 h
    exact srt_app.2 ⟨h1, srt_cons.2 ⟨hB, (srt_cons.1 h2).2⟩, fun a ha b hb => by
      rcases List.mem_cons.1 hb with rfl | hb
      · exact hA a ha
      · exact h3 a ha b (List.mem_cons_of_mem _ hb)⟩
  · rw [put_one hA hB]
    obtain ⟨h1, h2, h3⟩ := srt_app.1 h
    exact srt_app.2 ⟨h1, srt_cons.2 ⟨hB, h2⟩, fun a ha b hb => by
      rcases List.mem_cons.1 hb with rfl | hb
      · exact hA a ha
      · exact h3 a ha b hb⟩
theorem del_srt {L : List Ent} (h : Srt L) (k : ByteArray) : Srt (delL L k) := by
  rcases srt_cases h k with ⟨_, A, x, B, rfl, hx, hA, hB⟩ | ⟨_, A, B, rfl, hA, hB⟩
  · rw [del_one hA hB hx]
    obtain ⟨h1, h2, h3⟩ := srt_app.1 h
    exact srt_app.2 ⟨h1, (srt_cons.1 h2).2, fun a ha b hb => h3 a ha b (List.mem_cons_of_mem _ hb)⟩
  · have := del_mid (X := []) hA hB
    simp only [List.append_nil] at this
    rw [this]; simpa [delL, lows, upps] using h

/-! ### Entries between those of kids -/

def lpart (l : List Ent) (k : List (List Ent)) : List Ent := (k.zip l).flatMap fun p => p.1 ++ [p.2]
def rpart (l : List Ent) (k : List (List Ent)) : List Ent := (l.zip k).flatMap fun p => p.1 :: p.2
def il (l : List Ent) : List (List Ent) → List Ent
  | [] => []
  | k :: ks => k ++ rpart l ks

theorem il_app : ∀ {l1 : List Ent} {k1 : List (List Ent)} (l2 : List Ent) (k : List Ent) (k2 : List (List Ent)), k1.length = l1.length → il (l1 ++ l2) (k1 ++ k :: k2) = lpart l1 k1 ++ k ++ rpart l2 k2
  | [], [], l2, k, k2, _ => by simp [il, lpart]
  | e :: l1, a :: k1, l2, k, k2, h => by
    have ih := il_app (l1 := l1) (k1 := k1) l2 k k2 (by simpa using h)
    have : rpart (e :: l1 ++ l2) (k1 ++ k :: k2) = e :: il (l1 ++ l2) (k1 ++ k :: k2) := by
      cases k1 with
      | nil => simp [rpart, il]
      | cons b k1 => simp [rpart, il]
    have h2 : il (e :: l1 ++ l2) (a :: k1 ++ k :: k2) = a ++ rpart (e :: l1 ++ l2) (k1 ++ k :: k2) := rfl
    rw [h2, this, ih]
    simp [lpart]

theorem rpart_cons (e : Ent) (l : List Ent) (b : List Ent) (k : List (List Ent)) : rpart (e :: l) (b :: k) = e :: b ++ rpart l k := by simp [rpart]
theorem lpart_snoc {l : List Ent} {k : List (List Ent)} (h : k.length = l.length) (e : Ent) (a : List Ent) : lpart (l ++ [e]) (k ++ [a]) = lpart l k ++ a ++ [e] := by
  simp [lpart, List.zip_append h]

theorem lpart_bel : ∀ {l : List Ent} {k : List (List Ent)} {key : ByteArray}, Srt (lpart l k) → (∀ e ∈ l, kl e.1 key = true) → bel (lpart l k) key
  | [], k, key, _, _ => by intro e he; simp [lpart] at he
  | _ :: _, [], key, _, _ => by intro e he; simp [lpart] at he
  | x :: l, a :: k, key, hs, hl => by
    have he : lpart (x :: l) (a :: k) = a ++ x :: lpart l k := by simp [lpart]
    rw [he] at hs ⊢
    have hx := hl x (by simp)
    obtain ⟨h1, h2⟩ := srt_mid hs
    have ih := lpart_bel (l := l) (k := k) (key := key) (srt_cons.1 (srt_app.1 hs).2.1).2 (fun e he => hl e (by simp [he]))
    intro e he
    rcases List.mem_append.1 he with he | he
    · exact kl_tr (h1 e he) hx
    · rcases List.mem_cons.1 he with rfl | he
      · exact hx
      · exact ih e he

theorem rpart_abv {l : List Ent} {k : List (List Ent)} {key : ByteArray} (hs : Srt (rpart l k)) (hl : ∀ e, l.head? = some e → kl key e.1 = true) : abv (rpart l k) key := by
  cases l with
  | nil => intro e he; simp [rpart] at he
  | cons x l =>
    cases k with
    | nil => intro e he; simp [rpart] at he
    | cons b k =>
      rw [rpart_cons] at hs ⊢
      have hx := hl x rfl
      intro e he
      rcases List.mem_cons.1 he with rfl | he
      · exact hx
      · exact kl_tr hx ((srt_cons.1 hs).1 e he)

theorem mem_lpart {l : List Ent} {k : List (List Ent)} (h : k.length = l.length) {e : Ent} (he : e ∈ l) : e ∈ lpart l k := by
  obtain ⟨i, hi, rfl⟩ := List.mem_iff_getElem.1 he
  refine List.mem_flatMap.2 ⟨(k[i], l[i]), ?_, by simp⟩
  exact List.mem_iff_getElem.2 ⟨i, by simp; omega, by simp⟩

end Go.Cb
