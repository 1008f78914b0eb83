import Derived.Test.YtialecgadoepjaaMZF
import Derived.Test.YtialecgadoepjaaMZE
import Derived.Laws.BytesString
import Derived.Test.YtialecgadoepjaaMZG
/-
  The same blob; the same that was found.
-/
set_option linter.unusedVariables false
set_option linter.unusedSimpArgs false
set_option maxRecDepth 100000
namespace Go.Cb
open Classical
variable {w w0 : World} {F : List HP} {Q Q' : Value → World → Prop}

/-! ### Bytes as a text -/
abbrev encB (n : Int) : List Value := [.int .u8 n]
theorem enB : En encB 1 := ⟨fun _ => rfl, fun x v hv => by simp [encB] at hv; subst hv; rfl⟩
instance : Sls 132 5 1 := ⟨slT_of (by kernel_rfl)⟩
def strB (bs : List Int) : ByteArray := bs.foldl (fun r n => r.push (UInt8.ofNat n.toNat)) ByteArray.empty
theorem u132 : Pg.underlying 132 = some (.slice 5) := by kernel_rfl
theorem u5 : Pg.underlying 5 = some (.int .u8) := by kernel_rfl
theorem flat_B (bs : List Int) : bs.flatMap encB = bs.map (Value.int .u8) := by
  induction bs with
  | nil => rfl
  | cons b bs ih => rw [List.flatMap_cons, ih]; rfl
theorem cv_bytes {st : Bool} {K : Hl} {v : Value} {bs : List Int} (hr : RdS K 132 1 encB v bs) (hon : K.on w) : cvG st Pg 132 9 v w = some (.string (strB bs), w) := by
  have hrun : (convert 132 9 v).run Pg w = .ok (.string (strB bs)) w := by
    have hs := hr.src w hon
    rcases hs with ⟨c, rfl, hn, hnil⟩ | ⟨a, c, rfl, hc⟩
    · rw [run_convert_bytes_string w _ _ _ _ _ _ u132 u5 u9s]
      have : bs = [] := List.length_eq_zero_iff.1 hn
      subst this
      simp [Conv.bytesToString, strB, Sem.run_pure]
    · rw [run_convert_bytes_string w _ _ _ _ _ _ u132 u5 u9s]
      refine run_bytesToString w a _ _ bs ?_
      rw [flat_B, Nat.mul_one] at hc
      simp [loadCells, cells_run w a _ _ _ _ hc]
  have hraw : rawV Pg (convert 132 9 v) w = some (.string (strB bs), w) := by simp [rawV, hrun]
  have hsm : sameW Pg (convert 132 9 v) w = some (.string (strB bs), w) := by simp [sameW, hrun]
  obtain ⟨a, c, rfl⟩ := hr.sl
  unfold cvG
  rw [u132, u9s]
  cases st
  · exact hraw
  · exact hsm
theorem Go.cvB {st : Bool} {K : Hl} {v : Value} {bs : List Int} {κ2 : Value → World → R} [h0 : Kn F K] (hr : RdS K 132 1 encB v bs) (h : Go w0 F w (κ2 (.string (strB bs)) w) Q) : Go w0 F w (Cb.rd2 (cvG st Pg 132 9 v w) κ2) Q := fun hs hm => Ok.rd2 (cv_bytes hr hs.kn) (h hs hm)

/-! ### ref15.Same -/

theorem same77_loop {K : Hl} {b1 b2 : Nat} {x y : V1} {g1 g2 z1 z2 : Int} {pa pb : List Int} (ha : RdS K 81 1 encI x.1 pa) (hb : RdS K 81 1 encI y.1 pb) (hl : pa.length = pb.length) (hm : pa.length ≤ 2 ^ 60) :
    ∀ (j i : Nat) (e : Env) (w : World), i + j = pa.length → pa.take i = pb.take i → e 2 = ptr b1 0 → e 3 = ptr b2 0 → e 5 = int i → e 45 = undef →
      Go w0 (pt b2 [y.1, u64 g2, int z2] 83 :: pt b1 [x.1, u64 g1, int z1] 83 :: kn K :: F) w (evalLoop (cx77 (Fn Pg) (Rnd Pg)) (cdA Go.Proofs.Try.f77 [1, 1, 0, 1, 0, 0]) (K77_2 (Fn Pg) (Rnd Pg)) e w) fun v w' => v = .bool (decide (pa = pb)) ∧ Sat w' (kn K :: F) ∧ Sm w0 w' := by
  intro j
  induction j with
  | zero =>
    intro i e w hij ht e2 e3 e5 e45
    have hi : i = pa.length := by omega
    rw [S77_L2_eq]; unfold S77_L2
    rw [e2, e3, e5, e45]
    repeat (with_reducible first | refine Go.s ?_ | refine Go.ad1 (by omega) ?_ | refine Go.adn (by omega) ?_ | refine Go.sb1 (by omega) (by omega) ?_ | refine Go.sbn (by omega) (by omega) ?_ | refine Go.ls (by with_unfolding_all rfl) ?_ | refine Go.ex (by with_unfolding_all rfl) ?_ | refine Go.lnR (by assumption) ?_ | refine Go.lk (by assumption) (by with_unfolding_all rfl) ?_ | refine Go.lk0 (by assumption) (by with_unfolding_all rfl) ?_ | refine Go.lka (by assumption) (by with_unfolding_all rfl) ?_ | refine Go.lkp (by assumption) ?_ | refine Go.la (by with_unfolding_all rfl) ?_ | refine Go.cvB (by assumption) ?_ | refine Go.rd (by assumption) ?_ | refine Go.rd2 (by assumption) ?_ | refine Go.ck (hold_ld (ld_of (by assumption) (by with_unfolding_all rfl))) ?_ | refine Go.ck (hold_ld (ldk_of (by assumption) (by assumption) (by with_unfolding_all rfl))) ?_)
    refine Go.ci (fun h => absurd (of_decide_eq_true h) (by omega)) fun _ => ?_
    repeat (with_reducible first | refine Go.s ?_ | refine Go.ad1 (by omega) ?_ | refine Go.adn (by omega) ?_ | refine Go.sb1 (by omega) (by omega) ?_ | refine Go.sbn (by omega) (by omega) ?_ | refine Go.ls (by with_unfolding_all rfl) ?_ | refine Go.ex (by with_unfolding_all rfl) ?_ | refine Go.lnR (by assumption) ?_ | refine Go.lk (by assumption) (by with_unfolding_all rfl) ?_ | refine Go.lk0 (by assumption) (by with_unfolding_all rfl) ?_ | refine Go.lka (by assumption) (by with_unfolding_all rfl) ?_ | refine Go.lkp (by assumption) ?_ | refine Go.la (by with_unfolding_all rfl) ?_ | refine Go.cvB (by assumption) ?_ | refine Go.rd (by assumption) ?_ | refine Go.rd2 (by assumption) ?_ | refine Go.ck (hold_ld (ld_of (by assumption) (by with_unfolding_all rfl))) ?_ | refine Go.ck (hold_ld (ldk_of (by assumption) (by assumption) (by with_unfolding_all rfl))) ?_)
    refine Go.ret fun hs hm => ⟨?_, hs.drop.drop, hm⟩
    rw [hi, List.take_length] at ht
    rw [hl, List.take_length] at ht
    rw [decide_eq_true ht]
  | succ j ih =>
    intro i e w hij ht e2 e3 e5 e45
    have hi : i < pa.length := by omega
    obtain ⟨p, hp⟩ : ∃ p, pa[i]? = some p := ⟨_, List.getElem?_eq_getElem hi⟩
    obtain ⟨q, hq⟩ : ∃ q, pb[i]? = some q := ⟨_, List.getElem?_eq_getElem (by omega)⟩
    rw [S77_L2_eq]; unfold S77_L2
    rw [e2, e3, e5, e45]
    repeat (with_reducible first | refine Go.s ?_ | refine Go.ad1 (by omega) ?_ | refine Go.adn (by omega) ?_ | refine Go.sb1 (by omega) (by omega) ?_ | refine Go.sbn (by omega) (by omega) ?_ | refine Go.ls (by with_unfolding_all rfl) ?_ | refine Go.ex (by with_unfolding_all rfl) ?_ | refine Go.lnR (by assumption) ?_ | refine Go.lk (by assumption) (by with_unfolding_all rfl) ?_ | refine Go.lk0 (by assumption) (by with_unfolding_all rfl) ?_ | refine Go.lka (by assumption) (by with_unfolding_all rfl) ?_ | refine Go.lkp (by assumption) ?_ | refine Go.la (by with_unfolding_all rfl) ?_ | refine Go.cvB (by assumption) ?_ | refine Go.rd (by assumption) ?_ | refine Go.rd2 (by assumption) ?_ | refine Go.ck (hold_ld (ld_of (by assumption) (by with_unfolding_all rfl))) ?_ | refine Go.ck (hold_ld (ldk_of (by assumption) (by assumption) (by with_unfolding_all rfl))) ?_)
    refine Go.ci (fun _ => ?_) fun h => absurd (of_decide_eq_false h) (by omega)
    repeat (with_reducible first | refine Go.s ?_ | refine Go.ad1 (by omega) ?_ | refine Go.adn (by omega) ?_ | refine Go.sb1 (by omega) (by omega) ?_ | refine Go.sbn (by omega) (by omega) ?_ | refine Go.ls (by with_unfolding_all rfl) ?_ | refine Go.ex (by with_unfolding_all rfl) ?_ | refine Go.lnR (by assumption) ?_ | refine Go.lk (by assumption) (by with_unfolding_all rfl) ?_ | refine Go.lk0 (by assumption) (by with_unfolding_all rfl) ?_ | refine Go.lka (by assumption) (by with_unfolding_all rfl) ?_ | refine Go.lkp (by assumption) ?_ | refine Go.la (by with_unfolding_all rfl) ?_ | refine Go.cvB (by assumption) ?_ | refine Go.rd (by assumption) ?_ | refine Go.rd2 (by assumption) ?_ | refine Go.ck (hold_ld (ld_of (by assumption) (by with_unfolding_all rfl))) ?_ | refine Go.ck (hold_ld (ldk_of (by assumption) (by assumption) (by with_unfolding_all rfl))) ?_)
    refine Go.ixr ha hp rfl fun a1 k1 => ?_
    repeat (with_reducible first | refine Go.s ?_ | refine Go.ad1 (by omega) ?_ | refine Go.adn (by omega) ?_ | refine Go.sb1 (by omega) (by omega) ?_ | refine Go.sbn (by omega) (by omega) ?_ | refine Go.ls (by with_unfolding_all rfl) ?_ | refine Go.ex (by with_unfolding_all rfl) ?_ | refine Go.lnR (by assumption) ?_ | refine Go.lk (by assumption) (by with_unfolding_all rfl) ?_ | refine Go.lk0 (by assumption) (by with_unfolding_all rfl) ?_ | refine Go.lka (by assumption) (by with_unfolding_all rfl) ?_ | refine Go.lkp (by assumption) ?_ | refine Go.la (by with_unfolding_all rfl) ?_ | refine Go.cvB (by assumption) ?_ | refine Go.rd (by assumption) ?_ | refine Go.rd2 (by assumption) ?_ | refine Go.ck (hold_ld (ld_of (by assumption) (by with_unfolding_all rfl))) ?_ | refine Go.ck (hold_ld (ldk_of (by assumption) (by assumption) (by with_unfolding_all rfl))) ?_)
    refine Go.ixr hb hq rfl fun a2 k2 => ?_
    repeat (with_reducible first | refine Go.s ?_ | refine Go.ad1 (by omega) ?_ | refine Go.adn (by omega) ?_ | refine Go.sb1 (by omega) (by omega) ?_ | refine Go.sbn (by omega) (by omega) ?_ | refine Go.ls (by with_unfolding_all rfl) ?_ | refine Go.ex (by with_unfolding_all rfl) ?_ | refine Go.lnR (by assumption) ?_ | refine Go.lk (by assumption) (by with_unfolding_all rfl) ?_ | refine Go.lk0 (by assumption) (by with_unfolding_all rfl) ?_ | refine Go.lka (by assumption) (by with_unfolding_all rfl) ?_ | refine Go.lkp (by assumption) ?_ | refine Go.la (by with_unfolding_all rfl) ?_ | refine Go.cvB (by assumption) ?_ | refine Go.rd (by assumption) ?_ | refine Go.rd2 (by assumption) ?_ | refine Go.ck (hold_ld (ld_of (by assumption) (by with_unfolding_all rfl))) ?_ | refine Go.ck (hold_ld (ldk_of (by assumption) (by assumption) (by with_unfolding_all rfl))) ?_)
    refine Go.ci (fun h => ?_) fun h => ?_
    · repeat (with_reducible first | refine Go.s ?_ | refine Go.ad1 (by omega) ?_ | refine Go.adn (by omega) ?_ | refine Go.sb1 (by omega) (by omega) ?_ | refine Go.sbn (by omega) (by omega) ?_ | refine Go.ls (by with_unfolding_all rfl) ?_ | refine Go.ex (by with_unfolding_all rfl) ?_ | refine Go.lnR (by assumption) ?_ | refine Go.lk (by assumption) (by with_unfolding_all rfl) ?_ | refine Go.lk0 (by assumption) (by with_unfolding_all rfl) ?_ | refine Go.lka (by assumption) (by with_unfolding_all rfl) ?_ | refine Go.lkp (by assumption) ?_ | refine Go.la (by with_unfolding_all rfl) ?_ | refine Go.cvB (by assumption) ?_ | refine Go.rd (by assumption) ?_ | refine Go.rd2 (by assumption) ?_ | refine Go.ck (hold_ld (ld_of (by assumption) (by with_unfolding_all rfl))) ?_ | refine Go.ck (hold_ld (ldk_of (by assumption) (by assumption) (by with_unfolding_all rfl))) ?_)
      refine Go.ret fun hs hm => ⟨?_, hs.drop.drop, hm⟩
      rw [decide_eq_false]
      intro he
      subst he
      rw [hp] at hq
      injection hq with hq
      subst hq
      simp at h
    · have hpq : p = q := by simpa using h
      subst hpq
      repeat (with_reducible first | refine Go.s ?_ | refine Go.ad1 (by omega) ?_ | refine Go.adn (by omega) ?_ | refine Go.sb1 (by omega) (by omega) ?_ | refine Go.sbn (by omega) (by omega) ?_ | refine Go.ls (by with_unfolding_all rfl) ?_ | refine Go.ex (by with_unfolding_all rfl) ?_ | refine Go.lnR (by assumption) ?_ | refine Go.lk (by assumption) (by with_unfolding_all rfl) ?_ | refine Go.lk0 (by assumption) (by with_unfolding_all rfl) ?_ | refine Go.lka (by assumption) (by with_unfolding_all rfl) ?_ | refine Go.lkp (by assumption) ?_ | refine Go.la (by with_unfolding_all rfl) ?_ | refine Go.cvB (by assumption) ?_ | refine Go.rd (by assumption) ?_ | refine Go.rd2 (by assumption) ?_ | refine Go.ck (hold_ld (ld_of (by assumption) (by with_unfolding_all rfl))) ?_ | refine Go.ck (hold_ld (ldk_of (by assumption) (by assumption) (by with_unfolding_all rfl))) ?_)
      refine ih (i + 1) _ _ (by omega) ?_ ?_ ?_ ?_ ?_
      · rw [List.take_add_one, List.take_add_one, ht, hp, hq]
      · exact e2
      · exact e3
      · rfl
      · exact e45


theorem same77_j {K : Hl} {b1 b2 : Nat} {x y : V1} {g1 g2 z1 z2 : Int} {pa pb : List Int} (ha : RdS K 81 1 encI x.1 pa) (hb : RdS K 81 1 encI y.1 pb) (hm : pa.length ≤ 2 ^ 60) {e : Env} (e2 : e 2 = ptr b1 0) (e3 : e 3 = ptr b2 0) (e45 : e 45 = undef) :
    Go w0 (pt b2 [y.1, u64 g2, int z2] 83 :: pt b1 [x.1, u64 g1, int z1] 83 :: kn K :: F) w (evalCode (cx77 (Fn Pg) (Rnd Pg)) (cdA Go.Proofs.Try.f77 [1]) (K77_0 (Fn Pg) (Rnd Pg)) e w) fun v w' => v = .bool (decide (z1 = z2 ∧ g1 = g2 ∧ pa = pb)) ∧ Sat w' (kn K :: F) ∧ Sm w0 w' := by
  rw [S77_J1_eq]; unfold S77_J1
  rw [e2, e3, e45]
  have fin : ∀ v, Go w0 (pt b2 [y.1, u64 g2, int z2] 83 :: pt b1 [x.1, u64 g1, int z1] 83 :: kn K :: F) w (some (.bool v, w)) fun v' w' => v' = .bool v ∧ Sat w' (kn K :: F) ∧ Sm w0 w' := fun v => Go.ret fun hs hm => ⟨rfl, hs.drop.drop, hm⟩
  repeat (with_reducible first | refine Go.s ?_ | refine Go.ad1 (by omega) ?_ | refine Go.adn (by omega) ?_ | refine Go.sb1 (by omega) (by omega) ?_ | refine Go.sbn (by omega) (by omega) ?_ | refine Go.ls (by with_unfolding_all rfl) ?_ | refine Go.ex (by with_unfolding_all rfl) ?_ | refine Go.lnR (by assumption) ?_ | refine Go.lk (by assumption) (by with_unfolding_all rfl) ?_ | refine Go.lk0 (by assumption) (by with_unfolding_all rfl) ?_ | refine Go.lka (by assumption) (by with_unfolding_all rfl) ?_ | refine Go.lkp (by assumption) ?_ | refine Go.la (by with_unfolding_all rfl) ?_ | refine Go.cvB (by assumption) ?_ | refine Go.rd (by assumption) ?_ | refine Go.rd2 (by assumption) ?_ | refine Go.ck (hold_ld (ld_of (by assumption) (by with_unfolding_all rfl))) ?_ | refine Go.ck (hold_ld (ldk_of (by assumption) (by assumption) (by with_unfolding_all rfl))) ?_)
  by_cases hz : z1 = z2
  · have h1 : (!decide (z1 = z2)) = false := by simp [hz]
    rw [h1]
    repeat (with_reducible first | refine Go.s ?_ | refine Go.ad1 (by omega) ?_ | refine Go.adn (by omega) ?_ | refine Go.sb1 (by omega) (by omega) ?_ | refine Go.sbn (by omega) (by omega) ?_ | refine Go.ls (by with_unfolding_all rfl) ?_ | refine Go.ex (by with_unfolding_all rfl) ?_ | refine Go.lnR (by assumption) ?_ | refine Go.lk (by assumption) (by with_unfolding_all rfl) ?_ | refine Go.lk0 (by assumption) (by with_unfolding_all rfl) ?_ | refine Go.lka (by assumption) (by with_unfolding_all rfl) ?_ | refine Go.lkp (by assumption) ?_ | refine Go.la (by with_unfolding_all rfl) ?_ | refine Go.cvB (by assumption) ?_ | refine Go.rd (by assumption) ?_ | refine Go.rd2 (by assumption) ?_ | refine Go.ck (hold_ld (ld_of (by assumption) (by with_unfolding_all rfl))) ?_ | refine Go.ck (hold_ld (ldk_of (by assumption) (by assumption) (by with_unfolding_all rfl))) ?_)
    by_cases hg : g1 = g2
    · have h2 : (!decide (g1 = g2)) = false := by simp [hg]
      rw [h2]
      repeat (with_reducible first | refine Go.s ?_ | refine Go.ad1 (by omega) ?_ | refine Go.adn (by omega) ?_ | refine Go.sb1 (by omega) (by omega) ?_ | refine Go.sbn (by omega) (by omega) ?_ | refine Go.ls (by with_unfolding_all rfl) ?_ | refine Go.ex (by with_unfolding_all rfl) ?_ | refine Go.lnR (by assumption) ?_ | refine Go.lk (by assumption) (by with_unfolding_all rfl) ?_ | refine Go.lk0 (by assumption) (by with_unfolding_all rfl) ?_ | refine Go.lka (by assumption) (by with_unfolding_all rfl) ?_ | refine Go.lkp (by assumption) ?_ | refine Go.la (by with_unfolding_all rfl) ?_ | refine Go.cvB (by assumption) ?_ | refine Go.rd (by assumption) ?_ | refine Go.rd2 (by assumption) ?_ | refine Go.ck (hold_ld (ld_of (by assumption) (by with_unfolding_all rfl))) ?_ | refine Go.ck (hold_ld (ldk_of (by assumption) (by assumption) (by with_unfolding_all rfl))) ?_)
      refine Go.ci (fun h => ?_) fun h => ?_
      · repeat (with_reducible first | refine Go.s ?_ | refine Go.ad1 (by omega) ?_ | refine Go.adn (by omega) ?_ | refine Go.sb1 (by omega) (by omega) ?_ | refine Go.sbn (by omega) (by omega) ?_ | refine Go.ls (by with_unfolding_all rfl) ?_ | refine Go.ex (by with_unfolding_all rfl) ?_ | refine Go.lnR (by assumption) ?_ | refine Go.lk (by assumption) (by with_unfolding_all rfl) ?_ | refine Go.lk0 (by assumption) (by with_unfolding_all rfl) ?_ | refine Go.lka (by assumption) (by with_unfolding_all rfl) ?_ | refine Go.lkp (by assumption) ?_ | refine Go.la (by with_unfolding_all rfl) ?_ | refine Go.cvB (by assumption) ?_ | refine Go.rd (by assumption) ?_ | refine Go.rd2 (by assumption) ?_ | refine Go.ck (hold_ld (ld_of (by assumption) (by with_unfolding_all rfl))) ?_ | refine Go.ck (hold_ld (ldk_of (by assumption) (by assumption) (by with_unfolding_all rfl))) ?_)
        have : ¬ (z1 = z2 ∧ g1 = g2 ∧ pa = pb) := fun hh => by rw [hh.2.2] at h; simp at h
        rw [decide_eq_false this]
        exact fin false
      · have hl : pa.length = pb.length := by simp at h; omega
        have hd : decide (z1 = z2 ∧ g1 = g2 ∧ pa = pb) = decide (pa = pb) := by simp [hz, hg]
        rw [hd]
        refine same77_loop ha hb hl hm pa.length 0 _ w (by omega) (by simp) ?_ ?_ ?_ ?_
        · exact e2
        · exact e3
        · rfl
        · exact e45
    · have h2 : (!decide (g1 = g2)) = true := by simp [hg]
      rw [h2]
      repeat (with_reducible first | refine Go.s ?_ | refine Go.ad1 (by omega) ?_ | refine Go.adn (by omega) ?_ | refine Go.sb1 (by omega) (by omega) ?_ | refine Go.sbn (by omega) (by omega) ?_ | refine Go.ls (by with_unfolding_all rfl) ?_ | refine Go.ex (by with_unfolding_all rfl) ?_ | refine Go.lnR (by assumption) ?_ | refine Go.lk (by assumption) (by with_unfolding_all rfl) ?_ | refine Go.lk0 (by assumption) (by with_unfolding_all rfl) ?_ | refine Go.lka (by assumption) (by with_unfolding_all rfl) ?_ | refine Go.lkp (by assumption) ?_ | refine Go.la (by with_unfolding_all rfl) ?_ | refine Go.cvB (by assumption) ?_ | refine Go.rd (by assumption) ?_ | refine Go.rd2 (by assumption) ?_ | refine Go.ck (hold_ld (ld_of (by assumption) (by with_unfolding_all rfl))) ?_ | refine Go.ck (hold_ld (ldk_of (by assumption) (by assumption) (by with_unfolding_all rfl))) ?_)
      rw [decide_eq_false fun hh => hg hh.2.1]
      exact fin false
  · have h1 : (!decide (z1 = z2)) = true := by simp [hz]
    rw [h1]
    repeat (with_reducible first | refine Go.s ?_ | refine Go.ad1 (by omega) ?_ | refine Go.adn (by omega) ?_ | refine Go.sb1 (by omega) (by omega) ?_ | refine Go.sbn (by omega) (by omega) ?_ | refine Go.ls (by with_unfolding_all rfl) ?_ | refine Go.ex (by with_unfolding_all rfl) ?_ | refine Go.lnR (by assumption) ?_ | refine Go.lk (by assumption) (by with_unfolding_all rfl) ?_ | refine Go.lk0 (by assumption) (by with_unfolding_all rfl) ?_ | refine Go.lka (by assumption) (by with_unfolding_all rfl) ?_ | refine Go.lkp (by assumption) ?_ | refine Go.la (by with_unfolding_all rfl) ?_ | refine Go.cvB (by assumption) ?_ | refine Go.rd (by assumption) ?_ | refine Go.rd2 (by assumption) ?_ | refine Go.ck (hold_ld (ld_of (by assumption) (by with_unfolding_all rfl))) ?_ | refine Go.ck (hold_ld (ldk_of (by assumption) (by assumption) (by with_unfolding_all rfl))) ?_)
    rw [decide_eq_false fun hh => hz hh.1]
    exact fin false
theorem same77_ok {K : Hl} {x y : V1} {g1 g2 z1 z2 : Int} {pa pb : List Int} (ha : RdS K 81 1 encI x.1 pa) (hb : RdS K 81 1 encI y.1 pb) (hm : pa.length ≤ 2 ^ 60) (hs : Sat w (kn K :: F)) :
    Ok (Fn Pg 77 [.agg #[x.1, u64 g1, int z1], .agg #[y.1, u64 g2, int z2]] w) fun v w' => v = .bool (decide (z1 = z2 ∧ g1 = g2 ∧ pa = pb)) ∧ Sat w' (kn K :: F) ∧ Sm w w' := by
  rw [F77]; unfold S77
  refine Ok.go hs (Sm.refl w) ?_
  repeat (first | (with_reducible first | refine Go.s ?_ | refine Go.ad1 (by omega) ?_ | refine Go.adn (by omega) ?_ | refine Go.sb1 (by omega) (by omega) ?_ | refine Go.sbn (by omega) (by omega) ?_ | refine Go.ls (by with_unfolding_all rfl) ?_ | refine Go.ex (by with_unfolding_all rfl) ?_ | refine Go.lnR (by assumption) ?_ | refine Go.lk (by assumption) (by with_unfolding_all rfl) ?_ | refine Go.lk0 (by assumption) (by with_unfolding_all rfl) ?_ | refine Go.lka (by assumption) (by with_unfolding_all rfl) ?_ | refine Go.lkp (by assumption) ?_ | refine Go.la (by with_unfolding_all rfl) ?_ | refine Go.cvB (by assumption) ?_ | refine Go.rd (by assumption) ?_ | refine Go.rd2 (by assumption) ?_ | refine Go.ck (hold_ld (ld_of (by assumption) (by with_unfolding_all rfl))) ?_ | refine Go.ck (hold_ld (ldk_of (by assumption) (by assumption) (by with_unfolding_all rfl))) ?_) | (with_reducible first | (refine Go.bxa  ?_; intro nb w') | (refine Go.bxs  ?_; intro nb w') | (refine Go.al  ?_; intro nb w') | (refine Go.sta (by with_unfolding_all rfl) (by with_unfolding_all rfl) ?_; intro w') | (refine Go.st (by with_unfolding_all decide) ?_; intro w')))
  exact same77_j ha hb hm rfl rfl rfl

/-! ### ref24.SameFound -/

/-- what is found, gs it lies. -/
structure Fg where
  key : ByteArray
  own : Bool
  vv : V1
  pv : V1
  gen : Int
  size : Int
abbrev encFg (x : Fg) : List Value := [.string x.key, .bool x.own, x.vv.1, x.pv.1, u64 x.gen, int x.size]
theorem enFg : En encFg 6 := ⟨fun _ => rfl, fun x v hv => by
  simp [encFg] at hv; rcases hv with rfl | rfl | rfl | rfl | rfl | rfl
  all_goals first | rfl | exact x.pv.2 | exact x.vv.2⟩
/-- what it says. -/
structure AF where
  key : ByteArray
  own : Bool
  val : List Int
  places : List Int
  gen : Int
  size : Int
structure Rfg (K : Hl) (x : Fg) (a : AF) : Prop where
  key : x.key = a.key
  own : x.own = a.own
  gen : x.gen = a.gen
  size : x.size = a.size
  val : RdS K 132 1 encB x.vv.1 a.val
  pl : RdS K 81 1 encI x.pv.1 a.places
theorem Rfg.mono {K K' : Hl} {x : Fg} {a : AF} (h : Rfg K x a) (hl : Le K K') : Rfg K' x a := ⟨h.key, h.own, h.gen, h.size, h.val.mono hl, h.pl.mono hl⟩
structure Rfgs (K : Hl) (xs : List Fg) (gs : List AF) : Prop where
  len : xs.length = gs.length
  at_ : ∀ (i : Nat) (x : Fg) (a : AF), xs[i]? = some x → gs[i]? = some a → Rfg K x a
theorem Rfgs.mono {K K' : Hl} {xs : List Fg} {gs : List AF} (h : Rfgs K xs gs) (hl : Le K K') : Rfgs K' xs gs := ⟨h.len, fun i x a hx ha => (h.at_ i x a hx ha).mono hl⟩
def sameF (a b : AF) : Prop := a.key = b.key ∧ a.own = b.own ∧ strB a.val = strB b.val ∧ a.size = b.size ∧ a.gen = b.gen ∧ a.places = b.places
def sameFs (fa fb : List AF) : Prop := fa.length = fb.length ∧ ∀ (i : Nat) (a b : AF), fa[i]? = some a → fb[i]? = some b → sameF a b

theorem same39_loop {K : Hl} {v1 v2 : Value} {xs ys : List Fg} {fa fb : List AF} (hr : RdS K 73 6 encFg v1 xs) (hr' : RdS K 73 6 encFg v2 ys) (hx : Rfgs K xs fa) (hy : Rfgs K ys fb) (hl : fa.length = fb.length) (hm : fa.length ≤ 2 ^ 60) (hp : ∀ a ∈ fa, a.places.length ≤ 2 ^ 60) :
    ∀ (j i : Nat) (e : Env) (w : World), i + j = fa.length → (∀ (k : Nat) (a b : AF), k < i → fa[k]? = some a → fb[k]? = some b → sameF a b) → e 0 = v1 → e 1 = v2 → e 5 = int i → e 70 = undef →
      Go w0 (kn K :: F) w (evalLoop (cx39 (Fn Pg) (Rnd Pg)) (cdA Go.Proofs.Try.f39 [1, 1, 0, 1, 0, 0]) (K39_2 (Fn Pg) (Rnd Pg)) e w) fun v w' => v = .bool (decide (sameFs fa fb)) ∧ Sat w' (kn K :: F) ∧ Sm w0 w' := by
  intro j
  induction j with
  | zero =>
    intro i e w hij hsm e0 e1 e5 e70
    rw [S39_L1_eq]; unfold S39_L1
    rw [e0, e1, e5, e70]
    repeat (with_reducible first | refine Go.s ?_ | refine Go.ad1 (by omega) ?_ | refine Go.adn (by omega) ?_ | refine Go.sb1 (by omega) (by omega) ?_ | refine Go.sbn (by omega) (by omega) ?_ | refine Go.ls (by with_unfolding_all rfl) ?_ | refine Go.ex (by with_unfolding_all rfl) ?_ | refine Go.lnR (by assumption) ?_ | refine Go.lk (by assumption) (by with_unfolding_all rfl) ?_ | refine Go.lk0 (by assumption) (by with_unfolding_all rfl) ?_ | refine Go.lka (by assumption) (by with_unfolding_all rfl) ?_ | refine Go.lkp (by assumption) ?_ | refine Go.la (by with_unfolding_all rfl) ?_ | refine Go.cvB (by assumption) ?_ | refine Go.rd (by assumption) ?_ | refine Go.rd2 (by assumption) ?_ | refine Go.ck (hold_ld (ld_of (by assumption) (by with_unfolding_all rfl))) ?_ | refine Go.ck (hold_ld (ldk_of (by assumption) (by assumption) (by with_unfolding_all rfl))) ?_)
    rw [hx.len]
    refine Go.ci (fun h => absurd (of_decide_eq_true h) (by omega)) fun _ => ?_
    repeat (with_reducible first | refine Go.s ?_ | refine Go.ad1 (by omega) ?_ | refine Go.adn (by omega) ?_ | refine Go.sb1 (by omega) (by omega) ?_ | refine Go.sbn (by omega) (by omega) ?_ | refine Go.ls (by with_unfolding_all rfl) ?_ | refine Go.ex (by with_unfolding_all rfl) ?_ | refine Go.lnR (by assumption) ?_ | refine Go.lk (by assumption) (by with_unfolding_all rfl) ?_ | refine Go.lk0 (by assumption) (by with_unfolding_all rfl) ?_ | refine Go.lka (by assumption) (by with_unfolding_all rfl) ?_ | refine Go.lkp (by assumption) ?_ | refine Go.la (by with_unfolding_all rfl) ?_ | refine Go.cvB (by assumption) ?_ | refine Go.rd (by assumption) ?_ | refine Go.rd2 (by assumption) ?_ | refine Go.ck (hold_ld (ld_of (by assumption) (by with_unfolding_all rfl))) ?_ | refine Go.ck (hold_ld (ldk_of (by assumption) (by assumption) (by with_unfolding_all rfl))) ?_)
    refine Go.ret fun hs hm => ⟨?_, hs, hm⟩
    have hq : sameFs fa fb := ⟨hl, fun k a b ha hb => hsm k a b (by have := (List.getElem?_eq_some_iff.1 ha).1; omega) ha hb⟩
    rw [decide_eq_true hq]
  | succ j ih =>
    intro i e w hij hsm e0 e1 e5 e70
    have hi : i < fa.length := by omega
    obtain ⟨a, ha⟩ : ∃ p, fa[i]? = some p := ⟨_, List.getElem?_eq_getElem hi⟩
    obtain ⟨b, hb⟩ : ∃ p, fb[i]? = some p := ⟨_, List.getElem?_eq_getElem (by omega)⟩
    obtain ⟨x, hx'⟩ : ∃ p, xs[i]? = some p := ⟨_, List.getElem?_eq_getElem (by rw [hx.len]; omega)⟩
    obtain ⟨y, hy'⟩ : ∃ p, ys[i]? = some p := ⟨_, List.getElem?_eq_getElem (by rw [hy.len]; omega)⟩
    obtain ⟨p, g1, k1⟩ := hr.get hx' rfl
    obtain ⟨q, g2, k2⟩ := hr'.get hy' rfl
    have hxa := hx.at_ i x a hx' ha
    have hyb := hy.at_ i y b hy' hb
    have c1 := hxa.val
    have c2 := hyb.val
    have fin : ∀ w1 : World, ¬ sameF a b → Go w0 (kn K :: F) w1 (some (.bool false, w1)) fun v w' => v = .bool (decide (sameFs fa fb)) ∧ Sat w' (kn K :: F) ∧ Sm w0 w' := fun w1 hno => Go.ret fun hs hm => ⟨by
      rw [decide_eq_false]
      exact fun h => hno (h.2 i a b ha hb), hs, hm⟩
    rw [S39_L1_eq]; unfold S39_L1
    rw [e0, e1, e5, e70]
    repeat (with_reducible first | refine Go.s ?_ | refine Go.ad1 (by omega) ?_ | refine Go.adn (by omega) ?_ | refine Go.sb1 (by omega) (by omega) ?_ | refine Go.sbn (by omega) (by omega) ?_ | refine Go.ls (by with_unfolding_all rfl) ?_ | refine Go.ex (by with_unfolding_all rfl) ?_ | refine Go.lnR (by assumption) ?_ | refine Go.lk (by assumption) (by with_unfolding_all rfl) ?_ | refine Go.lk0 (by assumption) (by with_unfolding_all rfl) ?_ | refine Go.lka (by assumption) (by with_unfolding_all rfl) ?_ | refine Go.lkp (by assumption) ?_ | refine Go.la (by with_unfolding_all rfl) ?_ | refine Go.cvB (by assumption) ?_ | refine Go.rd (by assumption) ?_ | refine Go.rd2 (by assumption) ?_ | refine Go.ck (hold_ld (ld_of (by assumption) (by with_unfolding_all rfl))) ?_ | refine Go.ck (hold_ld (ldk_of (by assumption) (by assumption) (by with_unfolding_all rfl))) ?_)
    rw [hx.len]
    refine Go.ci (fun _ => ?_) fun h => absurd (of_decide_eq_false h) (by omega)
    repeat (with_reducible first | refine Go.s ?_ | refine Go.ad1 (by omega) ?_ | refine Go.adn (by omega) ?_ | refine Go.sb1 (by omega) (by omega) ?_ | refine Go.sbn (by omega) (by omega) ?_ | refine Go.ls (by with_unfolding_all rfl) ?_ | refine Go.ex (by with_unfolding_all rfl) ?_ | refine Go.lnR (by assumption) ?_ | refine Go.lk (by assumption) (by with_unfolding_all rfl) ?_ | refine Go.lk0 (by assumption) (by with_unfolding_all rfl) ?_ | refine Go.lka (by assumption) (by with_unfolding_all rfl) ?_ | refine Go.lkp (by assumption) ?_ | refine Go.la (by with_unfolding_all rfl) ?_ | refine Go.cvB (by assumption) ?_ | refine Go.rd (by assumption) ?_ | refine Go.rd2 (by assumption) ?_ | refine Go.ck (hold_ld (ld_of (by assumption) (by with_unfolding_all rfl))) ?_ | refine Go.ck (hold_ld (ldk_of (by assumption) (by assumption) (by with_unfolding_all rfl))) ?_)
    rw [hxa.key, hyb.key]
    cases h1 : (!decide (a.key = b.key)) with
    | true =>
      repeat (with_reducible first | refine Go.s ?_ | refine Go.ad1 (by omega) ?_ | refine Go.adn (by omega) ?_ | refine Go.sb1 (by omega) (by omega) ?_ | refine Go.sbn (by omega) (by omega) ?_ | refine Go.ls (by with_unfolding_all rfl) ?_ | refine Go.ex (by with_unfolding_all rfl) ?_ | refine Go.lnR (by assumption) ?_ | refine Go.lk (by assumption) (by with_unfolding_all rfl) ?_ | refine Go.lk0 (by assumption) (by with_unfolding_all rfl) ?_ | refine Go.lka (by assumption) (by with_unfolding_all rfl) ?_ | refine Go.lkp (by assumption) ?_ | refine Go.la (by with_unfolding_all rfl) ?_ | refine Go.cvB (by assumption) ?_ | refine Go.rd (by assumption) ?_ | refine Go.rd2 (by assumption) ?_ | refine Go.ck (hold_ld (ld_of (by assumption) (by with_unfolding_all rfl))) ?_ | refine Go.ck (hold_ld (ldk_of (by assumption) (by assumption) (by with_unfolding_all rfl))) ?_)
      exact fin _ fun h => by simp [h.1] at h1
    | false =>
      repeat (with_reducible first | refine Go.s ?_ | refine Go.ad1 (by omega) ?_ | refine Go.adn (by omega) ?_ | refine Go.sb1 (by omega) (by omega) ?_ | refine Go.sbn (by omega) (by omega) ?_ | refine Go.ls (by with_unfolding_all rfl) ?_ | refine Go.ex (by with_unfolding_all rfl) ?_ | refine Go.lnR (by assumption) ?_ | refine Go.lk (by assumption) (by with_unfolding_all rfl) ?_ | refine Go.lk0 (by assumption) (by with_unfolding_all rfl) ?_ | refine Go.lka (by assumption) (by with_unfolding_all rfl) ?_ | refine Go.lkp (by assumption) ?_ | refine Go.la (by with_unfolding_all rfl) ?_ | refine Go.cvB (by assumption) ?_ | refine Go.rd (by assumption) ?_ | refine Go.rd2 (by assumption) ?_ | refine Go.ck (hold_ld (ld_of (by assumption) (by with_unfolding_all rfl))) ?_ | refine Go.ck (hold_ld (ldk_of (by assumption) (by assumption) (by with_unfolding_all rfl))) ?_)
      rw [hxa.own, hyb.own]
      cases h2 : (!(a.own == b.own)) with
      | true =>
        repeat (with_reducible first | refine Go.s ?_ | refine Go.ad1 (by omega) ?_ | refine Go.adn (by omega) ?_ | refine Go.sb1 (by omega) (by omega) ?_ | refine Go.sbn (by omega) (by omega) ?_ | refine Go.ls (by with_unfolding_all rfl) ?_ | refine Go.ex (by with_unfolding_all rfl) ?_ | refine Go.lnR (by assumption) ?_ | refine Go.lk (by assumption) (by with_unfolding_all rfl) ?_ | refine Go.lk0 (by assumption) (by with_unfolding_all rfl) ?_ | refine Go.lka (by assumption) (by with_unfolding_all rfl) ?_ | refine Go.lkp (by assumption) ?_ | refine Go.la (by with_unfolding_all rfl) ?_ | refine Go.cvB (by assumption) ?_ | refine Go.rd (by assumption) ?_ | refine Go.rd2 (by assumption) ?_ | refine Go.ck (hold_ld (ld_of (by assumption) (by with_unfolding_all rfl))) ?_ | refine Go.ck (hold_ld (ldk_of (by assumption) (by assumption) (by with_unfolding_all rfl))) ?_)
        exact fin _ fun h => by simp [h.2.1] at h2
      | false =>
        repeat (with_reducible first | refine Go.s ?_ | refine Go.ad1 (by omega) ?_ | refine Go.adn (by omega) ?_ | refine Go.sb1 (by omega) (by omega) ?_ | refine Go.sbn (by omega) (by omega) ?_ | refine Go.ls (by with_unfolding_all rfl) ?_ | refine Go.ex (by with_unfolding_all rfl) ?_ | refine Go.lnR (by assumption) ?_ | refine Go.lk (by assumption) (by with_unfolding_all rfl) ?_ | refine Go.lk0 (by assumption) (by with_unfolding_all rfl) ?_ | refine Go.lka (by assumption) (by with_unfolding_all rfl) ?_ | refine Go.lkp (by assumption) ?_ | refine Go.la (by with_unfolding_all rfl) ?_ | refine Go.cvB (by assumption) ?_ | refine Go.rd (by assumption) ?_ | refine Go.rd2 (by assumption) ?_ | refine Go.ck (hold_ld (ld_of (by assumption) (by with_unfolding_all rfl))) ?_ | refine Go.ck (hold_ld (ldk_of (by assumption) (by assumption) (by with_unfolding_all rfl))) ?_)
        cases h3 : (!decide (strB a.val = strB b.val)) with
        | true =>
          repeat (with_reducible first | refine Go.s ?_ | refine Go.ad1 (by omega) ?_ | refine Go.adn (by omega) ?_ | refine Go.sb1 (by omega) (by omega) ?_ | refine Go.sbn (by omega) (by omega) ?_ | refine Go.ls (by with_unfolding_all rfl) ?_ | refine Go.ex (by with_unfolding_all rfl) ?_ | refine Go.lnR (by assumption) ?_ | refine Go.lk (by assumption) (by with_unfolding_all rfl) ?_ | refine Go.lk0 (by assumption) (by with_unfolding_all rfl) ?_ | refine Go.lka (by assumption) (by with_unfolding_all rfl) ?_ | refine Go.lkp (by assumption) ?_ | refine Go.la (by with_unfolding_all rfl) ?_ | refine Go.cvB (by assumption) ?_ | refine Go.rd (by assumption) ?_ | refine Go.rd2 (by assumption) ?_ | refine Go.ck (hold_ld (ld_of (by assumption) (by with_unfolding_all rfl))) ?_ | refine Go.ck (hold_ld (ldk_of (by assumption) (by assumption) (by with_unfolding_all rfl))) ?_)
          exact fin _ fun h => by simp [h.2.2.1] at h3
        | false =>
          repeat (with_reducible first | refine Go.s ?_ | refine Go.ad1 (by omega) ?_ | refine Go.adn (by omega) ?_ | refine Go.sb1 (by omega) (by omega) ?_ | refine Go.sbn (by omega) (by omega) ?_ | refine Go.ls (by with_unfolding_all rfl) ?_ | refine Go.ex (by with_unfolding_all rfl) ?_ | refine Go.lnR (by assumption) ?_ | refine Go.lk (by assumption) (by with_unfolding_all rfl) ?_ | refine Go.lk0 (by assumption) (by with_unfolding_all rfl) ?_ | refine Go.lka (by assumption) (by with_unfolding_all rfl) ?_ | refine Go.lkp (by assumption) ?_ | refine Go.la (by with_unfolding_all rfl) ?_ | refine Go.cvB (by assumption) ?_ | refine Go.rd (by assumption) ?_ | refine Go.rd2 (by assumption) ?_ | refine Go.ck (hold_ld (ld_of (by assumption) (by with_unfolding_all rfl))) ?_ | refine Go.ck (hold_ld (ldk_of (by assumption) (by assumption) (by with_unfolding_all rfl))) ?_)
          refine Go.ok fun hs hm => Ok.bind (same77_ok hxa.pl hyb.pl (hp a (List.mem_of_getElem? ha)) hs) ?_
          rintro v w1 ⟨rfl, t1, s1⟩
          refine Ok.go t1 (hm.trans s1) ?_
          rw [hxa.gen, hxa.size, hyb.gen, hyb.size]
          cases h4 : decide (a.size = b.size ∧ a.gen = b.gen ∧ a.places = b.places) with
          | false =>
            repeat (with_reducible first | refine Go.s ?_ | refine Go.ad1 (by omega) ?_ | refine Go.adn (by omega) ?_ | refine Go.sb1 (by omega) (by omega) ?_ | refine Go.sbn (by omega) (by omega) ?_ | refine Go.ls (by with_unfolding_all rfl) ?_ | refine Go.ex (by with_unfolding_all rfl) ?_ | refine Go.lnR (by assumption) ?_ | refine Go.lk (by assumption) (by with_unfolding_all rfl) ?_ | refine Go.lk0 (by assumption) (by with_unfolding_all rfl) ?_ | refine Go.lka (by assumption) (by with_unfolding_all rfl) ?_ | refine Go.lkp (by assumption) ?_ | refine Go.la (by with_unfolding_all rfl) ?_ | refine Go.cvB (by assumption) ?_ | refine Go.rd (by assumption) ?_ | refine Go.rd2 (by assumption) ?_ | refine Go.ck (hold_ld (ld_of (by assumption) (by with_unfolding_all rfl))) ?_ | refine Go.ck (hold_ld (ldk_of (by assumption) (by assumption) (by with_unfolding_all rfl))) ?_)
            exact fin _ fun h => by simp [h.2.2.2] at h4
          | true =>
            repeat (with_reducible first | refine Go.s ?_ | refine Go.ad1 (by omega) ?_ | refine Go.adn (by omega) ?_ | refine Go.sb1 (by omega) (by omega) ?_ | refine Go.sbn (by omega) (by omega) ?_ | refine Go.ls (by with_unfolding_all rfl) ?_ | refine Go.ex (by with_unfolding_all rfl) ?_ | refine Go.lnR (by assumption) ?_ | refine Go.lk (by assumption) (by with_unfolding_all rfl) ?_ | refine Go.lk0 (by assumption) (by with_unfolding_all rfl) ?_ | refine Go.lka (by assumption) (by with_unfolding_all rfl) ?_ | refine Go.lkp (by assumption) ?_ | refine Go.la (by with_unfolding_all rfl) ?_ | refine Go.cvB (by assumption) ?_ | refine Go.rd (by assumption) ?_ | refine Go.rd2 (by assumption) ?_ | refine Go.ck (hold_ld (ld_of (by assumption) (by with_unfolding_all rfl))) ?_ | refine Go.ck (hold_ld (ldk_of (by assumption) (by assumption) (by with_unfolding_all rfl))) ?_)
            refine ih (i + 1) _ _ (by omega) ?_ ?_ ?_ ?_ ?_
            · intro k a' b' hk ha' hb'
              by_cases hki : k = i
              · subst hki
                rw [ha] at ha'; rw [hb] at hb'
                injection ha' with ha'; injection hb' with hb'
                subst ha' hb'
                simp at h1 h2 h3 h4
                exact ⟨h1, h2, h3, h4⟩
              · exact hsm k a' b' (by omega) ha' hb'
            · exact e0
            · exact e1
            · rfl
            · exact e70
theorem same39_ok {K : Hl} {v1 v2 : Value} {xs ys : List Fg} {fa fb : List AF} (hr : RdS K 73 6 encFg v1 xs) (hr' : RdS K 73 6 encFg v2 ys) (hx : Rfgs K xs fa) (hy : Rfgs K ys fb) (hm : fa.length ≤ 2 ^ 60) (hp : ∀ a ∈ fa, a.places.length ≤ 2 ^ 60) (hs : Sat w (kn K :: F)) :
    Ok (Fn Pg 39 [v1, v2] w) fun v w' => v = .bool (decide (sameFs fa fb)) ∧ Sat w' (kn K :: F) ∧ Sm w w' := by
  rw [F39]; unfold S39
  refine Ok.go hs (Sm.refl w) ?_
  repeat (with_reducible first | refine Go.s ?_ | refine Go.ad1 (by omega) ?_ | refine Go.adn (by omega) ?_ | refine Go.sb1 (by omega) (by omega) ?_ | refine Go.sbn (by omega) (by omega) ?_ | refine Go.ls (by with_unfolding_all rfl) ?_ | refine Go.ex (by with_unfolding_all rfl) ?_ | refine Go.lnR (by assumption) ?_ | refine Go.lk (by assumption) (by with_unfolding_all rfl) ?_ | refine Go.lk0 (by assumption) (by with_unfolding_all rfl) ?_ | refine Go.lka (by assumption) (by with_unfolding_all rfl) ?_ | refine Go.lkp (by assumption) ?_ | refine Go.la (by with_unfolding_all rfl) ?_ | refine Go.cvB (by assumption) ?_ | refine Go.rd (by assumption) ?_ | refine Go.rd2 (by assumption) ?_ | refine Go.ck (hold_ld (ld_of (by assumption) (by with_unfolding_all rfl))) ?_ | refine Go.ck (hold_ld (ldk_of (by assumption) (by assumption) (by with_unfolding_all rfl))) ?_)
  rw [hx.len, hy.len]
  refine Go.ci (fun h => ?_) fun h => ?_
  · repeat (with_reducible first | refine Go.s ?_ | refine Go.ad1 (by omega) ?_ | refine Go.adn (by omega) ?_ | refine Go.sb1 (by omega) (by omega) ?_ | refine Go.sbn (by omega) (by omega) ?_ | refine Go.ls (by with_unfolding_all rfl) ?_ | refine Go.ex (by with_unfolding_all rfl) ?_ | refine Go.lnR (by assumption) ?_ | refine Go.lk (by assumption) (by with_unfolding_all rfl) ?_ | refine Go.lk0 (by assumption) (by with_unfolding_all rfl) ?_ | refine Go.lka (by assumption) (by with_unfolding_all rfl) ?_ | refine Go.lkp (by assumption) ?_ | refine Go.la (by with_unfolding_all rfl) ?_ | refine Go.cvB (by assumption) ?_ | refine Go.rd (by assumption) ?_ | refine Go.rd2 (by assumption) ?_ | refine Go.ck (hold_ld (ld_of (by assumption) (by with_unfolding_all rfl))) ?_ | refine Go.ck (hold_ld (ldk_of (by assumption) (by assumption) (by with_unfolding_all rfl))) ?_)
    refine Go.ret fun hs hm => ⟨?_, hs, hm⟩
    rw [decide_eq_false]
    intro hh
    simp [hh.1] at h
  · exact same39_loop hr hr' hx hy (by simp at h; omega) hm hp fa.length 0 _ w (by omega) (fun k a b hk => absurd hk (Nat.not_lt_zero _)) rfl rfl rfl rfl
end Go.Cb

/-
  What Apply and Vacuum make of chains as they should be.
-/
set_option linter.unusedVariables false
set_option linter.unusedSimpArgs false
namespace Go.Cb
open Classical

theorem fold_setC : ∀ (l : List KC) (f : ByteArray → List AV) (k : ByteArray), (l.Pairwise fun a b => a.1 ≠ b.1) → (∃ x ∈ l, x.1 = k ∧ l.foldl (fun f x => setC f x.1 x.2) f k = x.2) ∨ ((∀ x ∈ l, x.1 ≠ k) ∧ l.foldl (fun f x => setC f x.1 x.2) f k = f k)
  | [], f, k, _ => .inr ⟨fun x hx => (by cases hx), rfl⟩
  | y :: l, f, k, hp => by
    obtain ⟨h1, h2⟩ := List.pairwise_cons.1 hp
    rcases fold_setC l (setC f y.1 y.2) k h2 with ⟨x, hx, hk, h⟩ | ⟨hn, h⟩
    · exact .inl ⟨x, by simp [hx], hk, h⟩
    · by_cases hk : y.1 = k
      · refine .inl ⟨y, by simp, hk, ?_⟩
        show l.foldl _ (setC f y.1 y.2) k = _
        rw [h]; unfold setC; rw [if_pos hk.symm]
      · refine .inr ⟨fun x hx => ?_, ?_⟩
        · rcases List.mem_cons.1 hx with rfl | hx
          · exact hk
          · exact hn x hx
        · show l.foldl _ (setC f y.1 y.2) k = _
          rw [h]; unfold setC; rw [if_neg (Ne.symm hk)]

theorem okCh_mem {c : ByteArray → List AV} : ∀ {gs : List (ByteArray × AV)} {p : ByteArray}, okCh c p gs → (∀ a ∈ gs, RightP (a.2 :: c a.1) ∧ keyR a.1 ∧ kl p a.1 = true) ∧ gs.Pairwise fun a b => kl a.1 b.1 = true
  | [], p, _ => ⟨fun a ha => (by cases ha), .nil⟩
  | x :: gs, p, ⟨h1, h2, h3, h4⟩ => by
    obtain ⟨g1, g2⟩ := okCh_mem h4
    refine ⟨fun a ha => ?_, List.pairwise_cons.2 ⟨fun b hb => (g1 b hb).2.2, g2⟩⟩
    rcases List.mem_cons.1 ha with rfl | ha
    · exact ⟨h1, h2, h3⟩
    · exact ⟨(g1 a ha).1, (g1 a ha).2.1, kl_tr h3 (g1 a ha).2.2⟩
theorem appC_cases {c : ByteArray → List AV} {gs : List (ByteArray × AV)} {p : ByteArray} (h : okCh c p gs) (k : ByteArray) : (∃ a ∈ gs, a.1 = k ∧ appC c gs k = a.2 :: c k) ∨ ((∀ a ∈ gs, a.1 ≠ k) ∧ appC c gs k = c k) := by
  have hp : (chL c gs).Pairwise fun a b => a.1 ≠ b.1 := by
    unfold chL
    rw [List.pairwise_map]
    exact (okCh_mem h).2.imp fun h => kl_ne h
  rcases fold_setC (chL c gs) c k hp with ⟨x, hx, hk, h⟩ | ⟨hn, h⟩
  · unfold chL at hx
    obtain ⟨a, ha, rfl⟩ := List.mem_map.1 hx
    refine .inl ⟨a, ha, hk, ?_⟩
    have hk : a.1 = k := hk
    subst hk
    exact h
  · exact .inr ⟨fun a ha => hn _ (List.mem_map.2 ⟨a, ha, rfl⟩), h⟩

theorem gd_app {c : ByteArray → List AV} {gs : List (ByteArray × AV)} {last s : Int} (hg : Gd c last) (hok : okCh c noB gs) (hlt : last < s) (hst : ∀ a ∈ gs, a.2.st = s) : Gd (appC c gs) s := by
  obtain ⟨g1, g2⟩ := okCh_mem hok
  refine ⟨fun k => ?_, fun k a ha => ?_, Int.le_of_lt (Int.lt_of_le_of_lt hg.last hlt), fun k hk => ?_⟩
  · rcases appC_cases hok k with ⟨a, ha, rfl, h⟩ | ⟨_, h⟩
    · rw [h]; exact (g1 a ha).1
    · rw [h]; exact hg.right k
  · have hl := hg.last
    rcases appC_cases hok k with ⟨b, hb, rfl, h⟩ | ⟨_, h⟩
    · rw [h] at ha
      rcases List.mem_cons.1 ha with rfl | ha
      · rw [hst _ hb]; omega
      · have := hg.st _ a ha; omega
    · rw [h] at ha
      have := hg.st _ a ha; omega
  · rcases appC_cases hok k with ⟨b, hb, rfl, h⟩ | ⟨_, h⟩
    · exact (g1 b hb).2.1
    · rw [h] at hk; exact hg.key k hk
theorem bd_app {c : ByteArray → List AV} {gs : List (ByteArray × AV)} {n : Nat} (hb : Bd c n) (hok : okCh c noB gs) (hp : ∀ a ∈ gs, a.2.places.length ≤ 2 ^ 29) : Bd (appC c gs) (n + 1) := by
  refine ⟨fun k a ha => ?_, fun k => ?_⟩
  · rcases appC_cases hok k with ⟨b, hb', rfl, h⟩ | ⟨_, h⟩
    · rw [h] at ha
      rcases List.mem_cons.1 ha with rfl | ha
      · exact hp _ hb'
      · exact hb.pl _ a ha
    · rw [h] at ha; exact hb.pl _ a ha
  · have := hb.len k
    rcases appC_cases hok k with ⟨b, hb', rfl, h⟩ | ⟨_, h⟩
    · rw [h]; simp; omega
    · rw [h]; omega
theorem bd_mono {c : ByteArray → List AV} {n m : Nat} (hb : Bd c n) (h : n ≤ m) : Bd c m := ⟨hb.pl, fun k => Nat.le_trans (hb.len k) h⟩

/-- chains of which only some versions are left. -/
def SubC (c' c : ByteArray → List AV) : Prop := ∀ k, (c' k).Sublist (c k)
theorem gd_sub {c c' : ByteArray → List AV} {last : Int} (hg : Gd c last) (h : SubC c' c) : Gd c' last := by
  refine ⟨fun k => right_sub (hg.right k) (h k), fun k a ha => hg.st k a ((h k).subset ha), hg.last, fun k hk => hg.key k fun h0 => hk ?_⟩
  have := h k
  rw [h0] at this
  exact List.sublist_nil.1 this
theorem bd_sub {c c' : ByteArray → List AV} {n : Nat} (hb : Bd c n) (h : SubC c' c) : Bd c' n := ⟨fun k a ha => hb.pl k a ((h k).subset ha), fun k => Nat.le_trans (h k).length_le (hb.len k)⟩
theorem sub_set {c : ByteArray → List AV} {k : ByteArray} {p : Nat → Prop} : SubC (setC c k (keptL (c k) p)) c := by
  intro q
  unfold setC
  by_cases h : q = k
  · rw [if_pos h, h]; exact kept_sub _ _
  · rw [if_neg h]; exact List.Sublist.refl _

/-- what a vacuum without starts leaves. -/
def vacL (vs : List AV) : List AV := match vs with
  | [] => []
  | a :: _ => if a.dead then [] else [a]
theorem seen_nil {vs : List AV} {i : Nat} : seenP vs [] i ↔ i = 0 := by
  unfold seenP
  constructor
  · rintro (h | ⟨s, hs, _⟩)
    · exact h
    · cases hs
  · exact .inl
theorem kept_nil {vs : List AV} (hR : RightP vs) : keptL vs (keepP vs []) = vacL vs := by
  cases vs with
  | nil => rfl
  | cons a r =>
    have hn : noneP (a :: r) [] ↔ a.dead = true := by
      constructor
      · rintro ⟨b, hb, hd, _⟩
        simp at hb
        subst hb; exact hd
      · intro hd
        exact ⟨a, rfl, hd, fun i hi => seen_nil.1 hi, fun s hs => (by cases hs)⟩
    have hk : ∀ i, keepP (a :: r) [] i ↔ (i = 0 ∧ ¬ a.dead = true) := by
      intro i
      unfold keepP
      rw [seen_nil, hn]
      constructor
      · rintro (h | h)
        · exact absurd hR h
        · exact h
      · exact .inr
    unfold keptL vacL
    rw [List.zipIdx_cons]
    have hrest : (r.zipIdx 1).filter (fun x => decide (keepP (a :: r) [] x.2)) = [] := by
      rw [List.filter_eq_nil_iff]
      rintro ⟨b, i⟩ hb
      have := List.mem_zipIdx hb
      rw [decide_eq_true_iff, hk]
      have h1 := this.1
      rintro ⟨h2, _⟩
      have h2 : i = 0 := h2
      omega
    cases hd : a.dead with
    | true =>
      rw [List.filter_cons, if_neg (by rw [decide_eq_true_iff, hk, hd]; simp)]
      simp only [Nat.zero_add]
      rw [hrest]; simp [hd]
    | false =>
      rw [List.filter_cons, if_pos (by rw [decide_eq_true_iff, hk, hd]; simp)]
      simp only [Nat.zero_add]
      rw [hrest]; simp [hd]
theorem filt_two {α : Type} (p q : α → Prop) (hq : ∀ x, q x ↔ ¬ p x) : ∀ z : List α, (z.filter fun x => decide (p x)).length + (z.filter fun x => decide (q x)).length = z.length
  | [] => rfl
  | x :: z => by
    have ih := filt_two p q hq z
    by_cases h : p x
    · rw [List.filter_cons_of_pos (by simpa using h), List.filter_cons_of_neg (by simpa using fun h' => (hq x).1 h' h), List.length_cons, List.length_cons]; omega
    · rw [List.filter_cons_of_neg (by simpa using h), List.filter_cons_of_pos (by simpa using (hq x).2 h), List.length_cons, List.length_cons]; omega
theorem kept_len (l : List AV) (p : Nat → Prop) : (keptL l p).length + (keptL l fun i => ¬ p i).length = l.length := by
  unfold keptL
  rw [List.length_map, List.length_map]
  have h := filt_two (fun x : AV × Nat => p x.2) (fun x => ¬ p x.2) (fun _ => Iff.rfl) l.zipIdx
  rw [List.length_zipIdx] at h
  exact h

/-! the next key -/
theorem hasL_iff {K : Hl} {L : List Ent} {c : ByteArray → List AV} (hc : StoR K L c) (k : ByteArray) : hasL L k ↔ c k ≠ [] := by
  constructor
  · rintro ⟨e, he, rfl⟩
    exact (hc.at_ e he).2
  · intro h
    apply Classical.byContradiction
    intro hn
    exact h (hc.no k hn)
theorem next_key {K : Hl} {L : List Ent} {c : ByteArray → List AV} (hc : StoR K L c) (hs : Srt L) {key k : ByteArray} (hk : c k ≠ []) (hlt : kl key k = true) (hmin : ∀ q, c q ≠ [] → kl key q = true → q = k ∨ kl k q = true) : ∃ e, nextL L key = some e ∧ e.1 = k := by
  obtain ⟨e, he, rfl⟩ := (hasL_iff hc k).2 hk
  have hm : e ∈ upps L key := List.mem_filter.2 ⟨he, hlt⟩
  unfold nextL
  have hsu : Srt (upps L key) := hs.sublist List.filter_sublist
  cases hu : upps L key with
  | nil => rw [hu] at hm; cases hm
  | cons x r =>
    refine ⟨x, rfl, ?_⟩
    have hx : x ∈ upps L key := by rw [hu]; simp
    obtain ⟨hx1, hx2⟩ := List.mem_filter.1 hx
    rw [hu] at hm hsu
    rcases List.mem_cons.1 hm with rfl | hm
    · rfl
    · have h1 := (List.pairwise_cons.1 hsu).1 e hm
      rcases hmin x.1 (hc.at_ x hx1).2 hx2 with h | h
      · exact h
      · rw [kl_asym h1] at h; cases h
theorem next_none {K : Hl} {L : List Ent} {c : ByteArray → List AV} (hc : StoR K L c) {key : ByteArray} (hno : ∀ q, c q ≠ [] → kl key q = false) : nextL L key = none := by
  unfold nextL
  have : upps L key = [] := List.filter_eq_nil_iff.2 fun e he => by rw [hno e.1 (hc.at_ e he).2]; simp
  rw [this]; rfl

/-! what is seen -/
theorem atA_head {vs : List AV} {a : AV} {s : Int} (h : vs[0]? = some a) (hs : a.st ≤ s) : atA vs s = some a := by
  cases vs with
  | nil => cases h
  | cons b r =>
    simp at h
    subst h
    unfold atA
    rw [List.find?_cons_of_pos (by simpa using hs)]
theorem valV_head {vs : List AV} {a : AV} {s : Int} (hR : RightP vs) (h : vs[0]? = some a) (hs : a.st ≤ s) : valV vs s = if a.dead then (zA, false) else (a, true) := by
  unfold valV atV
  rw [if_pos hR, atA_head h hs]
  cases hd : a.dead with
  | true => simp [hd]
  | false => simp [hd]
end Go.Cb

/-
  MvccVacuums: the walk.
-/
set_option linter.unusedVariables false
set_option linter.unusedSimpArgs false
set_option maxRecDepth 100000
namespace Go.Cb
open Classical
variable {w w0 : World} {F : List HP} {Q Q' : Value → World → Prop}

/-- a store that came about by acts. -/
structure Came (K : Hl) (L : List Ent) (c : ByteArray → List AV) (last : Int) (n : Nat) : Prop where
  st : StoR K L c
  gd : Gd c last
  bd : Bd c n
  len : L.length ≤ 30 * n
theorem Came.mono {K K' : Hl} {L : List Ent} {c : ByteArray → List AV} {last : Int} {n : Nat} (h : Came K L c last n) (hl : Le K K') : Came K' L c last n := ⟨h.st.mono hl, h.gd, h.bd, h.len⟩
theorem Came.new (K : Hl) : Came K [] (fun _ => []) 0 0 := ⟨StoR.new K, Gd.new, ⟨fun k a ha => by simp at ha, fun k => by simp⟩, by simp⟩
theorem Came.more {K : Hl} {L : List Ent} {c : ByteArray → List AV} {last : Int} {n m : Nat} (h : Came K L c last n) (hl : n ≤ m) : Came K L c last m := ⟨h.st, h.gd, bd_mono h.bd hl, by have := h.len; omega⟩

/-- a record is applied. -/
theorem came_app {K : Hl} {S n : Nat} {L : List Ent} {last s : Int} {c : ByteArray → List AV} {gs : List (ByteArray × AV)} {cv : Value} {cs : List Cg} (hc : Came K L c last n) (hn : n ≤ 1000) (hf : fewG gs) (hr : RdS K 65 5 encCg cv cs) (hcs : Rcg K s cs gs) (hs : Sat w (kn K :: sto S L last :: F)) :
    Ok (Fn Pg 32 [ptr S 0, .agg #[u64 s, cv]] w) fun v w' => ∃ K' L' c' last' z, v = int z ∧ Le K K' ∧ Came K' L' c' last' (n + 1) ∧ ((z = 0 ∧ okCh c noB gs ∧ last < s ∧ last' = s ∧ c' = appC c gs) ∨ (z = 2 ∧ ¬ (okCh c noB gs ∧ last < s) ∧ last' = last ∧ c' = c)) ∧ Sat w' (kn K' :: sto S L' last' :: F) ∧ Sm w w' := by
  have hp : ∀ a ∈ gs, a.2.places.length ≤ 2 ^ 29 := fun a ha => by have := (hf.2 a ha).1; omega
  have hl := hc.len
  have hgl := hf.1
  have hst : ∀ a ∈ gs, a.2.st = s := fun a ha => by
    obtain ⟨i, hi⟩ := List.getElem?_of_mem ha
    obtain ⟨x, hx⟩ : ∃ x, cs[i]? = some x := ⟨_, List.getElem?_eq_getElem (by rw [hcs.len]; exact (List.getElem?_eq_some_iff.1 hi).1)⟩
    exact (hcs.at_ i x a hx hi).2.st.symm
  refine Ok.mono (apply_ok hc.bd (by omega) hp (by omega) (by omega) hc.st hr hcs hs) ?_
  rintro v w1 ⟨K1, l1, s1, ⟨hok, hlt, rfl, L1, hc1, hL1, t1⟩ | ⟨hno, rfl, t1⟩⟩
  · exact ⟨K1, L1, _, s, 0, rfl, l1, ⟨hc1, gd_app hc.gd hok hlt hst, bd_app hc.bd hok hp, by omega⟩, .inl ⟨rfl, hok, hlt, rfl, rfl⟩, t1, s1⟩
  · exact ⟨K1, L, c, last, 2, rfl, l1, (hc.mono l1).more (by omega), .inr ⟨rfl, hno, rfl, rfl⟩, t1, s1⟩

/-! ### The first loop: the acts' records are applied -/

noncomputable abbrev VL1 (e : Env) (w : World) : R := evalLoop (cx8 (Fn Pg) (Rnd Pg)) (cdA Go.Proofs.Try.f8 [1, 1, 1, 0, 1, 0, 0]) (K8_2 (Fn Pg) (Rnd Pg)) e w
theorem vac1 {K0 : Hl} {v : Value} {xs : List MAct} {gs : List AAct} {S : Nat} (hf : fewA gs)
    (cont : ∀ (K : Hl) (L : List Ent) (c : ByteArray → List AV) (last : Int) (e : Env) (w : World), Le K0 K → RdS K 58 5 encAc v xs → Racs K xs gs → Came K L c last gs.length → e 0 = v → e 3 = ptr S 0 → e 4 = int gs.length → e 152 = undef → Go w0 (kn K :: sto S L last :: F) w (VL1 e w) Q) :
    ∀ (j i : Nat) (K : Hl) (L : List Ent) (c : ByteArray → List AV) (last : Int) (e : Env) (w : World), i + j = gs.length → Le K0 K → RdS K 58 5 encAc v xs → Racs K xs gs → Came K L c last i → e 0 = v → e 3 = ptr S 0 → e 4 = int i → e 152 = undef →
      Go w0 (kn K :: sto S L last :: F) w (VL1 e w) Q := by
  intro j
  induction j with
  | zero =>
    intro i K L c last e w hij hl0 hr hx hc e0 e3 e4 e152
    have : i = gs.length := by omega
    subst this
    exact cont K L c last e w hl0 hr hx hc e0 e3 e4 e152
  | succ j ih =>
    intro i K L c last e w hij hl0 hr hx hc e0 e3 e4 e152
    have hi : i < gs.length := by omega
    have hlen := hf.1
    obtain ⟨a, ha⟩ : ∃ a, gs[i]? = some a := ⟨_, List.getElem?_eq_getElem hi⟩
    obtain ⟨x, hx'⟩ : ∃ x, xs[i]? = some x := ⟨_, List.getElem?_eq_getElem (by rw [hx.len]; exact hi)⟩
    obtain ⟨p, g1, k1⟩ := hr.get hx' rfl
    have hra := hx.at_ i x a hx' ha
    obtain ⟨cs, hcs1, hcs2⟩ := hra.cs
    unfold VL1
    rw [S8_L1_eq]; unfold S8_L1
    rw [e0, e3, e4]
    repeat (with_reducible first | refine Go.s ?_ | refine Go.ad1 (by omega) ?_ | refine Go.adn (by omega) ?_ | refine Go.sb1 (by omega) (by omega) ?_ | refine Go.sbn (by omega) (by omega) ?_ | refine Go.ls (by with_unfolding_all rfl) ?_ | refine Go.ex (by with_unfolding_all rfl) ?_ | refine Go.lnR (by assumption) ?_ | refine Go.lk (by assumption) (by with_unfolding_all rfl) ?_ | refine Go.lk0 (by assumption) (by with_unfolding_all rfl) ?_ | refine Go.lka (by assumption) (by with_unfolding_all rfl) ?_ | refine Go.lkp (by assumption) ?_ | refine Go.la (by with_unfolding_all rfl) ?_ | refine Go.cvB (by assumption) ?_ | refine Go.rd (by assumption) ?_ | refine Go.rd2 (by assumption) ?_ | refine Go.ck (hold_ld (ld_of (by assumption) (by with_unfolding_all rfl))) ?_ | refine Go.ck (hold_ld (ldk_of (by assumption) (by assumption) (by with_unfolding_all rfl))) ?_)
    rw [hx.len]
    refine Go.ci (fun _ => ?_) fun h => absurd (of_decide_eq_false h) (by omega)
    repeat (with_reducible first | refine Go.s ?_ | refine Go.ad1 (by omega) ?_ | refine Go.adn (by omega) ?_ | refine Go.sb1 (by omega) (by omega) ?_ | refine Go.sbn (by omega) (by omega) ?_ | refine Go.ls (by with_unfolding_all rfl) ?_ | refine Go.ex (by with_unfolding_all rfl) ?_ | refine Go.lnR (by assumption) ?_ | refine Go.lk (by assumption) (by with_unfolding_all rfl) ?_ | refine Go.lk0 (by assumption) (by with_unfolding_all rfl) ?_ | refine Go.lka (by assumption) (by with_unfolding_all rfl) ?_ | refine Go.lkp (by assumption) ?_ | refine Go.la (by with_unfolding_all rfl) ?_ | refine Go.cvB (by assumption) ?_ | refine Go.rd (by assumption) ?_ | refine Go.rd2 (by assumption) ?_ | refine Go.ck (hold_ld (ld_of (by assumption) (by with_unfolding_all rfl))) ?_ | refine Go.ck (hold_ld (ldk_of (by assumption) (by assumption) (by with_unfolding_all rfl))) ?_)
    rw [hra.st]
    refine Go.ok fun hs hm => Ok.bind (came_app hc (by omega) (hf.2 a (List.mem_of_getElem? ha)).1 hcs1 hcs2 hs) ?_
    rintro z w1 ⟨K1, L1, c1, last1, z, rfl, l1, hc1, _, t1, s1⟩
    refine Ok.go t1 (hm.trans s1) ?_
    repeat (with_reducible first | refine Go.s ?_ | refine Go.ad1 (by omega) ?_ | refine Go.adn (by omega) ?_ | refine Go.sb1 (by omega) (by omega) ?_ | refine Go.sbn (by omega) (by omega) ?_ | refine Go.ls (by with_unfolding_all rfl) ?_ | refine Go.ex (by with_unfolding_all rfl) ?_ | refine Go.lnR (by assumption) ?_ | refine Go.lk (by assumption) (by with_unfolding_all rfl) ?_ | refine Go.lk0 (by assumption) (by with_unfolding_all rfl) ?_ | refine Go.lka (by assumption) (by with_unfolding_all rfl) ?_ | refine Go.lkp (by assumption) ?_ | refine Go.la (by with_unfolding_all rfl) ?_ | refine Go.cvB (by assumption) ?_ | refine Go.rd (by assumption) ?_ | refine Go.rd2 (by assumption) ?_ | refine Go.ck (hold_ld (ld_of (by assumption) (by with_unfolding_all rfl))) ?_ | refine Go.ck (hold_ld (ldk_of (by assumption) (by assumption) (by with_unfolding_all rfl))) ?_)
    refine ih (i + 1) K1 L1 c1 last1 _ _ (by omega) (hl0.trans l1) (hr.mono l1) (hx.mono l1) hc1 ?_ ?_ ?_ ?_
    · exact e0
    · exact e3
    · rfl
    · exact e152

/-! ### What the vacuums leave -/

/-- the first i rows' chains, vacuumed. -/
noncomputable def vacC (c : ByteArray → List AV) (X : List KC) (i : Nat) : ByteArray → List AV := fun k => if ∃ x ∈ X.take i, x.1 = k then vacL (c k) else c k
theorem vacL_sub (vs : List AV) : (vacL vs).Sublist vs := by
  cases vs with
  | nil => exact List.Sublist.refl _
  | cons a r =>
    show (if a.dead then [] else [a]).Sublist (a :: r)
    cases a.dead with
    | true => exact List.nil_sublist _
    | false => exact List.Sublist.cons_cons _ (List.nil_sublist _)
theorem vacC_sub (c : ByteArray → List AV) (X : List KC) (i : Nat) : SubC (vacC c X i) c := by
  intro k
  unfold vacC
  split
  · exact vacL_sub _
  · exact List.Sublist.refl _
theorem kl_noB (k : ByteArray) : kl k noB = false := by
  unfold kl
  show Op.bytesLess k.toList noB.toList = false
  have : noB.toList = [] := by simp [ByteArray.toList, ByteArray.toList.loop, noB, ByteArray.size]
  rw [this]
  cases k.toList <;> rfl
theorem kl_key {k : ByteArray} (h : keyR k) : kl noB k = true := by
  cases hk : kl noB k with
  | true => rfl
  | false =>
    have := kl_tot hk (kl_noB k)
    subst this
    exact absurd h.1 (by decide)
theorem srt_get {X : List KC} (hs : SrtK X) {i j : Nat} {x y : KC} (hi : X[i]? = some x) (hj : X[j]? = some y) (hij : i < j) : kl x.1 y.1 = true := by
  obtain ⟨h1, rfl⟩ := List.getElem?_eq_some_iff.1 hi
  obtain ⟨h2, rfl⟩ := List.getElem?_eq_some_iff.1 hj
  exact List.pairwise_iff_getElem.1 hs i j h1 h2 hij
/-- the key behind which the vacuum goes on. -/
def aftK (X : List KC) : Nat → ByteArray
  | 0 => noB
  | i + 1 => match X[i]? with
    | some x => x.1
    | none => noB
theorem vacC_get {c : ByteArray → List AV} {X : List KC} (hX : RowsM c X) {i j : Nat} {x : KC} (hj : X[j]? = some x) : vacC c X i x.1 = if j < i then vacL x.2 else x.2 := by
  have hx := ((hX.2 x).1 (List.mem_of_getElem? hj)).1
  unfold vacC
  by_cases hji : j < i
  · rw [if_pos hji, if_pos ⟨x, List.mem_of_getElem? (i := j) (by rw [List.getElem?_take, if_pos hji]; exact hj), rfl⟩, hx]
  · rw [if_neg hji, if_neg, hx]
    rintro ⟨y, hy, hyk⟩
    obtain ⟨m, hm⟩ := List.getElem?_of_mem hy
    rw [List.getElem?_take] at hm
    split at hm
    · have := srt_get hX.1 hm hj (by omega)
      rw [hyk, kl_irr] at this; cases this
    · cases hm
theorem rows_of {c : ByteArray → List AV} {X : List KC} (hX : RowsM c X) {k : ByteArray} (hk : c k ≠ []) : ∃ (j : Nat) (x : KC), X[j]? = some x ∧ x.1 = k := by
  have := (hX.2 (k, c k)).2 ⟨rfl, hk⟩
  obtain ⟨j, hj⟩ := List.getElem?_of_mem this
  exact ⟨j, _, hj, rfl⟩
theorem sub_ne {c' c : ByteArray → List AV} (h : SubC c' c) {k : ByteArray} (hk : c' k ≠ []) : c k ≠ [] := by
  intro h0
  have := h k
  rw [h0] at this
  exact hk (List.sublist_nil.1 this)
theorem vac_next {K : Hl} {L : List Ent} {c : ByteArray → List AV} {last : Int} {X : List KC} {i : Nat} {x : KC} (hg : Gd c last) (hX : RowsM c X) (hx : X[i]? = some x) (hc : StoR K L (vacC c X i)) (hs : Srt L) : ∃ e, nextL L (aftK X i) = some e ∧ e.1 = x.1 := by
  have hx2 := (hX.2 x).1 (List.mem_of_getElem? hx)
  have haft : ∀ (j : Nat) (y : KC), X[j]? = some y → kl (aftK X i) y.1 = true → i ≤ j := by
    intro j y hy hlt
    apply Nat.le_of_not_lt
    intro hji
    obtain ⟨m, rfl⟩ : ∃ m, i = m + 1 := ⟨i - 1, by omega⟩
    obtain ⟨z, hz⟩ : ∃ z, X[m]? = some z := ⟨_, List.getElem?_eq_getElem (by have := (List.getElem?_eq_some_iff.1 hx).1; omega)⟩
    have ha : aftK X (m + 1) = z.1 := by show (match X[m]? with | some x => x.1 | none => noB) = _; rw [hz]
    rw [ha] at hlt
    rcases Nat.lt_or_ge j m with h | h
    · have := srt_get hX.1 hy hz h
      rw [kl_asym this] at hlt; cases hlt
    · obtain rfl : j = m := by omega
      rw [hy] at hz
      injection hz with hz
      subst hz
      rw [kl_irr] at hlt; cases hlt
  refine next_key hc hs ?_ ?_ ?_
  · rw [vacC_get hX hx, if_neg (Nat.lt_irrefl i)]
    exact hx2.2
  · cases i with
    | zero => exact kl_key (hg.key _ (by rw [hx2.1]; exact hx2.2))
    | succ m =>
      obtain ⟨z, hz⟩ : ∃ z, X[m]? = some z := ⟨_, List.getElem?_eq_getElem (by have := (List.getElem?_eq_some_iff.1 hx).1; omega)⟩
      have ha : aftK X (m + 1) = z.1 := by show (match X[m]? with | some x => x.1 | none => noB) = _; rw [hz]
      rw [ha]
      exact srt_get hX.1 hz hx (Nat.lt_succ_self m)
  · intro q hq hlt
    obtain ⟨j, y, hy, rfl⟩ := rows_of hX (sub_ne (vacC_sub c X i) hq)
    have := haft j y hy hlt
    rcases Nat.lt_or_ge i j with h | h
    · exact .inr (srt_get hX.1 hx hy h)
    · obtain rfl : j = i := by omega
      rw [hx] at hy
      injection hy with hy
      exact .inl (by rw [hy])
theorem vac_end {K : Hl} {L : List Ent} {c : ByteArray → List AV} {X : List KC} (hX : RowsM c X) (hc : StoR K L (vacC c X X.length)) : nextL L (aftK X X.length) = none := by
  refine next_none hc fun q hq => ?_
  obtain ⟨j, y, hy, rfl⟩ := rows_of hX (sub_ne (vacC_sub c X _) hq)
  have hj := (List.getElem?_eq_some_iff.1 hy).1
  obtain ⟨m, hm⟩ : ∃ m, X.length = m + 1 := ⟨X.length - 1, by omega⟩
  obtain ⟨z, hz⟩ : ∃ z, X[m]? = some z := ⟨_, List.getElem?_eq_getElem (by omega)⟩
  have ha : aftK X (m + 1) = z.1 := by show (match X[m]? with | some x => x.1 | none => noB) = _; rw [hz]
  rw [hm, ha]
  rcases Nat.lt_or_ge j m with h | h
  · exact kl_asym (srt_get hX.1 hy hz h)
  · obtain rfl : j = m := by omega
    rw [hy] at hz
    injection hz with hz
    rw [hz]; exact kl_irr _
theorem vac_set {c : ByteArray → List AV} {last : Int} {X : List KC} {i : Nat} {x : KC} (hg : Gd c last) (hX : RowsM c X) (hx : X[i]? = some x) : setC (vacC c X i) x.1 (keptL (vacC c X i x.1) (keepP (vacC c X i x.1) [])) = vacC c X (i + 1) := by
  have hx2 := (hX.2 x).1 (List.mem_of_getElem? hx)
  funext k
  unfold setC
  by_cases hk : k = x.1
  · subst hk
    rw [if_pos rfl, vacC_get hX hx, vacC_get hX hx, if_neg (Nat.lt_irrefl i), if_pos (Nat.lt_succ_self i), kept_nil (by rw [← hx2.1]; exact hg.right _)]
  · rw [if_neg hk]
    unfold vacC
    have : (∃ y ∈ X.take (i + 1), y.1 = k) ↔ ∃ y ∈ X.take i, y.1 = k := by
      rw [List.take_add_one, hx]
      constructor
      · rintro ⟨y, hy, h⟩
        rcases List.mem_append.1 hy with hy | hy
        · exact ⟨y, hy, h⟩
        · simp at hy
          subst hy
          exact absurd h.symm hk
      · rintro ⟨y, hy, h⟩
        exact ⟨y, List.mem_append_left _ hy, h⟩
    by_cases hq : ∃ y ∈ X.take i, y.1 = k
    · rw [if_pos hq, if_pos (this.2 hq)]
    · rw [if_neg hq, if_neg fun h => hq (this.1 h)]

/-- the rows that are left. -/
def leftX (X : List KC) : List KC := X.filterMap fun x => match vacL x.2 with
  | [] => none
  | a :: r => some (x.1, a :: r)
theorem leftX_cons (x : KC) (X : List KC) : leftX (x :: X) = if vacL x.2 = [] then leftX X else (x.1, vacL x.2) :: leftX X := by
  unfold leftX
  rw [List.filterMap_cons]
  cases h : vacL x.2 <;> simp
theorem leftX_mem {X : List KC} {y : KC} : y ∈ leftX X ↔ ∃ x ∈ X, y = (x.1, vacL x.2) ∧ vacL x.2 ≠ [] := by
  unfold leftX
  rw [List.mem_filterMap]
  constructor
  · rintro ⟨x, hx, h⟩
    refine ⟨x, hx, ?_⟩
    cases hv : vacL x.2 with
    | nil => rw [hv] at h; cases h
    | cons a r => rw [hv] at h; injection h with h; exact ⟨h.symm, by simp⟩
  · rintro ⟨x, hx, rfl, h⟩
    refine ⟨x, hx, ?_⟩
    cases hv : vacL x.2 with
    | nil => exact absurd hv h
    | cons a r => rfl
theorem leftX_srt : ∀ {X : List KC}, SrtK X → SrtK (leftX X)
  | [], _ => .nil
  | x :: X, h => by
    obtain ⟨h1, h2⟩ := List.pairwise_cons.1 h
    rw [leftX_cons]
    split
    · exact leftX_srt h2
    · refine List.pairwise_cons.2 ⟨fun y hy => ?_, leftX_srt h2⟩
      obtain ⟨z, hz, rfl, _⟩ := leftX_mem.1 hy
      exact h1 z hz
theorem left_rows {c : ByteArray → List AV} {X : List KC} (hX : RowsM c X) : RowsM (vacC c X X.length) (leftX X) := by
  refine ⟨leftX_srt hX.1, fun y => ?_⟩
  rw [leftX_mem]
  constructor
  · rintro ⟨x, hx, rfl, h⟩
    obtain ⟨j, hj⟩ := List.getElem?_of_mem hx
    refine ⟨?_, h⟩
    show vacC c X X.length x.1 = _
    rw [vacC_get hX hj, if_pos (List.getElem?_eq_some_iff.1 hj).1]
  · rintro ⟨h1, h2⟩
    obtain ⟨j, x, hj, hk⟩ := rows_of hX (k := y.1) (sub_ne (vacC_sub c X X.length) (by rw [h1]; exact h2))
    refine ⟨x, List.mem_of_getElem? hj, ?_, ?_⟩
    · refine Prod.ext hk.symm ?_
      show y.2 = vacL x.2
      rw [← h1, ← hk, vacC_get hX hj, if_pos (List.getElem?_eq_some_iff.1 hj).1]
    · rw [← hk, vacC_get hX hj, if_pos (List.getElem?_eq_some_iff.1 hj).1] at h1
      rw [h1]; exact h2
theorem vacL_len {vs : List AV} (h : vs ≠ []) : (vacL vs).length = liveN vs := by
  cases vs with
  | nil => exact absurd rfl h
  | cons a r =>
    show (if a.dead then [] else [a]).length = if a.dead then 0 else 1
    cases a.dead <;> rfl
theorem left_len : ∀ {X : List KC}, (∀ x ∈ X, x.2 ≠ []) → (leftX X).length = sumW liveN X ∧ sumW (fun l => l.length) (leftX X) = sumW liveN X ∧ sumW liveN (leftX X) = sumW liveN X
  | [], _ => ⟨rfl, rfl, rfl⟩
  | x :: X, h => by
    obtain ⟨h1, h2, h3⟩ := left_len (X := X) fun y hy => h y (by simp [hy])
    have hv := vacL_len (h x (by simp))
    have hs : sumW liveN (x :: X) = liveN x.2 + sumW liveN X := by simp [sumW]
    rw [leftX_cons, hs]
    cases hvl : vacL x.2 with
    | nil =>
      rw [hvl] at hv
      simp only [List.length_nil] at hv
      rw [if_pos rfl, ← hv, Nat.zero_add]
      exact ⟨h1, h2, h3⟩
    | cons a r =>
      have hl : liveN x.2 ≤ 1 := liveN_le _
      rw [hvl] at hv
      simp only [List.length_cons] at hv
      have hr : r = [] := List.length_eq_zero_iff.1 (by omega)
      subst hr
      have hone : liveN x.2 = 1 := by simpa using hv.symm
      have hdead : a.dead = false := by
        cases hx : x.2 with
        | nil => rw [hx] at hvl; cases hvl
        | cons b q =>
          rw [hx] at hvl
          have hvl : (if b.dead then [] else [b]) = [a] := hvl
          cases hb : b.dead with
          | true => rw [hb] at hvl; cases hvl
          | false => rw [hb] at hvl; injection hvl with hvl; rw [← hvl]; exact hb
      rw [if_neg (by simp), hone]
      refine ⟨by simp [h1]; omega, ?_, ?_⟩
      · have : sumW (fun l => l.length) ((x.1, [a]) :: leftX X) = 1 + sumW (fun l => l.length) (leftX X) := by simp [sumW]
        rw [this, h2]
      · have : sumW liveN ((x.1, [a]) :: leftX X) = liveN [a] + sumW liveN (leftX X) := by simp [sumW]
        have h1 : liveN [a] = 1 := by show (if a.dead then 0 else 1) = 1; rw [hdead]; rfl
        rw [this, h3, h1]
theorem left_each {X : List KC} {y : KC} (hy : y ∈ leftX X) : ∃ a, y.2 = [a] ∧ a.dead = false := by
  obtain ⟨x, hx, rfl, h⟩ := leftX_mem.1 hy
  cases hv : x.2 with
  | nil => rw [hv] at h; exact absurd rfl h
  | cons b q =>
    rw [hv] at h
    have hvl : vacL (b :: q) = (if b.dead then [] else [b]) := rfl
    cases hb : b.dead with
    | true => rw [hvl, hb] at h; exact absurd rfl h
    | false => exact ⟨b, by show vacL (b :: q) = _; rw [hvl, hb]; rfl, hb⟩
theorem sumW_le {wt wt' : List AV → Nat} {X : List KC} (h : ∀ x ∈ X, wt x.2 ≤ wt' x.2) : sumW wt X ≤ sumW wt' X := by
  induction X with
  | nil => exact Nat.le_refl _
  | cons x X ih =>
    have h1 := ih fun y hy => h y (by simp [hy])
    have h2 := h x (by simp)
    simp only [sumW, List.map_cons, List.sum_cons] at h1 ⊢
    omega
theorem left_found {last : Int} : ∀ {X : List KC}, (∀ x ∈ X, RightP x.2 ∧ ∀ a ∈ x.2, a.st ≤ last) → foundL last (leftX X) = foundL last X
  | [], _ => rfl
  | x :: X, h => by
    have ih := left_found (X := X) fun y hy => h y (by simp [hy])
    obtain ⟨hR, hst⟩ := h x (by simp)
    have hcons : ∀ (y : KC) (Y : List KC), foundL last (y :: Y) = (if (valV y.2 last).2 = true then [(y.1, (valV y.2 last).1)] else []) ++ foundL last Y := by
      intro y Y
      unfold foundL
      rw [List.filterMap_cons]
      split <;> rename_i h
      · split at h
        · cases h
        · rename_i h2; rw [if_neg h2]; rfl
      · split at h
        · rename_i h2; rw [if_pos h2]; injection h with h; rw [← h]; rfl
        · cases h
    rw [leftX_cons, hcons]
    cases hx : x.2 with
    | nil =>
      have hv0 : vacL ([] : List AV) = [] := rfl
      have hval : (valV [] last).2 = false := by
        unfold valV
        rw [at_nil, if_neg (by simp)]
      rw [if_pos hv0, hval, ih]; rfl
    | cons b q =>
      rw [hx] at hR hst
      have hval := valV_head (s := last) hR (show (b :: q)[0]? = some b from rfl) (hst b (by simp))
      have hvl : vacL (b :: q) = (if b.dead then [] else [b]) := rfl
      rw [hval, hvl]
      cases hb : b.dead with
      | true => simp [ih]
      | false =>
        have hR1 : RightP [b] := right_sub hR (List.Sublist.cons_cons _ (List.nil_sublist _))
        have hval1 := valV_head (s := last) hR1 (show [b][0]? = some b from rfl) (hst b (by simp))
        rw [if_neg (by simp), hcons, ih]
        simp only [Bool.false_eq_true, if_false]
        rw [hval1, hb]; rfl

theorem found_mem {at' : Int} {X : List KC} {p : ByteArray × AV} (h : p ∈ foundL at' X) : ∃ x ∈ X, p.1 = x.1 ∧ p.2 ∈ x.2 := by
  unfold foundL at h
  obtain ⟨x, hx, he⟩ := List.mem_filterMap.1 h
  refine ⟨x, hx, ?_⟩
  split at he
  · rename_i hv
    injection he with he
    subst he
    refine ⟨rfl, ?_⟩
    show (valV x.2 at').1 ∈ x.2
    unfold valV at hv ⊢
    split at hv
    · rename_i h2
      rw [if_pos h2]
      have h3 := h2.1
      show (atV x.2 at').1 ∈ x.2
      unfold atV at h3 ⊢
      split at h3
      · rename_i hR
        rw [if_pos hR]
        cases ha : atA x.2 at' with
        | none => rw [ha] at h3; cases h3
        | some a => exact List.mem_of_find?_eq_some ha
      · cases h3
    · cases hv
  · cases he

/-! found, gs SameFound takes it -/
def toG (x : Fv) : Fg := ⟨x.key, false, nilV1, x.pv, x.gen, x.size⟩
def toF (p : ByteArray × AV) : AF := ⟨p.1, false, [], p.2.places, p.2.gen, p.2.size⟩
theorem rds_map {K : Hl} {t k : Nat} {α β : Type} {enc : α → List Value} {enc' : β → List Value} {f : α → β} (hf : ∀ x, enc' (f x) = enc x) {v : Value} {xs : List α} (h : RdS K t k enc v xs) : RdS K t k enc' v (xs.map f) := by
  have hfl : (xs.map f).flatMap enc' = xs.flatMap enc := by
    clear h
    induction xs with
    | nil => rfl
    | cons x xs ih => rw [List.map_cons, List.flatMap_cons, List.flatMap_cons, hf, ih]
  refine ⟨?_, fun i y hy => ?_, fun w hw => ?_⟩
  · rw [List.length_map]; exact h.sl
  · rw [List.getElem?_map] at hy
    obtain ⟨x, hx, rfl⟩ := Option.map_eq_some_iff.1 hy
    rw [hf]
    exact h.ix i x hx
  · rw [List.length_map, hfl]
    exact h.src w hw
theorem toG_rd {K : Hl} {v : Value} {xs : List Fv} (h : RdS K 73 6 encFv v xs) : RdS K 73 6 encFg v (xs.map toG) := rds_map (fun _ => rfl) h
theorem toG_fs {K : Hl} {xs : List Fv} {gs : List (ByteArray × AV)} (h : Rfs K xs gs) : Rfgs K (xs.map toG) (gs.map toF) := by
  refine ⟨by simp [h.len], fun i x a hx ha => ?_⟩
  rw [List.getElem?_map] at hx ha
  obtain ⟨x', hx', rfl⟩ := Option.map_eq_some_iff.1 hx
  obtain ⟨a', ha', rfl⟩ := Option.map_eq_some_iff.1 ha
  have := h.at_ i x' a' hx' ha'
  exact ⟨this.key, rfl, this.gen, this.size, RdS.nil none 0, this.pl⟩
theorem sameFs_refl (l : List AF) : sameFs l l := ⟨rfl, fun i a b ha hb => by rw [ha] at hb; injection hb with hb; subst hb; exact ⟨rfl, rfl, rfl, rfl, rfl, rfl⟩⟩

/-! ### The second loop: a vacuum for each row -/

noncomputable abbrev VL2 (e : Env) (w : World) : R := evalLoop (cx8 (Fn Pg) (Rnd Pg)) (cdA Go.Proofs.Try.f8 [1, 1, 1, 1, 1, 1, 1, 1, 1, 0, 1, 0, 0]) (K8_4 (Fn Pg) (Rnd Pg)) e w
noncomputable abbrev VL3 (e : Env) (w : World) : R := evalLoop (cx8 (Fn Pg) (Rnd Pg)) (cdA Go.Proofs.Try.f8 [1, 1, 1, 1, 1, 1, 1, 1, 1, 1, 1, 1, 0, 1, 0, 0]) (K8_6 (Fn Pg) (Rnd Pg)) e w
def goneN (X : List KC) : Nat := sumW (fun l => l.length - (vacL l).length) X
theorem aft_size {c : ByteArray → List AV} {last : Int} {X : List KC} (hg : Gd c last) (hX : RowsM c X) (i : Nat) : (aftK X i).size ≤ 16 := by
  cases i with
  | zero => exact Nat.zero_le _
  | succ m =>
    show (match X[m]? with | some x => x.1 | none => noB).size ≤ 16
    cases hm : X[m]? with
    | none => exact Nat.zero_le _
    | some x =>
      have h := (hX.2 x).1 (List.mem_of_getElem? hm)
      exact (hg.key x.1 (by rw [h.1]; exact h.2)).2

/-- what is known at the second loop. -/
structure V2 (K : Hl) (L : List Ent) (c : ByteArray → List AV) (last : Int) (X : List KC) (i : Nat) (rv : Value) (xs : List Ent) (fv : Value) (fs : List Fv) : Prop where
  gd : Gd c last
  bd : Bd c 40
  rows : RowsM c X
  len : L.length ≤ 1200
  st : StoR K L (vacC c X i)
  rd : RdS K 71 2 encE rv xs
  rk : Rks K xs X
  fd : RdS K 73 6 encFv fv fs
  fk : Rfs K fs ((foundL last X).take 1000)
theorem V2.mono {K K' : Hl} {L : List Ent} {c : ByteArray → List AV} {last : Int} {X : List KC} {i : Nat} {rv : Value} {xs : List Ent} {fv : Value} {fs : List Fv} (h : V2 K L c last X i rv xs fv fs) (hl : Le K K') : V2 K' L c last X i rv xs fv fs :=
  ⟨h.gd, h.bd, h.rows, h.len, h.st.mono hl, h.rd.mono hl, h.rk.mono hl, h.fd.mono hl, h.fk.mono hl⟩
instance {e : Ent} : Tk (encE e) 0 2 [.string e.1, e.2.1] := ⟨⟨rfl, Nat.le_refl _⟩⟩
instance : Sls 71 80 2 := ⟨slT_of (by kernel_rfl)⟩

theorem vac2 {K0 : Hl} {S : Nat} {c : ByteArray → List AV} {last : Int} {X : List KC} {rv fv : Value} {xs : List Ent} {fs : List Fv} (hXl : X.length ≤ 1200)
    (cont : ∀ (K : Hl) (L : List Ent) (e : Env) (w : World), Le K0 K → V2 K L c last X X.length rv xs fv fs → e 3 = ptr S 0 → e 5 = rv → e 6 = int (sumW (fun l => l.length) X) → e 7 = int (sumW liveN X) → e 8 = fv → e 9 = .string (aftK X X.length) → e 10 = int (goneN X) → e 11 = int X.length → e 152 = undef →
      Go w0 (kn K :: sto S L last :: F) w (VL2 e w) Q) :
    ∀ (j i : Nat) (K : Hl) (L : List Ent) (e : Env) (w : World), i + j = X.length → Le K0 K → V2 K L c last X i rv xs fv fs → e 3 = ptr S 0 → e 5 = rv → e 6 = int (sumW (fun l => l.length) X) → e 7 = int (sumW liveN X) → e 8 = fv → e 9 = .string (aftK X i) → e 10 = int (goneN (X.take i)) → e 11 = int i → e 152 = undef →
      Go w0 (kn K :: sto S L last :: F) w (VL2 e w) Q := by
  intro j
  induction j with
  | zero =>
    intro i K L e w hij hl0 h e3 e5 e6 e7 e8 e9 e10 e11 e152
    have : i = X.length := by omega
    subst this
    rw [List.take_length] at e10
    exact cont K L e w hl0 h e3 e5 e6 e7 e8 e9 e10 e11 e152
  | succ j ih =>
    intro i K L e w hij hl0 h e3 e5 e6 e7 e8 e9 e10 e11 e152
    have hi : i < X.length := by omega
    obtain ⟨x, hx⟩ : ∃ x, X[i]? = some x := ⟨_, List.getElem?_eq_getElem hi⟩
    obtain ⟨z, hz⟩ : ∃ z, xs[i]? = some z := ⟨_, List.getElem?_eq_getElem (by rw [h.rk.len]; exact hi)⟩
    obtain ⟨p, g1, k1⟩ := h.rd.get hz rfl
    obtain ⟨hzk, _⟩ := h.rk.at_ i z x hz hx
    have hrd := h.rd
    have hlen := h.len
    unfold VL2
    rw [S8_L2_eq]; unfold S8_L2
    rw [e3, e5, e9, e10, e11, e152]
    repeat (with_reducible first | refine Go.s ?_ | refine Go.ad1 (by omega) ?_ | refine Go.adn (by omega) ?_ | refine Go.sb1 (by omega) (by omega) ?_ | refine Go.sbn (by omega) (by omega) ?_ | refine Go.ls (by with_unfolding_all rfl) ?_ | refine Go.ex (by with_unfolding_all rfl) ?_ | refine Go.lnR (by assumption) ?_ | refine Go.lk (by assumption) (by with_unfolding_all rfl) ?_ | refine Go.lk0 (by assumption) (by with_unfolding_all rfl) ?_ | refine Go.lka (by assumption) (by with_unfolding_all rfl) ?_ | refine Go.lkp (by assumption) ?_ | refine Go.la (by with_unfolding_all rfl) ?_ | refine Go.cvB (by assumption) ?_ | refine Go.rd (by assumption) ?_ | refine Go.rd2 (by assumption) ?_ | refine Go.ck (hold_ld (ld_of (by assumption) (by with_unfolding_all rfl))) ?_ | refine Go.ck (hold_ld (ldk_of (by assumption) (by assumption) (by with_unfolding_all rfl))) ?_)
    rw [h.rk.len]
    refine Go.ci (fun _ => ?_) fun h => absurd (of_decide_eq_false h) (by omega)
    refine Go.ok fun hs hm => ?_
    have hsrt : Srt L := sto_srt (k := 1) hs rfl
    refine Ok.bind (vacuum_ok (ss := []) (n := 40) (by omega) (by have := aft_size h.gd h.rows i; omega) h.st (bd_sub h.bd (vacC_sub c X i)) (by omega) (RdS.nil none 0) (by simp) hs) ?_
    rintro v w1 ⟨K1, l1, s1, hv⟩
    obtain ⟨e1, hn1, hk1⟩ := vac_next h.gd h.rows hx h.st hsrt
    rcases hv with ⟨hno, _⟩ | ⟨e2, dv, L1, hn2, rfl, hdv, hst, hL1, t1⟩
    · rw [hno] at hn1; cases hn1
    rw [hn1] at hn2
    injection hn2 with hn2
    subst hn2
    rw [hk1] at hdv hst ⊢
    rw [vac_set h.gd h.rows hx] at hst
    have hx2 := (h.rows.2 x).1 (List.mem_of_getElem? hx)
    have hkl := kept_len (vacC c X i x.1) (keepP (vacC c X i x.1) [])
    have hcx : vacC c X i x.1 = x.2 := by rw [vacC_get h.rows hx, if_neg (Nat.lt_irrefl i)]
    rw [hcx] at hdv hkl
    have hRx : RightP x.2 := by rw [← hx2.1]; exact h.gd.right _
    rw [kept_nil hRx] at hkl
    have hdl : (keptL x.2 fun i => ¬ keepP x.2 [] i).length = x.2.length - (vacL x.2).length := by omega
    have hxl : x.2.length ≤ 40 := by rw [← hx2.1]; exact h.bd.len _
    obtain ⟨a, cp, rfl⟩ := hdv.sl
    rw [hdl]
    have k1 : PtK K1 p [.string z.1, z.2.1] := k1.mono l1
    have hgn : goneN (X.take i) ≤ i * 40 := by
      have hb : ∀ Y : List KC, (∀ y ∈ Y, y ∈ X) → goneN Y ≤ Y.length * 40 := by
        intro Y
        induction Y with
        | nil => intro _; exact Nat.zero_le _
        | cons y Y ih =>
          intro hY
          have h1 := ih fun z hz => hY z (by simp [hz])
          have hy := (h.rows.2 y).1 (hY y (by simp))
          have h2 : y.2.length ≤ 40 := by rw [← hy.1]; exact h.bd.len _
          have : goneN (y :: Y) = (y.2.length - (vacL y.2).length) + goneN Y := by simp [goneN, sumW]
          rw [this, List.length_cons]; omega
      have := hb (X.take i) fun y hy => List.mem_of_mem_take hy
      rw [List.length_take, Nat.min_eq_left (by omega)] at this
      exact this
    refine Ok.go t1 (hm.trans s1) ?_
    repeat (with_reducible first | refine Go.s ?_ | refine Go.ad1 (by omega) ?_ | refine Go.adn (by omega) ?_ | refine Go.sb1 (by omega) (by omega) ?_ | refine Go.sbn (by omega) (by omega) ?_ | refine Go.ls (by with_unfolding_all rfl) ?_ | refine Go.ex (by with_unfolding_all rfl) ?_ | refine Go.lnR (by assumption) ?_ | refine Go.lk (by assumption) (by with_unfolding_all rfl) ?_ | refine Go.lk0 (by assumption) (by with_unfolding_all rfl) ?_ | refine Go.lka (by assumption) (by with_unfolding_all rfl) ?_ | refine Go.lkp (by assumption) ?_ | refine Go.la (by with_unfolding_all rfl) ?_ | refine Go.cvB (by assumption) ?_ | refine Go.rd (by assumption) ?_ | refine Go.rd2 (by assumption) ?_ | refine Go.ck (hold_ld (ld_of (by assumption) (by with_unfolding_all rfl))) ?_ | refine Go.ck (hold_ld (ldk_of (by assumption) (by assumption) (by with_unfolding_all rfl))) ?_)
    rw [hzk]
    have hne : (!decide (x.1 = x.1)) = false := by simp
    rw [hne]
    repeat (with_reducible first | refine Go.s ?_ | refine Go.ad1 (by omega) ?_ | refine Go.adn (by omega) ?_ | refine Go.sb1 (by omega) (by omega) ?_ | refine Go.sbn (by omega) (by omega) ?_ | refine Go.ls (by with_unfolding_all rfl) ?_ | refine Go.ex (by with_unfolding_all rfl) ?_ | refine Go.lnR (by assumption) ?_ | refine Go.lk (by assumption) (by with_unfolding_all rfl) ?_ | refine Go.lk0 (by assumption) (by with_unfolding_all rfl) ?_ | refine Go.lka (by assumption) (by with_unfolding_all rfl) ?_ | refine Go.lkp (by assumption) ?_ | refine Go.la (by with_unfolding_all rfl) ?_ | refine Go.cvB (by assumption) ?_ | refine Go.rd (by assumption) ?_ | refine Go.rd2 (by assumption) ?_ | refine Go.ck (hold_ld (ld_of (by assumption) (by with_unfolding_all rfl))) ?_ | refine Go.ck (hold_ld (ldk_of (by assumption) (by assumption) (by with_unfolding_all rfl))) ?_)
    have hgs : goneN (X.take (i + 1)) = goneN (X.take i) + (x.2.length - (vacL x.2).length) := by
      rw [List.take_add_one, hx]
      simp [goneN, sumW]
    refine ih (i + 1) K1 L1 _ _ (by omega) (hl0.trans l1) ⟨h.gd, h.bd, h.rows, by omega, hst, h.rd.mono l1, h.rk.mono l1, h.fd.mono l1, h.fk.mono l1⟩ ?_ ?_ ?_ ?_ ?_ ?_ ?_ ?_ ?_
    · exact e3
    · exact e5
    · exact e6
    · exact e7
    · exact e8
    · show Value.string x.1 = Value.string (match X[i]? with | some x => x.1 | none => noB)
      rw [hx]
    · rw [hgs]; rfl
    · rfl
    · exact e152
end Go.Cb

/-
  MvccVacuums: the end of the walk.
-/
set_option linter.unusedVariables false
set_option linter.unusedSimpArgs false
set_option maxRecDepth 100000
namespace Go.Cb
open Classical
variable {w w0 : World} {F : List HP} {Q Q' : Value → World → Prop}

/-- a law's answer: true, and nothing that was known is turned. -/
def LawQ (K0 : Hl) (w0 : World) (F : List HP) (v : Value) (w' : World) : Prop := v = .bool true ∧ ∃ K', Le K0 K' ∧ Sat w' (kn K' :: F) ∧ Sm w0 w'

theorem gone_live {X : List KC} (h : ∀ x ∈ X, x.2 ≠ []) : goneN X + sumW liveN X = sumW (fun l => l.length) X := by
  induction X with
  | nil => rfl
  | cons x X ih =>
    have ih := ih fun y hy => h y (by simp [hy])
    have h1 := vacL_len (h x (by simp))
    have h2 := (vacL_sub x.2).length_le
    simp only [goneN, sumW, List.map_cons, List.sum_cons] at ih ⊢
    omega
theorem rows_ne {c : ByteArray → List AV} {X : List KC} (hX : RowsM c X) : ∀ x ∈ X, x.2 ≠ [] := fun x hx => ((hX.2 x).1 hx).2
theorem rows_right {c : ByteArray → List AV} {last : Int} {X : List KC} (hg : Gd c last) (hX : RowsM c X) : ∀ x ∈ X, RightP x.2 ∧ ∀ a ∈ x.2, a.st ≤ last := fun x hx => by
  have := ((hX.2 x).1 hx).1
  refine ⟨by rw [← this]; exact hg.right _, fun a ha => ?_⟩
  rw [← this] at ha
  exact (hg.st _ a ha).2
theorem found_small {c : ByteArray → List AV} {n : Nat} {s : Int} {X : List KC} (hb : Bd c n) (hX : RowsM c X) : ∀ a ∈ ((foundL s X).take 1000).map toF, a.places.length ≤ 2 ^ 60 := by
  intro a ha
  obtain ⟨p, hp, rfl⟩ := List.mem_map.1 ha
  obtain ⟨x, hx, _, h2⟩ := found_mem (List.mem_of_mem_take hp)
  have := ((hX.2 x).1 hx).1
  rw [← this] at h2
  have := hb.pl _ _ h2
  show p.2.places.length ≤ 2 ^ 60
  omega

theorem vac3 {S : Nat} {K0 : Hl} {c : ByteArray → List AV} {last : Int} {X : List KC} {rv fv lv : Value} {xs ys : List Ent} {fs : List Fv} (hXl : X.length ≤ 1200) :
    ∀ (j i : Nat) (K : Hl) (L : List Ent) (e : Env) (w : World), i + j = (leftX X).length → Le K0 K → V2 K L c last X X.length rv xs fv fs → RdS K 71 2 encE lv ys → Rks K ys (leftX X) →
      e 3 = ptr S 0 → e 6 = int (sumW (fun l => l.length) X) → e 7 = int (sumW liveN X) → e 8 = fv → e 10 = int (goneN X) → e 16 = .slice none 0 0 → e 17 = .bool true → e 18 = lv → e 19 = int i → e 152 = undef →
      Go w0 (kn K :: sto S L last :: F) w (VL3 e w) (LawQ K0 w0 F) := by
  intro j
  induction j with
  | zero =>
    intro i K L e w hij hl0 h hr hk e3 e6 e7 e8 e10 e16 e17 e18 e19 e152
    obtain ⟨n1, n2, n3⟩ := left_len (rows_ne h.rows)
    have hgl := gone_live (rows_ne h.rows)
    have hlen := h.len
    have hgd : Gd (vacC c X X.length) last := gd_sub h.gd (vacC_sub c X _)
    have hbd : Bd (vacC c X X.length) 40 := bd_sub h.bd (vacC_sub c X _)
    have hne : ∀ k, vacC c X X.length k ≠ [] → allV (vacC c X X.length k) ≠ [] := fun k hh => by rw [hgd.all]; exact hh
    have hX' := left_rows h.rows
    have hsl : sumW liveN X ≤ X.length := by
      have : ∀ Y : List KC, sumW liveN Y ≤ Y.length := by
        intro Y
        induction Y with
        | nil => exact Nat.le_refl _
        | cons y Y ih =>
          have : sumW liveN (y :: Y) = liveN y.2 + sumW liveN Y := by simp [sumW]
          have := liveN_le y.2
          rw [List.length_cons]; omega
      exact this X
    have hsv : sumW (fun l => l.length) X ≤ X.length * 40 := by
      have : ∀ Y : List KC, (∀ y ∈ Y, y ∈ X) → sumW (fun l => l.length) Y ≤ Y.length * 40 := by
        intro Y
        induction Y with
        | nil => intro _; exact Nat.le_refl _
        | cons y Y ih =>
          intro hY
          have ih := ih fun z hz => hY z (by simp [hz])
          have hy := (h.rows.2 y).1 (hY y (by simp))
          have h2 : y.2.length ≤ 40 := by rw [← hy.1]; exact h.bd.len _
          have : sumW (fun l => l.length) (y :: Y) = y.2.length + sumW (fun l => l.length) Y := by simp [sumW]
          rw [List.length_cons]; omega
      exact this X fun _ h => h
    unfold VL3
    rw [S8_L3_eq]; unfold S8_L3
    rw [e3, e6, e7, e8, e10, e16, e17, e18, e19, e152]
    repeat (with_reducible first | refine Go.s ?_ | refine Go.ad1 (by omega) ?_ | refine Go.adn (by omega) ?_ | refine Go.sb1 (by omega) (by omega) ?_ | refine Go.sbn (by omega) (by omega) ?_ | refine Go.ls (by with_unfolding_all rfl) ?_ | refine Go.ex (by with_unfolding_all rfl) ?_ | refine Go.lnR (by assumption) ?_ | refine Go.lk (by assumption) (by with_unfolding_all rfl) ?_ | refine Go.lk0 (by assumption) (by with_unfolding_all rfl) ?_ | refine Go.lka (by assumption) (by with_unfolding_all rfl) ?_ | refine Go.lkp (by assumption) ?_ | refine Go.la (by with_unfolding_all rfl) ?_ | refine Go.cvB (by assumption) ?_ | refine Go.rd (by assumption) ?_ | refine Go.rd2 (by assumption) ?_ | refine Go.ck (hold_ld (ld_of (by assumption) (by with_unfolding_all rfl))) ?_ | refine Go.ck (hold_ld (ldk_of (by assumption) (by assumption) (by with_unfolding_all rfl))) ?_)
    rw [hk.len]
    refine Go.ci (fun h => absurd (of_decide_eq_true h) (by omega)) fun _ => ?_
    repeat (with_reducible first | refine Go.s ?_ | refine Go.ad1 (by omega) ?_ | refine Go.adn (by omega) ?_ | refine Go.sb1 (by omega) (by omega) ?_ | refine Go.sbn (by omega) (by omega) ?_ | refine Go.ls (by with_unfolding_all rfl) ?_ | refine Go.ex (by with_unfolding_all rfl) ?_ | refine Go.lnR (by assumption) ?_ | refine Go.lk (by assumption) (by with_unfolding_all rfl) ?_ | refine Go.lk0 (by assumption) (by with_unfolding_all rfl) ?_ | refine Go.lka (by assumption) (by with_unfolding_all rfl) ?_ | refine Go.lkp (by assumption) ?_ | refine Go.la (by with_unfolding_all rfl) ?_ | refine Go.cvB (by assumption) ?_ | refine Go.rd (by assumption) ?_ | refine Go.rd2 (by assumption) ?_ | refine Go.ck (hold_ld (ld_of (by assumption) (by with_unfolding_all rfl))) ?_ | refine Go.ck (hold_ld (ldk_of (by assumption) (by assumption) (by with_unfolding_all rfl))) ?_)
    have d0 : decide (((0 : Nat) : Int) = 0) = true := by decide
    rw [d0]
    repeat (with_reducible first | refine Go.s ?_ | refine Go.ad1 (by omega) ?_ | refine Go.adn (by omega) ?_ | refine Go.sb1 (by omega) (by omega) ?_ | refine Go.sbn (by omega) (by omega) ?_ | refine Go.ls (by with_unfolding_all rfl) ?_ | refine Go.ex (by with_unfolding_all rfl) ?_ | refine Go.lnR (by assumption) ?_ | refine Go.lk (by assumption) (by with_unfolding_all rfl) ?_ | refine Go.lk0 (by assumption) (by with_unfolding_all rfl) ?_ | refine Go.lka (by assumption) (by with_unfolding_all rfl) ?_ | refine Go.lkp (by assumption) ?_ | refine Go.la (by with_unfolding_all rfl) ?_ | refine Go.cvB (by assumption) ?_ | refine Go.rd (by assumption) ?_ | refine Go.rd2 (by assumption) ?_ | refine Go.ck (hold_ld (ld_of (by assumption) (by with_unfolding_all rfl))) ?_ | refine Go.ck (hold_ld (ldk_of (by assumption) (by assumption) (by with_unfolding_all rfl))) ?_)
    refine Go.ok fun hs hm => ?_
    have hsrt : Srt L := sto_srt (k := 1) hs rfl
    have hkc : kc (vacC c X X.length) L = leftX X := hX'.eq h.st hsrt
    have hall : allC (vacC c X X.length) L = leftX X := (allC_kc hgd L).trans hkc
    refine Ok.bind (versions_ok (n := 40) (by omega) h.st hbd (by omega) hne hs) ?_
    rintro v w1 ⟨rfl, K1, l1, t1, s1⟩
    rw [hall, n2]
    refine Ok.go t1 (hm.trans s1) ?_
    repeat (with_reducible first | refine Go.s ?_ | refine Go.ad1 (by omega) ?_ | refine Go.adn (by omega) ?_ | refine Go.sb1 (by omega) (by omega) ?_ | refine Go.sbn (by omega) (by omega) ?_ | refine Go.ls (by with_unfolding_all rfl) ?_ | refine Go.ex (by with_unfolding_all rfl) ?_ | refine Go.lnR (by assumption) ?_ | refine Go.lk (by assumption) (by with_unfolding_all rfl) ?_ | refine Go.lk0 (by assumption) (by with_unfolding_all rfl) ?_ | refine Go.lka (by assumption) (by with_unfolding_all rfl) ?_ | refine Go.lkp (by assumption) ?_ | refine Go.la (by with_unfolding_all rfl) ?_ | refine Go.cvB (by assumption) ?_ | refine Go.rd (by assumption) ?_ | refine Go.rd2 (by assumption) ?_ | refine Go.ck (hold_ld (ld_of (by assumption) (by with_unfolding_all rfl))) ?_ | refine Go.ck (hold_ld (ldk_of (by assumption) (by assumption) (by with_unfolding_all rfl))) ?_)
    rw [show decide ((sumW liveN X : Int) = (sumW liveN X : Int)) = true by simp]
    repeat (with_reducible first | refine Go.s ?_ | refine Go.ad1 (by omega) ?_ | refine Go.adn (by omega) ?_ | refine Go.sb1 (by omega) (by omega) ?_ | refine Go.sbn (by omega) (by omega) ?_ | refine Go.ls (by with_unfolding_all rfl) ?_ | refine Go.ex (by with_unfolding_all rfl) ?_ | refine Go.lnR (by assumption) ?_ | refine Go.lk (by assumption) (by with_unfolding_all rfl) ?_ | refine Go.lk0 (by assumption) (by with_unfolding_all rfl) ?_ | refine Go.lka (by assumption) (by with_unfolding_all rfl) ?_ | refine Go.lkp (by assumption) ?_ | refine Go.la (by with_unfolding_all rfl) ?_ | refine Go.cvB (by assumption) ?_ | refine Go.rd (by assumption) ?_ | refine Go.rd2 (by assumption) ?_ | refine Go.ck (hold_ld (ld_of (by assumption) (by with_unfolding_all rfl))) ?_ | refine Go.ck (hold_ld (ldk_of (by assumption) (by assumption) (by with_unfolding_all rfl))) ?_)
    refine Go.ok fun hs hm => ?_
    refine Ok.bind (live_ok (n := 40) (by omega) (h.st.mono l1) hbd (by omega) hne hs) ?_
    rintro v w2 ⟨rfl, K2, l2, t2, s2⟩
    rw [hall, n3]
    refine Ok.go t2 (hm.trans s2) ?_
    repeat (with_reducible first | refine Go.s ?_ | refine Go.ad1 (by omega) ?_ | refine Go.adn (by omega) ?_ | refine Go.sb1 (by omega) (by omega) ?_ | refine Go.sbn (by omega) (by omega) ?_ | refine Go.ls (by with_unfolding_all rfl) ?_ | refine Go.ex (by with_unfolding_all rfl) ?_ | refine Go.lnR (by assumption) ?_ | refine Go.lk (by assumption) (by with_unfolding_all rfl) ?_ | refine Go.lk0 (by assumption) (by with_unfolding_all rfl) ?_ | refine Go.lka (by assumption) (by with_unfolding_all rfl) ?_ | refine Go.lkp (by assumption) ?_ | refine Go.la (by with_unfolding_all rfl) ?_ | refine Go.cvB (by assumption) ?_ | refine Go.rd (by assumption) ?_ | refine Go.rd2 (by assumption) ?_ | refine Go.ck (hold_ld (ld_of (by assumption) (by with_unfolding_all rfl))) ?_ | refine Go.ck (hold_ld (ldk_of (by assumption) (by assumption) (by with_unfolding_all rfl))) ?_)
    rw [show decide ((sumW liveN X : Int) = (sumW liveN X : Int)) = true by simp]
    repeat (with_reducible first | refine Go.s ?_ | refine Go.ad1 (by omega) ?_ | refine Go.adn (by omega) ?_ | refine Go.sb1 (by omega) (by omega) ?_ | refine Go.sbn (by omega) (by omega) ?_ | refine Go.ls (by with_unfolding_all rfl) ?_ | refine Go.ex (by with_unfolding_all rfl) ?_ | refine Go.lnR (by assumption) ?_ | refine Go.lk (by assumption) (by with_unfolding_all rfl) ?_ | refine Go.lk0 (by assumption) (by with_unfolding_all rfl) ?_ | refine Go.lka (by assumption) (by with_unfolding_all rfl) ?_ | refine Go.lkp (by assumption) ?_ | refine Go.la (by with_unfolding_all rfl) ?_ | refine Go.cvB (by assumption) ?_ | refine Go.rd (by assumption) ?_ | refine Go.rd2 (by assumption) ?_ | refine Go.ck (hold_ld (ld_of (by assumption) (by with_unfolding_all rfl))) ?_ | refine Go.ck (hold_ld (ldk_of (by assumption) (by assumption) (by with_unfolding_all rfl))) ?_)
    rw [hk.len, n1]
    rw [show decide ((sumW liveN X : Int) = (sumW liveN X : Int)) = true by simp]
    repeat (with_reducible first | refine Go.s ?_ | refine Go.ad1 (by omega) ?_ | refine Go.adn (by omega) ?_ | refine Go.sb1 (by omega) (by omega) ?_ | refine Go.sbn (by omega) (by omega) ?_ | refine Go.ls (by with_unfolding_all rfl) ?_ | refine Go.ex (by with_unfolding_all rfl) ?_ | refine Go.lnR (by assumption) ?_ | refine Go.lk (by assumption) (by with_unfolding_all rfl) ?_ | refine Go.lk0 (by assumption) (by with_unfolding_all rfl) ?_ | refine Go.lka (by assumption) (by with_unfolding_all rfl) ?_ | refine Go.lkp (by assumption) ?_ | refine Go.la (by with_unfolding_all rfl) ?_ | refine Go.cvB (by assumption) ?_ | refine Go.rd (by assumption) ?_ | refine Go.rd2 (by assumption) ?_ | refine Go.ck (hold_ld (ld_of (by assumption) (by with_unfolding_all rfl))) ?_ | refine Go.ck (hold_ld (ldk_of (by assumption) (by assumption) (by with_unfolding_all rfl))) ?_)
    rw [show decide ((goneN X : Int) = ((sumW (fun l => l.length) X - sumW liveN X : Nat) : Int)) = true by rw [decide_eq_true_iff]; omega]
    repeat (with_reducible first | refine Go.s ?_ | refine Go.ad1 (by omega) ?_ | refine Go.adn (by omega) ?_ | refine Go.sb1 (by omega) (by omega) ?_ | refine Go.sbn (by omega) (by omega) ?_ | refine Go.ls (by with_unfolding_all rfl) ?_ | refine Go.ex (by with_unfolding_all rfl) ?_ | refine Go.lnR (by assumption) ?_ | refine Go.lk (by assumption) (by with_unfolding_all rfl) ?_ | refine Go.lk0 (by assumption) (by with_unfolding_all rfl) ?_ | refine Go.lka (by assumption) (by with_unfolding_all rfl) ?_ | refine Go.lkp (by assumption) ?_ | refine Go.la (by with_unfolding_all rfl) ?_ | refine Go.cvB (by assumption) ?_ | refine Go.rd (by assumption) ?_ | refine Go.rd2 (by assumption) ?_ | refine Go.ck (hold_ld (ld_of (by assumption) (by with_unfolding_all rfl))) ?_ | refine Go.ck (hold_ld (ldk_of (by assumption) (by assumption) (by with_unfolding_all rfl))) ?_)
    refine Go.rd bld36_0 ?_
    repeat (with_reducible first | refine Go.s ?_ | refine Go.ad1 (by omega) ?_ | refine Go.adn (by omega) ?_ | refine Go.sb1 (by omega) (by omega) ?_ | refine Go.sbn (by omega) (by omega) ?_ | refine Go.ls (by with_unfolding_all rfl) ?_ | refine Go.ex (by with_unfolding_all rfl) ?_ | refine Go.lnR (by assumption) ?_ | refine Go.lk (by assumption) (by with_unfolding_all rfl) ?_ | refine Go.lk0 (by assumption) (by with_unfolding_all rfl) ?_ | refine Go.lka (by assumption) (by with_unfolding_all rfl) ?_ | refine Go.lkp (by assumption) ?_ | refine Go.la (by with_unfolding_all rfl) ?_ | refine Go.cvB (by assumption) ?_ | refine Go.rd (by assumption) ?_ | refine Go.rd2 (by assumption) ?_ | refine Go.ck (hold_ld (ld_of (by assumption) (by with_unfolding_all rfl))) ?_ | refine Go.ck (hold_ld (ldk_of (by assumption) (by assumption) (by with_unfolding_all rfl))) ?_)
    refine Go.ok fun hs hm => ?_
    refine Ok.rd2 (slast_ok hs 1 rfl) ?_
    refine Ok.go hs hm ?_
    repeat (with_reducible first | refine Go.s ?_ | refine Go.ad1 (by omega) ?_ | refine Go.adn (by omega) ?_ | refine Go.sb1 (by omega) (by omega) ?_ | refine Go.sbn (by omega) (by omega) ?_ | refine Go.ls (by with_unfolding_all rfl) ?_ | refine Go.ex (by with_unfolding_all rfl) ?_ | refine Go.lnR (by assumption) ?_ | refine Go.lk (by assumption) (by with_unfolding_all rfl) ?_ | refine Go.lk0 (by assumption) (by with_unfolding_all rfl) ?_ | refine Go.lka (by assumption) (by with_unfolding_all rfl) ?_ | refine Go.lkp (by assumption) ?_ | refine Go.la (by with_unfolding_all rfl) ?_ | refine Go.cvB (by assumption) ?_ | refine Go.rd (by assumption) ?_ | refine Go.rd2 (by assumption) ?_ | refine Go.ck (hold_ld (ld_of (by assumption) (by with_unfolding_all rfl))) ?_ | refine Go.ck (hold_ld (ldk_of (by assumption) (by assumption) (by with_unfolding_all rfl))) ?_)
    refine Go.ok fun hs hm => ?_
    refine Ok.bind (scan_ok (n := 40) (at' := last) (m := 1000) (f := noB) (t := noB) (by omega) (h.st.mono (l1.trans l2)) hbd (by omega) hs) ?_
    rintro v w3 ⟨K3, zs, l3, hr3, hf3, t3, s3⟩
    rw [in_all, hkc, run_scan, List.nil_append, left_found (rows_right h.gd h.rows)] at hf3
    have hn : ((1000 : Int) - (([] : List (ByteArray × AV)).length : Int)).toNat = 1000 := by simp
    rw [hn] at hf3
    have l13 := l1.trans (l2.trans l3)
    refine Ok.go t3 (hm.trans s3) ?_
    repeat (with_reducible first | refine Go.s ?_ | refine Go.ad1 (by omega) ?_ | refine Go.adn (by omega) ?_ | refine Go.sb1 (by omega) (by omega) ?_ | refine Go.sbn (by omega) (by omega) ?_ | refine Go.ls (by with_unfolding_all rfl) ?_ | refine Go.ex (by with_unfolding_all rfl) ?_ | refine Go.lnR (by assumption) ?_ | refine Go.lk (by assumption) (by with_unfolding_all rfl) ?_ | refine Go.lk0 (by assumption) (by with_unfolding_all rfl) ?_ | refine Go.lka (by assumption) (by with_unfolding_all rfl) ?_ | refine Go.lkp (by assumption) ?_ | refine Go.la (by with_unfolding_all rfl) ?_ | refine Go.cvB (by assumption) ?_ | refine Go.rd (by assumption) ?_ | refine Go.rd2 (by assumption) ?_ | refine Go.ck (hold_ld (ld_of (by assumption) (by with_unfolding_all rfl))) ?_ | refine Go.ck (hold_ld (ldk_of (by assumption) (by assumption) (by with_unfolding_all rfl))) ?_)
    refine Go.ok fun hs hm => ?_
    refine Ok.bind (same39_ok (toG_rd hr3) (toG_rd (h.fd.mono l13)) (toG_fs hf3) (toG_fs (h.fk.mono l13)) (by rw [List.length_map, List.length_take]; omega) (found_small h.bd h.rows) hs) ?_
    rintro v w4 ⟨rfl, t4, s4⟩
    rw [decide_eq_true (sameFs_refl _)]
    refine Ok.go t4 (hm.trans s4) ?_
    repeat (with_reducible first | refine Go.s ?_ | refine Go.ad1 (by omega) ?_ | refine Go.adn (by omega) ?_ | refine Go.sb1 (by omega) (by omega) ?_ | refine Go.sbn (by omega) (by omega) ?_ | refine Go.ls (by with_unfolding_all rfl) ?_ | refine Go.ex (by with_unfolding_all rfl) ?_ | refine Go.lnR (by assumption) ?_ | refine Go.lk (by assumption) (by with_unfolding_all rfl) ?_ | refine Go.lk0 (by assumption) (by with_unfolding_all rfl) ?_ | refine Go.lka (by assumption) (by with_unfolding_all rfl) ?_ | refine Go.lkp (by assumption) ?_ | refine Go.la (by with_unfolding_all rfl) ?_ | refine Go.cvB (by assumption) ?_ | refine Go.rd (by assumption) ?_ | refine Go.rd2 (by assumption) ?_ | refine Go.ck (hold_ld (ld_of (by assumption) (by with_unfolding_all rfl))) ?_ | refine Go.ck (hold_ld (ldk_of (by assumption) (by assumption) (by with_unfolding_all rfl))) ?_)
    refine Go.ok fun hs hm => ?_
    refine Ok.bind (holds_ok hs) ?_
    rintro v w5 ⟨rfl, t5, s5⟩
    refine Ok.go t5 (hm.trans s5) ?_
    repeat (with_reducible first | refine Go.s ?_ | refine Go.ad1 (by omega) ?_ | refine Go.adn (by omega) ?_ | refine Go.sb1 (by omega) (by omega) ?_ | refine Go.sbn (by omega) (by omega) ?_ | refine Go.ls (by with_unfolding_all rfl) ?_ | refine Go.ex (by with_unfolding_all rfl) ?_ | refine Go.lnR (by assumption) ?_ | refine Go.lk (by assumption) (by with_unfolding_all rfl) ?_ | refine Go.lk0 (by assumption) (by with_unfolding_all rfl) ?_ | refine Go.lka (by assumption) (by with_unfolding_all rfl) ?_ | refine Go.lkp (by assumption) ?_ | refine Go.la (by with_unfolding_all rfl) ?_ | refine Go.cvB (by assumption) ?_ | refine Go.rd (by assumption) ?_ | refine Go.rd2 (by assumption) ?_ | refine Go.ck (hold_ld (ld_of (by assumption) (by with_unfolding_all rfl))) ?_ | refine Go.ck (hold_ld (ldk_of (by assumption) (by assumption) (by with_unfolding_all rfl))) ?_)
    exact Go.ret fun hs hm => ⟨rfl, K3, hl0.trans l13, hs.sw.drop, hm⟩
  | succ j ih =>
    intro i K L e w hij hl0 h hr hk e3 e6 e7 e8 e10 e16 e17 e18 e19 e152
    have hi : i < (leftX X).length := by omega
    have hXle : (leftX X).length ≤ X.length := List.length_filterMap_le _ _
    obtain ⟨x, hx⟩ : ∃ x, (leftX X)[i]? = some x := ⟨_, List.getElem?_eq_getElem hi⟩
    obtain ⟨y, hy⟩ : ∃ y, ys[i]? = some y := ⟨_, List.getElem?_eq_getElem (by rw [hk.len]; exact hi)⟩
    obtain ⟨p, g1, k1⟩ := hr.get hy rfl
    have k1 : PtK K p [.string y.1, y.2.1] := k1
    obtain ⟨_, us, hu1, hu2⟩ := hk.at_ i y x hy hx
    obtain ⟨a, ha, hdead⟩ := left_each (List.mem_of_getElem? hx)
    rw [ha] at hu2
    have hul : us.length = 1 := hu2.len
    obtain ⟨u, hu⟩ : ∃ u, us[0]? = some u := ⟨_, List.getElem?_eq_getElem (by omega)⟩
    obtain ⟨q, g2, k2⟩ := hu1.get hu rfl
    have g2 : ixA Pg 76 y.2.1 (.int .i64 0) = some (.pointer (some q)) := g2
    have hud : u.dead = false := by rw [(hu2.at_ 0 u a hu rfl).dead]; exact hdead
    unfold VL3
    rw [S8_L3_eq]; unfold S8_L3
    rw [e18, e19, e152]
    repeat (with_reducible first | refine Go.s ?_ | refine Go.ad1 (by omega) ?_ | refine Go.adn (by omega) ?_ | refine Go.sb1 (by omega) (by omega) ?_ | refine Go.sbn (by omega) (by omega) ?_ | refine Go.ls (by with_unfolding_all rfl) ?_ | refine Go.ex (by with_unfolding_all rfl) ?_ | refine Go.lnR (by assumption) ?_ | refine Go.lk (by assumption) (by with_unfolding_all rfl) ?_ | refine Go.lk0 (by assumption) (by with_unfolding_all rfl) ?_ | refine Go.lka (by assumption) (by with_unfolding_all rfl) ?_ | refine Go.lkp (by assumption) ?_ | refine Go.la (by with_unfolding_all rfl) ?_ | refine Go.cvB (by assumption) ?_ | refine Go.rd (by assumption) ?_ | refine Go.rd2 (by assumption) ?_ | refine Go.ck (hold_ld (ld_of (by assumption) (by with_unfolding_all rfl))) ?_ | refine Go.ck (hold_ld (ldk_of (by assumption) (by assumption) (by with_unfolding_all rfl))) ?_)
    rw [hk.len]
    refine Go.ci (fun _ => ?_) fun h => absurd (of_decide_eq_false h) (by omega)
    repeat (with_reducible first | refine Go.s ?_ | refine Go.ad1 (by omega) ?_ | refine Go.adn (by omega) ?_ | refine Go.sb1 (by omega) (by omega) ?_ | refine Go.sbn (by omega) (by omega) ?_ | refine Go.ls (by with_unfolding_all rfl) ?_ | refine Go.ex (by with_unfolding_all rfl) ?_ | refine Go.lnR (by assumption) ?_ | refine Go.lk (by assumption) (by with_unfolding_all rfl) ?_ | refine Go.lk0 (by assumption) (by with_unfolding_all rfl) ?_ | refine Go.lka (by assumption) (by with_unfolding_all rfl) ?_ | refine Go.lkp (by assumption) ?_ | refine Go.la (by with_unfolding_all rfl) ?_ | refine Go.cvB (by assumption) ?_ | refine Go.rd (by assumption) ?_ | refine Go.rd2 (by assumption) ?_ | refine Go.ck (hold_ld (ld_of (by assumption) (by with_unfolding_all rfl))) ?_ | refine Go.ck (hold_ld (ldk_of (by assumption) (by assumption) (by with_unfolding_all rfl))) ?_)
    rw [hul]
    rw [show (!decide (((1 : Nat) : Int) = 1)) = false by decide]
    repeat (with_reducible first | refine Go.s ?_ | refine Go.ad1 (by omega) ?_ | refine Go.adn (by omega) ?_ | refine Go.sb1 (by omega) (by omega) ?_ | refine Go.sbn (by omega) (by omega) ?_ | refine Go.ls (by with_unfolding_all rfl) ?_ | refine Go.ex (by with_unfolding_all rfl) ?_ | refine Go.lnR (by assumption) ?_ | refine Go.lk (by assumption) (by with_unfolding_all rfl) ?_ | refine Go.lk0 (by assumption) (by with_unfolding_all rfl) ?_ | refine Go.lka (by assumption) (by with_unfolding_all rfl) ?_ | refine Go.lkp (by assumption) ?_ | refine Go.la (by with_unfolding_all rfl) ?_ | refine Go.cvB (by assumption) ?_ | refine Go.rd (by assumption) ?_ | refine Go.rd2 (by assumption) ?_ | refine Go.ck (hold_ld (ld_of (by assumption) (by with_unfolding_all rfl))) ?_ | refine Go.ck (hold_ld (ldk_of (by assumption) (by assumption) (by with_unfolding_all rfl))) ?_)
    rw [hud]
    repeat (with_reducible first | refine Go.s ?_ | refine Go.ad1 (by omega) ?_ | refine Go.adn (by omega) ?_ | refine Go.sb1 (by omega) (by omega) ?_ | refine Go.sbn (by omega) (by omega) ?_ | refine Go.ls (by with_unfolding_all rfl) ?_ | refine Go.ex (by with_unfolding_all rfl) ?_ | refine Go.lnR (by assumption) ?_ | refine Go.lk (by assumption) (by with_unfolding_all rfl) ?_ | refine Go.lk0 (by assumption) (by with_unfolding_all rfl) ?_ | refine Go.lka (by assumption) (by with_unfolding_all rfl) ?_ | refine Go.lkp (by assumption) ?_ | refine Go.la (by with_unfolding_all rfl) ?_ | refine Go.cvB (by assumption) ?_ | refine Go.rd (by assumption) ?_ | refine Go.rd2 (by assumption) ?_ | refine Go.ck (hold_ld (ld_of (by assumption) (by with_unfolding_all rfl))) ?_ | refine Go.ck (hold_ld (ldk_of (by assumption) (by assumption) (by with_unfolding_all rfl))) ?_)
    refine ih (i + 1) K L _ _ (by omega) hl0 h hr hk ?_ ?_ ?_ ?_ ?_ ?_ ?_ ?_ ?_ ?_
    · exact e3
    · exact e6
    · exact e7
    · exact e8
    · exact e10
    · exact e16
    · exact e17
    · exact e18
    · rfl
    · exact e152

theorem vacuums_ok {K : Hl} {v : Value} {xs : List MAct} {gs : List AAct} (hr : RdS K 58 5 encAc v xs) (hx : Racs K xs gs) (hs : Sat w (kn K :: F)) : Ok (Fn Pg 8 [v] w) (LawQ K w F) := by
  rw [F8]; unfold S8
  refine Ok.bind (few29_ok hr hx hs) ?_
  rintro z w1 ⟨⟨b, rfl, hb⟩, t1, s1⟩
  refine Ok.go t1 s1 ?_
  cases b with
  | false =>
    repeat (with_reducible first | refine Go.s ?_ | refine Go.ad1 (by omega) ?_ | refine Go.adn (by omega) ?_ | refine Go.sb1 (by omega) (by omega) ?_ | refine Go.sbn (by omega) (by omega) ?_ | refine Go.ls (by with_unfolding_all rfl) ?_ | refine Go.ex (by with_unfolding_all rfl) ?_ | refine Go.lnR (by assumption) ?_ | refine Go.lk (by assumption) (by with_unfolding_all rfl) ?_ | refine Go.lk0 (by assumption) (by with_unfolding_all rfl) ?_ | refine Go.lka (by assumption) (by with_unfolding_all rfl) ?_ | refine Go.lkp (by assumption) ?_ | refine Go.la (by with_unfolding_all rfl) ?_ | refine Go.cvB (by assumption) ?_ | refine Go.rd (by assumption) ?_ | refine Go.rd2 (by assumption) ?_ | refine Go.ck (hold_ld (ld_of (by assumption) (by with_unfolding_all rfl))) ?_ | refine Go.ck (hold_ld (ldk_of (by assumption) (by assumption) (by with_unfolding_all rfl))) ?_)
    refine Go.ok fun hs hm => Ok.bind (holds_ok hs) ?_
    rintro z w2 ⟨rfl, t2, s2⟩
    exact ⟨_, _, rfl, rfl, K, Le.refl K, t2, hm.trans s2⟩
  | true =>
    have hf := hb rfl
    repeat (with_reducible first | refine Go.s ?_ | refine Go.ad1 (by omega) ?_ | refine Go.adn (by omega) ?_ | refine Go.sb1 (by omega) (by omega) ?_ | refine Go.sbn (by omega) (by omega) ?_ | refine Go.ls (by with_unfolding_all rfl) ?_ | refine Go.ex (by with_unfolding_all rfl) ?_ | refine Go.lnR (by assumption) ?_ | refine Go.lk (by assumption) (by with_unfolding_all rfl) ?_ | refine Go.lk0 (by assumption) (by with_unfolding_all rfl) ?_ | refine Go.lka (by assumption) (by with_unfolding_all rfl) ?_ | refine Go.lkp (by assumption) ?_ | refine Go.la (by with_unfolding_all rfl) ?_ | refine Go.cvB (by assumption) ?_ | refine Go.rd (by assumption) ?_ | refine Go.rd2 (by assumption) ?_ | refine Go.ck (hold_ld (ld_of (by assumption) (by with_unfolding_all rfl))) ?_ | refine Go.ck (hold_ld (ldk_of (by assumption) (by assumption) (by with_unfolding_all rfl))) ?_)
    refine Go.ok fun hs hm => Ok.bind (snew_ok hs) ?_
    rintro z w2 ⟨S, rfl, t2, s2⟩
    refine Ok.go t2.sw (hm.trans s2) ?_
    refine vac1 (K0 := K) (Q := LawQ K w F) hf ?_ gs.length 0 K [] _ 0 _ w2 (by omega) (Le.refl K) hr hx (Came.new K) rfl rfl rfl rfl
    intro K1 L c last e w3 l1 hr hx hc e0 e3 e4 e152
    have hgl := hf.1
    have hcl := hc.len
    have hL : L.length ≤ 1200 := by omega
    have hbd : Bd c 40 := bd_mono hc.bd (by omega)
    have hne : ∀ k, c k ≠ [] → allV (c k) ≠ [] := fun k hh => by rw [hc.gd.all]; exact hh
    unfold VL1
    rw [S8_L1_eq]; unfold S8_L1
    rw [e0, e3, e4]
    repeat (with_reducible first | refine Go.s ?_ | refine Go.ad1 (by omega) ?_ | refine Go.adn (by omega) ?_ | refine Go.sb1 (by omega) (by omega) ?_ | refine Go.sbn (by omega) (by omega) ?_ | refine Go.ls (by with_unfolding_all rfl) ?_ | refine Go.ex (by with_unfolding_all rfl) ?_ | refine Go.lnR (by assumption) ?_ | refine Go.lk (by assumption) (by with_unfolding_all rfl) ?_ | refine Go.lk0 (by assumption) (by with_unfolding_all rfl) ?_ | refine Go.lka (by assumption) (by with_unfolding_all rfl) ?_ | refine Go.lkp (by assumption) ?_ | refine Go.la (by with_unfolding_all rfl) ?_ | refine Go.cvB (by assumption) ?_ | refine Go.rd (by assumption) ?_ | refine Go.rd2 (by assumption) ?_ | refine Go.ck (hold_ld (ld_of (by assumption) (by with_unfolding_all rfl))) ?_ | refine Go.ck (hold_ld (ldk_of (by assumption) (by assumption) (by with_unfolding_all rfl))) ?_)
    rw [hx.len]
    refine Go.ci (fun h => absurd (of_decide_eq_true h) (by omega)) fun _ => ?_
    refine Go.ok fun hs hm => ?_
    have hsrt : Srt L := sto_srt (k := 1) hs rfl
    have hall := allC_kc hc.gd L
    have hX : RowsM c (kc c L) := ⟨kc_srt hsrt, kc_mem hc.st⟩
    have hXl : (kc c L).length ≤ 1200 := by unfold kc; rw [List.length_map]; exact hL
    refine Ok.bind (rows33_ok (n := 40) (by omega) hc.st hbd (by omega) hs) ?_
    rintro rv w4 ⟨K4, rs, l4, hrv, hrk, t4, s4⟩
    have hall' : (kc c L).map (fun x => (x.1, allV x.2)) = kc c L := hall
    rw [hall'] at hrk
    refine Ok.bind (versions_ok (n := 40) (by omega) (hc.st.mono l4) hbd (by omega) hne t4) ?_
    rintro z w5 ⟨rfl, K5, l5, t5, s5⟩
    refine Ok.bind (live_ok (n := 40) (by omega) (hc.st.mono (l4.trans l5)) hbd (by omega) hne t5) ?_
    rintro z w6 ⟨rfl, K6, l6, t6, s6⟩
    rw [hall]
    refine Ok.rd bld36_0 ?_
    refine Ok.rd2 (slast_ok t6 1 rfl) ?_
    have l46 := l4.trans (l5.trans l6)
    refine Ok.bind (scan_ok (n := 40) (at' := last) (m := 1000) (f := noB) (t := noB) (by omega) (hc.st.mono l46) hbd (by omega) t6) ?_
    rintro fv w7 ⟨K7, fs, l7, hfv, hfk, t7, s7⟩
    have hn : ((1000 : Int) - (([] : List (ByteArray × AV)).length : Int)).toNat = 1000 := by simp
    rw [in_all, run_scan, List.nil_append, hn] at hfk
    have hv0 : vacC c (kc c L) 0 = c := by
      funext k
      unfold vacC
      rw [if_neg]
      rintro ⟨x, hx, _⟩
      rw [List.take_zero] at hx; cases hx
    refine Ok.go t7 (hm.trans (s4.trans (s5.trans (s6.trans s7)))) ?_
    refine vac2 (K0 := K) (Q := LawQ K w F) (rv := rv) (fv := fv) (xs := rs) (fs := fs) hXl ?_ (kc c L).length 0 K7 L _ w7 (by omega) (l1.trans (l46.trans l7)) ⟨hc.gd, hbd, hX, hL, by rw [hv0]; exact hc.st.mono (l46.trans l7), hrv.mono (l5.trans (l6.trans l7)), hrk.mono (l5.trans (l6.trans l7)), hfv, hfk⟩ ?_ ?_ ?_ ?_ ?_ ?_ ?_ ?_ ?_
    · intro K8 L8 e8 w8 l8 h e3 e5 e6 e7 e8 e9 e10 e11 e152
      have hlen := h.len
      unfold VL2
      rw [S8_L2_eq]; unfold S8_L2
      rw [e3, e5, e9, e11]
      have hrd := h.rd
      repeat (with_reducible first | refine Go.s ?_ | refine Go.ad1 (by omega) ?_ | refine Go.adn (by omega) ?_ | refine Go.sb1 (by omega) (by omega) ?_ | refine Go.sbn (by omega) (by omega) ?_ | refine Go.ls (by with_unfolding_all rfl) ?_ | refine Go.ex (by with_unfolding_all rfl) ?_ | refine Go.lnR (by assumption) ?_ | refine Go.lk (by assumption) (by with_unfolding_all rfl) ?_ | refine Go.lk0 (by assumption) (by with_unfolding_all rfl) ?_ | refine Go.lka (by assumption) (by with_unfolding_all rfl) ?_ | refine Go.lkp (by assumption) ?_ | refine Go.la (by with_unfolding_all rfl) ?_ | refine Go.cvB (by assumption) ?_ | refine Go.rd (by assumption) ?_ | refine Go.rd2 (by assumption) ?_ | refine Go.ck (hold_ld (ld_of (by assumption) (by with_unfolding_all rfl))) ?_ | refine Go.ck (hold_ld (ldk_of (by assumption) (by assumption) (by with_unfolding_all rfl))) ?_)
      rw [h.rk.len]
      refine Go.ci (fun h => absurd (of_decide_eq_true h) (by omega)) fun _ => ?_
      refine Go.ok fun hs hm => ?_
      refine Ok.bind (vacuum_ok (ss := []) (n := 40) (by omega) (by have := aft_size h.gd h.rows (kc c L).length; omega) h.st (bd_sub h.bd (vacC_sub c _ _)) (by omega) (RdS.nil none 0) (by simp) hs) ?_
      rintro v w9 ⟨K9, l9, s9, ⟨_, rfl, t9⟩ | ⟨e2, dv, L1, hn2, _⟩⟩
      rotate_left
      · rw [vac_end h.rows h.st] at hn2; cases hn2
      have h := h.mono l9
      have hgd : Gd (vacC c (kc c L) (kc c L).length) last := gd_sub h.gd (vacC_sub c _ _)
      have hsrt8 : Srt L8 := sto_srt (k := 1) t9 rfl
      refine Ok.go t9 (hm.trans s9) ?_
      repeat (with_reducible first | refine Go.s ?_ | refine Go.ad1 (by omega) ?_ | refine Go.adn (by omega) ?_ | refine Go.sb1 (by omega) (by omega) ?_ | refine Go.sbn (by omega) (by omega) ?_ | refine Go.ls (by with_unfolding_all rfl) ?_ | refine Go.ex (by with_unfolding_all rfl) ?_ | refine Go.lnR (by assumption) ?_ | refine Go.lk (by assumption) (by with_unfolding_all rfl) ?_ | refine Go.lk0 (by assumption) (by with_unfolding_all rfl) ?_ | refine Go.lka (by assumption) (by with_unfolding_all rfl) ?_ | refine Go.lkp (by assumption) ?_ | refine Go.la (by with_unfolding_all rfl) ?_ | refine Go.cvB (by assumption) ?_ | refine Go.rd (by assumption) ?_ | refine Go.rd2 (by assumption) ?_ | refine Go.ck (hold_ld (ld_of (by assumption) (by with_unfolding_all rfl))) ?_ | refine Go.ck (hold_ld (ldk_of (by assumption) (by assumption) (by with_unfolding_all rfl))) ?_)
      refine Go.ok fun hs hm => ?_
      refine Ok.bind (rows33_ok (n := 40) (by omega) h.st (bd_sub h.bd (vacC_sub c _ _)) (by omega) hs) ?_
      rintro lv w10 ⟨K10, ys, l10, hlv, hlk, t10, s10⟩
      have hall8 : (kc (vacC c (kc c L) (kc c L).length) L8).map (fun x => (x.1, allV x.2)) = leftX (kc c L) := (allC_kc hgd L8).trans ((left_rows h.rows).eq h.st hsrt8)
      rw [hall8] at hlk
      refine Ok.go t10 (hm.trans s10) ?_
      refine vac3 hXl (leftX (kc c L)).length 0 K10 L8 _ w10 (by omega) (l8.trans (l9.trans l10)) (h.mono l10) hlv hlk ?_ ?_ ?_ ?_ ?_ ?_ ?_ ?_ ?_ ?_
      all_goals first | rfl | exact e3 | exact e6 | exact e7 | exact e8 | exact e10 | exact e152
    all_goals first | rfl | exact e3 | exact e152
end Go.Cb

/-
  What is seen at a start stays so: plain. The same version.
-/
set_option linter.unusedVariables false
set_option linter.unusedSimpArgs false
set_option maxRecDepth 100000
namespace Go.Cb
open Classical
variable {w w0 : World} {F : List HP} {Q Q' : Value → World → Prop}

theorem AV.ext' {a b : AV} : a = b ↔ a.st = b.st ∧ a.dead = b.dead ∧ a.size = b.size ∧ a.gen = b.gen ∧ a.places = b.places := by
  constructor
  · rintro rfl; exact ⟨rfl, rfl, rfl, rfl, rfl⟩
  · obtain ⟨_, _, _, _, _⟩ := a
    obtain ⟨_, _, _, _, _⟩ := b
    rintro ⟨h1, h2, h3, h4, h5⟩
    simp at h1 h2 h3 h4 h5
    subst h1 h2 h3 h4 h5
    rfl

theorem same42_j {K : Hl} {b1 b2 : Nat} {x y : Ver} {a b : AV} (hx : Rv K x a) (hy : Rv K y b) (hm : a.places.length ≤ 2 ^ 60) {e : Env} (e2 : e 2 = ptr b1 0) (e3 : e 3 = ptr b2 0) (e24 : e 24 = undef) :
    Go w0 (pt b2 (encVer y) 85 :: pt b1 (encVer x) 85 :: kn K :: F) w (evalCode (cx42 (Fn Pg) (Rnd Pg)) (cdA Go.Proofs.Try.f42 [1]) (K42_0 (Fn Pg) (Rnd Pg)) e w) fun v w' => v = .bool (decide (a = b)) ∧ Sat w' (kn K :: F) ∧ Sm w0 w' := by
  have fin : ∀ w1 : World, a ≠ b → Go w0 (pt b2 (encVer y) 85 :: pt b1 (encVer x) 85 :: kn K :: F) w1 (some (.bool false, w1)) fun v w' => v = .bool (decide (a = b)) ∧ Sat w' (kn K :: F) ∧ Sm w0 w' := fun w1 hne => Go.ret fun hs hm => ⟨by rw [decide_eq_false hne], hs.drop.drop, hm⟩
  rw [S42_J1_eq]; unfold S42_J1
  rw [e2, e3, e24]
  repeat (with_reducible first | refine Go.s ?_ | refine Go.ad1 (by omega) ?_ | refine Go.adn (by omega) ?_ | refine Go.sb1 (by omega) (by omega) ?_ | refine Go.sbn (by omega) (by omega) ?_ | refine Go.ls (by with_unfolding_all rfl) ?_ | refine Go.ex (by with_unfolding_all rfl) ?_ | refine Go.lnR (by assumption) ?_ | refine Go.lk (by assumption) (by with_unfolding_all rfl) ?_ | refine Go.lk0 (by assumption) (by with_unfolding_all rfl) ?_ | refine Go.lka (by assumption) (by with_unfolding_all rfl) ?_ | refine Go.lkp (by assumption) ?_ | refine Go.la (by with_unfolding_all rfl) ?_ | refine Go.cvB (by assumption) ?_ | refine Go.rd (by assumption) ?_ | refine Go.rd2 (by assumption) ?_ | refine Go.ck (hold_ld (ld_of (by assumption) (by with_unfolding_all rfl))) ?_ | refine Go.ck (hold_ld (ldk_of (by assumption) (by assumption) (by with_unfolding_all rfl))) ?_)
  rw [hx.st, hy.st]
  cases h1 : decide (a.st = b.st) with
  | false =>
    repeat (with_reducible first | refine Go.s ?_ | refine Go.ad1 (by omega) ?_ | refine Go.adn (by omega) ?_ | refine Go.sb1 (by omega) (by omega) ?_ | refine Go.sbn (by omega) (by omega) ?_ | refine Go.ls (by with_unfolding_all rfl) ?_ | refine Go.ex (by with_unfolding_all rfl) ?_ | refine Go.lnR (by assumption) ?_ | refine Go.lk (by assumption) (by with_unfolding_all rfl) ?_ | refine Go.lk0 (by assumption) (by with_unfolding_all rfl) ?_ | refine Go.lka (by assumption) (by with_unfolding_all rfl) ?_ | refine Go.lkp (by assumption) ?_ | refine Go.la (by with_unfolding_all rfl) ?_ | refine Go.cvB (by assumption) ?_ | refine Go.rd (by assumption) ?_ | refine Go.rd2 (by assumption) ?_ | refine Go.ck (hold_ld (ld_of (by assumption) (by with_unfolding_all rfl))) ?_ | refine Go.ck (hold_ld (ldk_of (by assumption) (by assumption) (by with_unfolding_all rfl))) ?_)
    exact fin w fun h => by simp [h] at h1
  | true =>
    repeat (with_reducible first | refine Go.s ?_ | refine Go.ad1 (by omega) ?_ | refine Go.adn (by omega) ?_ | refine Go.sb1 (by omega) (by omega) ?_ | refine Go.sbn (by omega) (by omega) ?_ | refine Go.ls (by with_unfolding_all rfl) ?_ | refine Go.ex (by with_unfolding_all rfl) ?_ | refine Go.lnR (by assumption) ?_ | refine Go.lk (by assumption) (by with_unfolding_all rfl) ?_ | refine Go.lk0 (by assumption) (by with_unfolding_all rfl) ?_ | refine Go.lka (by assumption) (by with_unfolding_all rfl) ?_ | refine Go.lkp (by assumption) ?_ | refine Go.la (by with_unfolding_all rfl) ?_ | refine Go.cvB (by assumption) ?_ | refine Go.rd (by assumption) ?_ | refine Go.rd2 (by assumption) ?_ | refine Go.ck (hold_ld (ld_of (by assumption) (by with_unfolding_all rfl))) ?_ | refine Go.ck (hold_ld (ldk_of (by assumption) (by assumption) (by with_unfolding_all rfl))) ?_)
    rw [hx.dead, hy.dead]
    cases h2 : (a.dead == b.dead) with
    | false =>
      repeat (with_reducible first | refine Go.s ?_ | refine Go.ad1 (by omega) ?_ | refine Go.adn (by omega) ?_ | refine Go.sb1 (by omega) (by omega) ?_ | refine Go.sbn (by omega) (by omega) ?_ | refine Go.ls (by with_unfolding_all rfl) ?_ | refine Go.ex (by with_unfolding_all rfl) ?_ | refine Go.lnR (by assumption) ?_ | refine Go.lk (by assumption) (by with_unfolding_all rfl) ?_ | refine Go.lk0 (by assumption) (by with_unfolding_all rfl) ?_ | refine Go.lka (by assumption) (by with_unfolding_all rfl) ?_ | refine Go.lkp (by assumption) ?_ | refine Go.la (by with_unfolding_all rfl) ?_ | refine Go.cvB (by assumption) ?_ | refine Go.rd (by assumption) ?_ | refine Go.rd2 (by assumption) ?_ | refine Go.ck (hold_ld (ld_of (by assumption) (by with_unfolding_all rfl))) ?_ | refine Go.ck (hold_ld (ldk_of (by assumption) (by assumption) (by with_unfolding_all rfl))) ?_)
      exact fin w fun h => by simp [h] at h2
    | true =>
      repeat (with_reducible first | refine Go.s ?_ | refine Go.ad1 (by omega) ?_ | refine Go.adn (by omega) ?_ | refine Go.sb1 (by omega) (by omega) ?_ | refine Go.sbn (by omega) (by omega) ?_ | refine Go.ls (by with_unfolding_all rfl) ?_ | refine Go.ex (by with_unfolding_all rfl) ?_ | refine Go.lnR (by assumption) ?_ | refine Go.lk (by assumption) (by with_unfolding_all rfl) ?_ | refine Go.lk0 (by assumption) (by with_unfolding_all rfl) ?_ | refine Go.lka (by assumption) (by with_unfolding_all rfl) ?_ | refine Go.lkp (by assumption) ?_ | refine Go.la (by with_unfolding_all rfl) ?_ | refine Go.cvB (by assumption) ?_ | refine Go.rd (by assumption) ?_ | refine Go.rd2 (by assumption) ?_ | refine Go.ck (hold_ld (ld_of (by assumption) (by with_unfolding_all rfl))) ?_ | refine Go.ck (hold_ld (ldk_of (by assumption) (by assumption) (by with_unfolding_all rfl))) ?_)
      refine Go.ok fun hs hm' => ?_
      refine Ok.bind (same77_ok hx.pl hy.pl hm (hs.re [2, 0, 1] (by decide))) ?_
      rintro v w1 ⟨rfl, t1, s1⟩
      have t1 : Sat w1 (pt b2 (encVer y) 85 :: pt b1 (encVer x) 85 :: kn K :: F) := t1.re [1, 2, 0] (by decide)
      refine Ok.go t1 (hm'.trans s1) ?_
      rw [hx.gen, hx.size, hy.gen, hy.size]
      repeat (with_reducible first | refine Go.s ?_ | refine Go.ad1 (by omega) ?_ | refine Go.adn (by omega) ?_ | refine Go.sb1 (by omega) (by omega) ?_ | refine Go.sbn (by omega) (by omega) ?_ | refine Go.ls (by with_unfolding_all rfl) ?_ | refine Go.ex (by with_unfolding_all rfl) ?_ | refine Go.lnR (by assumption) ?_ | refine Go.lk (by assumption) (by with_unfolding_all rfl) ?_ | refine Go.lk0 (by assumption) (by with_unfolding_all rfl) ?_ | refine Go.lka (by assumption) (by with_unfolding_all rfl) ?_ | refine Go.lkp (by assumption) ?_ | refine Go.la (by with_unfolding_all rfl) ?_ | refine Go.cvB (by assumption) ?_ | refine Go.rd (by assumption) ?_ | refine Go.rd2 (by assumption) ?_ | refine Go.ck (hold_ld (ld_of (by assumption) (by with_unfolding_all rfl))) ?_ | refine Go.ck (hold_ld (ldk_of (by assumption) (by assumption) (by with_unfolding_all rfl))) ?_)
      refine Go.ret fun hs hm => ⟨?_, hs.drop.drop, hm⟩
      refine congrArg Value.bool (decide_eq_decide.2 ?_)
      rw [AV.ext']
      simp at h1 h2
      exact ⟨fun h => ⟨h1, h2, h⟩, fun h => h.2.2⟩
theorem same42_ok {K : Hl} {x y : Ver} {a b : AV} (hx : Rv K x a) (hy : Rv K y b) (hm : a.places.length ≤ 2 ^ 60) (hs : Sat w (kn K :: F)) :
    Ok (Fn Pg 42 [aggV x, aggV y] w) fun v w' => v = .bool (decide (a = b)) ∧ Sat w' (kn K :: F) ∧ Sm w w' := by
  rw [F42]; unfold S42
  refine Ok.go hs (Sm.refl w) ?_
  repeat (first | (with_reducible first | refine Go.s ?_ | refine Go.ad1 (by omega) ?_ | refine Go.adn (by omega) ?_ | refine Go.sb1 (by omega) (by omega) ?_ | refine Go.sbn (by omega) (by omega) ?_ | refine Go.ls (by with_unfolding_all rfl) ?_ | refine Go.ex (by with_unfolding_all rfl) ?_ | refine Go.lnR (by assumption) ?_ | refine Go.lk (by assumption) (by with_unfolding_all rfl) ?_ | refine Go.lk0 (by assumption) (by with_unfolding_all rfl) ?_ | refine Go.lka (by assumption) (by with_unfolding_all rfl) ?_ | refine Go.lkp (by assumption) ?_ | refine Go.la (by with_unfolding_all rfl) ?_ | refine Go.cvB (by assumption) ?_ | refine Go.rd (by assumption) ?_ | refine Go.rd2 (by assumption) ?_ | refine Go.ck (hold_ld (ld_of (by assumption) (by with_unfolding_all rfl))) ?_ | refine Go.ck (hold_ld (ldk_of (by assumption) (by assumption) (by with_unfolding_all rfl))) ?_) | (with_reducible first | (refine Go.bxa  ?_; intro nb w') | (refine Go.bxs  ?_; intro nb w') | (refine Go.al  ?_; intro nb w') | (refine Go.sta (by with_unfolding_all rfl) (by with_unfolding_all rfl) ?_; intro w') | (refine Go.st (by with_unfolding_all decide) ?_; intro w')))
  exact same42_j hx hy hm rfl rfl rfl

/-! ### Plain -/

/-- of those that are left the one that is seen is the same. -/
theorem find_kept (q : AV → Bool) (p : Nat → Bool) : ∀ l : List (AV × Nat), (∀ x, l.find? (fun x => q x.1) = some x → p x.2 = true) → ((l.filter fun x => p x.2).map (·.1)).find? q = (l.map (·.1)).find? q
  | [], _ => rfl
  | x :: l, h => by
    by_cases hq : q x.1 = true
    · have hp : p x.2 = true := h x (by simp [hq])
      simp [hp, hq]
    · have ih := find_kept q p l fun y hy => h y (by simpa [hq] using hy)
      have hq : q x.1 = false := by simpa using hq
      cases hp : p x.2 with
      | true => simp only [List.filter_cons, hp, if_true, List.map_cons, List.find?_cons, hq]; exact ih
      | false => simp only [List.filter_cons, hp, List.map_cons, List.find?_cons, hq]; exact ih
theorem atA_kept {vs : List AV} {s : Int} {p : Nat → Prop} (hp : ∀ i, i < vs.length → PlaceP vs s i → p i) : atA (keptL vs p) s = atA vs s := by
  unfold atA keptL
  have := find_kept (fun a => decide (a.st ≤ s)) (fun i => decide (p i)) vs.zipIdx fun x hx => by
    rw [List.find?_eq_some_iff_getElem] at hx
    obtain ⟨hq, i, hi, hix, hlt⟩ := hx
    have hi' : i < vs.length := by simpa using hi
    rw [List.getElem_zipIdx] at hix
    subst hix
    refine decide_eq_true (hp _ (by simpa using hi') ⟨by simp; omega, fun k a hk ha hst => ?_, fun a ha => ?_⟩)
    · have hk' : k < i := by simpa using hk
      have := hlt k hk'
      rw [List.getElem_zipIdx] at this
      obtain ⟨hk2, rfl⟩ := List.getElem?_eq_some_iff.1 ha
      simp at this
      omega
    · have ha' : vs[i]? = some a := by simpa using ha
      obtain ⟨_, rfl⟩ := List.getElem?_eq_some_iff.1 ha'
      simpa using hq
  rw [List.zipIdx_map_fst] at this
  exact this
theorem valV_dead {vs : List AV} {a : AV} {s : Int} (hR : RightP vs) (h : atA vs s = some a) (hd : a.dead = true) : valV vs s = (zA, false) := by
  unfold valV atV
  rw [if_pos hR, h, if_neg]
  rintro ⟨_, h2⟩
  rw [hd] at h2; cases h2
theorem valV_congr {vs us : List AV} {s : Int} (hR : RightP vs) (hR' : RightP us) (h : atA vs s = atA us s) : valV vs s = valV us s := by
  unfold valV atV
  rw [if_pos hR, if_pos hR', h]
theorem keepP_iff {vs : List AV} {ss : List Int} (hR : RightP vs) (i : Nat) : keepP vs ss i ↔ seenP vs ss i ∧ ¬ noneP vs ss := by
  unfold keepP
  exact ⟨fun h => h.resolve_left fun h => h hR, .inr⟩
theorem val_vac {vs : List AV} {ss : List Int} {s : Int} (hR : RightP vs) (hs : s ∈ ss) : valV (keptL vs (keepP vs ss)) s = valV vs s := by
  have hR' := right_sub hR (kept_sub vs (keepP vs ss))
  by_cases hn : noneP vs ss
  · obtain ⟨a, h0, hd, _, h4⟩ := hn
    have hn : noneP vs ss := ⟨a, h0, hd, by assumption, h4⟩
    have hst : a.st ≤ s := by have := h4 s hs; omega
    rw [valV_dead hR (atA_head h0 hst) hd]
    have : keptL vs (keepP vs ss) = [] := by
      unfold keptL
      rw [List.map_eq_nil_iff, List.filter_eq_nil_iff]
      intro x _
      rw [decide_eq_true_iff, keepP_iff hR]
      exact fun h => h.2 hn
    rw [this]
    unfold valV
    rw [at_nil, if_neg (by simp)]
  · refine valV_congr hR' hR (atA_kept fun i hi hp => ?_)
    rw [keepP_iff hR]
    exact ⟨.inr ⟨s, hs, hi, hp⟩, hn⟩
theorem val_add {vs : List AV} {a : AV} {s : Int} (hR : RightP (a :: vs)) (h : s < a.st) : valV (a :: vs) s = valV vs s := by
  refine valV_congr hR (right_sub hR (List.sublist_cons_self _ _)) ?_
  unfold atA
  rw [List.find?_cons_of_neg (by simp; omega)]

/-- lists that rise, of the same. -/
theorem srt_ext {β : Type} : ∀ {X Y : List (ByteArray × β)}, (X.Pairwise fun a b => kl a.1 b.1 = true) → (Y.Pairwise fun a b => kl a.1 b.1 = true) → (∀ x, x ∈ X ↔ x ∈ Y) → X = Y
  | [], [], _, _, _ => rfl
  | [], b :: Y, _, _, h => absurd ((h b).2 (by simp)) (by simp)
  | a :: X, [], _, _, h => absurd ((h a).1 (by simp)) (by simp)
  | a :: X, b :: Y, hX, hY, h => by
    obtain ⟨h1, h2⟩ := List.pairwise_cons.1 hX
    obtain ⟨h3, h4⟩ := List.pairwise_cons.1 hY
    have hab : a = b := by
      rcases List.mem_cons.1 ((h a).1 (by simp)) with h5 | h5
      · exact h5
      · rcases List.mem_cons.1 ((h b).2 (by simp)) with h6 | h6
        · exact h6.symm
        · have h7 := h3 a h5
          have h8 := h1 b h6
          rw [kl_asym h7] at h8; cases h8
    subst hab
    congr 1
    refine srt_ext h2 h4 fun x => ?_
    constructor
    · intro hx
      rcases List.mem_cons.1 ((h x).1 (List.mem_cons_of_mem _ hx)) with rfl | h5
      · have := h1 x hx
        rw [kl_irr] at this; cases this
      · exact h5
    · intro hx
      rcases List.mem_cons.1 ((h x).2 (List.mem_cons_of_mem _ hx)) with rfl | h5
      · have := h3 x hx
        rw [kl_irr] at this; cases this
      · exact h5
theorem found_srt {s : Int} : ∀ {X : List KC}, SrtK X → (foundL s X).Pairwise fun a b => kl a.1 b.1 = true
  | [], _ => .nil
  | x :: X, h => by
    obtain ⟨h1, h2⟩ := List.pairwise_cons.1 h
    unfold foundL
    rw [List.filterMap_cons]
    split
    · exact found_srt h2
    · rename_i y hy
      split at hy
      · injection hy with hy
        subst hy
        refine List.pairwise_cons.2 ⟨fun z hz => ?_, found_srt h2⟩
        obtain ⟨q, hq, hk, _⟩ := found_mem (at' := s) hz
        show kl x.1 z.1 = true
        rw [hk]
        exact h1 q hq
      · cases hy
theorem found_iff {c : ByteArray → List AV} {X : List KC} {s : Int} (hX : RowsM c X) (p : ByteArray × AV) : p ∈ foundL s X ↔ valV (c p.1) s = (p.2, true) := by
  unfold foundL
  rw [List.mem_filterMap]
  constructor
  · rintro ⟨x, hx, h⟩
    split at h
    · rename_i hv
      injection h with h
      subst h
      rw [((hX.2 x).1 hx).1]
      exact Prod.ext rfl hv
    · cases h
  · intro h
    have hne : c p.1 ≠ [] := by
      intro h0
      rw [h0] at h
      unfold valV at h
      rw [at_nil, if_neg (by simp)] at h
      have := congrArg Prod.snd h
      cases this
    refine ⟨(p.1, c p.1), (hX.2 _).2 ⟨rfl, hne⟩, ?_⟩
    show (if (valV (c p.1) s).2 = true then some (p.1, (valV (c p.1) s).1) else none) = some p
    rw [h, if_pos rfl]
theorem found_eq {c c' : ByteArray → List AV} {X Y : List KC} {s : Int} (hX : RowsM c X) (hY : RowsM c' Y) (h : ∀ k, valV (c k) s = valV (c' k) s) : foundL s X = foundL s Y :=
  srt_ext (found_srt hX.1) (found_srt hY.1) fun p => by rw [found_iff hX, found_iff hY, h]

theorem val_app {c : ByteArray → List AV} {gs : List (ByteArray × AV)} {s start : Int} (hok : okCh c noB gs) (hst : ∀ a ∈ gs, a.2.st = s) (h : start < s) (k : ByteArray) : valV (appC c gs k) start = valV (c k) start := by
  obtain ⟨g1, _⟩ := okCh_mem hok
  rcases appC_cases hok k with ⟨a, ha, rfl, hc⟩ | ⟨_, hc⟩
  · rw [hc]
    exact val_add (g1 a ha).1 (by rw [hst a ha]; exact h)
  · rw [hc]

/-! ### Vacuum, with starts -/
theorem came_vac {K : Hl} {S n : Nat} {L : List Ent} {last : Int} {c : ByteArray → List AV} {key : ByteArray} {sv : Value} {ss : List Int} (hc : Came K L c last n) (hn : n ≤ 1000) (hk : key.size ≤ 2 ^ 62) (hu : RdS K 68 1 encU sv ss) (hul : ss.length ≤ 2 ^ 28) (hs : Sat w (kn K :: sto S L last :: F)) :
    Ok (Fn Pg 38 [ptr S 0, .string key, sv] w) fun v w' => ∃ K' L' c', Le K K' ∧ Came K' L' c' last n ∧ (∀ s ∈ ss, ∀ k, valV (c' k) s = valV (c k) s) ∧ Sat w' (kn K' :: sto S L' last :: F) ∧ Sm w w' := by
  have hl := hc.len
  refine Ok.mono (vacuum_ok (n := n) (by omega) hk hc.st hc.bd (by omega) hu hul hs) ?_
  rintro v w1 ⟨K1, l1, s1, ⟨_, _, t1⟩ | ⟨e, dv, L1, hn1, _, hdv, hst, hL1, t1⟩⟩
  · exact ⟨K1, L, c, l1, hc.mono l1, fun _ _ _ => rfl, t1, s1⟩
  · refine ⟨K1, L1, _, l1, ⟨hst, gd_sub hc.gd sub_set, bd_sub hc.bd sub_set, by omega⟩, fun s hs k => ?_, t1, s1⟩
    unfold setC
    by_cases hk : k = e.1
    · rw [if_pos hk, hk]; exact val_vac (hc.gd.right _) hs
    · rw [if_neg hk]
end Go.Cb

/-
  MvccStays: the walk.
-/
set_option linter.unusedVariables false
set_option linter.unusedSimpArgs false
set_option maxRecDepth 100000
namespace Go.Cb
open Classical
variable {w w0 : World} {F : List HP} {Q Q' : Value → World → Prop}

abbrev encS (s : ByteArray) : List Value := [.string s]
theorem enS : En encS 1 := ⟨fun _ => rfl, fun x v hv => by simp [encS] at hv; subst hv; rfl⟩
instance : Sls 87 9 1 := ⟨slT_of (by kernel_rfl)⟩
instance : Bv 36 [] (.agg #[.string noB, .string noB]) := ⟨bld36_0⟩

noncomputable abbrev YL1 (e : Env) (w : World) : R := evalLoop (cx9 (Fn Pg) (Rnd Pg)) (cdA Go.Proofs.Try.f9 [1, 1, 1, 0, 1, 0, 0]) (K9_2 (Fn Pg) (Rnd Pg)) e w
noncomputable abbrev YL2 (e : Env) (w : World) : R := evalLoop (cx9 (Fn Pg) (Rnd Pg)) (cdA Go.Proofs.Try.f9 [1, 1, 1, 1, 1, 1, 0, 1, 0, 0]) (K9_4 (Fn Pg) (Rnd Pg)) e w
noncomputable abbrev YL3 (e : Env) (w : World) : R := evalLoop (cx9 (Fn Pg) (Rnd Pg)) (cdA Go.Proofs.Try.f9 [1, 1, 1, 1, 1, 1, 1, 0, 1, 0, 0]) (K9_6 (Fn Pg) (Rnd Pg)) e w

/-- what came in. -/
structure YIn (K : Hl) (v1 v2 v3 : Value) (xs : List MAct) (gs : List AAct) (ys : List MAct) (hs : List AAct) (ks : List ByteArray) : Prop where
  r1 : RdS K 58 5 encAc v1 xs
  x1 : Racs K xs gs
  r2 : RdS K 58 5 encAc v2 ys
  x2 : Racs K ys hs
  r3 : RdS K 87 1 encS v3 ks
theorem YIn.mono {K K' : Hl} {v1 v2 v3 : Value} {xs : List MAct} {gs : List AAct} {ys : List MAct} {hs : List AAct} {ks : List ByteArray} (h : YIn K v1 v2 v3 xs gs ys hs ks) (hl : Le K K') : YIn K' v1 v2 v3 xs gs ys hs ks := ⟨h.r1.mono hl, h.x1.mono hl, h.r2.mono hl, h.x2.mono hl, h.r3.mono hl⟩

theorem stay1 {K0 : Hl} {v1 v2 v3 : Value} {xs ys : List MAct} {gs hh : List AAct} {ks : List ByteArray} {S : Nat} (hf : fewA gs)
    (cont : ∀ (K : Hl) (L : List Ent) (c : ByteArray → List AV) (last : Int) (e : Env) (w : World), Le K0 K → YIn K v1 v2 v3 xs gs ys hh ks → Came K L c last gs.length → e 0 = v1 → e 1 = v2 → e 2 = v3 → e 7 = ptr S 0 → e 8 = int gs.length → e 153 = undef → Go w0 (kn K :: sto S L last :: F) w (YL1 e w) Q) :
    ∀ (j i : Nat) (K : Hl) (L : List Ent) (c : ByteArray → List AV) (last : Int) (e : Env) (w : World), i + j = gs.length → Le K0 K → YIn K v1 v2 v3 xs gs ys hh ks → Came K L c last i → e 0 = v1 → e 1 = v2 → e 2 = v3 → e 7 = ptr S 0 → e 8 = int i → e 153 = undef →
      Go w0 (kn K :: sto S L last :: F) w (YL1 e w) Q := by
  intro j
  induction j with
  | zero =>
    intro i K L c last e w hij hl0 hI hc e0 e1 e2 e7 e8 e153
    have : i = gs.length := by omega
    subst this
    exact cont K L c last e w hl0 hI hc e0 e1 e2 e7 e8 e153
  | succ j ih =>
    intro i K L c last e w hij hl0 hI hc e0 e1 e2 e7 e8 e153
    have hi : i < gs.length := by omega
    have hlen := hf.1
    obtain ⟨a, ha⟩ : ∃ a, gs[i]? = some a := ⟨_, List.getElem?_eq_getElem hi⟩
    obtain ⟨x, hx'⟩ : ∃ x, xs[i]? = some x := ⟨_, List.getElem?_eq_getElem (by rw [hI.x1.len]; exact hi)⟩
    have hr := hI.r1
    obtain ⟨p, g1, k1⟩ := hr.get hx' rfl
    have hra := hI.x1.at_ i x a hx' ha
    obtain ⟨cs, hcs1, hcs2⟩ := hra.cs
    unfold YL1
    rw [S9_L1_eq]; unfold S9_L1
    rw [e0, e7, e8]
    repeat (with_reducible first | refine Go.s ?_ | refine Go.ad1 (by omega) ?_ | refine Go.adn (by omega) ?_ | refine Go.sb1 (by omega) (by omega) ?_ | refine Go.sbn (by omega) (by omega) ?_ | refine Go.ls (by with_unfolding_all rfl) ?_ | refine Go.ex (by with_unfolding_all rfl) ?_ | refine Go.lnR (by assumption) ?_ | refine Go.lk (by assumption) (by with_unfolding_all rfl) ?_ | refine Go.lk0 (by assumption) (by with_unfolding_all rfl) ?_ | refine Go.lka (by assumption) (by with_unfolding_all rfl) ?_ | refine Go.lkp (by assumption) ?_ | refine Go.la (by with_unfolding_all rfl) ?_ | refine Go.cvB (by assumption) ?_ | refine Go.rd (by assumption) ?_ | refine Go.rd2 (by assumption) ?_ | refine Go.ck (hold_ld (ld_of (by assumption) (by with_unfolding_all rfl))) ?_ | refine Go.ck (hold_ld (ldk_of (by assumption) (by assumption) (by with_unfolding_all rfl))) ?_)
    rw [hI.x1.len]
    refine Go.ci (fun _ => ?_) fun h => absurd (of_decide_eq_false h) (by omega)
    repeat (with_reducible first | refine Go.s ?_ | refine Go.ad1 (by omega) ?_ | refine Go.adn (by omega) ?_ | refine Go.sb1 (by omega) (by omega) ?_ | refine Go.sbn (by omega) (by omega) ?_ | refine Go.ls (by with_unfolding_all rfl) ?_ | refine Go.ex (by with_unfolding_all rfl) ?_ | refine Go.lnR (by assumption) ?_ | refine Go.lk (by assumption) (by with_unfolding_all rfl) ?_ | refine Go.lk0 (by assumption) (by with_unfolding_all rfl) ?_ | refine Go.lka (by assumption) (by with_unfolding_all rfl) ?_ | refine Go.lkp (by assumption) ?_ | refine Go.la (by with_unfolding_all rfl) ?_ | refine Go.cvB (by assumption) ?_ | refine Go.rd (by assumption) ?_ | refine Go.rd2 (by assumption) ?_ | refine Go.ck (hold_ld (ld_of (by assumption) (by with_unfolding_all rfl))) ?_ | refine Go.ck (hold_ld (ldk_of (by assumption) (by assumption) (by with_unfolding_all rfl))) ?_)
    rw [hra.st]
    refine Go.ok fun hs hm => Ok.bind (came_app hc (by omega) (hf.2 a (List.mem_of_getElem? ha)).1 hcs1 hcs2 hs) ?_
    rintro z w1 ⟨K1, L1, c1, last1, z, rfl, l1, hc1, _, t1, s1⟩
    refine Ok.go t1 (hm.trans s1) ?_
    repeat (with_reducible first | refine Go.s ?_ | refine Go.ad1 (by omega) ?_ | refine Go.adn (by omega) ?_ | refine Go.sb1 (by omega) (by omega) ?_ | refine Go.sbn (by omega) (by omega) ?_ | refine Go.ls (by with_unfolding_all rfl) ?_ | refine Go.ex (by with_unfolding_all rfl) ?_ | refine Go.lnR (by assumption) ?_ | refine Go.lk (by assumption) (by with_unfolding_all rfl) ?_ | refine Go.lk0 (by assumption) (by with_unfolding_all rfl) ?_ | refine Go.lka (by assumption) (by with_unfolding_all rfl) ?_ | refine Go.lkp (by assumption) ?_ | refine Go.la (by with_unfolding_all rfl) ?_ | refine Go.cvB (by assumption) ?_ | refine Go.rd (by assumption) ?_ | refine Go.rd2 (by assumption) ?_ | refine Go.ck (hold_ld (ld_of (by assumption) (by with_unfolding_all rfl))) ?_ | refine Go.ck (hold_ld (ldk_of (by assumption) (by assumption) (by with_unfolding_all rfl))) ?_)
    refine ih (i + 1) K1 L1 c1 last1 _ _ (by omega) (hl0.trans l1) (hI.mono l1) hc1 ?_ ?_ ?_ ?_ ?_ ?_
    all_goals first | rfl | exact e0 | exact e1 | exact e2 | exact e7 | exact e153

/-- what stays, at the second loop. -/
structure Stay (K : Hl) (L LU : List Ent) (c c0 : ByteArray → List AV) (last start : Int) (n : Nat) : Prop where
  s : Came K L c last n
  u : Came K LU c0 start n
  ge : start ≤ last
  val : ∀ k, valV (c k) start = valV (c0 k) start
theorem Stay.mono {K K' : Hl} {L LU : List Ent} {c c0 : ByteArray → List AV} {last start : Int} {n : Nat} (h : Stay K L LU c c0 last start n) (hl : Le K K') : Stay K' L LU c c0 last start n := ⟨h.s.mono hl, h.u.mono hl, h.ge, h.val⟩

/-- both scans, and they are the same. -/
theorem stay_check {K : Hl} {S U n : Nat} {L LU : List Ent} {c c0 : ByteArray → List AV} {last start : Int} (h : Stay K L LU c c0 last start n) (hn : n ≤ 1000) {κ : Value → Value → Value → Value → Value → World → R}
    (hκ : ∀ x y x2 y2 K' w', Le K K' → Go w0 (kn K' :: sto S L last :: sto U LU start :: F) w' (κ x y x2 y2 (.bool true) w') Q) :
    Go w0 (kn K :: sto S L last :: sto U LU start :: F) w (rd (bldV Pg 36 []) fun x => rd2 (Fn Pg 36 [ptr S 0, x, u64 start, .int .i64 1000] w) fun y w1 => rd (bldV Pg 36 []) fun x2 => rd2 (Fn Pg 36 [ptr U 0, x2, u64 start, .int .i64 1000] w1) fun y2 w2 => rd2 (Fn Pg 39 [y, y2] w2) fun z w3 => κ x y x2 y2 z w3) Q := by
  refine Go.ok fun hs hm => ?_
  have hl1 := h.s.len
  have hl2 := h.u.len
  refine Ok.rd bld36_0 ?_
  have hsrt : Srt L := sto_srt (k := 1) hs rfl
  have hsrt' : Srt LU := sto_srt (k := 2) hs rfl
  refine Ok.bind (scan_ok (n := n) (at' := start) (m := 1000) (f := noB) (t := noB) (by omega) h.s.st h.s.bd (by omega) hs) ?_
  rintro y w1 ⟨K1, fs, l1, hr1, hf1, t1, s1⟩
  refine Ok.rd bld36_0 ?_
  refine Ok.bind (scan_ok (n := n) (at' := start) (m := 1000) (f := noB) (t := noB) (by omega) (h.u.st.mono l1) h.u.bd (by omega) (t1.re [0, 2, 1] (by decide))) ?_
  rintro y2 w2 ⟨K2, us, l2, hr2, hf2, t2, s2⟩
  have hX : RowsM c (kc c L) := ⟨kc_srt hsrt, kc_mem h.s.st⟩
  have hX' : RowsM c0 (kc c0 LU) := ⟨kc_srt hsrt', kc_mem h.u.st⟩
  have hn' : ((1000 : Int) - (([] : List (ByteArray × AV)).length : Int)).toNat = 1000 := by simp
  rw [in_all, run_scan, List.nil_append, hn'] at hf1 hf2
  rw [← found_eq hX hX' h.val] at hf2
  refine Ok.bind (same39_ok (toG_rd (hr1.mono l2)) (toG_rd hr2) (toG_fs (hf1.mono l2)) (toG_fs hf2) (by rw [List.length_map, List.length_take]; omega) (found_small h.s.bd hX) t2) ?_
  rintro z w3 ⟨rfl, t3, s3⟩
  rw [decide_eq_true (sameFs_refl _)]
  exact hκ _ _ _ _ K2 w3 (l1.trans l2) (t3.re [0, 2, 1] (by decide)) (hm.trans (s1.trans (s2.trans s3)))

theorem stay2 {K0 : Hl} {v1 v2 v3 : Value} {xs ys : List MAct} {gs hh : List AAct} {ks : List ByteArray} {S U : Nat} {LU : List Ent} {c0 : ByteArray → List AV} {start : Int} (hf : fewA hh)
    (cont : ∀ (K : Hl) (L : List Ent) (c : ByteArray → List AV) (last : Int) (e : Env) (w : World), Le K0 K → YIn K v1 v2 v3 xs gs ys hh ks → Stay K L LU c c0 last start (40 + hh.length) → e 1 = v2 → e 2 = v3 → e 7 = ptr S 0 → e 9 = u64 start → e 10 = ptr U 0 → e 11 = int hh.length → e 153 = undef → Go w0 (kn K :: sto S L last :: sto U LU start :: F) w (YL2 e w) Q) :
    ∀ (j i : Nat) (K : Hl) (L : List Ent) (c : ByteArray → List AV) (last : Int) (e : Env) (w : World), i + j = hh.length → Le K0 K → YIn K v1 v2 v3 xs gs ys hh ks → Stay K L LU c c0 last start (40 + i) → e 1 = v2 → e 2 = v3 → e 7 = ptr S 0 → e 9 = u64 start → e 10 = ptr U 0 → e 11 = int i → e 153 = undef →
      Go w0 (kn K :: sto S L last :: sto U LU start :: F) w (YL2 e w) Q := by
  intro j
  induction j with
  | zero =>
    intro i K L c last e w hij hl0 hI h e1 e2 e7 e9 e10 e11 e153
    have : i = hh.length := by omega
    subst this
    exact cont K L c last e w hl0 hI h e1 e2 e7 e9 e10 e11 e153
  | succ j ih =>
    intro i K L c last e w hij hl0 hI h e1 e2 e7 e9 e10 e11 e153
    have hi : i < hh.length := by omega
    have hlen := hf.1
    obtain ⟨a, ha⟩ : ∃ a, hh[i]? = some a := ⟨_, List.getElem?_eq_getElem hi⟩
    obtain ⟨x, hx'⟩ : ∃ x, ys[i]? = some x := ⟨_, List.getElem?_eq_getElem (by rw [hI.x2.len]; exact hi)⟩
    have hr := hI.r2
    obtain ⟨p, g1, k1⟩ := hr.get hx' rfl
    have hra := hI.x2.at_ i x a hx' ha
    obtain ⟨cs, hcs1, hcs2⟩ := hra.cs
    have hfa := hf.2 a (List.mem_of_getElem? ha)
    -- the next round
    have next : ∀ (K1 : Hl) (L1 : List Ent) (c1 : ByteArray → List AV) (last1 : Int) (e' : Env) (w' : World), Le K K1 → Stay K1 L1 LU c1 c0 last1 start (40 + (i + 1)) → e' 1 = v2 → e' 2 = v3 → e' 7 = ptr S 0 → e' 9 = u64 start → e' 10 = ptr U 0 → e' 11 = int (i + 1 : Nat) → e' 153 = undef →
        Go w0 (kn K1 :: sto S L1 last1 :: sto U LU start :: F) w' (YL2 e' w') Q := fun K1 L1 c1 last1 e' w' l1 h1 e1 e2 e7 e9 e10 e11 e153 =>
      ih (i + 1) K1 L1 c1 last1 e' w' (by omega) (hl0.trans l1) (hI.mono l1) h1 e1 e2 e7 e9 e10 e11 e153
    -- a vacuum with starts
    have vac : ∀ (sv : Value) (K1 : Hl) (w1 : World) (F1 : List HP), Le K K1 → RdS K1 68 1 encU sv (a.ss ++ [start]) → Sat w1 (kn K1 :: sto S L last :: sto U LU start :: F1) →
        Ok (Fn Pg 38 [ptr S 0, .string a.key, sv] w1) fun v w' => ∃ K' L' c', Le K K' ∧ Stay K' L' LU c' c0 last start (40 + (i + 1)) ∧ Sat w' (kn K' :: sto S L' last :: sto U LU start :: F1) ∧ Sm w1 w' := by
      intro sv K1 w1 F1 l1 hu t1
      have hkey := hfa.2.2
      have hssl := hfa.2.1
      refine Ok.mono (came_vac (h.s.mono l1) (by omega) (by omega) hu (by rw [List.length_append]; simp; omega) t1) ?_
      rintro v w' ⟨K', L', c', l', hc', hval, t', s'⟩
      refine ⟨K', L', c', l1.trans l', ⟨hc'.more (by omega), ((h.u.mono l1).mono l').more (by omega), h.ge, fun k => ?_⟩, t', s'⟩
      rw [hval start (by simp), h.val]
    unfold YL2
    rw [S9_L2_eq]; unfold S9_L2
    rw [e1, e7, e9, e10, e11, e153]
    repeat (with_reducible first | refine Go.s ?_ | refine Go.ad1 (by omega) ?_ | refine Go.adn (by omega) ?_ | refine Go.sb1 (by omega) (by omega) ?_ | refine Go.sbn (by omega) (by omega) ?_ | refine Go.ls (by with_unfolding_all rfl) ?_ | refine Go.ex (by with_unfolding_all rfl) ?_ | refine Go.lnR (by assumption) ?_ | refine Go.lk (by assumption) (by with_unfolding_all rfl) ?_ | refine Go.lk0 (by assumption) (by with_unfolding_all rfl) ?_ | refine Go.lka (by assumption) (by with_unfolding_all rfl) ?_ | refine Go.lkp (by assumption) ?_ | refine Go.la (by with_unfolding_all rfl) ?_ | refine Go.cvB (by assumption) ?_ | refine Go.rd (by assumption) ?_ | refine Go.rd2 (by assumption) ?_ | refine Go.ck (hold_ld (ld_of (by assumption) (by with_unfolding_all rfl))) ?_ | refine Go.ck (hold_ld (ldk_of (by assumption) (by assumption) (by with_unfolding_all rfl))) ?_)
    rw [hI.x2.len]
    refine Go.ci (fun _ => ?_) fun h => absurd (of_decide_eq_false h) (by omega)
    repeat (with_reducible first | refine Go.s ?_ | refine Go.ad1 (by omega) ?_ | refine Go.adn (by omega) ?_ | refine Go.sb1 (by omega) (by omega) ?_ | refine Go.sbn (by omega) (by omega) ?_ | refine Go.ls (by with_unfolding_all rfl) ?_ | refine Go.ex (by with_unfolding_all rfl) ?_ | refine Go.lnR (by assumption) ?_ | refine Go.lk (by assumption) (by with_unfolding_all rfl) ?_ | refine Go.lk0 (by assumption) (by with_unfolding_all rfl) ?_ | refine Go.lka (by assumption) (by with_unfolding_all rfl) ?_ | refine Go.lkp (by assumption) ?_ | refine Go.la (by with_unfolding_all rfl) ?_ | refine Go.cvB (by assumption) ?_ | refine Go.rd (by assumption) ?_ | refine Go.rd2 (by assumption) ?_ | refine Go.ck (hold_ld (ld_of (by assumption) (by with_unfolding_all rfl))) ?_ | refine Go.ck (hold_ld (ldk_of (by assumption) (by assumption) (by with_unfolding_all rfl))) ?_)
    refine Go.ci (fun _ => ?_) fun _ => ?_
    · repeat (with_reducible first | refine Go.s ?_ | refine Go.ad1 (by omega) ?_ | refine Go.adn (by omega) ?_ | refine Go.sb1 (by omega) (by omega) ?_ | refine Go.sbn (by omega) (by omega) ?_ | refine Go.ls (by with_unfolding_all rfl) ?_ | refine Go.ex (by with_unfolding_all rfl) ?_ | refine Go.lnR (by assumption) ?_ | refine Go.lk (by assumption) (by with_unfolding_all rfl) ?_ | refine Go.lk0 (by assumption) (by with_unfolding_all rfl) ?_ | refine Go.lka (by assumption) (by with_unfolding_all rfl) ?_ | refine Go.lkp (by assumption) ?_ | refine Go.la (by with_unfolding_all rfl) ?_ | refine Go.cvB (by assumption) ?_ | refine Go.rd (by assumption) ?_ | refine Go.rd2 (by assumption) ?_ | refine Go.ck (hold_ld (ld_of (by assumption) (by with_unfolding_all rfl))) ?_ | refine Go.ck (hold_ld (ldk_of (by assumption) (by assumption) (by with_unfolding_all rfl))) ?_)
      rw [hra.st]
      refine Go.ok fun hs hm => Ok.bind (came_app h.s (by omega) hfa.1 hcs1 hcs2 hs) ?_
      rintro z w1 ⟨K1, L1, c1, last1, z, rfl, l1, hc1, hcase, t1, s1⟩
      refine Ok.go t1 (hm.trans s1) ?_
      have h1 : Stay K1 L1 LU c1 c0 last1 start (40 + (i + 1)) := by
        refine ⟨hc1.more (by omega), (h.u.mono l1).more (by omega), ?_, fun k => ?_⟩
        · rcases hcase with ⟨_, _, hlt, rfl, _⟩ | ⟨_, _, rfl, _⟩
          · have := h.ge; omega
          · exact h.ge
        · rcases hcase with ⟨_, hok, hlt, rfl, rfl⟩ | ⟨_, _, rfl, rfl⟩
          · have hst : ∀ b ∈ a.gs, b.2.st = a.st := fun b hb => by
              obtain ⟨m, hm⟩ := List.getElem?_of_mem hb
              obtain ⟨y, hy⟩ : ∃ y, cs[m]? = some y := ⟨_, List.getElem?_eq_getElem (by rw [hcs2.len]; exact (List.getElem?_eq_some_iff.1 hm).1)⟩
              exact (hcs2.at_ m y b hy hm).2.st.symm
            rw [val_app hok hst (by have := h.ge; omega), h.val]
          · exact h.val k
      refine stay_check h1 (by omega) fun x y x2 y2 K2 w2 l2 => ?_
      repeat (with_reducible first | refine Go.s ?_ | refine Go.ad1 (by omega) ?_ | refine Go.adn (by omega) ?_ | refine Go.sb1 (by omega) (by omega) ?_ | refine Go.sbn (by omega) (by omega) ?_ | refine Go.ls (by with_unfolding_all rfl) ?_ | refine Go.ex (by with_unfolding_all rfl) ?_ | refine Go.lnR (by assumption) ?_ | refine Go.lk (by assumption) (by with_unfolding_all rfl) ?_ | refine Go.lk0 (by assumption) (by with_unfolding_all rfl) ?_ | refine Go.lka (by assumption) (by with_unfolding_all rfl) ?_ | refine Go.lkp (by assumption) ?_ | refine Go.la (by with_unfolding_all rfl) ?_ | refine Go.cvB (by assumption) ?_ | refine Go.rd (by assumption) ?_ | refine Go.rd2 (by assumption) ?_ | refine Go.ck (hold_ld (ld_of (by assumption) (by with_unfolding_all rfl))) ?_ | refine Go.ck (hold_ld (ldk_of (by assumption) (by assumption) (by with_unfolding_all rfl))) ?_)
      refine next K2 L1 c1 last1 _ _ (l1.trans l2) (h1.mono l2) ?_ ?_ ?_ ?_ ?_ ?_ ?_
      all_goals first | rfl | exact e1 | exact e2 | exact e7 | exact e9 | exact e10 | exact e153
    · have hssl := hfa.2.1
      have fin : ∀ (sv : Value) (w1 : World), Sat w1 (slH 64 1 encU sv (a.ss ++ [start]) :: kn K :: sto S L last :: sto U LU start :: F) →
          Ok (Fn Pg 38 [ptr S 0, .string x.key, sv] w1) fun v w' => ∃ K' L' c', Le K K' ∧ Stay K' L' LU c' c0 last start (40 + (i + 1)) ∧ Sat w' (kn K' :: sto S L' last :: sto U LU start :: F) ∧ Sm w1 w' := fun sv w1 t1 => by
        obtain ⟨K1, l1, hu, t2⟩ := share T68 enU t1
        rw [hra.key]
        exact vac sv K1 w1 F l1 hu t2
      refine Go.dw (Go.keep fun _ _ => Go.oo (Go.oo ?_ ?_) ?_)
      · repeat (with_reducible first | refine Go.s ?_ | refine Go.ad1 (by omega) ?_ | refine Go.adn (by omega) ?_ | refine Go.sb1 (by omega) (by omega) ?_ | refine Go.sbn (by omega) (by omega) ?_ | refine Go.ls (by with_unfolding_all rfl) ?_ | refine Go.ex (by with_unfolding_all rfl) ?_ | refine Go.lnR (by assumption) ?_ | refine Go.lk (by assumption) (by with_unfolding_all rfl) ?_ | refine Go.lk0 (by assumption) (by with_unfolding_all rfl) ?_ | refine Go.lka (by assumption) (by with_unfolding_all rfl) ?_ | refine Go.lkp (by assumption) ?_ | refine Go.la (by with_unfolding_all rfl) ?_ | refine Go.cvB (by assumption) ?_ | refine Go.rd (by assumption) ?_ | refine Go.rd2 (by assumption) ?_ | refine Go.ck (hold_ld (ld_of (by assumption) (by with_unfolding_all rfl))) ?_ | refine Go.ck (hold_ld (ldk_of (by assumption) (by assumption) (by with_unfolding_all rfl))) ?_)
        refine Go.bs0 encU fun v1 w1 => ?_
        refine Go.keep fun _ _ => ?_
        repeat (with_reducible first | refine Go.s ?_ | refine Go.ad1 (by omega) ?_ | refine Go.adn (by omega) ?_ | refine Go.sb1 (by omega) (by omega) ?_ | refine Go.sbn (by omega) (by omega) ?_ | refine Go.ls (by with_unfolding_all rfl) ?_ | refine Go.ex (by with_unfolding_all rfl) ?_ | refine Go.lnR (by assumption) ?_ | refine Go.lk (by assumption) (by with_unfolding_all rfl) ?_ | refine Go.lk0 (by assumption) (by with_unfolding_all rfl) ?_ | refine Go.lka (by assumption) (by with_unfolding_all rfl) ?_ | refine Go.lkp (by assumption) ?_ | refine Go.la (by with_unfolding_all rfl) ?_ | refine Go.cvB (by assumption) ?_ | refine Go.rd (by assumption) ?_ | refine Go.rd2 (by assumption) ?_ | refine Go.ck (hold_ld (ld_of (by assumption) (by with_unfolding_all rfl))) ?_ | refine Go.ck (hold_ld (ldk_of (by assumption) (by assumption) (by with_unfolding_all rfl))) ?_)
        refine Go.app enU (fun hs => hra.ss.src _ hs.kn) (by simp; omega) fun v2 w2 => ?_
        refine Go.keep fun _ _ => ?_
        repeat (with_reducible first | refine Go.s ?_ | refine Go.ad1 (by omega) ?_ | refine Go.adn (by omega) ?_ | refine Go.sb1 (by omega) (by omega) ?_ | refine Go.sbn (by omega) (by omega) ?_ | refine Go.ls (by with_unfolding_all rfl) ?_ | refine Go.ex (by with_unfolding_all rfl) ?_ | refine Go.lnR (by assumption) ?_ | refine Go.lk (by assumption) (by with_unfolding_all rfl) ?_ | refine Go.lk0 (by assumption) (by with_unfolding_all rfl) ?_ | refine Go.lka (by assumption) (by with_unfolding_all rfl) ?_ | refine Go.lkp (by assumption) ?_ | refine Go.la (by with_unfolding_all rfl) ?_ | refine Go.cvB (by assumption) ?_ | refine Go.rd (by assumption) ?_ | refine Go.rd2 (by assumption) ?_ | refine Go.ck (hold_ld (ld_of (by assumption) (by with_unfolding_all rfl))) ?_ | refine Go.ck (hold_ld (ldk_of (by assumption) (by assumption) (by with_unfolding_all rfl))) ?_)
        refine Go.bs1 enU (by decide) (x := start) rfl fun nb w3 hv3 => ?_
        refine Go.app enU (fun _ => hv3) (by simp; omega) fun v4 w4 => ?_
        refine Go.keep fun _ _ => ?_
        repeat (with_reducible first | refine Go.s ?_ | refine Go.ad1 (by omega) ?_ | refine Go.adn (by omega) ?_ | refine Go.sb1 (by omega) (by omega) ?_ | refine Go.sbn (by omega) (by omega) ?_ | refine Go.ls (by with_unfolding_all rfl) ?_ | refine Go.ex (by with_unfolding_all rfl) ?_ | refine Go.lnR (by assumption) ?_ | refine Go.lk (by assumption) (by with_unfolding_all rfl) ?_ | refine Go.lk0 (by assumption) (by with_unfolding_all rfl) ?_ | refine Go.lka (by assumption) (by with_unfolding_all rfl) ?_ | refine Go.lkp (by assumption) ?_ | refine Go.la (by with_unfolding_all rfl) ?_ | refine Go.cvB (by assumption) ?_ | refine Go.rd (by assumption) ?_ | refine Go.rd2 (by assumption) ?_ | refine Go.ck (hold_ld (ld_of (by assumption) (by with_unfolding_all rfl))) ?_ | refine Go.ck (hold_ld (ldk_of (by assumption) (by assumption) (by with_unfolding_all rfl))) ?_)
        refine Go.ok fun hs hm => Ok.bind (fin _ _ hs.drop) ?_
        rintro z w5 ⟨K1, L1, c1, l1, h1, t1, s1⟩
        refine Ok.go t1 (hm.trans s1) ?_
        refine stay_check h1 (by omega) fun x y x2 y2 K2 w6 l2 => ?_
        repeat (with_reducible first | refine Go.s ?_ | refine Go.ad1 (by omega) ?_ | refine Go.adn (by omega) ?_ | refine Go.sb1 (by omega) (by omega) ?_ | refine Go.sbn (by omega) (by omega) ?_ | refine Go.ls (by with_unfolding_all rfl) ?_ | refine Go.ex (by with_unfolding_all rfl) ?_ | refine Go.lnR (by assumption) ?_ | refine Go.lk (by assumption) (by with_unfolding_all rfl) ?_ | refine Go.lk0 (by assumption) (by with_unfolding_all rfl) ?_ | refine Go.lka (by assumption) (by with_unfolding_all rfl) ?_ | refine Go.lkp (by assumption) ?_ | refine Go.la (by with_unfolding_all rfl) ?_ | refine Go.cvB (by assumption) ?_ | refine Go.rd (by assumption) ?_ | refine Go.rd2 (by assumption) ?_ | refine Go.ck (hold_ld (ld_of (by assumption) (by with_unfolding_all rfl))) ?_ | refine Go.ck (hold_ld (ldk_of (by assumption) (by assumption) (by with_unfolding_all rfl))) ?_)
        refine next K2 L1 c1 last _ _ (l1.trans l2) (h1.mono l2) ?_ ?_ ?_ ?_ ?_ ?_ ?_
        all_goals first | rfl | exact e1 | exact e2 | exact e7 | exact e9 | exact e10 | exact e153
      · repeat (with_reducible first | refine Go.s ?_ | refine Go.ad1 (by omega) ?_ | refine Go.adn (by omega) ?_ | refine Go.sb1 (by omega) (by omega) ?_ | refine Go.sbn (by omega) (by omega) ?_ | refine Go.ls (by with_unfolding_all rfl) ?_ | refine Go.ex (by with_unfolding_all rfl) ?_ | refine Go.lnR (by assumption) ?_ | refine Go.lk (by assumption) (by with_unfolding_all rfl) ?_ | refine Go.lk0 (by assumption) (by with_unfolding_all rfl) ?_ | refine Go.lka (by assumption) (by with_unfolding_all rfl) ?_ | refine Go.lkp (by assumption) ?_ | refine Go.la (by with_unfolding_all rfl) ?_ | refine Go.cvB (by assumption) ?_ | refine Go.rd (by assumption) ?_ | refine Go.rd2 (by assumption) ?_ | refine Go.ck (hold_ld (ld_of (by assumption) (by with_unfolding_all rfl))) ?_ | refine Go.ck (hold_ld (ldk_of (by assumption) (by assumption) (by with_unfolding_all rfl))) ?_)
        refine Go.bs0 encU fun v1 w1 => ?_
        refine Go.keep fun _ _ => ?_
        repeat (with_reducible first | refine Go.s ?_ | refine Go.ad1 (by omega) ?_ | refine Go.adn (by omega) ?_ | refine Go.sb1 (by omega) (by omega) ?_ | refine Go.sbn (by omega) (by omega) ?_ | refine Go.ls (by with_unfolding_all rfl) ?_ | refine Go.ex (by with_unfolding_all rfl) ?_ | refine Go.lnR (by assumption) ?_ | refine Go.lk (by assumption) (by with_unfolding_all rfl) ?_ | refine Go.lk0 (by assumption) (by with_unfolding_all rfl) ?_ | refine Go.lka (by assumption) (by with_unfolding_all rfl) ?_ | refine Go.lkp (by assumption) ?_ | refine Go.la (by with_unfolding_all rfl) ?_ | refine Go.cvB (by assumption) ?_ | refine Go.rd (by assumption) ?_ | refine Go.rd2 (by assumption) ?_ | refine Go.ck (hold_ld (ld_of (by assumption) (by with_unfolding_all rfl))) ?_ | refine Go.ck (hold_ld (ldk_of (by assumption) (by assumption) (by with_unfolding_all rfl))) ?_)
        refine Go.bs1 enU (by decide) (x := start) rfl fun nb w3 hv3 => ?_
        refine Go.keep fun _ _ => ?_
        repeat (with_reducible first | refine Go.s ?_ | refine Go.ad1 (by omega) ?_ | refine Go.adn (by omega) ?_ | refine Go.sb1 (by omega) (by omega) ?_ | refine Go.sbn (by omega) (by omega) ?_ | refine Go.ls (by with_unfolding_all rfl) ?_ | refine Go.ex (by with_unfolding_all rfl) ?_ | refine Go.lnR (by assumption) ?_ | refine Go.lk (by assumption) (by with_unfolding_all rfl) ?_ | refine Go.lk0 (by assumption) (by with_unfolding_all rfl) ?_ | refine Go.lka (by assumption) (by with_unfolding_all rfl) ?_ | refine Go.lkp (by assumption) ?_ | refine Go.la (by with_unfolding_all rfl) ?_ | refine Go.cvB (by assumption) ?_ | refine Go.rd (by assumption) ?_ | refine Go.rd2 (by assumption) ?_ | refine Go.ck (hold_ld (ld_of (by assumption) (by with_unfolding_all rfl))) ?_ | refine Go.ck (hold_ld (ldk_of (by assumption) (by assumption) (by with_unfolding_all rfl))) ?_)
        refine Go.app enU (fun hs => hra.ss.src _ hs.kn) (by simp; omega) fun v4 w4 => ?_
        refine Go.keep fun _ _ => ?_
        repeat (with_reducible first | refine Go.s ?_ | refine Go.ad1 (by omega) ?_ | refine Go.adn (by omega) ?_ | refine Go.sb1 (by omega) (by omega) ?_ | refine Go.sbn (by omega) (by omega) ?_ | refine Go.ls (by with_unfolding_all rfl) ?_ | refine Go.ex (by with_unfolding_all rfl) ?_ | refine Go.lnR (by assumption) ?_ | refine Go.lk (by assumption) (by with_unfolding_all rfl) ?_ | refine Go.lk0 (by assumption) (by with_unfolding_all rfl) ?_ | refine Go.lka (by assumption) (by with_unfolding_all rfl) ?_ | refine Go.lkp (by assumption) ?_ | refine Go.la (by with_unfolding_all rfl) ?_ | refine Go.cvB (by assumption) ?_ | refine Go.rd (by assumption) ?_ | refine Go.rd2 (by assumption) ?_ | refine Go.ck (hold_ld (ld_of (by assumption) (by with_unfolding_all rfl))) ?_ | refine Go.ck (hold_ld (ldk_of (by assumption) (by assumption) (by with_unfolding_all rfl))) ?_)
        refine Go.app enU (src1 enU start) (by simp; omega) fun v5 w5' => ?_
        refine Go.keep fun _ _ => ?_
        repeat (with_reducible first | refine Go.s ?_ | refine Go.ad1 (by omega) ?_ | refine Go.adn (by omega) ?_ | refine Go.sb1 (by omega) (by omega) ?_ | refine Go.sbn (by omega) (by omega) ?_ | refine Go.ls (by with_unfolding_all rfl) ?_ | refine Go.ex (by with_unfolding_all rfl) ?_ | refine Go.lnR (by assumption) ?_ | refine Go.lk (by assumption) (by with_unfolding_all rfl) ?_ | refine Go.lk0 (by assumption) (by with_unfolding_all rfl) ?_ | refine Go.lka (by assumption) (by with_unfolding_all rfl) ?_ | refine Go.lkp (by assumption) ?_ | refine Go.la (by with_unfolding_all rfl) ?_ | refine Go.cvB (by assumption) ?_ | refine Go.rd (by assumption) ?_ | refine Go.rd2 (by assumption) ?_ | refine Go.ck (hold_ld (ld_of (by assumption) (by with_unfolding_all rfl))) ?_ | refine Go.ck (hold_ld (ldk_of (by assumption) (by assumption) (by with_unfolding_all rfl))) ?_)
        refine Go.ok fun hs hm => Ok.bind (fin _ _ hs.drop) ?_
        rintro z w5 ⟨K1, L1, c1, l1, h1, t1, s1⟩
        refine Ok.go t1 (hm.trans s1) ?_
        refine stay_check h1 (by omega) fun x y x2 y2 K2 w6 l2 => ?_
        repeat (with_reducible first | refine Go.s ?_ | refine Go.ad1 (by omega) ?_ | refine Go.adn (by omega) ?_ | refine Go.sb1 (by omega) (by omega) ?_ | refine Go.sbn (by omega) (by omega) ?_ | refine Go.ls (by with_unfolding_all rfl) ?_ | refine Go.ex (by with_unfolding_all rfl) ?_ | refine Go.lnR (by assumption) ?_ | refine Go.lk (by assumption) (by with_unfolding_all rfl) ?_ | refine Go.lk0 (by assumption) (by with_unfolding_all rfl) ?_ | refine Go.lka (by assumption) (by with_unfolding_all rfl) ?_ | refine Go.lkp (by assumption) ?_ | refine Go.la (by with_unfolding_all rfl) ?_ | refine Go.cvB (by assumption) ?_ | refine Go.rd (by assumption) ?_ | refine Go.rd2 (by assumption) ?_ | refine Go.ck (hold_ld (ld_of (by assumption) (by with_unfolding_all rfl))) ?_ | refine Go.ck (hold_ld (ldk_of (by assumption) (by assumption) (by with_unfolding_all rfl))) ?_)
        refine next K2 L1 c1 last _ _ (l1.trans l2) (h1.mono l2) ?_ ?_ ?_ ?_ ?_ ?_ ?_
        all_goals first | rfl | exact e1 | exact e2 | exact e7 | exact e9 | exact e10 | exact e153
      · repeat (with_reducible first | refine Go.s ?_ | refine Go.ad1 (by omega) ?_ | refine Go.adn (by omega) ?_ | refine Go.sb1 (by omega) (by omega) ?_ | refine Go.sbn (by omega) (by omega) ?_ | refine Go.ls (by with_unfolding_all rfl) ?_ | refine Go.ex (by with_unfolding_all rfl) ?_ | refine Go.lnR (by assumption) ?_ | refine Go.lk (by assumption) (by with_unfolding_all rfl) ?_ | refine Go.lk0 (by assumption) (by with_unfolding_all rfl) ?_ | refine Go.lka (by assumption) (by with_unfolding_all rfl) ?_ | refine Go.lkp (by assumption) ?_ | refine Go.la (by with_unfolding_all rfl) ?_ | refine Go.cvB (by assumption) ?_ | refine Go.rd (by assumption) ?_ | refine Go.rd2 (by assumption) ?_ | refine Go.ck (hold_ld (ld_of (by assumption) (by with_unfolding_all rfl))) ?_ | refine Go.ck (hold_ld (ldk_of (by assumption) (by assumption) (by with_unfolding_all rfl))) ?_)
        refine Go.bs1 enU (by decide) (x := start) rfl fun nb w3 hv3 => ?_
        refine Go.keep fun _ _ => ?_
        repeat (with_reducible first | refine Go.s ?_ | refine Go.ad1 (by omega) ?_ | refine Go.adn (by omega) ?_ | refine Go.sb1 (by omega) (by omega) ?_ | refine Go.sbn (by omega) (by omega) ?_ | refine Go.ls (by with_unfolding_all rfl) ?_ | refine Go.ex (by with_unfolding_all rfl) ?_ | refine Go.lnR (by assumption) ?_ | refine Go.lk (by assumption) (by with_unfolding_all rfl) ?_ | refine Go.lk0 (by assumption) (by with_unfolding_all rfl) ?_ | refine Go.lka (by assumption) (by with_unfolding_all rfl) ?_ | refine Go.lkp (by assumption) ?_ | refine Go.la (by with_unfolding_all rfl) ?_ | refine Go.cvB (by assumption) ?_ | refine Go.rd (by assumption) ?_ | refine Go.rd2 (by assumption) ?_ | refine Go.ck (hold_ld (ld_of (by assumption) (by with_unfolding_all rfl))) ?_ | refine Go.ck (hold_ld (ldk_of (by assumption) (by assumption) (by with_unfolding_all rfl))) ?_)
        refine Go.bs0 encU fun v1 w1 => ?_
        refine Go.keep fun _ _ => ?_
        repeat (with_reducible first | refine Go.s ?_ | refine Go.ad1 (by omega) ?_ | refine Go.adn (by omega) ?_ | refine Go.sb1 (by omega) (by omega) ?_ | refine Go.sbn (by omega) (by omega) ?_ | refine Go.ls (by with_unfolding_all rfl) ?_ | refine Go.ex (by with_unfolding_all rfl) ?_ | refine Go.lnR (by assumption) ?_ | refine Go.lk (by assumption) (by with_unfolding_all rfl) ?_ | refine Go.lk0 (by assumption) (by with_unfolding_all rfl) ?_ | refine Go.lka (by assumption) (by with_unfolding_all rfl) ?_ | refine Go.lkp (by assumption) ?_ | refine Go.la (by with_unfolding_all rfl) ?_ | refine Go.cvB (by assumption) ?_ | refine Go.rd (by assumption) ?_ | refine Go.rd2 (by assumption) ?_ | refine Go.ck (hold_ld (ld_of (by assumption) (by with_unfolding_all rfl))) ?_ | refine Go.ck (hold_ld (ldk_of (by assumption) (by assumption) (by with_unfolding_all rfl))) ?_)
        refine Go.app enU (fun hs => hra.ss.src _ hs.kn) (by simp; omega) fun v4 w4 => ?_
        refine Go.keep fun _ _ => ?_
        repeat (with_reducible first | refine Go.s ?_ | refine Go.ad1 (by omega) ?_ | refine Go.adn (by omega) ?_ | refine Go.sb1 (by omega) (by omega) ?_ | refine Go.sbn (by omega) (by omega) ?_ | refine Go.ls (by with_unfolding_all rfl) ?_ | refine Go.ex (by with_unfolding_all rfl) ?_ | refine Go.lnR (by assumption) ?_ | refine Go.lk (by assumption) (by with_unfolding_all rfl) ?_ | refine Go.lk0 (by assumption) (by with_unfolding_all rfl) ?_ | refine Go.lka (by assumption) (by with_unfolding_all rfl) ?_ | refine Go.lkp (by assumption) ?_ | refine Go.la (by with_unfolding_all rfl) ?_ | refine Go.cvB (by assumption) ?_ | refine Go.rd (by assumption) ?_ | refine Go.rd2 (by assumption) ?_ | refine Go.ck (hold_ld (ld_of (by assumption) (by with_unfolding_all rfl))) ?_ | refine Go.ck (hold_ld (ldk_of (by assumption) (by assumption) (by with_unfolding_all rfl))) ?_)
        refine Go.app enU (src1 enU start) (by simp; omega) fun v5 w5' => ?_
        refine Go.keep fun _ _ => ?_
        repeat (with_reducible first | refine Go.s ?_ | refine Go.ad1 (by omega) ?_ | refine Go.adn (by omega) ?_ | refine Go.sb1 (by omega) (by omega) ?_ | refine Go.sbn (by omega) (by omega) ?_ | refine Go.ls (by with_unfolding_all rfl) ?_ | refine Go.ex (by with_unfolding_all rfl) ?_ | refine Go.lnR (by assumption) ?_ | refine Go.lk (by assumption) (by with_unfolding_all rfl) ?_ | refine Go.lk0 (by assumption) (by with_unfolding_all rfl) ?_ | refine Go.lka (by assumption) (by with_unfolding_all rfl) ?_ | refine Go.lkp (by assumption) ?_ | refine Go.la (by with_unfolding_all rfl) ?_ | refine Go.cvB (by assumption) ?_ | refine Go.rd (by assumption) ?_ | refine Go.rd2 (by assumption) ?_ | refine Go.ck (hold_ld (ld_of (by assumption) (by with_unfolding_all rfl))) ?_ | refine Go.ck (hold_ld (ldk_of (by assumption) (by assumption) (by with_unfolding_all rfl))) ?_)
        refine Go.ok fun hs hm => Ok.bind (fin _ _ (hs.re [1, 0] (by decide)).drop) ?_
        rintro z w5 ⟨K1, L1, c1, l1, h1, t1, s1⟩
        refine Ok.go t1 (hm.trans s1) ?_
        refine stay_check h1 (by omega) fun x y x2 y2 K2 w6 l2 => ?_
        repeat (with_reducible first | refine Go.s ?_ | refine Go.ad1 (by omega) ?_ | refine Go.adn (by omega) ?_ | refine Go.sb1 (by omega) (by omega) ?_ | refine Go.sbn (by omega) (by omega) ?_ | refine Go.ls (by with_unfolding_all rfl) ?_ | refine Go.ex (by with_unfolding_all rfl) ?_ | refine Go.lnR (by assumption) ?_ | refine Go.lk (by assumption) (by with_unfolding_all rfl) ?_ | refine Go.lk0 (by assumption) (by with_unfolding_all rfl) ?_ | refine Go.lka (by assumption) (by with_unfolding_all rfl) ?_ | refine Go.lkp (by assumption) ?_ | refine Go.la (by with_unfolding_all rfl) ?_ | refine Go.cvB (by assumption) ?_ | refine Go.rd (by assumption) ?_ | refine Go.rd2 (by assumption) ?_ | refine Go.ck (hold_ld (ld_of (by assumption) (by with_unfolding_all rfl))) ?_ | refine Go.ck (hold_ld (ldk_of (by assumption) (by assumption) (by with_unfolding_all rfl))) ?_)
        refine next K2 L1 c1 last _ _ (l1.trans l2) (h1.mono l2) ?_ ?_ ?_ ?_ ?_ ?_ ?_
        all_goals first | rfl | exact e1 | exact e2 | exact e7 | exact e9 | exact e10 | exact e153

theorem atV_val {vs us : List AV} {s : Int} (h : valV vs s = valV us s) : ((atV vs s).2 && !(atV vs s).1.dead) = ((atV us s).2 && !(atV us s).1.dead) ∧ ((atV vs s).2 = true → (atV vs s).1.dead = false → (atV vs s).1 = (atV us s).1) := by
  unfold valV at h
  generalize atV vs s = p at h ⊢
  generalize atV us s = q at h ⊢
  obtain ⟨a, b⟩ := p
  obtain ⟨a', b'⟩ := q
  cases hb : b <;> cases hd : a.dead <;> cases hb' : b' <;> cases hd' : a'.dead <;> simp [hb, hd, hb', hd'] at h ⊢
  exact h

theorem stay3 {K0 : Hl} {v3 : Value} {ks : List ByteArray} {S U n : Nat} {L LU : List Ent} {c c0 : ByteArray → List AV} {last start : Int} (hn : n ≤ 1000) (hk : ks.length ≤ 30) :
    ∀ (j i : Nat) (K : Hl) (e : Env) (w : World), i + j = ks.length → Le K0 K → RdS K 87 1 encS v3 ks → Stay K L LU c c0 last start n → e 2 = v3 → e 7 = ptr S 0 → e 9 = u64 start → e 10 = ptr U 0 → e 14 = int i → e 153 = undef →
      Go w0 (kn K :: sto S L last :: sto U LU start :: F) w (YL3 e w) (LawQ K0 w0 F) := by
  intro j
  induction j with
  | zero =>
    intro i K e w hij hl0 hr h e2 e7 e9 e10 e14 e153
    unfold YL3
    rw [S9_L3_eq]; unfold S9_L3
    rw [e2, e14, e153]
    repeat (with_reducible first | refine Go.s ?_ | refine Go.ad1 (by omega) ?_ | refine Go.adn (by omega) ?_ | refine Go.sb1 (by omega) (by omega) ?_ | refine Go.sbn (by omega) (by omega) ?_ | refine Go.ls (by with_unfolding_all rfl) ?_ | refine Go.ex (by with_unfolding_all rfl) ?_ | refine Go.lnR (by assumption) ?_ | refine Go.lk (by assumption) (by with_unfolding_all rfl) ?_ | refine Go.lk0 (by assumption) (by with_unfolding_all rfl) ?_ | refine Go.lka (by assumption) (by with_unfolding_all rfl) ?_ | refine Go.lkp (by assumption) ?_ | refine Go.la (by with_unfolding_all rfl) ?_ | refine Go.cvB (by assumption) ?_ | refine Go.rd (by assumption) ?_ | refine Go.rd2 (by assumption) ?_ | refine Go.ck (hold_ld (ld_of (by assumption) (by with_unfolding_all rfl))) ?_ | refine Go.ck (hold_ld (ldk_of (by assumption) (by assumption) (by with_unfolding_all rfl))) ?_)
    refine Go.ci (fun h => absurd (of_decide_eq_true h) (by omega)) fun _ => ?_
    refine Go.ok fun hs hm => ?_
    refine Ok.bind (holds_ok hs) ?_
    rintro v w5 ⟨rfl, t5, s5⟩
    exact ⟨_, _, rfl, rfl, K, hl0, (t5.re [1, 2, 0] (by decide)).drop.drop, hm.trans s5⟩
  | succ j ih =>
    intro i K e w hij hl0 hr h e2 e7 e9 e10 e14 e153
    have hi : i < ks.length := by omega
    obtain ⟨k, hk'⟩ : ∃ k, ks[i]? = some k := ⟨_, List.getElem?_eq_getElem hi⟩
    obtain ⟨p, g1, k1⟩ := hr.get hk' rfl
    unfold YL3
    rw [S9_L3_eq]; unfold S9_L3
    rw [e2, e7, e9, e10, e14, e153]
    repeat (with_reducible first | refine Go.s ?_ | refine Go.ad1 (by omega) ?_ | refine Go.adn (by omega) ?_ | refine Go.sb1 (by omega) (by omega) ?_ | refine Go.sbn (by omega) (by omega) ?_ | refine Go.ls (by with_unfolding_all rfl) ?_ | refine Go.ex (by with_unfolding_all rfl) ?_ | refine Go.lnR (by assumption) ?_ | refine Go.lk (by assumption) (by with_unfolding_all rfl) ?_ | refine Go.lk0 (by assumption) (by with_unfolding_all rfl) ?_ | refine Go.lka (by assumption) (by with_unfolding_all rfl) ?_ | refine Go.lkp (by assumption) ?_ | refine Go.la (by with_unfolding_all rfl) ?_ | refine Go.cvB (by assumption) ?_ | refine Go.rd (by assumption) ?_ | refine Go.rd2 (by assumption) ?_ | refine Go.ck (hold_ld (ld_of (by assumption) (by with_unfolding_all rfl))) ?_ | refine Go.ck (hold_ld (ldk_of (by assumption) (by assumption) (by with_unfolding_all rfl))) ?_)
    refine Go.ci (fun _ => ?_) fun h => absurd (of_decide_eq_false h) (by omega)
    repeat (with_reducible first | refine Go.s ?_ | refine Go.ad1 (by omega) ?_ | refine Go.adn (by omega) ?_ | refine Go.sb1 (by omega) (by omega) ?_ | refine Go.sbn (by omega) (by omega) ?_ | refine Go.ls (by with_unfolding_all rfl) ?_ | refine Go.ex (by with_unfolding_all rfl) ?_ | refine Go.lnR (by assumption) ?_ | refine Go.lk (by assumption) (by with_unfolding_all rfl) ?_ | refine Go.lk0 (by assumption) (by with_unfolding_all rfl) ?_ | refine Go.lka (by assumption) (by with_unfolding_all rfl) ?_ | refine Go.lkp (by assumption) ?_ | refine Go.la (by with_unfolding_all rfl) ?_ | refine Go.cvB (by assumption) ?_ | refine Go.rd (by assumption) ?_ | refine Go.rd2 (by assumption) ?_ | refine Go.ck (hold_ld (ld_of (by assumption) (by with_unfolding_all rfl))) ?_ | refine Go.ck (hold_ld (ldk_of (by assumption) (by assumption) (by with_unfolding_all rfl))) ?_)
    refine Go.ok fun hs hm => ?_
    refine Ok.bind (read_ok (s := start) (key := k) h.s.st h.s.bd (by omega) hs) ?_
    rintro z w1 ⟨K1, x, l1, rfl, hx, t1, s1⟩
    have k1 := k1.mono l1
    refine Ok.go t1 (hm.trans s1) ?_
    repeat (with_reducible first | refine Go.s ?_ | refine Go.ad1 (by omega) ?_ | refine Go.adn (by omega) ?_ | refine Go.sb1 (by omega) (by omega) ?_ | refine Go.sbn (by omega) (by omega) ?_ | refine Go.ls (by with_unfolding_all rfl) ?_ | refine Go.ex (by with_unfolding_all rfl) ?_ | refine Go.lnR (by assumption) ?_ | refine Go.lk (by assumption) (by with_unfolding_all rfl) ?_ | refine Go.lk0 (by assumption) (by with_unfolding_all rfl) ?_ | refine Go.lka (by assumption) (by with_unfolding_all rfl) ?_ | refine Go.lkp (by assumption) ?_ | refine Go.la (by with_unfolding_all rfl) ?_ | refine Go.cvB (by assumption) ?_ | refine Go.rd (by assumption) ?_ | refine Go.rd2 (by assumption) ?_ | refine Go.ck (hold_ld (ld_of (by assumption) (by with_unfolding_all rfl))) ?_ | refine Go.ck (hold_ld (ldk_of (by assumption) (by assumption) (by with_unfolding_all rfl))) ?_)
    refine Go.al fun n1 w1' => ?_
    refine Go.sta (by rfl) (by rfl) fun w1'' => ?_
    repeat (with_reducible first | refine Go.s ?_ | refine Go.ad1 (by omega) ?_ | refine Go.adn (by omega) ?_ | refine Go.sb1 (by omega) (by omega) ?_ | refine Go.sbn (by omega) (by omega) ?_ | refine Go.ls (by with_unfolding_all rfl) ?_ | refine Go.ex (by with_unfolding_all rfl) ?_ | refine Go.lnR (by assumption) ?_ | refine Go.lk (by assumption) (by with_unfolding_all rfl) ?_ | refine Go.lk0 (by assumption) (by with_unfolding_all rfl) ?_ | refine Go.lka (by assumption) (by with_unfolding_all rfl) ?_ | refine Go.lkp (by assumption) ?_ | refine Go.la (by with_unfolding_all rfl) ?_ | refine Go.cvB (by assumption) ?_ | refine Go.rd (by assumption) ?_ | refine Go.rd2 (by assumption) ?_ | refine Go.ck (hold_ld (ld_of (by assumption) (by with_unfolding_all rfl))) ?_ | refine Go.ck (hold_ld (ldk_of (by assumption) (by assumption) (by with_unfolding_all rfl))) ?_)
    refine Go.ok fun hs hm => ?_
    refine Ok.bind (read_ok (s := start) (key := k) (h.u.st.mono l1) h.u.bd (by omega) (hs.re [1, 3, 0, 2] (by decide))) ?_
    rintro z w2 ⟨K2, y, l2, rfl, hy, t2, s2⟩
    have t2 : Sat w2 (kn K2 :: sto U LU start :: pt n1 (encVer x) 85 :: sto S L last :: F) := t2
    refine Ok.go t2 (hm.trans s2) ?_
    repeat (with_reducible first | refine Go.s ?_ | refine Go.ad1 (by omega) ?_ | refine Go.adn (by omega) ?_ | refine Go.sb1 (by omega) (by omega) ?_ | refine Go.sbn (by omega) (by omega) ?_ | refine Go.ls (by with_unfolding_all rfl) ?_ | refine Go.ex (by with_unfolding_all rfl) ?_ | refine Go.lnR (by assumption) ?_ | refine Go.lk (by assumption) (by with_unfolding_all rfl) ?_ | refine Go.lk0 (by assumption) (by with_unfolding_all rfl) ?_ | refine Go.lka (by assumption) (by with_unfolding_all rfl) ?_ | refine Go.lkp (by assumption) ?_ | refine Go.la (by with_unfolding_all rfl) ?_ | refine Go.cvB (by assumption) ?_ | refine Go.rd (by assumption) ?_ | refine Go.rd2 (by assumption) ?_ | refine Go.ck (hold_ld (ld_of (by assumption) (by with_unfolding_all rfl))) ?_ | refine Go.ck (hold_ld (ldk_of (by assumption) (by assumption) (by with_unfolding_all rfl))) ?_)
    refine Go.al fun n2 w2' => ?_
    refine Go.sta (by rfl) (by rfl) fun w2'' => ?_
    have hx := hx.mono l2
    have hpl1 : ∀ vs : List AV, PlB vs → (atV vs start).1.places.length ≤ 2 ^ 60 := by
      intro vs hvs
      unfold atV
      split
      · cases ha : atA vs start with
        | none => exact Nat.zero_le _
        | some b =>
          have := hvs b (List.mem_of_find?_eq_some ha)
          show b.places.length ≤ 2 ^ 60
          omega
      · exact Nat.zero_le _
    have hpl := hpl1 (c k) (h.s.bd.pl k)
    obtain ⟨hv1, hv2⟩ := atV_val (h.val k)
    generalize atV (c k) start = p at hx hv1 hv2 hpl ⊢
    generalize atV (c0 k) start = q at hy hv1 hv2 ⊢
    obtain ⟨a, A⟩ := p
    obtain ⟨b, B⟩ := q
    obtain ⟨xst, xdd, xpv, xg, xz⟩ := x
    obtain ⟨yst, ydd, ypv, yg, yz⟩ := y
    have hxd : xdd = a.dead := hx.dead
    have hyd : ydd = b.dead := hy.dead
    subst hxd hyd
    have next : ∀ (l1 l2 : List Value) (K' : Hl) (e' : Env) (w' : World), Le K K' → e' 2 = v3 → e' 7 = ptr S 0 → e' 9 = u64 start → e' 10 = ptr U 0 → e' 14 = int (i + 1 : Nat) → e' 153 = undef →
        Go w0 (pt n2 l2 85 :: kn K' :: sto U LU start :: pt n1 l1 85 :: sto S L last :: F) w' (YL3 e' w') (LawQ K0 w0 F) := fun _ _ K' e' w' l' e2 e7 e9 e10 e14 e153 => by
      refine Go.dr ?_
      refine Go.re [2, 0, 3, 1] (by decide) ?_
      exact Go.dr (ih (i + 1) K' e' w' (by omega) (hl0.trans l') (hr.mono l') (h.mono l') e2 e7 e9 e10 e14 e153)
    have l12 := l1.trans l2
    cases hd : a.dead <;> cases hb : b.dead <;> cases A <;> cases B <;> simp [hd, hb] at hv1
    all_goals dsimp only
    all_goals repeat (with_reducible first | refine Go.s ?_ | refine Go.ad1 (by omega) ?_ | refine Go.adn (by omega) ?_ | refine Go.sb1 (by omega) (by omega) ?_ | refine Go.sbn (by omega) (by omega) ?_ | refine Go.ls (by with_unfolding_all rfl) ?_ | refine Go.ex (by with_unfolding_all rfl) ?_ | refine Go.lnR (by assumption) ?_ | refine Go.lk (by assumption) (by with_unfolding_all rfl) ?_ | refine Go.lk0 (by assumption) (by with_unfolding_all rfl) ?_ | refine Go.lka (by assumption) (by with_unfolding_all rfl) ?_ | refine Go.lkp (by assumption) ?_ | refine Go.la (by with_unfolding_all rfl) ?_ | refine Go.cvB (by assumption) ?_ | refine Go.rd (by assumption) ?_ | refine Go.rd2 (by assumption) ?_ | refine Go.ck (hold_ld (ld_of (by assumption) (by with_unfolding_all rfl))) ?_ | refine Go.ck (hold_ld (ldk_of (by assumption) (by assumption) (by with_unfolding_all rfl))) ?_)
    all_goals first | (refine next _ _ K2 _ _ l12 ?_ ?_ ?_ ?_ ?_ ?_ <;> first | rfl | exact e2 | exact e7 | exact e9 | exact e10 | exact e153) | skip
    have hab : a = b := hv2 rfl hd
    rw [hd] at hx
    rw [hb] at hy
    refine Go.ok fun hs hm => ?_
    refine Ok.bind (same42_ok hx hy hpl (hs.re [1, 0] (by decide))) ?_
    rintro z w3 ⟨rfl, t3, s3⟩
    rw [decide_eq_true hab]
    refine Ok.go (t3.re [1, 0] (by decide)) (hm.trans s3) ?_
    repeat (with_reducible first | refine Go.s ?_ | refine Go.ad1 (by omega) ?_ | refine Go.adn (by omega) ?_ | refine Go.sb1 (by omega) (by omega) ?_ | refine Go.sbn (by omega) (by omega) ?_ | refine Go.ls (by with_unfolding_all rfl) ?_ | refine Go.ex (by with_unfolding_all rfl) ?_ | refine Go.lnR (by assumption) ?_ | refine Go.lk (by assumption) (by with_unfolding_all rfl) ?_ | refine Go.lk0 (by assumption) (by with_unfolding_all rfl) ?_ | refine Go.lka (by assumption) (by with_unfolding_all rfl) ?_ | refine Go.lkp (by assumption) ?_ | refine Go.la (by with_unfolding_all rfl) ?_ | refine Go.cvB (by assumption) ?_ | refine Go.rd (by assumption) ?_ | refine Go.rd2 (by assumption) ?_ | refine Go.ck (hold_ld (ld_of (by assumption) (by with_unfolding_all rfl))) ?_ | refine Go.ck (hold_ld (ldk_of (by assumption) (by assumption) (by with_unfolding_all rfl))) ?_)
    refine next _ _ K2 _ _ l12 ?_ ?_ ?_ ?_ ?_ ?_
    all_goals first | rfl | exact e2 | exact e7 | exact e9 | exact e10 | exact e153

theorem stays_ok {K : Hl} {v1 v2 v3 : Value} {xs ys : List MAct} {gs hh : List AAct} {ks : List ByteArray} (hI : YIn K v1 v2 v3 xs gs ys hh ks) (hs : Sat w (kn K :: F)) : Ok (Fn Pg 9 [v1, v2, v3] w) (LawQ K w F) := by
  rw [F9]; unfold S9
  have bad : ∀ w1 : World, Go w (kn K :: F) w1 (rd2 (Fn Pg 30 [] w1) fun x w' => some (x, w')) (LawQ K w F) := fun w1 => Go.ok fun hs hm => by
    refine Ok.bind (holds_ok hs) ?_
    rintro z w2 ⟨rfl, t2, s2⟩
    exact ⟨_, _, rfl, rfl, K, Le.refl K, t2, hm.trans s2⟩
  refine Ok.bind (few29_ok hI.r1 hI.x1 hs) ?_
  rintro z w1 ⟨⟨b, rfl, hb⟩, t1, s1⟩
  refine Ok.go t1 s1 ?_
  cases b with
  | false => repeat (with_reducible first | refine Go.s ?_ | refine Go.ad1 (by omega) ?_ | refine Go.adn (by omega) ?_ | refine Go.sb1 (by omega) (by omega) ?_ | refine Go.sbn (by omega) (by omega) ?_ | refine Go.ls (by with_unfolding_all rfl) ?_ | refine Go.ex (by with_unfolding_all rfl) ?_ | refine Go.lnR (by assumption) ?_ | refine Go.lk (by assumption) (by with_unfolding_all rfl) ?_ | refine Go.lk0 (by assumption) (by with_unfolding_all rfl) ?_ | refine Go.lka (by assumption) (by with_unfolding_all rfl) ?_ | refine Go.lkp (by assumption) ?_ | refine Go.la (by with_unfolding_all rfl) ?_ | refine Go.cvB (by assumption) ?_ | refine Go.rd (by assumption) ?_ | refine Go.rd2 (by assumption) ?_ | refine Go.ck (hold_ld (ld_of (by assumption) (by with_unfolding_all rfl))) ?_ | refine Go.ck (hold_ld (ldk_of (by assumption) (by assumption) (by with_unfolding_all rfl))) ?_); exact bad _
  | true =>
    have hf := hb rfl
    repeat (with_reducible first | refine Go.s ?_ | refine Go.ad1 (by omega) ?_ | refine Go.adn (by omega) ?_ | refine Go.sb1 (by omega) (by omega) ?_ | refine Go.sbn (by omega) (by omega) ?_ | refine Go.ls (by with_unfolding_all rfl) ?_ | refine Go.ex (by with_unfolding_all rfl) ?_ | refine Go.lnR (by assumption) ?_ | refine Go.lk (by assumption) (by with_unfolding_all rfl) ?_ | refine Go.lk0 (by assumption) (by with_unfolding_all rfl) ?_ | refine Go.lka (by assumption) (by with_unfolding_all rfl) ?_ | refine Go.lkp (by assumption) ?_ | refine Go.la (by with_unfolding_all rfl) ?_ | refine Go.cvB (by assumption) ?_ | refine Go.rd (by assumption) ?_ | refine Go.rd2 (by assumption) ?_ | refine Go.ck (hold_ld (ld_of (by assumption) (by with_unfolding_all rfl))) ?_ | refine Go.ck (hold_ld (ldk_of (by assumption) (by assumption) (by with_unfolding_all rfl))) ?_)
    refine Go.ok fun hs hm => Ok.bind (few29_ok hI.r2 hI.x2 hs) ?_
    rintro z w2 ⟨⟨b2, rfl, hb2⟩, t2, s2⟩
    refine Ok.go t2 (hm.trans s2) ?_
    cases b2 with
    | false => repeat (with_reducible first | refine Go.s ?_ | refine Go.ad1 (by omega) ?_ | refine Go.adn (by omega) ?_ | refine Go.sb1 (by omega) (by omega) ?_ | refine Go.sbn (by omega) (by omega) ?_ | refine Go.ls (by with_unfolding_all rfl) ?_ | refine Go.ex (by with_unfolding_all rfl) ?_ | refine Go.lnR (by assumption) ?_ | refine Go.lk (by assumption) (by with_unfolding_all rfl) ?_ | refine Go.lk0 (by assumption) (by with_unfolding_all rfl) ?_ | refine Go.lka (by assumption) (by with_unfolding_all rfl) ?_ | refine Go.lkp (by assumption) ?_ | refine Go.la (by with_unfolding_all rfl) ?_ | refine Go.cvB (by assumption) ?_ | refine Go.rd (by assumption) ?_ | refine Go.rd2 (by assumption) ?_ | refine Go.ck (hold_ld (ld_of (by assumption) (by with_unfolding_all rfl))) ?_ | refine Go.ck (hold_ld (ldk_of (by assumption) (by assumption) (by with_unfolding_all rfl))) ?_); exact bad _
    | true =>
      have hf2 := hb2 rfl
      have hr3 := hI.r3
      repeat (with_reducible first | refine Go.s ?_ | refine Go.ad1 (by omega) ?_ | refine Go.adn (by omega) ?_ | refine Go.sb1 (by omega) (by omega) ?_ | refine Go.sbn (by omega) (by omega) ?_ | refine Go.ls (by with_unfolding_all rfl) ?_ | refine Go.ex (by with_unfolding_all rfl) ?_ | refine Go.lnR (by assumption) ?_ | refine Go.lk (by assumption) (by with_unfolding_all rfl) ?_ | refine Go.lk0 (by assumption) (by with_unfolding_all rfl) ?_ | refine Go.lka (by assumption) (by with_unfolding_all rfl) ?_ | refine Go.lkp (by assumption) ?_ | refine Go.la (by with_unfolding_all rfl) ?_ | refine Go.cvB (by assumption) ?_ | refine Go.rd (by assumption) ?_ | refine Go.rd2 (by assumption) ?_ | refine Go.ck (hold_ld (ld_of (by assumption) (by with_unfolding_all rfl))) ?_ | refine Go.ck (hold_ld (ldk_of (by assumption) (by assumption) (by with_unfolding_all rfl))) ?_)
      refine Go.ci (fun _ => ?_) fun h => ?_
      · exact bad _
      · have hk : ks.length ≤ 30 := by
          have := of_decide_eq_false h
          omega
        refine Go.ok fun hs hm => Ok.bind (snew_ok hs) ?_
        rintro z w3 ⟨S, rfl, t3, s3⟩
        refine Ok.go t3.sw (hm.trans s3) ?_
        refine stay1 (K0 := K) (Q := LawQ K w F) hf ?_ gs.length 0 K [] _ 0 _ w3 (by omega) (Le.refl K) hI (Came.new K) rfl rfl rfl rfl rfl rfl
        intro K1 L c last e w4 l1 hI hc e0 e1 e2 e7 e8 e153
        have hgl := hf.1
        have hhl := hf2.1
        unfold YL1
        have hr1 := hI.r1
        rw [S9_L1_eq]; unfold S9_L1
        rw [e0, e7, e8]
        repeat (with_reducible first | refine Go.s ?_ | refine Go.ad1 (by omega) ?_ | refine Go.adn (by omega) ?_ | refine Go.sb1 (by omega) (by omega) ?_ | refine Go.sbn (by omega) (by omega) ?_ | refine Go.ls (by with_unfolding_all rfl) ?_ | refine Go.ex (by with_unfolding_all rfl) ?_ | refine Go.lnR (by assumption) ?_ | refine Go.lk (by assumption) (by with_unfolding_all rfl) ?_ | refine Go.lk0 (by assumption) (by with_unfolding_all rfl) ?_ | refine Go.lka (by assumption) (by with_unfolding_all rfl) ?_ | refine Go.lkp (by assumption) ?_ | refine Go.la (by with_unfolding_all rfl) ?_ | refine Go.cvB (by assumption) ?_ | refine Go.rd (by assumption) ?_ | refine Go.rd2 (by assumption) ?_ | refine Go.ck (hold_ld (ld_of (by assumption) (by with_unfolding_all rfl))) ?_ | refine Go.ck (hold_ld (ldk_of (by assumption) (by assumption) (by with_unfolding_all rfl))) ?_)
        rw [hI.x1.len]
        refine Go.ci (fun h => absurd (of_decide_eq_true h) (by omega)) fun _ => ?_
        refine Go.ok fun hs hm => ?_
        refine Ok.rd2 (slast_ok hs 1 rfl) ?_
        refine Ok.bind (scopy_ok hs.sw) ?_
        rintro z w5 ⟨U, rfl, t5, s5⟩
        refine Ok.go (t5.re [2, 1, 0] (by decide)) (hm.trans s5) ?_
        refine stay2 (K0 := K) (Q := LawQ K w F) (gs := gs) (xs := xs) (v1 := v1) hf2 ?_ hh.length 0 K1 L c last _ w5 (by omega) l1 hI ⟨hc.more (by omega), hc.more (by omega), Int.le_refl _, fun _ => rfl⟩ ?_ ?_ ?_ ?_ ?_ ?_ ?_
        · intro K2 L2 c2 last2 e w6 l2 hI h e1 e2 e7 e9 e10 e11 e153
          have hr2 := hI.r2
          unfold YL2
          rw [S9_L2_eq]; unfold S9_L2
          rw [e1, e11]
          repeat (with_reducible first | refine Go.s ?_ | refine Go.ad1 (by omega) ?_ | refine Go.adn (by omega) ?_ | refine Go.sb1 (by omega) (by omega) ?_ | refine Go.sbn (by omega) (by omega) ?_ | refine Go.ls (by with_unfolding_all rfl) ?_ | refine Go.ex (by with_unfolding_all rfl) ?_ | refine Go.lnR (by assumption) ?_ | refine Go.lk (by assumption) (by with_unfolding_all rfl) ?_ | refine Go.lk0 (by assumption) (by with_unfolding_all rfl) ?_ | refine Go.lka (by assumption) (by with_unfolding_all rfl) ?_ | refine Go.lkp (by assumption) ?_ | refine Go.la (by with_unfolding_all rfl) ?_ | refine Go.cvB (by assumption) ?_ | refine Go.rd (by assumption) ?_ | refine Go.rd2 (by assumption) ?_ | refine Go.ck (hold_ld (ld_of (by assumption) (by with_unfolding_all rfl))) ?_ | refine Go.ck (hold_ld (ldk_of (by assumption) (by assumption) (by with_unfolding_all rfl))) ?_)
          rw [hI.x2.len]
          refine Go.ci (fun h => absurd (of_decide_eq_true h) (by omega)) fun _ => ?_
          refine stay3 (v3 := v3) (n := 40 + hh.length) (by omega) hk ks.length 0 K2 _ w6 (by omega) l2 hI.r3 h ?_ ?_ ?_ ?_ ?_ ?_
          all_goals first | rfl | exact e2 | exact e7 | exact e9 | exact e10 | exact e153
        all_goals first | rfl | exact e1 | exact e2 | exact e7 | exact e153
end Go.Cb