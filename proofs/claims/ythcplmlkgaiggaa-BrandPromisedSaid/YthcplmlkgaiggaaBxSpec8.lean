/- Plain laws of a lot's brand. -/
import Derived.Test.YthcplmlkgaiggaaBxSpec7
set_option linter.unusedSimpArgs false
set_option linter.unusedVariables false
namespace Bm
open Go Go.Sx

theorem alw_out {N o : Nat} {r : Nat → Int} : ∀ j : Nat, (alw N o r j = -1 ∧ ∀ a, a < j → keeps N o a r = false) ∨ ∃ a, a < j ∧ alw N o r j = a ∧ keeps N o a r = true ∧ ∀ a', a < a' → a' < j → keeps N o a' r = false
  | 0 => .inl ⟨rfl, fun a h => absurd h (Nat.not_lt_zero a)⟩
  | j + 1 => by
    unfold alw
    by_cases hk : keeps N o j r = true
    · rw [if_pos hk]
      exact .inr ⟨j, by omega, rfl, hk, fun a' h1 h2 => by omega⟩
    · rw [if_neg hk]
      have hk : keeps N o j r = false := by simpa using hk
      rcases alw_out (N := N) (o := o) (r := r) j with ⟨h1, h2⟩ | ⟨a, h1, h2, h3, h4⟩
      · refine .inl ⟨h1, fun a ha => ?_⟩
        by_cases e : a = j
        · rw [e]; exact hk
        · exact h2 a (by omega)
      · refine .inr ⟨a, by omega, h2, h3, fun a' k1 k2 => ?_⟩
        by_cases e : a' = j
        · rw [e]; exact hk
        · exact h4 a' k1 (by omega)

theorem pr_no {x : PrIn} (h : ¬ prE x = 0) : prW x = 0 ∧ prA x = 0 := by
  unfold prW prA; rw [if_neg h, if_neg h]; exact ⟨rfl, rfl⟩

theorem pr_in {x : PrIn} (h : prE x = 0) : marksOk x.n x.m = true ∧ ruledE x.N x.r = 0 ∧ prOk x = true ∧ prI x < x.n ∧ prW x = prI x ∧ prA x = prAl x := by
  by_cases h1 : marksOk x.n x.m = true
  · by_cases h2 : ruledE x.N x.r = 0
    · by_cases h3 : prOk x = true
      · by_cases h4 : prI x < x.n
        · refine ⟨h1, h2, h3, h4, ?_, ?_⟩
          · unfold prW; rw [if_pos h]
          · unfold prA; rw [if_pos h]
        · exfalso
          have : prE x = 4 := by unfold prE; rw [if_pos h1, if_pos h2, if_pos h3, if_neg h4]
          omega
      · exfalso
        have : prE x = 73 := by unfold prE; rw [if_pos h1, if_pos h2, if_neg h3]
        omega
    · exfalso
      have : prE x = ruledE x.N x.r := by unfold prE; rw [if_pos h1, if_neg h2]
      omega
  · exfalso
    have : prE x = 70 := by unfold prE; rw [if_neg h1]
    omega

/-- All that is known of a lot that is promised a brand. -/
theorem pr_good {x : PrIn} (h : prE x = 0) : ∃ W A N : Nat, prW x = W ∧ prI x = W ∧ prA x = A ∧ x.N = N ∧ 1 ≤ N ∧ N ≤ 40 ∧ W < x.n ∧ x.n ≤ 5 ∧ A ≤ x.no ∧ x.no ≤ N ∧ ruledE x.N x.r = 0 ∧ keeps N x.no A x.r = true ∧ (A < x.no → keeps N x.no (A + 1) x.r = false) ∧
    (∀ i, i ≤ W → ((cnt (x.m i) x.op x.no : Int) ≤ A ↔ i = W)) ∧ (∀ i, i < x.n → markOk (x.m i) = true) ∧ (∀ k, k < x.no → barOk (x.op k) = true) := by
  obtain ⟨h1, h2, h3, h4, h5, h6⟩ := pr_in h
  obtain ⟨w, hr⟩ := ruled_inv h2
  rw [within_iff] at w
  have hm := h1
  unfold marksOk at hm
  rw [Bool.and_eq_true, within_iff] at hm
  have ho := h3
  unfold prOk at ho
  rw [Bool.and_eq_true, decide_eq_true_eq] at ho
  have hi : (cnt (x.m (prI x)) x.op x.no : Int) ≤ prAl x := by
    have := fst_at (p := fun i => decide ((cnt (x.m i) x.op x.no : Int) ≤ prAl x)) (n := x.n) h4
    exact of_decide_eq_true this
  have hb : ∀ i, i < prI x → ¬ (cnt (x.m i) x.op x.no : Int) ≤ prAl x := fun i hi => by
    have := fst_before (p := fun i => decide ((cnt (x.m i) x.op x.no : Int) ≤ prAl x)) (n := x.n) hi
    exact of_decide_eq_false this
  have hA : prAl x = alw x.N.toNat x.no x.r (x.no + 1) := rfl
  rcases alw_out (N := x.N.toNat) (o := x.no) (r := x.r) (x.no + 1) with ⟨k1, k2⟩ | ⟨a, k1, k2, k3, k4⟩
  · exfalso
    rw [hA, k1] at hi
    omega
  · rw [hA, k2] at hi hb h6
    refine ⟨prI x, a, x.N.toNat, h5, rfl, h6, by omega, by omega, by omega, h4, by omega, by omega, by omega, h2, k3, fun hlt => k4 (a + 1) (by omega) (by omega), fun i hi' => ⟨fun hc => ?_, fun e => by rw [e]; exact hi⟩, allB_iff.1 hm.2, allB_iff.1 ho.2⟩
    apply Classical.byContradiction
    intro hne
    exact hb i (by omega) hc

theorem grade_one {m : Nat → Nat → Int} {b : Nat → Int} (hm : markOk (m 0) = true) (hb : barOk b = true) : gradeE 1 m b = 0 ↔ reach (m 0) b = true := by
  have h1 : marksOk 1 m = true := by
    unfold marksOk
    rw [Bool.and_eq_true, within_iff, allB_iff]
    refine ⟨by omega, fun i hi => ?_⟩
    obtain rfl : i = 0 := by omega
    exact hm
  have e : gradeI 1 m b = if reach (m 0) b = true then 0 else 1 := by
    unfold gradeI fst fst
    simp
  unfold gradeE
  rw [if_pos h1, if_pos hb, e]
  by_cases hr : reach (m 0) b = true
  · simp [hr]
  · simp [hr]

theorem cnt_mono {m : Nat → Int} {op op' : Nat → Nat → Int} : ∀ {k : Nat}, (∀ i, i < k → reach m (op i) = true → reach m (op' i) = true) → cnt m op' k ≤ cnt m op k
  | 0, _ => Nat.le_refl _
  | k + 1, h => by
    have ih := cnt_mono (m := m) (op := op) (op' := op') (k := k) (fun i hi => h i (by omega))
    have hk := h k (by omega)
    unfold cnt
    by_cases h1 : reach m (op k) = true
    · rw [if_pos h1, if_pos (hk h1)]; omega
    · rw [if_neg h1]
      split <;> omega

/-- A barrel with the Low of each span. -/
def lows (m : Nat → Int) : Nat → Int := fun j => m (j * 2)
theorem lows_ok {m : Nat → Int} (h : markOk m = true) : barOk (lows m) = true ∧ reach m (lows m) = true := by
  have hs : ∀ q, q < 4 → 0 ≤ m (q * 2) ∧ m (q * 2) ≤ m (q * 2 + 1) ∧ m (q * 2 + 1) ≤ 1000 := fun q hq => by
    have := allB_iff.1 h q hq
    unfold spanOk at this
    simp only [Bool.and_eq_true, decide_eq_true_eq] at this
    omega
  constructor
  · refine allB_iff.2 fun q hq => ?_
    have := hs q hq
    exact within_iff.2 ⟨this.1, by show m (q * 2) ≤ 1000; omega⟩
  · refine allB_iff.2 fun q hq => ?_
    have := hs q hq
    exact within_iff.2 ⟨Int.le_refl _, this.2.1⟩

/-- With a barrel that reaches the brand in the place of another one no later brand is promised. -/
theorem pr_better {x : PrIn} (h : prE x = 0) {W K : Nat} (hW : prI x = W) {op' : Nat → Nat → Int} (hop : ∀ i, op' i = if i = K then lows (x.m W) else x.op i) :
    prE { x with op := op' } = 0 ∧ prW { x with op := op' } ≤ prW x := by
  obtain ⟨W', A, N, g1, g2, g3, g4, g5, g6, g7, g8, g9, g10, g11, g12, g13, g14, g15, g16⟩ := pr_good h
  obtain rfl : W = W' := by omega
  obtain ⟨h1, h2, h3, h4, h5, h6⟩ := pr_in h
  obtain ⟨l1, l2⟩ := lows_ok (g15 W g7)
  have hok : prOk { x with op := op' } = true := by
    unfold prOk
    rw [Bool.and_eq_true, decide_eq_true_eq, allB_iff]
    refine ⟨by show (x.no : Int) ≤ x.N; omega, fun k hk => ?_⟩
    show barOk (op' k) = true
    rw [hop]
    split
    · exact l1
    · exact g16 k hk
  have hc : cnt (x.m W) op' x.no ≤ cnt (x.m W) x.op x.no := cnt_mono fun i hi hr => by
    rw [hop]
    split
    · exact l2
    · exact hr
  have hp : decide ((cnt (x.m W) op' x.no : Int) ≤ prAl x) = true := by
    have := (g14 W (Nat.le_refl _)).2 rfl
    rw [decide_eq_true_eq, ← h6, g3]
    omega
  have hI : prI { x with op := op' } ≤ W := Nat.le_of_not_lt fun hlt => by
    have := fst_before (p := fun i => decide ((cnt (x.m i) op' x.no : Int) ≤ prAl x)) (n := x.n) hlt
    exact Bool.noConfusion (hp.symm.trans this)
  have hE : prE { x with op := op' } = 0 := by
    unfold prE
    rw [if_pos (show marksOk x.n x.m = true from h1), if_pos (show ruledE x.N x.r = 0 from h2), if_pos hok, if_pos (show prI { x with op := op' } < x.n by omega)]
  refine ⟨hE, ?_⟩
  rw [(pr_in hE).2.2.2.2.1, g1]
  omega
end Bm
