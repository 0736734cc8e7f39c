/- Plain laws of a barrel's brand. -/
import Derived.Test.YthcplmlkgaiggaaBxSpec3
set_option linter.unusedSimpArgs false
set_option linter.unusedVariables false
namespace Bm
open Go Go.Sx

/-- The least number of the last ones of which something is so. -/
def lastR (p : Nat → Bool) (n : Nat) : Nat → Int
  | 0 => -1
  | d + 1 => if p (n - (d + 1)) then ((n - (d + 1) : Nat) : Int) else lastR p n d

theorem lastR_out {p : Nat → Bool} {n : Nat} : ∀ d, d ≤ n → (∃ i, n - d ≤ i ∧ i < n ∧ p i = true ∧ (∀ j, n - d ≤ j → j < i → p j = false) ∧ lastR p n d = i) ∨ ((∀ j, n - d ≤ j → j < n → p j = false) ∧ lastR p n d = -1)
  | 0, _ => .inr ⟨fun j h1 h2 => by omega, rfl⟩
  | d + 1, h => by
    unfold lastR
    by_cases hp : p (n - (d + 1)) = true
    · rw [if_pos hp]
      exact .inl ⟨n - (d + 1), Nat.le_refl _, by omega, hp, fun j h1 h2 => by omega, rfl⟩
    · rw [if_neg hp]
      have hp : p (n - (d + 1)) = false := by simpa using hp
      have cut : ∀ j, n - (d + 1) ≤ j → j = n - (d + 1) ∨ n - d ≤ j := fun j hj => by omega
      rcases lastR_out (p := p) (n := n) d (by omega) with ⟨i, h1, h2, h3, h4, h5⟩ | ⟨h1, h2⟩
      · refine .inl ⟨i, by omega, h2, h3, fun j k1 k2 => ?_, h5⟩
        rcases cut j k1 with e | e
        · rw [e]; exact hp
        · exact h4 j e k2
      · refine .inr ⟨fun j k1 k2 => ?_, h2⟩
        rcases cut j k1 with e | e
        · rw [e]; exact hp
        · exact h1 j e k2

theorem lastR_all {p : Nat → Bool} {n : Nat} : (fst p n < n ∧ lastR p n n = fst p n) ∨ (fst p n = n ∧ lastR p n n = -1) := by
  rcases lastR_out (p := p) (n := n) n (Nat.le_refl _) with ⟨i, _, h2, h3, h4, h5⟩ | ⟨h1, h2⟩
  · have := fst_of (n := n) h2 h3 (fun j hj => h4 j (by omega) hj)
    exact .inl ⟨by omega, by rw [h5, this]⟩
  · exact .inr ⟨fst_none fun j hj => h1 j (by omega) hj, h2⟩

theorem grade_cases (n : Nat) (m : Nat → Nat → Int) (b : Nat → Int) : gradeE n m b = 0 ∨ gradeE n m b = 4 ∨ gradeE n m b = 70 ∨ gradeE n m b = 73 := by
  unfold gradeE
  repeat' split
  all_goals simp
theorem gradeN_no {n : Nat} {m : Nat → Nat → Int} {b : Nat → Int} (h : ¬ gradeE n m b = 0) : gradeN n m b = 0 := by unfold gradeN; rw [if_neg h]
theorem grade_in {n : Nat} {m : Nat → Nat → Int} {b : Nat → Int} (h : gradeE n m b = 0 ∨ gradeE n m b = 4) : marksOk n m = true ∧ barOk b = true ∧ 1 ≤ n ∧ n ≤ 5 ∧ (gradeE n m b = 0 ↔ gradeI n m b < n) := by
  by_cases h1 : marksOk n m = true
  · by_cases h2 : barOk b = true
    · have hn := h1
      unfold marksOk at hn
      rw [Bool.and_eq_true, within_iff] at hn
      refine ⟨h1, h2, by omega, by omega, ?_⟩
      unfold gradeE
      rw [if_pos h1, if_pos h2]
      split
      · rename_i h3; exact ⟨fun _ => h3, fun _ => rfl⟩
      · rename_i h3; exact ⟨fun h => absurd h (by decide), fun h => absurd h h3⟩
    · exfalso
      have : gradeE n m b = 73 := by unfold gradeE; rw [if_pos h1, if_neg h2]
      omega
  · exfalso
    have : gradeE n m b = 70 := by unfold gradeE; rw [if_neg h1]
    omega
/-- From the last barrel's brand backwards: the brand that is told. -/
theorem grade_last {n : Nat} {m : Nat → Nat → Int} {b : Nat → Int} (h : gradeE n m b = 0 ∨ gradeE n m b = 4) : (0 ≤ lastR (fun i => reach (m i) b) n n ↔ gradeE n m b = 0) ∧ (gradeE n m b = 0 → lastR (fun i => reach (m i) b) n n = gradeN n m b) := by
  obtain ⟨_, _, _, _, hi⟩ := grade_in h
  have hg : gradeI n m b = fst (fun i => reach (m i) b) n := rfl
  rcases lastR_all (p := fun i => reach (m i) b) (n := n) with ⟨h1, h2⟩ | ⟨h1, h2⟩
  · rw [h2, ← hg]
    exact ⟨⟨fun _ => hi.2 (by omega), fun _ => by omega⟩, fun h0 => by unfold gradeN; rw [if_pos h0]⟩
  · rw [h2]
    have hne : ¬ gradeE n m b = 0 := fun h0 => by have := hi.1 h0; omega
    exact ⟨⟨fun h => absurd h (by omega), fun h => absurd h hne⟩, fun h0 => absurd h0 hne⟩
/-- With a brand more behind the others. -/
theorem grade_more {n : Nat} {m m' : Nat → Nat → Int} {b b' : Nat → Int} (h : gradeE n m b = 0) (hm : ∀ i, i < n → ∀ j, j < 8 → m' i j = m i j) (hb : ∀ j, j < 4 → b' j = b j) (h70 : ¬ gradeE (n + 1) m' b' = 70) : gradeE (n + 1) m' b' = 0 ∧ gradeN (n + 1) m' b' = gradeN n m b := by
  obtain ⟨h1, h2, h3, h4, h5⟩ := grade_in (.inl h)
  have hi := h5.1 h
  have hr : ∀ i, i < n → reach (m' i) b' = reach (m i) b := fun i hi => by
    unfold reach
    refine allB_congr fun q hq => ?_
    show within (b' q) (m' i (q * 2)) (m' i (q * 2 + 1)) = within (b q) (m i (q * 2)) (m i (q * 2 + 1))
    rw [hb q hq, hm i hi _ (by omega), hm i hi _ (by omega)]
  have hk : marksOk (n + 1) m' = true := by
    apply Classical.byContradiction
    intro hn
    exact h70 (by unfold gradeE; rw [if_neg hn])
  have hb2 : barOk b' = true := by
    rw [← h2]
    unfold barOk
    refine allB_congr fun q hq => ?_
    rw [hb q hq]
  have hg : gradeI n m b = fst (fun i => reach (m i) b) n := rfl
  have hg' : gradeI (n + 1) m' b' = gradeI n m b := by
    refine fst_of (n := n + 1) (by omega) ?_ fun j hj => ?_
    · show reach (m' (gradeI n m b)) b' = true
      rw [hr _ hi]
      exact fst_at (p := fun i => reach (m i) b) hi
    · show reach (m' j) b' = false
      rw [hr _ (by omega)]
      exact fst_before (p := fun i => reach (m i) b) (n := n) hj
  have h0 : gradeE (n + 1) m' b' = 0 := by
    unfold gradeE
    rw [if_pos hk, if_pos hb2, if_pos (by omega)]
  refine ⟨h0, ?_⟩
  unfold gradeN
  rw [if_pos h0, if_pos h, hg']
end Bm
