/- Plain mathematics for brands: fractions, compared by whole parts, and then by what is left of them, turned about. -/
import Derived.Test.YthcplmlkgaiggaaBxMath
set_option linter.unusedSimpArgs false
set_option linter.unusedVariables false
namespace Bm

/-- Whole parts that are different decide. -/
theorem frac_whole {a m b n : Nat} (hm : 0 < m) (hn : 0 < n) (h : a / m ≠ b / n) : (a / m < b / n) ↔ a * n < b * m := by
  have h1 := Nat.div_add_mod a m
  have h2 := Nat.div_add_mod b n
  have h3 := Nat.mod_lt a hm
  have h4 := Nat.mod_lt b hn
  generalize a / m = x at *
  generalize b / n = y at *
  generalize a % m = r at *
  generalize b % n = s at *
  have key : ∀ {x y r s m n : Nat}, 0 < n → r < m → x < y → (m * x + r) * n < (n * y + s) * m := fun {x y r s m n} hn' hr hxy => by
    · have e1 : (m * x + r) * n < (m * (x + 1)) * n := Nat.mul_lt_mul_of_pos_right (by rw [Nat.mul_add]; omega) hn'
      have e2 : (m * (x + 1)) * n ≤ (n * y + s) * m := by
        have : m * (x + 1) * n = n * (x + 1) * m := by rw [Nat.mul_comm m (x + 1), Nat.mul_comm n (x + 1), Nat.mul_assoc, Nat.mul_assoc, Nat.mul_comm m n]
        rw [this]
        exact Nat.mul_le_mul_right _ (Nat.le_trans (Nat.mul_le_mul_left n hxy) (Nat.le_add_right _ _))
      omega
  subst h1
  subst h2
  constructor
  · exact fun hxy => key hn h3 hxy
  · intro hlt
    rcases Nat.lt_or_gt_of_ne h with hh | hh
    · exact hh
    · have := key (x := y) (y := x) (r := s) (s := r) (m := n) (n := m) hm h4 hh
      omega

/-- Whole parts that are alike leave it to the rests. -/
theorem frac_rest {a m b n : Nat} (h : a / m = b / n) : a * n < b * m ↔ (a % m) * n < (b % n) * m := by
  have h1 := Nat.div_add_mod a m
  have h2 := Nat.div_add_mod b n
  rw [← h] at h2
  generalize a / m = x at *
  generalize a % m = r at *
  generalize b % n = s at *
  subst h1
  subst h2
  rw [Nat.add_mul, Nat.add_mul]
  have : m * x * n = n * x * m := by rw [Nat.mul_comm m x, Nat.mul_comm n x, Nat.mul_assoc, Nat.mul_assoc, Nat.mul_comm m n]
  omega

/-- The rest of an elder number is at most half of it. -/
theorem rest_half {a m : Nat} (h0 : 0 < m) (h : m ≤ a) : 2 * (a % m) < a + 1 := by
  have h1 := Nat.div_add_mod a m
  have h2 := Nat.mod_lt a h0
  have h3 : 1 ≤ a / m := Nat.div_pos h h0
  have h4 : m * 1 ≤ m * (a / m) := Nat.mul_le_mul_left m h3
  omega

/-- Where the comparison stands after so many steps: numbers have become small. -/
structure Step (n a m : Nat) : Prop where
  pos : 0 < m
  lo : m * 2 ^ (n / 2) ≤ 2 ^ 48
  hi : n = 0 ∨ (m < a ∧ a * 2 ^ ((n - 1) / 2) ≤ 2 ^ 48)

theorem Step.start {a m : Nat} (h : 0 < m) (h1 : m ≤ 2 ^ 48) : Step 0 a m := ⟨h, by simpa using h1, .inl rfl⟩
theorem Step.next {n a m : Nat} (h : Step n a m) (hr : a % m ≠ 0) : Step (n + 1) m (a % m) := by
  have hlt := Nat.mod_lt a h.pos
  refine ⟨by omega, ?_, .inr ⟨hlt, by rw [Nat.add_sub_cancel]; exact h.lo⟩⟩
  rcases h.hi with rfl | ⟨h1, h2⟩
  · have := h.lo
    simp at this ⊢
    omega
  · by_cases e : n = 0
    · subst e
      have := h.lo
      simp at this ⊢
      omega
    · have e1 : (n + 1) / 2 = (n - 1) / 2 + 1 := by omega
      rw [e1, Nat.pow_succ]
      have h3 := rest_half h.pos (Nat.le_of_lt h1)
      have h4 : 2 * (a % m) * 2 ^ ((n - 1) / 2) ≤ a * 2 ^ ((n - 1) / 2) := Nat.mul_le_mul_right _ (by omega)
      have h5 : a % m * (2 ^ ((n - 1) / 2) * 2) = 2 * (a % m) * 2 ^ ((n - 1) / 2) := by
        rw [Nat.mul_comm 2 (a % m), Nat.mul_assoc, Nat.mul_comm 2]
      omega
theorem Step.stop {n a m : Nat} (h : Step n a m) : n < 98 := by
  apply Nat.lt_of_not_le
  intro hle
  have h1 := h.lo
  have h2 := h.pos
  have h3 : 2 ^ 49 ≤ 2 ^ (n / 2) := Nat.pow_le_pow_right (by omega) (by omega)
  have h4 : 1 * 2 ^ (n / 2) ≤ m * 2 ^ (n / 2) := Nat.mul_le_mul_right _ h2
  have h5 : (2 : Nat) ^ 48 < 2 ^ 49 := by decide
  omega
end Bm
