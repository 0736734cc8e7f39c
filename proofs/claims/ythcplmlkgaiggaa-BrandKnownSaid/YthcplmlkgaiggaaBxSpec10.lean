/- Choices counted by a table, for great numbers. -/
import Derived.Test.YthcplmlkgaiggaaBxSpec4
set_option linter.unusedSimpArgs false
set_option linter.unusedVariables false
namespace Bm
open Go Go.Sx

/-- The next row of the table of choices. -/
def nextRow (a : Nat) : List Nat → List Nat
  | [] => [a]
  | b :: l => (a + b) :: nextRow b l
def row : Nat → List Nat
  | 0 => [1]
  | n + 1 => nextRow 0 (row n)

theorem nextRow_get : ∀ {l : List Nat} {a k : Nat}, (nextRow a l).getD k 0 = (a :: l).getD k 0 + l.getD k 0
  | [], a, 0 => rfl
  | [], a, k + 1 => rfl
  | b :: l, a, 0 => rfl
  | b :: l, a, k + 1 => by
    have := nextRow_get (l := l) (a := b) (k := k)
    simpa [nextRow, List.getD_cons_succ] using this
theorem row_get : ∀ n k, (row n).getD k 0 = ch n k
  | 0, 0 => rfl
  | 0, k + 1 => rfl
  | n + 1, 0 => by
    rw [row, nextRow_get, ch_zero]
    have := row_get n 0
    rw [ch_zero] at this
    rw [this]; rfl
  | n + 1, k + 1 => by
    rw [row, nextRow_get, ch_ss, List.getD_cons_succ, row_get n k, row_get n (k + 1)]

/-- The choices that pass, by the table. -/
def Ft (N b o : Nat) : Nat → Nat
  | 0 => (row b).getD 0 0 * (row (N - b)).getD o 0
  | a + 1 => Ft N b o a + (row b).getD (a + 1) 0 * (row (N - b)).getD (o - (a + 1)) 0
theorem F_table (N b o : Nat) : ∀ a, F N b o a = Ft N b o a
  | 0 => by
    show 0 + ch b 0 * ch (N - b) (o - 0) = (row b).getD 0 0 * (row (N - b)).getD o 0
    rw [row_get, row_get, Nat.zero_add, Nat.sub_zero]
  | a + 1 => by
    show F N b o a + ch b (a + 1) * ch (N - b) (o - (a + 1)) = Ft N b o a + (row b).getD (a + 1) 0 * (row (N - b)).getD (o - (a + 1)) 0
    rw [F_table N b o a, row_get, row_get]

/-- Fewer than half of all choices pass. -/
theorem half_less : 2 * F 40 20 20 9 < ch 40 20 := by
  rw [F_table, ← row_get]
  exact of_decide_eq_true (by decide +kernel)
end Bm
