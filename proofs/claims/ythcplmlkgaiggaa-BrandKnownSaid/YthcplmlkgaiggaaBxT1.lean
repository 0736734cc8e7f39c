/- What single brands, plans and rules come to. -/
import Derived.Test.YthcplmlkgaiggaaBxT0
import Derived.Test.YthcplmlkgaiggaaBxSpec10
set_option linter.unusedSimpArgs false
set_option linter.unusedVariables false
namespace Go.Proofs.Ythcplmlkgaiggaa
open Go Go.Sx Bm
set_option maxRecDepth 100000

def zM : Nat → Nat → Int := fun _ _ => 0
def zR : Nat → Int := fun _ => 0
def bm1 : Nat → Int := fun j => [-1, 0, 0, 0].getD j 0
def b1001 : Nat → Int := fun j => [0, 0, 0, 1001].getD j 0
def bFull : Nat → Int := fun j => [260, 180, 150, 950].getD j 0
def bSpent : Nat → Int := fun j => [260, 90, 150, 950].getD j 0
def m2 : Nat → Nat → Int := fun i j => ([[5, 4, 0, 0, 0, 0, 0, 0]].getD i []).getD j 0
def m3 : Nat → Nat → Int := fun i j => ([[0, 0, 0, 1001, 0, 0, 0, 0]].getD i []).getD j 0
def m4 : Nat → Nat → Int := fun i j => ([[0, 0, 0, 0, 0, 0, -1, 0]].getD i []).getD j 0
def oNeg : Nat → Nat → Int := fun i j => ([[-1, 0, 0, 0]].getD i []).getD j 0
def ruT : List (List Int) := [[0, 0, 0, 0, 0, 0], [5, 9, 10, 5, 1, 10], [1, 9, 10, 11, 1, 10], [1, 9, 0, 5, 1, 10], [1, 9, 10, 5, 11, 10], [-1, 9, 10, 5, 1, 10], [1, 5, 1001, 5, 1, 10]]
def ruF (i j : Nat) : Int := (ruT.getD i []).getD j 0

theorem kg0 : gradeE 0 zM bm1 = 70 := by kernel_rfl
theorem kg1 : gradeE 6 zM bm1 = 70 := by kernel_rfl
theorem kg2 : gradeE 1 m2 bm1 = 70 := by kernel_rfl
theorem kg3 : gradeE 1 m3 bm1 = 70 := by kernel_rfl
theorem kg4 : gradeE 1 m4 bm1 = 70 := by kernel_rfl
theorem kp0 : prE ⟨0, zM, 0, zR, 0, zM⟩ = 70 := by kernel_rfl
theorem kp1 : prE ⟨6, zM, 0, zR, 0, zM⟩ = 70 := by kernel_rfl
theorem kp2 : prE ⟨1, m2, 0, zR, 0, zM⟩ = 70 := by kernel_rfl
theorem kp3 : prE ⟨1, m3, 0, zR, 0, zM⟩ = 70 := by kernel_rfl
theorem kp4 : prE ⟨1, m4, 0, zR, 0, zM⟩ = 70 := by kernel_rfl
theorem kRu : ∀ i, i < 7 → keepsE 10 (ruF i) (-1) 0 = 71 ∧ ruledE 10 (ruF i) = 71 ∧ prE ⟨2, mB, 10, ruF i, 11, zM⟩ = 71 := fun i hi => match i, hi with
  | 0, _ => ⟨by kernel_rfl, by kernel_rfl, by kernel_rfl⟩
  | 1, _ => ⟨by kernel_rfl, by kernel_rfl, by kernel_rfl⟩
  | 2, _ => ⟨by kernel_rfl, by kernel_rfl, by kernel_rfl⟩
  | 3, _ => ⟨by kernel_rfl, by kernel_rfl, by kernel_rfl⟩
  | 4, _ => ⟨by kernel_rfl, by kernel_rfl, by kernel_rfl⟩
  | 5, _ => ⟨by kernel_rfl, by kernel_rfl, by kernel_rfl⟩
  | 6, _ => ⟨by kernel_rfl, by kernel_rfl, by kernel_rfl⟩
  | i + 7, hi => absurd hi (by omega)
theorem ke1 : oddsE 10 11 0 0 = 7 := by kernel_rfl
theorem ke2 : oddsE 41 0 0 0 = 7 := by kernel_rfl
theorem ke3 : oddsE 0 0 (-1) 0 = 7 := by kernel_rfl
theorem ke4 : gradeE 2 mB b1001 = 73 := by kernel_rfl
theorem ke5 : keepsE 10 rB 5 (-1) = 72 := by kernel_rfl
theorem ke6 : keepsE 0 zR 0 0 = 7 := by kernel_rfl
theorem ke7 : oddsE 10 5 5 6 = 72 := by kernel_rfl
theorem ke8 : oddsE 10 5 11 0 = 72 := by kernel_rfl
theorem kb1 : belE 10 6 1 2 1 = 71 := by kernel_rfl
theorem kb2 : belE 10 6 7 1 10 = 7 := by kernel_rfl
theorem kb3 : belE 10 11 0 0 0 = 7 := by kernel_rfl
theorem kr41 : ruledE 41 rB = 7 := by kernel_rfl
theorem kq1 : prE ⟨2, mB, 0, zR, 0, zM⟩ = 7 := by kernel_rfl
theorem kq2 : prE ⟨2, mB, 10, rB, 1, oNeg⟩ = 73 := by kernel_rfl
theorem kq3 : prE ⟨2, mB, 10, rB, 4, opB⟩ = 4 := by kernel_rfl
theorem kq4 : prE ⟨1, mB, 10, rB, 6, opB⟩ = 4 := by kernel_rfl
theorem kh1 : gradeE 2 mB bSpent = 4 := by kernel_rfl
theorem kh2 : gradeN 2 mB bFull = 0 := by kernel_rfl
theorem kh3 : gradeE 2 mB bFull = 0 := by kernel_rfl
theorem ks1 : oddsE 10 5 6 1 = 0 := by kernel_rfl
theorem ks2 : oddsOf 10 5 6 1 = 1 := by kernel_rfl
theorem ks3 : oddsIn 10 5 6 1 = 42 := by kernel_rfl
theorem ks4 : oddsE 10 5 0 0 = 0 := by kernel_rfl
theorem ks5 : oddsOf 10 5 0 0 = 1 := by kernel_rfl
theorem ks6 : oddsIn 10 5 0 0 = 1 := by kernel_rfl
theorem kt1 : keepsE 10 rB 5 1 = 0 := by kernel_rfl
theorem kt2 : keepsB 10 rB 5 1 = false := by kernel_rfl
theorem kt3 : keepsE 10 rB 10 1 = 0 := by kernel_rfl
theorem kt4 : keepsB 10 rB 10 1 = true := by kernel_rfl
theorem ku1 : belE 10 10 1 1 10 = 0 := by kernel_rfl
theorem ku2 : belL 10 10 1 1 10 = 1 := by kernel_rfl
theorem ku3 : belH 10 10 1 1 10 = 1 := by kernel_rfl
theorem ku4 : belE 10 6 1 1 1 = 4 := by kernel_rfl
theorem kv : oddsE 40 20 20 9 = 0 ∧ 0 ≤ oddsOf 40 20 20 9 ∧ oddsOf 40 20 20 9 ≤ 281474976710656 ∧ 1 ≤ oddsIn 40 20 20 9 ∧ oddsIn 40 20 20 9 ≤ 281474976710656 ∧ oddsOf 40 20 20 9 * 2 < 1 * oddsIn 40 20 20 9 := by
  obtain ⟨e, g, p, q, g0, q0, q1, q2, e1, e2, e3, e4⟩ := odds_at (N := 40) (b := 20) (o := 20) (a := 9) (by omega) (by omega) (by omega) (by omega) (by omega)
  have e : oddsE 40 20 20 9 = 0 := e
  have e3 : oddsOf 40 20 20 9 = p := e3
  have e4 : oddsIn 40 20 20 9 = q := e4
  have h := half_less
  rw [e1, e2] at h
  have h2 : g * (2 * p) < g * q := by rw [Nat.mul_left_comm]; exact h
  have h3 := Nat.lt_of_mul_lt_mul_left h2
  rw [e, e3, e4]
  exact ⟨rfl, by omega, by omega, by omega, by omega, by omega⟩
end Go.Proofs.Ythcplmlkgaiggaa
