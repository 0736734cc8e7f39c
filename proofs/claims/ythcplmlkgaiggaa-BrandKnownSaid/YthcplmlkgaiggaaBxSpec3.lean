/- What Promise answers, in plain Lean. -/
import Derived.Test.YthcplmlkgaiggaaBxSpec2
set_option linter.unusedSimpArgs false
set_option linter.unusedVariables false
namespace Bm
open Go Go.Sx
/-- The greatest Allow, of those below j, with which a rule is kept; -1: none. -/
def alw (N o : Nat) (r : Nat → Int) : Nat → Int
  | 0 => -1
  | j + 1 => if keeps N o j r then j else alw N o r j
def cnt (m : Nat → Int) (op : Nat → Nat → Int) : Nat → Nat
  | 0 => 0
  | k + 1 => cnt m op k + if reach m (op k) then 0 else 1
theorem cnt_le {m : Nat → Int} {op : Nat → Nat → Int} : ∀ k, cnt m op k ≤ k
  | 0 => Nat.le_refl 0
  | k + 1 => by have := cnt_le (m := m) (op := op) k; unfold cnt; split <;> omega
theorem alw_bd {N o : Nat} {r : Nat → Int} : ∀ j : Nat, -1 ≤ alw N o r j ∧ alw N o r j < j
  | 0 => by unfold alw; omega
  | j + 1 => by
    have := alw_bd (N := N) (o := o) (r := r) j
    unfold alw
    split <;> omega
structure PrIn where
  n : Nat
  m : Nat → Nat → Int
  N : Int
  r : Nat → Int
  no : Nat
  op : Nat → Nat → Int
def prAl (x : PrIn) : Int := alw x.N.toNat x.no x.r (x.no + 1)
def prOk (x : PrIn) : Bool := decide ((x.no : Int) ≤ x.N) && allB x.no (fun k => barOk (x.op k))
def prI (x : PrIn) : Nat := fst (fun i => decide ((cnt (x.m i) x.op x.no : Int) ≤ prAl x)) x.n
def prE (x : PrIn) : Int := if marksOk x.n x.m then (if ruledE x.N x.r = 0 then (if prOk x then (if prI x < x.n then 0 else 4) else 73) else ruledE x.N x.r) else 70
def prW (x : PrIn) : Int := if prE x = 0 then (prI x : Nat) else 0
def prA (x : PrIn) : Int := if prE x = 0 then prAl x else 0
theorem pr_70 {x : PrIn} (h : ¬ marksOk x.n x.m = true) : 0 = prW x ∧ 0 = prA x ∧ 70 = prE x := by
  have e : prE x = 70 := if_neg h
  exact ⟨(if_neg (by omega)).symm, (if_neg (by omega)).symm, e.symm⟩
theorem pr_7 {x : PrIn} (h : marksOk x.n x.m = true) (h2 : ¬ within x.N 1 40 = true) : 0 = prW x ∧ 0 = prA x ∧ 7 = prE x := by
  have e0 := ruled_7 (r := x.r) h2
  have e : prE x = 7 := by unfold prE; rw [if_pos h, if_neg (by omega), e0]
  exact ⟨(if_neg (by omega)).symm, (if_neg (by omega)).symm, e.symm⟩
theorem pr_71 {x : PrIn} (h : marksOk x.n x.m = true) (h2 : within x.N 1 40 = true) (h3 : ¬ ruleOk x.N x.r = true) : 0 = prW x ∧ 0 = prA x ∧ 71 = prE x := by
  have e0 := ruled_71 (r := x.r) h2 h3
  have e : prE x = 71 := by unfold prE; rw [if_pos h, if_neg (by omega), e0]
  exact ⟨(if_neg (by omega)).symm, (if_neg (by omega)).symm, e.symm⟩
theorem pr_73 {x : PrIn} (h : marksOk x.n x.m = true) (h2 : within x.N 1 40 = true) (h3 : ruleOk x.N x.r = true) (h4 : ¬ prOk x = true) : 0 = prW x ∧ 0 = prA x ∧ 73 = prE x := by
  have e0 := ruled_0 (r := x.r) h2 h3
  have e : prE x = 73 := by unfold prE; rw [if_pos h, if_pos e0, if_neg h4]
  exact ⟨(if_neg (by omega)).symm, (if_neg (by omega)).symm, e.symm⟩
theorem pr_4 {x : PrIn} (h : marksOk x.n x.m = true) (h2 : within x.N 1 40 = true) (h3 : ruleOk x.N x.r = true) (h4 : prOk x = true) (h5 : ∀ i, i < x.n → ¬ (cnt (x.m i) x.op x.no : Int) ≤ prAl x) : 0 = prW x ∧ 0 = prA x ∧ 4 = prE x := by
  have e0 := ruled_0 (r := x.r) h2 h3
  have e1 : prI x = x.n := fst_none (p := fun i => decide ((cnt (x.m i) x.op x.no : Int) ≤ prAl x)) fun i hi => by simpa using h5 i hi
  have e : prE x = 4 := by unfold prE; rw [if_pos h, if_pos e0, if_pos h4, e1, if_neg (Nat.lt_irrefl _)]
  exact ⟨(if_neg (by omega)).symm, (if_neg (by omega)).symm, e.symm⟩
theorem pr_0 {x : PrIn} (h : marksOk x.n x.m = true) (h2 : within x.N 1 40 = true) (h3 : ruleOk x.N x.r = true) (h4 : prOk x = true) {i : Nat} (hi : i < x.n) (h5 : ∀ k, k < i → ¬ (cnt (x.m k) x.op x.no : Int) ≤ prAl x) (h6 : (cnt (x.m i) x.op x.no : Int) ≤ prAl x) : (i : Int) = prW x ∧ prAl x = prA x ∧ 0 = prE x := by
  have e0 := ruled_0 (r := x.r) h2 h3
  have e1 : prI x = i := fst_of (p := fun i => decide ((cnt (x.m i) x.op x.no : Int) ≤ prAl x)) hi (by simpa using h6) fun k hk => by simpa using h5 k hk
  have e : prE x = 0 := by unfold prE; rw [if_pos h, if_pos e0, if_pos h4, e1, if_pos hi]
  exact ⟨by unfold prW; rw [if_pos e, e1], by unfold prA; rw [if_pos e], e.symm⟩
end Bm
