/- Plain laws for the statements that stand by themselves. -/
import Derived.Test.YthcplmlkgaiggaaBxSpec2
set_option linter.unusedSimpArgs false
set_option linter.unusedVariables false
namespace Bm
open Go Go.Sx

/-- Odds of a plan of a lot: a fraction of all choices, brought down. -/
theorem odds_at {N b o a : Nat} (h1 : 1 ≤ N) (h2 : N ≤ 40) (hb : b ≤ N) (ho : o ≤ N) (ha : a ≤ o) : oddsE N b o a = 0 ∧ ∃ g p q : Nat, 0 < g ∧ 0 < q ∧ p ≤ q ∧ q ≤ 1099511627776 ∧ F N b o a = g * p ∧ ch N o = g * q ∧ oddsOf N b o a = p ∧ oddsIn N b o a = q := by
  have w : (within (N : Int) 1 40 && within (b : Int) 0 N) = true := by
    rw [Bool.and_eq_true, within_iff, within_iff]; omega
  have w2 : planOk N o a = true := by
    unfold planOk
    rw [Bool.and_eq_true, within_iff, within_iff]; omega
  obtain ⟨e1, e2, e3⟩ := odds_good w w2
  have hF := F_le (N := N) (b := b) (o := o) (a := a) hb ha
  have hc := ch_pos (n := N) (k := o) ho
  have hl := ch_le (n := N) (k := o) h2
  have hg : 0 < Nat.gcd (F N b o a) (ch N o) := Nat.gcd_pos_of_pos_right _ hc
  have d1 := Nat.mul_div_cancel' (Nat.gcd_dvd_left (F N b o a) (ch N o))
  have d2 := Nat.mul_div_cancel' (Nat.gcd_dvd_right (F N b o a) (ch N o))
  refine ⟨e3, _, _, _, hg, Nat.div_pos (Nat.gcd_le_right _ hc) hg, Nat.div_le_div_right hF, Nat.le_trans (Nat.div_le_self _ _) hl, d1.symm, d2.symm, e1, e2⟩

/-- A common factor decides nothing. -/
theorem scaleL {g p q : Nat} {x y : Int} (hg : 0 < g) : ((g * p : Nat) : Int) * x < y * ((g * q : Nat) : Int) ↔ (p : Int) * x < y * q := by
  have e1 : ((g * p : Nat) : Int) * x = g * (p * x) := by rw [Int.natCast_mul, Int.mul_assoc]
  have e2 : y * ((g * q : Nat) : Int) = g * (y * q) := by rw [Int.natCast_mul, ← Int.mul_assoc, Int.mul_comm y, Int.mul_assoc]
  rw [e1, e2]
  exact ⟨fun h => Int.lt_of_mul_lt_mul_left h (Int.natCast_nonneg _), fun h => Int.mul_lt_mul_of_pos_left h (by omega)⟩
theorem scaleR {g p q : Nat} {x y : Int} (hg : 0 < g) : y * ((g * q : Nat) : Int) < ((g * p : Nat) : Int) * x ↔ y * q < (p : Int) * x := by
  have e1 : ((g * p : Nat) : Int) * x = g * (p * x) := by rw [Int.natCast_mul, Int.mul_assoc]
  have e2 : y * ((g * q : Nat) : Int) = g * (y * q) := by rw [Int.natCast_mul, ← Int.mul_assoc, Int.mul_comm y, Int.mul_assoc]
  rw [e1, e2]
  exact ⟨fun h => Int.lt_of_mul_lt_mul_left h (Int.natCast_nonneg _), fun h => Int.mul_lt_mul_of_pos_left h (by omega)⟩

/-- Too few good ones, said by odds. -/
def lo1 (N o a : Int) (r : Nat → Int) (b : Int) : Prop := oddsOf N b o a * r 2 < r 1 * oddsIn N b o a
def hi1 (N o a : Int) (r : Nat → Int) (b : Int) : Prop := r 4 * oddsIn N b o a < oddsOf N b o a * r 5
theorem lo1_iff {N b o a : Nat} {r : Nat → Int} (h1 : 1 ≤ N) (h2 : N ≤ 40) (hb : b ≤ N) (ho : o ≤ N) (ha : a ≤ o) : lo1 N o a r b ↔ (F N b o a : Int) * r 2 < r 1 * ch N o := by
  obtain ⟨_, g, p, q, hg, _, _, _, e1, e2, e3, e4⟩ := odds_at h1 h2 hb ho ha
  unfold lo1
  rw [e1, e2, e3, e4]
  exact (scaleL hg).symm
theorem hi1_iff {N b o a : Nat} {r : Nat → Int} (h1 : 1 ≤ N) (h2 : N ≤ 40) (hb : b ≤ N) (ho : o ≤ N) (ha : a ≤ o) : hi1 N o a r b ↔ r 4 * ch N o < (F N b o a : Int) * r 5 := by
  obtain ⟨_, g, p, q, hg, _, _, _, e1, e2, e3, e4⟩ := odds_at h1 h2 hb ho ha
  unfold hi1
  rw [e1, e2, e3, e4]
  exact (scaleR hg).symm

/-- A rule is kept if and only if it is at Good and at Bad. -/
theorem kept_iff {N o a G B : Nat} {r : Nat → Int} (h1 : 1 ≤ N) (h2 : N ≤ 40) (ho : o ≤ N) (ha : a ≤ o) (hG : r 0 = G) (hB : r 3 = B) (hr : ruleOk N r = true) : keeps N o a r = true ↔ ¬ lo1 N o a r G ∧ ¬ hi1 N o a r B := by
  obtain ⟨b0, b1, b2, ⟨b3, b4, b5, b6⟩, b7, b8, b9, b10⟩ := rule_bd hr
  rw [lo1_iff h1 h2 (by omega) ho ha, hi1_iff h1 h2 (by omega) ho ha]
  constructor
  · intro h
    have hh := allB_iff.1 h
    refine ⟨fun hl => ?_, fun hl => ?_⟩
    · exact keep1_iff.1 (hh G (by omega)) (.inl ⟨by omega, hl⟩)
    · exact keep1_iff.1 (hh B (by omega)) (.inr ⟨by omega, hl⟩)
  · intro ⟨hl, hu⟩
    refine allB_iff.2 fun b hb => keep1_iff.2 fun hk => ?_
    rcases hk with ⟨k1, k2⟩ | ⟨k1, k2⟩
    · refine hl (Int.lt_of_le_of_lt ?_ k2)
      exact Int.mul_le_mul_of_nonneg_right (Int.ofNat_le.2 (F_anti ha (by omega) (by omega))) (by omega)
    · refine hu (Int.lt_of_lt_of_le k2 ?_)
      exact Int.mul_le_mul_of_nonneg_right (Int.ofNat_le.2 (F_anti ha (by omega) (by omega))) (by omega)

theorem few_out {N : Nat} {r : Nat → Int} (h : ruleOk N r = true) : fewO N r ≤ N ∧ fewA N r (fewO N r) ≤ fewO N r ∧ keeps N (fewO N r) (fewA N r (fewO N r)) r = true ∧ ∀ o a, o ≤ fewO N r → a ≤ o → keeps N o a r = true → o = fewO N r ∧ fewA N r (fewO N r) ≤ a := by
  have hle := fewO_le h
  have h1 : decide (fewA N r (fewO N r) < fewO N r + 1) = true := fst_at (p := fun o => decide (fewA N r o < o + 1)) (n := N + 1) (by show fewO N r < N + 1; omega)
  have h1 := of_decide_eq_true h1
  have h2 : keeps N (fewO N r) (fewA N r (fewO N r)) r = true := fst_at (p := fun a => keeps N (fewO N r) a r) (n := fewO N r + 1) h1
  refine ⟨hle, by omega, h2, fun o a ho ha hk => ?_⟩
  by_cases e : o = fewO N r
  · subst e
    refine ⟨rfl, Nat.le_of_not_lt fun hlt => ?_⟩
    have := fst_before (p := fun a => keeps N (fewO N r) a r) (n := fewO N r + 1) (i := a) hlt
    exact Bool.noConfusion (hk.symm.trans this)
  · exfalso
    have hlt : o < fewO N r := by omega
    have := fst_before (p := fun o => decide (fewA N r o < o + 1)) (n := N + 1) (i := o) hlt
    have hn : ¬ fewA N r o < o + 1 := of_decide_eq_false this
    have hx : a < fewA N r o := by omega
    have := fst_before (p := fun a => keeps N o a r) (n := o + 1) (i := a) hx
    exact Bool.noConfusion (hk.symm.trans this)
/-- Odds that are not greater are not greater as fractions. -/
theorem not_less {g p q g' p' q' : Nat} (hg : 0 < g) (hg' : 0 < g') (h1 : g' * p' ≤ g * p) (h2 : g * q = g' * q') : ¬ (p : Int) * q' < p' * q := by
  intro h
  rw [← Int.natCast_mul, ← Int.natCast_mul] at h
  have h : p * q' < p' * q := by omega
  have h3 : (g * g') * (p * q') < (g * g') * (p' * q) := Nat.mul_lt_mul_of_pos_left h (Nat.mul_pos hg hg')
  have e1 : (g * g') * (p * q') = (g * p) * (g' * q') := by ac_rfl
  have e2 : (g * g') * (p' * q) = (g' * p') * (g * q) := by ac_rfl
  rw [e1, e2, h2] at h3
  exact absurd (Nat.mul_le_mul_right (g' * q') h1) (by omega)
/-- Odds of all choices. -/
theorem odds_one {N b o a : Nat} (h1 : 1 ≤ N) (h2 : N ≤ 40) (hb : b ≤ N) (ho : o ≤ N) (ha : a ≤ o) (hF : F N b o a = ch N o) : oddsE N b o a = 0 ∧ oddsOf N b o a = 1 ∧ oddsIn N b o a = 1 := by
  have w : (within (N : Int) 1 40 && within (b : Int) 0 N) = true := by
    rw [Bool.and_eq_true, within_iff, within_iff]; omega
  have w2 : planOk N o a = true := by
    unfold planOk
    rw [Bool.and_eq_true, within_iff, within_iff]; omega
  obtain ⟨e1, e2, e3⟩ := odds_good w w2
  have hc := ch_pos (n := N) (k := o) ho
  rw [hF, Nat.gcd_self, Nat.div_self hc] at e1 e2
  exact ⟨e3, e1, e2⟩
theorem mod_nat {x : Int} {m : Nat} : ∃ k : Nat, x % ((m : Int) + 1) = k ∧ k ≤ m := by
  have h1 := Int.emod_nonneg x (show (m : Int) + 1 ≠ 0 by omega)
  have h2 := Int.emod_lt_of_pos x (show 0 < (m : Int) + 1 by omega)
  exact ⟨(x % ((m : Int) + 1)).toNat, by omega, by omega⟩
end Bm
