/- Plain laws of the first barrel that is opened. -/
import Derived.Test.YthcplmlkgaiggaaBxSpec4
set_option linter.unusedSimpArgs false
set_option linter.unusedVariables false
namespace Bm
open Go Go.Sx

/-- The first barrel that is opened, as fractions. -/
theorem first_eq {N b o a : Nat} (h1 : 2 ≤ N) (hb : b ≤ N) (ho1 : 1 ≤ o) {W T D wO k1 tO k2 by_ : Nat} (hD : D = ch (N - 1) (o - 1))
    (hW : W = if 0 < b ∧ 0 < a then F (N - 1) (b - 1) (o - 1) (a - 1) else 0) (hT : T = if b < N then F (N - 1) b (o - 1) (min (o - 1) a) else 0) (ha : a ≤ o)
    (e1 : W * by_ = wO * k1 * D) (e2 : T * by_ = tO * k2 * D) : F N b o a * (N * by_) = (b * wO * k1 + (N - b) * tO * k2) * ch N o := by
  obtain ⟨n, rfl⟩ : ∃ n, N = n + 1 := ⟨N - 1, by omega⟩
  obtain ⟨m, rfl⟩ : ∃ m, o = m + 1 := ⟨o - 1, by omega⟩
  simp only [Nat.add_sub_cancel] at *
  have hf := F_first (N := n) (b := b) (o := m) (a := a) hb ha
  have hf' : (m + 1) * F (n + 1) b (m + 1) a = b * W + (n + 1 - b) * T := by
    rw [hf, hW, hT]
    congr 1
    · split <;> simp
    · split
      · rfl
      · simp
  have hab := absorb n m
  rw [← hD] at hab
  apply Nat.eq_of_mul_eq_mul_left (show 0 < m + 1 by omega)
  calc (m + 1) * (F (n + 1) b (m + 1) a * ((n + 1) * by_)) = ((m + 1) * F (n + 1) b (m + 1) a) * ((n + 1) * by_) := by rw [Nat.mul_assoc]
    _ = (n + 1) * (b * (W * by_) + (n + 1 - b) * (T * by_)) := by
      rw [hf']
      simp only [Nat.add_mul, Nat.mul_add, Nat.mul_assoc, Nat.mul_comm, Nat.mul_left_comm]
    _ = (b * wO * k1 + (n + 1 - b) * tO * k2) * ((n + 1) * D) := by
      rw [e1, e2]
      generalize n + 1 - b = c
      simp only [Nat.add_mul, Nat.mul_add, Nat.mul_assoc, Nat.mul_comm, Nat.mul_left_comm]
    _ = (b * wO * k1 + (n + 1 - b) * tO * k2) * ((m + 1) * ch (n + 1) (m + 1)) := by rw [hab]
    _ = (m + 1) * ((b * wO * k1 + (n + 1 - b) * tO * k2) * ch (n + 1) (m + 1)) := by
      rw [← Nat.mul_assoc, Nat.mul_comm _ (m + 1), Nat.mul_assoc]

/-- The least number that both go into. -/
theorem lcm_parts {u v : Nat} (hu : 0 < u) (hv : 0 < v) : u / Nat.gcd u v * v = u * (v / Nat.gcd u v) ∧ (u / Nat.gcd u v * v) / u = v / Nat.gcd u v ∧ (u / Nat.gcd u v * v) / v = u / Nat.gcd u v ∧ 0 < u / Nat.gcd u v * v ∧ u ≤ u / Nat.gcd u v * v ∧ v ≤ u / Nat.gcd u v * v := by
  have hg : 0 < Nat.gcd u v := Nat.gcd_pos_of_pos_left _ hu
  have d1 := Nat.mul_div_cancel' (Nat.gcd_dvd_left u v)
  have d2 := Nat.mul_div_cancel' (Nat.gcd_dvd_right u v)
  have p1 : 0 < u / Nat.gcd u v := Nat.div_pos (Nat.gcd_le_left _ hu) hg
  have p2 : 0 < v / Nat.gcd u v := Nat.div_pos (Nat.gcd_le_right _ hv) hg
  have e : u / Nat.gcd u v * v = u * (v / Nat.gcd u v) := by
    refine ((congrArg (u / Nat.gcd u v * ·) d2).symm.trans ?_).trans (congrArg (· * (v / Nat.gcd u v)) d1)
    simp only [Nat.mul_assoc, Nat.mul_left_comm]
  refine ⟨e, ?_, ?_, Nat.mul_pos p1 hv, ?_, ?_⟩
  · rw [e, Nat.mul_div_cancel_left _ hu]
  · rw [Nat.mul_div_cancel _ hv]
  · rw [e]; exact Nat.le_mul_of_pos_right _ p2
  · exact Nat.le_mul_of_pos_left _ p1

/-- The odds out of those of the first barrel. -/
theorem first_red {N b o a wO wI tO tI : Nat} (h1 : 2 ≤ N) (h2 : N ≤ 40) (hb : b ≤ N) (ho1 : 1 ≤ o) (ho : o ≤ N) (ha : a ≤ o)
    (hw : (0 < b ∧ 0 < a → ∃ g, F (N - 1) (b - 1) (o - 1) (a - 1) = g * wO ∧ ch (N - 1) (o - 1) = g * wI) ∧ (¬ (0 < b ∧ 0 < a) → wO = 0))
    (ht : (b < N → ∃ g, F (N - 1) b (o - 1) (min (o - 1) a) = g * tO ∧ ch (N - 1) (o - 1) = g * tI) ∧ (¬ b < N → tO = 0))
    (wp : 0 < wI) (tp : 0 < tI) {by_ sum : Nat} (hby : by_ = wI / Nat.gcd wI tI * tI) (hsum : sum = b * wO * (by_ / wI) + (N - b) * tO * (by_ / tI)) :
    oddsOf N b o a = ((sum / Nat.gcd sum (N * by_) : Nat) : Int) ∧ oddsIn N b o a = ((N * by_ / Nat.gcd sum (N * by_) : Nat) : Int) := by
  have w : (within (N : Int) 1 40 && within (b : Int) 0 N) = true := by
    rw [Bool.and_eq_true, within_iff, within_iff]; omega
  have w2 : planOk N o a = true := by
    unfold planOk
    rw [Bool.and_eq_true, within_iff, within_iff]; omega
  obtain ⟨e1, e2, e3⟩ := odds_good w w2
  obtain ⟨l1, l2, l3, l4, _, _⟩ := lcm_parts wp tp
  rw [← hby] at l1 l2 l3 l4
  have hc := ch_pos (n := N) (k := o) ho
  have key := first_eq (N := N) (b := b) (o := o) (a := a) (wO := wO) (k1 := by_ / wI) (tO := tO) (k2 := by_ / tI) (by_ := by_) h1 hb ho1 rfl rfl rfl ha
    (by
      split
      · rename_i hc
        obtain ⟨g, g1, g2⟩ := hw.1 hc
        rw [g1, g2, l2]
        conv => lhs; rw [l1]
        simp only [Nat.mul_assoc, Nat.mul_comm, Nat.mul_left_comm]
      · rename_i hc
        rw [hw.2 hc]; simp)
    (by
      split
      · rename_i hc
        obtain ⟨g, g1, g2⟩ := ht.1 hc
        rw [g1, g2, l3]
        conv => lhs; rw [hby]
        simp only [Nat.mul_assoc, Nat.mul_comm, Nat.mul_left_comm]
      · rename_i hc
        rw [ht.2 hc]; simp)
  rw [← hsum] at key
  have r := red_eq hc (Nat.mul_pos (show 0 < N by omega) l4) key
  exact ⟨by rw [e1, r.1], by rw [e2, r.2]⟩

/-- What is known of the odds behind the first barrel, if it is below. -/
structure WithOk (N b o a : Nat) (w x : Int) : Prop where
  out : ∃ wO wI : Nat, w = wO ∧ x = wI ∧ (0 < b ∧ 0 < a → ∃ g, F (N - 1) (b - 1) (o - 1) (a - 1) = g * wO ∧ ch (N - 1) (o - 1) = g * wI) ∧ (¬ (0 < b ∧ 0 < a) → wO = 0) ∧ 0 < wI ∧ wO ≤ wI ∧ wI ≤ 1099511627776
/-- The same, if it is not. -/
structure WoutOk (N b o a : Nat) (t y : Int) : Prop where
  out : ∃ tO tI : Nat, t = tO ∧ y = tI ∧ (b < N → ∃ g, F (N - 1) b (o - 1) (min (o - 1) a) = g * tO ∧ ch (N - 1) (o - 1) = g * tI) ∧ (¬ b < N → tO = 0) ∧ 0 < tI ∧ tO ≤ tI ∧ tI ≤ 1099511627776

theorem with_none {N b o a : Nat} (h : ¬ (0 < b ∧ 0 < a)) : WithOk N b o a 0 1 := ⟨0, 1, rfl, rfl, fun h' => absurd h' h, fun _ => rfl, by omega, by omega, by omega⟩
theorem wout_none {N b o a : Nat} (h : ¬ b < N) : WoutOk N b o a 0 1 := ⟨0, 1, rfl, rfl, fun h' => absurd h' h, fun _ => rfl, by omega, by omega, by omega⟩
theorem with_some {N b o a : Nat} (h1 : 2 ≤ N) (h2 : N ≤ 40) (hb : b ≤ N) (ho1 : 1 ≤ o) (ho : o ≤ N) (ha : a ≤ o) (h : 0 < b ∧ 0 < a) :
    oddsE (N - 1 : Nat) (b - 1 : Nat) (o - 1 : Nat) (a - 1 : Nat) = 0 ∧ WithOk N b o a (oddsOf (N - 1 : Nat) (b - 1 : Nat) (o - 1 : Nat) (a - 1 : Nat)) (oddsIn (N - 1 : Nat) (b - 1 : Nat) (o - 1 : Nat) (a - 1 : Nat)) := by
  obtain ⟨e, g, p, q, g0, q0, q1, q2, e1, e2, e3, e4⟩ := odds_at (N := N - 1) (b := b - 1) (o := o - 1) (a := a - 1) (by omega) (by omega) (by omega) (by omega) (by omega)
  exact ⟨e, p, q, e3, e4, fun _ => ⟨g, e1, e2⟩, fun h' => absurd h h', q0, q1, q2⟩
theorem wout_some {N b o a : Nat} (h1 : 2 ≤ N) (h2 : N ≤ 40) (hb : b ≤ N) (ho1 : 1 ≤ o) (ho : o ≤ N) (ha : a ≤ o) (h : b < N) :
    oddsE (N - 1 : Nat) b (o - 1 : Nat) (min (o - 1) a : Nat) = 0 ∧ WoutOk N b o a (oddsOf (N - 1 : Nat) b (o - 1 : Nat) (min (o - 1) a : Nat)) (oddsIn (N - 1 : Nat) b (o - 1 : Nat) (min (o - 1) a : Nat)) := by
  obtain ⟨e, g, p, q, g0, q0, q1, q2, e1, e2, e3, e4⟩ := odds_at (N := N - 1) (b := b) (o := o - 1) (a := min (o - 1) a) (by omega) (by omega) (by omega) (by omega) (by omega)
  exact ⟨e, p, q, e3, e4, fun _ => ⟨g, e1, e2⟩, fun h' => absurd h h', q0, q1, q2⟩

/-- The numbers of the sum are small. -/
theorem first_small {N b wO wI tO tI L : Nat} (hN : N ≤ 25) (hb : b ≤ N) (w0 : 0 < wI) (t0 : 0 < tI) (hw : wO ≤ wI) (ht : tO ≤ tI) (hL : L = wI / Nat.gcd wI tI * tI) (hs : L ≤ 1000000000) :
    wI ≤ 1000000000 ∧ tI ≤ 1000000000 ∧ 0 < L ∧ L / wI ≤ L ∧ L / tI ≤ L ∧ b * wO ≤ 25000000000 ∧ (N - b) * tO ≤ 25000000000 ∧ b * wO * (L / wI) ≤ 25000000000 ∧ (N - b) * tO * (L / tI) ≤ 25000000000 ∧ N * L ≤ 25000000000 := by
  obtain ⟨l1, l2, l3, l4, l5, l6⟩ := lcm_parts w0 t0
  rw [← hL] at l1 l2 l3 l4 l5 l6
  have d1 : wO * (L / wI) ≤ L := by
    rw [l2]
    exact Nat.le_trans (Nat.mul_le_mul_right _ hw) (Nat.le_of_eq l1.symm)
  have d2 : tO * (L / tI) ≤ L := by
    rw [l3, Nat.mul_comm]
    exact Nat.le_trans (Nat.mul_le_mul_left _ ht) (Nat.le_of_eq hL.symm)
  have m : ∀ {c x : Nat}, c ≤ 25 → x ≤ 1000000000 → c * x ≤ 25000000000 := fun {c x} h1 h2 => Nat.le_trans (Nat.mul_le_mul h1 h2) (by decide)
  refine ⟨by omega, by omega, l4, Nat.div_le_self _ _, Nat.div_le_self _ _, m (by omega) (by omega), m (by omega) (by omega), ?_, ?_, m hN hs⟩
  · rw [Nat.mul_assoc]; exact m (by omega) (by omega)
  · rw [Nat.mul_assoc]; exact m (by omega) (by omega)
end Bm
