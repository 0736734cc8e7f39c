/- Plain laws of sets that are counted one by one. -/
import Derived.Test.YthcplmlkgaiggaaBxSpec4
set_option linter.unusedSimpArgs false
set_option linter.unusedVariables false
namespace Bm
open Go Go.Sx

/-- How many bits of a number are set, of so many. -/
def pcN : Nat → Nat → Nat
  | 0, _ => 0
  | k + 1, s => s % 2 + pcN k (s / 2)
def pc (s : Nat) : Nat := pcN 11 s

theorem pcN_zero : ∀ k, pcN k 0 = 0
  | 0 => rfl
  | k + 1 => by unfold pcN; rw [Nat.zero_div, pcN_zero k]
theorem pcN_le : ∀ {k s : Nat}, pcN k s ≤ k
  | 0, _ => Nat.le_refl _
  | k + 1, s => by have := pcN_le (k := k) (s := s / 2); unfold pcN; omega
theorem pcN_more : ∀ {k s : Nat}, s < 2 ^ k → pcN (k + 1) s = pcN k s
  | 0, s, h => by
    obtain rfl : s = 0 := by simpa using h
    rfl
  | k + 1, s, h => by
    have h2 : s < 2 * 2 ^ k := by rw [Nat.pow_succ] at h; omega
    rw [pcN, pcN_more (k := k) (s := s / 2) (by omega)]
    rfl
theorem pc_half {s : Nat} (h : s < 2048) : pc s = s % 2 + pc (s / 2) := by
  show pcN 11 s = s % 2 + pcN 11 (s / 2)
  rw [pcN_more (k := 10) (s := s / 2) (by show s / 2 < 1024; omega)]
  rfl
theorem pcN_top : ∀ {N k i : Nat}, N < k → i < 2 ^ N → pcN k (2 ^ N + i) = pcN k i + 1
  | 0, 0, _, h, _ => absurd h (Nat.not_lt_zero 0)
  | 0, k + 1, i, _, h => by
    obtain rfl : i = 0 := by simpa using h
    show (1 + 0) % 2 + pcN k ((1 + 0) / 2) = (0 % 2 + pcN k (0 / 2)) + 1
    simp [pcN_zero]
  | N + 1, 0, _, h, _ => absurd h (Nat.not_lt_zero _)
  | N + 1, k + 1, i, h, hi => by
    have h2 : i < 2 * 2 ^ N := by rw [Nat.pow_succ] at hi; omega
    have e1 : (2 ^ (N + 1) + i) % 2 = i % 2 := by rw [Nat.pow_succ]; omega
    have e2 : (2 ^ (N + 1) + i) / 2 = 2 ^ N + i / 2 := by rw [Nat.pow_succ]; omega
    rw [pcN, e1, e2, pcN_top (N := N) (k := k) (i := i / 2) (by omega) (by omega), pcN]
    omega
theorem pc_top {N i : Nat} (hN : N ≤ 10) (h : i < 2 ^ N) : pc (2 ^ N + i) = pc i + 1 := pcN_top (by omega) h

/-- Of how many numbers something is so. -/
def cn (p : Nat → Bool) : Nat → Nat
  | 0 => 0
  | n + 1 => cn p n + if p n then 1 else 0
theorem cn_le {p : Nat → Bool} : ∀ n, cn p n ≤ n
  | 0 => Nat.le_refl _
  | n + 1 => by have := cn_le (p := p) n; unfold cn; split <;> omega
theorem cn_add {p : Nat → Bool} {m : Nat} : ∀ n, cn p (m + n) = cn p m + cn (fun i => p (m + i)) n
  | 0 => rfl
  | n + 1 => by
    rw [show m + (n + 1) = m + n + 1 by omega, cn, cn_add n, cn]
    omega
theorem cn_congr {p q : Nat → Bool} : ∀ {n : Nat}, (∀ i, i < n → p i = q i) → cn p n = cn q n
  | 0, _ => rfl
  | n + 1, h => by rw [cn, cn, cn_congr (n := n) (fun i hi => h i (by omega)), h n (by omega)]
theorem cn_or {p q r : Nat → Bool} (h1 : ∀ i, p i = (q i || r i)) (h2 : ∀ i, ¬ (q i = true ∧ r i = true)) : ∀ n, cn p n = cn q n + cn r n
  | 0 => rfl
  | n + 1 => by
    rw [cn, cn, cn, cn_or h1 h2 n, h1 n]
    have := h2 n
    cases hq : q n <;> cases hr : r n
    · simp
    · simp; omega
    · simp; omega
    · exact absurd ⟨hq, hr⟩ this
theorem cn_no {p : Nat → Bool} {n : Nat} (h : ∀ i, i < n → p i = false) : cn p n = 0 := by
  induction n with
  | zero => rfl
  | succ n ih => rw [cn, ih (fun i hi => h i (by omega)), h n (by omega)]; rfl

/-- Sets of so many, of which so many are among the first ones. -/
def hs (b o k : Nat) (s : Nat) : Bool := decide (pc s = o) && decide (pc (s % 2 ^ b) = k)

theorem cn_two {N : Nat} {p : Nat → Bool} : cn p (2 ^ (N + 1)) = cn p (2 ^ N) + cn (fun i => p (2 ^ N + i)) (2 ^ N) := by
  rw [Nat.pow_succ, Nat.mul_two, cn_add]

theorem sets_all : ∀ {N : Nat}, N ≤ 11 → ∀ o, cn (fun s => decide (pc s = o)) (2 ^ N) = ch N o
  | 0, _, 0 => rfl
  | 0, _, o + 1 => by
    show 0 + (if decide (pc 0 = o + 1) = true then 1 else 0) = 0
    have : pc 0 = 0 := pcN_zero 11
    rw [this]; simp
  | N + 1, h, o => by
    rw [cn_two, sets_all (N := N) (by omega) o]
    cases o with
    | zero =>
      rw [cn_no fun i hi => by
        rw [pc_top (by omega) hi]
        exact decide_eq_false (by omega)]
      rw [ch_zero, ch_zero]
    | succ o =>
      have : cn (fun i => decide (pc (2 ^ N + i) = o + 1)) (2 ^ N) = cn (fun i => decide (pc i = o)) (2 ^ N) := cn_congr fun i hi => by
        rw [pc_top (by omega) hi]
        exact decide_eq_decide.2 (by omega)
      rw [this, sets_all (N := N) (by omega) o, ch_ss]
      omega

theorem sets_some {b : Nat} : ∀ {M : Nat}, b + M ≤ 11 → ∀ o k, cn (hs b o k) (2 ^ (b + M)) = if k ≤ o then ch b k * ch M (o - k) else 0
  | 0, h, o, k => by
    have e : cn (hs b o k) (2 ^ (b + 0)) = if k = o then ch b o else 0 := by
      rw [Nat.add_zero]
      by_cases hk : k = o
      · subst hk
        rw [if_pos rfl, ← sets_all (N := b) (by omega) k]
        refine cn_congr fun i hi => ?_
        unfold hs
        rw [Nat.mod_eq_of_lt hi, Bool.and_self]
      · rw [if_neg hk]
        refine cn_no fun i hi => ?_
        unfold hs
        rw [Nat.mod_eq_of_lt hi]
        cases h1 : decide (pc i = o) with
        | false => rfl
        | true =>
          have := of_decide_eq_true h1
          exact decide_eq_false (by omega)
    rw [e]
    by_cases hk : k = o
    · subst hk
      rw [if_pos rfl, if_pos (Nat.le_refl _), Nat.sub_self, ch_zero, Nat.mul_one]
    · rw [if_neg hk]
      split
      · rw [ch_lt (show 0 < o - k by omega), Nat.mul_zero]
      · rfl
  | M + 1, h, o, k => by
    have hm : ∀ i, (2 ^ (b + M) + i) % 2 ^ b = i % 2 ^ b := fun i => by rw [Nat.pow_add, Nat.mul_add_mod]
    rw [show b + (M + 1) = b + M + 1 by omega, cn_two, sets_some (M := M) (by omega) o k]
    cases o with
    | zero =>
      rw [cn_no fun i hi => by
        unfold hs
        rw [pc_top (by omega) hi]
        rw [decide_eq_false (show ¬ pc i + 1 = 0 by omega)]; rfl]
      by_cases hk : k ≤ 0
      · rw [if_pos hk, if_pos hk, Nat.zero_sub, ch_zero, ch_zero]
        rfl
      · rw [if_neg hk, if_neg hk]
    | succ o =>
      have : cn (fun i => hs b (o + 1) k (2 ^ (b + M) + i)) (2 ^ (b + M)) = cn (hs b o k) (2 ^ (b + M)) := cn_congr fun i hi => by
        unfold hs
        rw [pc_top (by omega) hi, hm]
        congr 1
        exact decide_eq_decide.2 (by omega)
      rw [this, sets_some (M := M) (by omega) o k]
      by_cases h1 : k ≤ o
      · rw [if_pos (by omega), if_pos h1, if_pos (by omega), show o + 1 - k = (o - k) + 1 by omega, ch_ss, Nat.mul_add]
        omega
      · rw [if_neg h1]
        by_cases h2 : k ≤ o + 1
        · rw [if_pos h2, if_pos h2, show o + 1 - k = 0 by omega, ch_zero, ch_zero, Nat.add_zero]
        · rw [if_neg h2, if_neg h2]

def fw (b o a : Nat) (s : Nat) : Bool := decide (pc s = o) && decide (pc (s % 2 ^ b) ≤ a)
theorem sets_few {N b o : Nat} (hN : N ≤ 11) (hb : b ≤ N) : ∀ {a : Nat}, a ≤ o → cn (fw b o a) (2 ^ N) = F N b o a
  | 0, ha => by
    obtain ⟨M, rfl⟩ : ∃ M, N = b + M := ⟨N - b, by omega⟩
    have : cn (fw b o 0) (2 ^ (b + M)) = cn (hs b o 0) (2 ^ (b + M)) := cn_congr fun i _ => by
      unfold fw hs
      congr 1
      exact decide_eq_decide.2 (by omega)
    rw [this, sets_some (by omega), if_pos (Nat.zero_le _)]
    show _ = 0 + ch b 0 * ch (b + M - b) (o - 0)
    rw [Nat.add_sub_cancel_left, Nat.zero_add]
  | a + 1, ha => by
    have hor := cn_or (p := fw b o (a + 1)) (q := fw b o a) (r := hs b o (a + 1)) (fun i => by
      unfold fw hs
      rw [← Bool.and_or_distrib_left]
      congr 1
      rw [Bool.eq_iff_iff, Bool.or_eq_true, decide_eq_true_eq, decide_eq_true_eq, decide_eq_true_eq]
      omega) (fun i hi => by
      unfold fw hs at hi
      simp only [Bool.and_eq_true, decide_eq_true_eq] at hi
      omega) (2 ^ N)
    rw [hor, sets_few hN hb (a := a) (by omega)]
    obtain ⟨M, rfl⟩ : ∃ M, N = b + M := ⟨N - b, by omega⟩
    rw [sets_some (by omega), if_pos ha]
    show F (b + M) b o a + ch b (a + 1) * ch M (o - (a + 1)) = F (b + M) b o a + ch b (a + 1) * ch (b + M - b) (o - (a + 1))
    rw [Nat.add_sub_cancel_left]

/-- Odds that are brought down have no common factor. -/
theorem odds_cop {N b o a : Nat} (h1 : 1 ≤ N) (h2 : N ≤ 40) (hb : b ≤ N) (ho : o ≤ N) (ha : a ≤ o) : oddsE N b o a = 0 ∧ ∃ g p q : Nat, 0 < q ∧ p ≤ q ∧ q ≤ 1099511627776 ∧ F N b o a = g * p ∧ ch N o = g * q ∧ oddsOf N b o a = p ∧ oddsIn N b o a = q ∧ Nat.gcd p q = 1 := by
  have w : (within (N : Int) 1 40 && within (b : Int) 0 N) = true := by
    rw [Bool.and_eq_true, within_iff, within_iff]; omega
  have w2 : planOk N o a = true := by
    unfold planOk
    rw [Bool.and_eq_true, within_iff, within_iff]; omega
  obtain ⟨e1, e2, e3⟩ := odds_good w w2
  have hF := F_le (N := N) (b := b) (o := o) (a := a) hb ha
  have hc := ch_pos (n := N) (k := o) ho
  have hl := ch_le (n := N) (k := o) h2
  have hg : 0 < Nat.gcd (F N b o a) (ch N o) := Nat.gcd_pos_of_pos_right _ hc
  have d1 := Nat.mul_div_cancel' (Nat.gcd_dvd_left (F N b o a) (ch N o))
  have d2 := Nat.mul_div_cancel' (Nat.gcd_dvd_right (F N b o a) (ch N o))
  exact ⟨e3, _, _, _, Nat.div_pos (Nat.gcd_le_right _ hc) hg, Nat.div_le_div_right hF, Nat.le_trans (Nat.div_le_self _ _) hl, d1.symm, d2.symm, e1, e2, Nat.coprime_div_gcd_div_gcd hg⟩
end Bm
