/- Plain laws of the doubt. -/
import Derived.Test.YthcplmlkgaiggaaBxSpec4
set_option linter.unusedSimpArgs false
set_option linter.unusedVariables false
namespace Bm
open Go Go.Sx

theorem fnd_split {N b o f : Nat} (hb : b ≤ N) (hf : f ≤ o) : sN f (fun k => ch b k * ch (N - b) (o - k)) + fnd N b o f o = ch N o := by
  rw [← F_all hb]
  unfold F fnd
  rw [← sN_split (f := fun k => ch b k * ch (N - b) (o - k)) (n := f) (m := o + 1 - f), show f + (o + 1 - f) = o + 1 by omega]
theorem fnd_pos {N b o f : Nat} (hb : b ≤ N) (hf : f ≤ o) (h0 : 0 < f) : F N b o (f - 1) + fnd N b o f o = ch N o := by
  rw [← fnd_split hb hf]
  unfold F
  rw [show f - 1 + 1 = f by omega]
theorem fnd_mono {N b b' o f : Nat} (h : b ≤ b') (hb : b' ≤ N) (hf : f ≤ o) : fnd N b o f o ≤ fnd N b' o f o := by
  by_cases h0 : 0 < f
  · have e1 := fnd_pos (N := N) (b := b) (o := o) (f := f) (by omega) hf h0
    have e2 := fnd_pos (N := N) (b := b') (o := o) (f := f) hb hf h0
    have e3 := F_anti (N := N) (o := o) (a := f - 1) (by omega) h hb
    omega
  · obtain rfl : f = 0 := by omega
    rw [fnd_all (by omega), fnd_all hb]
    exact Nat.le_refl _
theorem okB_between {N o f : Nat} {dO dI : Int} (h0 : 0 ≤ dI) (hf : f ≤ o) {i j k : Nat} (hi : i ≤ j) (hj : j ≤ k) (hk : k ≤ N) (h1 : okB N o f dO dI i = true) (h2 : okB N o f dO dI k = true) : okB N o f dO dI j = true := by
  obtain ⟨_, a2⟩ := okB_iff.1 h1
  obtain ⟨b1, _⟩ := okB_iff.1 h2
  refine okB_iff.2 ⟨Int.lt_of_lt_of_le b1 ?_, Int.lt_of_lt_of_le a2 ?_⟩
  · exact Int.mul_le_mul_of_nonneg_right (Int.ofNat_le.2 (F_anti hf hj hk)) h0
  · exact Int.mul_le_mul_of_nonneg_right (Int.ofNat_le.2 (fnd_mono hi (by omega) hf)) h0
theorem lst_at {p : Nat → Bool} : ∀ {n i : Nat}, i < n → p i = true → p (lst p n) = true ∧ i ≤ lst p n
  | n + 1, i, hi, hp => by
    cases e : p n with
    | true => 
      have e2 : lst p (n + 1) = n := by show (if p n then n else lst p n) = _; rw [e]; rfl
      rw [e2]
      exact ⟨e, by omega⟩
    | false =>
      have e2 : lst p (n + 1) = lst p n := by show (if p n then n else lst p n) = _; rw [e]; rfl
      rw [e2]
      have hne : i ≠ n := fun h => by subst h; rw [hp] at e; cases e
      exact lst_at (by omega) hp
/-- Between the first and the last it is so, and nowhere else. -/
theorem hold_iff {p : Nat → Bool} {n b : Nat} (hp : ∀ i j k, i ≤ j → j ≤ k → k < n → p i = true → p k = true → p j = true) (hb : b < n) : p b = true ↔ fst p n < n ∧ fst p n ≤ b ∧ b ≤ lst p n := by
  constructor
  · intro h
    have h1 := lst_at hb h
    have h2 : fst p n ≤ b := Nat.le_of_not_lt fun hlt => by
      have := fst_before hlt
      rw [h] at this; cases this
    exact ⟨by omega, h2, h1.2⟩
  · intro ⟨h1, h2, h3⟩
    have a1 := fst_at h1
    have a2 := lst_at h1 a1
    exact hp _ b _ h2 h3 (lst_le (by omega)) a1 a2.1

theorem bel_in {N o f b : Nat} {dO dI : Int} (h1 : 1 ≤ N) (h2 : N ≤ 40) (ho : o ≤ N) (hf : f ≤ o) (hb : b ≤ N) (hd : oddsOk dO dI = true) :
    (belE N o f dO dI = 0 ∨ belE N o f dO dI = 4) ∧ ((belE N o f dO dI = 0 ∧ belL N o f dO dI ≤ b ∧ b ≤ belH N o f dO dI) ↔ okB N o f dO dI b = true) := by
  have w : (within (N : Int) 1 40 && within (o : Int) 0 N && within (f : Int) 0 o) = true := by
    rw [Bool.and_eq_true, Bool.and_eq_true, within_iff, within_iff, within_iff]; omega
  have hp : ∀ i j k, i ≤ j → j ≤ k → k < N + 1 → okB N o f dO dI i = true → okB N o f dO dI k = true → okB N o f dO dI j = true := fun i j k a1 a2 a3 a4 a5 => okB_between (by have := odd_bd hd; omega) hf a1 a2 (by omega) a4 a5
  rw [hold_iff hp (show b < N + 1 by omega)]
  by_cases hx : fst (okB N o f dO dI) (N + 1) < N + 1
  · obtain ⟨e1, e2, e3⟩ := bel_0 w hd hx
    rw [← e1, ← e2, ← e3]
    refine ⟨.inl rfl, ?_⟩
    omega
  · have hn : ∀ i, i < N + 1 → okB N o f dO dI i = false := fun i hi => by
      refine fst_before (n := N + 1) ?_
      omega
    obtain ⟨e1, e2, e3⟩ := bel_4 w hd hn
    rw [← e3]
    refine ⟨.inr rfl, ?_⟩
    omega

theorem bel_top {N f : Nat} {dO dI : Int} (h1 : 1 ≤ N) (h2 : N ≤ 40) (hf : f ≤ N) (hd : oddsOk dO dI = true) :
    (dO = dI → belE N N f dO dI = 4 ∧ belL N N f dO dI = 0 ∧ belH N N f dO dI = 0) ∧ (dO ≠ dI → belE N N f dO dI = 0 ∧ belL N N f dO dI = f ∧ belH N N f dO dI = f) := by
  have w : (within (N : Int) 1 40 && within (N : Int) 0 N && within (f : Int) 0 N) = true := by
    rw [Bool.and_eq_true, Bool.and_eq_true, within_iff, within_iff, within_iff]; omega
  obtain ⟨d1, d2, d3, d4⟩ := odd_bd hd
  have hc : ch N N = 1 := ch_self N
  have hok : ∀ b, b ≤ N → (okB N N f dO dI b = true ↔ b = f ∧ dO ≠ dI) := fun b hb => by
    rw [okB_iff]
    unfold few many
    have e1 := F_top (N := N) (b := b) (a := f) hb hf
    have e2 := fnd_split (N := N) (b := b) (o := N) (f := f) hb hf
    have e3 : fnd N b N f N = if f ≤ b then 1 else 0 := by
      by_cases h0 : 0 < f
      · have e4 := fnd_pos (N := N) (b := b) (o := N) (f := f) hb hf h0
        rw [F_top hb (by omega), hc] at e4
        by_cases hle : f ≤ b
        · rw [if_neg (by omega)] at e4; rw [if_pos hle]; omega
        · rw [if_pos (by omega)] at e4; rw [if_neg hle]; omega
      · obtain rfl : f = 0 := by omega
        rw [fnd_all hb, hc, if_pos (by omega)]
    rw [e1, e3, hc]
    by_cases x1 : b ≤ f <;> by_cases x2 : f ≤ b <;> simp only [x1, x2, if_true, if_false] <;> omega
  constructor
  · intro he
    have hn : ∀ i, i < N + 1 → okB N N f dO dI i = false := fun i hi => by
      cases e : okB N N f dO dI i with
      | false => rfl
      | true => exact absurd he ((hok i (by omega)).1 e).2
    obtain ⟨e1, e2, e3⟩ := bel_4 w hd hn
    exact ⟨e3.symm, e1.symm, e2.symm⟩
  · intro he
    have hpf : okB N N f dO dI f = true := (hok f hf).2 ⟨rfl, he⟩
    have hfst : fst (okB N N f dO dI) (N + 1) = f := fst_of (by omega) hpf fun j hj => by
      cases e : okB N N f dO dI j with
      | false => rfl
      | true => exact absurd ((hok j (by omega)).1 e).1 (by omega)
    have hl := lst_at (p := okB N N f dO dI) (n := N + 1) (i := f) (by omega) hpf
    have hlst : lst (okB N N f dO dI) (N + 1) = f := ((hok _ (by have := lst_le (p := okB N N f dO dI) (j := N + 1) (by omega); omega)).1 hl.1).1
    obtain ⟨e1, e2, e3⟩ := bel_0 w hd (by omega)
    rw [hfst] at e1
    rw [hlst] at e2
    exact ⟨e3.symm, e1.symm, e2.symm⟩
end Bm
namespace Bm
open Go Go.Sx
/-- Both odds of the doubt, as fractions. -/
theorem okB_odds {N o f b : Nat} {dO dI : Int} (h1 : 1 ≤ N) (h2 : N ≤ 40) (ho : o ≤ N) (hf : f ≤ o) (hb : b ≤ N) :
    ∃ p q u v : Nat, p ≤ q ∧ 0 < q ∧ q ≤ 1099511627776 ∧ u ≤ v ∧ 0 < v ∧ v ≤ 1099511627776 ∧ oddsE N b o f = 0 ∧ oddsOf N b o f = p ∧ oddsIn N b o f = q ∧
      (f = 0 → u = 0 ∧ v = 1) ∧ (0 < f → oddsE N b o (f - 1 : Nat) = 0 ∧ oddsOf N b o (f - 1 : Nat) = u ∧ oddsIn N b o (f - 1 : Nat) = v) ∧
      (okB N o f dO dI b = true ↔ dO * q < p * dI ∧ dO * v < ((v : Int) - u) * dI) := by
  obtain ⟨E1, g, p, q, hg, hq, hpq, hql, e1, e2, e3, e4⟩ := odds_at h1 h2 hb ho hf
  have hfew : few N o f dO dI b ↔ dO * q < p * dI := by
    unfold few
    rw [e1, e2]
    exact scaleR hg
  by_cases h0 : 0 < f
  · obtain ⟨E2, g', u, v, hg', hv, huv, hvl, a1, a2, a3, a4⟩ := odds_at h1 h2 hb ho (show f - 1 ≤ o by omega)
    refine ⟨p, q, u, v, hpq, hq, hql, huv, hv, hvl, E1, e3, e4, fun h => by omega, fun _ => ⟨E2, a3, a4⟩, ?_⟩
    rw [okB_iff, hfew]
    refine and_congr_right fun _ => ?_
    unfold many
    have e5 := fnd_pos (N := N) (b := b) (o := o) (f := f) hb hf h0
    have e6 : fnd N b o f o = g' * (v - u) := by
      rw [Nat.mul_sub, ← a1, ← a2]; omega
    rw [e6, a2, scaleR hg', Int.ofNat_sub huv]
  · obtain rfl : f = 0 := by omega
    refine ⟨p, q, 0, 1, hpq, hq, hql, by omega, by omega, by omega, E1, e3, e4, fun _ => ⟨rfl, rfl⟩, fun h => by omega, ?_⟩
    rw [okB_iff, hfew]
    refine and_congr_right fun _ => ?_
    unfold many
    have hc := ch_pos (n := N) (k := o) ho
    rw [fnd_all hb]
    have := scaleR (g := ch N o) (p := 1) (q := 1) (x := dI) (y := dO) hc
    rw [Nat.mul_one] at this
    rw [this]
    rfl
end Bm
