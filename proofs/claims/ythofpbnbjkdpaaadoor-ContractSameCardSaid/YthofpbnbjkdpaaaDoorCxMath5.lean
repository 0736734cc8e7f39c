/- Plain mathematics: loans. -/
import Derived.Test.YthofpbnbjkdpaaaDoorCxMath4
set_option linter.unusedSimpArgs false
set_option linter.unusedVariables false
namespace Cm
theorem chk_of {b : Book} (g : Good b) : chk b = true := by
  have h1 := g.nc1; have h2 := g.nc; have h3 := g.nd; have h4 := g.ns1; have h5 := g.ns
  simp only [chk, sizesOk, Bool.and_eq_true, allB_iff, within_iff, decide_eq_true_eq, cashOk, debtOk, seasonOk, barOk]
  refine ⟨⟨⟨⟨⟨⟨by omega, by omega⟩, by omega⟩, by omega, by omega⟩, g.cash⟩, fun k hk => ?_⟩, fun s hs => ?_⟩
  · have f1 := g.frm k hk; have f2 := g.to k hk; have f3 := g.ne k hk; have f4 := g.due k hk
    exact ⟨⟨⟨⟨by omega, by omega⟩, by omega, by omega⟩, f3⟩, f4⟩
  · have f1 := g.nb s hs
    exact ⟨⟨g.price s hs, by omega⟩, fun i hi => g.bar s hs i (by omega)⟩

section
variable {b : Book} {s : Nat}
/-- What a party lacks, if all is paid whole. -/
def need (b : Book) (s p : Nat) : Int := owes b b.due p b.nd - gets b b.due p b.nd - has b s p

theorem owes_le (g : Good b) {x : Int} {j k : Nat} (h : j ≤ k) (hk : k ≤ b.nd) : owes b b.due x j ≤ owes b b.due x k :=
  sumN_mono (fun i hi => by have := g.due i (by omega); split <;> omega) h

theorem party_pay (g : Good b) {p : Nat} (hn : need b s p ≤ 0) {i : Nat} (hi : i < b.nd) (hf : b.frm i = p) : pay b s b.due i = b.due i := by
  have h1 := owes_le g (x := (p : Int)) (j := i + 1) (k := b.nd) (by omega) (Nat.le_refl _)
  rw [owes_succ, if_pos hf] at h1
  have h2 : pay b s b.due i = min (left b s b.due (b.frm i) i) (b.due i) := rfl
  rw [h2, hf]
  simp only [left, Int.toNat_natCast]
  unfold need at hn
  omega

theorem party_need (g : Good b) (hs : s < b.ns) {p : Nat} (hp : p < b.nc) (h : ∀ i, i < b.nd → b.frm i = p → pay b s b.due i = b.due i) : need b s p ≤ 0 := by
  have key : ∀ k, k ≤ b.nd → 0 ≤ has b s p + gets b b.due p b.nd - owes b b.due p k := by
    intro k
    induction k with
    | zero =>
      intro _
      have h1 := has_bd g hs hp
      have h2 := gets_bd g (pays_due g) p b.nd (Nat.le_refl _)
      have h3 : owes b b.due p 0 = 0 := rfl
      omega
    | succ k ih =>
      intro hk
      have ih := ih (by omega)
      rw [owes_succ]
      by_cases e : b.frm k = p
      · rw [if_pos e]
        have h1 := h k (by omega) e
        have h2 : pay b s b.due k = min (left b s b.due (b.frm k) k) (b.due k) := rfl
        rw [h2, e] at h1
        simp only [left, Int.toNat_natCast] at h1
        omega
      · rw [if_neg e]; omega
  have := key b.nd (Nat.le_refl _)
  unfold need; omega

theorem whole_it (h : ∀ i, i < b.nd → pay b s b.due i = b.due i) : ∀ k i, i < b.nd → it b s k i = b.due i
  | 0, _, _ => rfl
  | k + 1, i, hi => by
    show pay b s (it b s k) i = _
    rw [pay_congr (q := b.due) (fun j hj => whole_it h k j hj)]
    exact h i hi

/-- Nothing breaks in a season just if no party lacks anything. -/
theorem worst_neg (g : Good b) (hs : s < b.ns) : worst b s b.nd < 0 ↔ ∀ p, p < b.nc → need b s p ≤ 0 := by
  constructor
  · intro h p hp
    have h1 := worst_spec.1 h
    refine party_need g hs hp fun i hi _ => ?_
    apply Classical.byContradiction
    intro hne
    have hl := it_le (s := s) g 1 i hi
    have e1 : it b s 1 i = pay b s b.due i := rfl
    exact h1 i hi (rnd_of (s := s) g (r := 1) hi (by omega)).1
  · intro h
    apply Classical.byContradiction
    intro hn
    have hb := worst_bd (b := b) (s := s) (k := b.nd)
    have h1 := (worst_spec.2 (by omega : 0 ≤ worst b s b.nd)).1
    have hw : ∀ i, i < b.nd → pay b s b.due i = b.due i := fun i hi => by
      have hf := g.frm i hi
      exact party_pay g (p := (b.frm i).toNat) (h _ (by omega)) hi (by omega)
    have hi : (worst b s b.nd).toNat < b.nd := by omega
    have h2 := (rnd_at g hi h1).1
    rw [whole_it hw _ _ hi] at h2
    omega

theorem ln_nonneg {p : Nat} : ∀ {k : Nat}, 0 ≤ ln b p k
  | 0 => Int.le_refl _
  | k + 1 => by have := ln_nonneg (p := p) (k := k); simp only [ln]; omega
theorem ln_ge {p : Nat} : ∀ {k : Nat}, s < k → need b s p ≤ ln b p k
  | 0, h => by omega
  | k + 1, h => by
    simp only [ln]
    by_cases e : s = k
    · subst e; unfold need; omega
    · have := ln_ge (p := p) (k := k) (by omega); omega
theorem ln_at {p : Nat} : ∀ {k : Nat}, 0 < ln b p k → ∃ s, s < k ∧ need b s p = ln b p k
  | 0, h => by simp [ln] at h
  | k + 1, h => by
    simp only [ln] at h ⊢
    by_cases e : ln b p k < owes b b.due p b.nd - gets b b.due p b.nd - has b k p
    · exact ⟨k, by omega, by unfold need; omega⟩
    · obtain ⟨s, h1, h2⟩ := ln_at (p := p) (k := k) (by omega)
      exact ⟨s, by omega, by rw [h2]; omega⟩

theorem sum_zero {n : Nat} {f : Nat → Int} (h : ∀ i, i < n → 0 ≤ f i) : sumN n f = 0 ↔ ∀ i, i < n → f i = 0 := by
  constructor
  · intro h0 i hi
    have h1 := sumN_mono (n := i + 1) (m := n) h (by omega)
    have h2 := sumN_nonneg (n := i) (fun j hj => h j (by omega))
    have h3 := h i hi
    have h4 : sumN (i + 1) f = sumN i f + f i := rfl
    omega
  · intro h0
    rw [sumN_congr h0, sumN_zero]

theorem brE_four (hc : chk b = true) : brE b = 4 ↔ ∀ s p, s < b.ns → p < b.nc → need b s p ≤ 0 := by
  have g := good hc
  rcases br_spec hc with ⟨h1, S, D, h2, h3, h4, h5, h6, h7⟩ | ⟨h1, h2, h3, h4⟩
  · constructor
    · intro h; omega
    · intro h
      have := (worst_neg (s := S) g h3).2 (fun p hp => h S p h3 hp)
      omega
  · exact ⟨fun _ s p hs hp => (worst_neg g hs).1 (h4 s hs) p hp, fun _ => h1⟩

theorem lent_zero (hc : chk b = true) : brE b = 4 ↔ sumN b.nc (fun p => ln b p b.ns) = 0 := by
  rw [brE_four hc, sum_zero (fun i _ => ln_nonneg)]
  constructor
  · intro h p hp
    apply Classical.byContradiction
    intro hn
    have h0 := ln_nonneg (b := b) (p := p) (k := b.ns)
    obtain ⟨s, h1, h2⟩ := ln_at (b := b) (p := p) (k := b.ns) (by omega)
    have := h s p h1 hp
    omega
  · intro h s p hs hp
    have h1 := ln_ge (b := b) (s := s) (p := p) hs
    have h2 := h p hp
    omega

/-- If one party alone lacks something in a season, then one of their debts breaks first, in the round 1. -/
theorem one_lacks (g : Good b) (hs : s < b.ns) {k : Nat} (hk : k < b.nc) (hone : ∀ p, p < b.nc → p ≠ k → need b s p ≤ 0) {D : Nat} (hD : D < b.nd) (hw : worst b s b.nd = D) : b.frm D = k ∧ rnd b s D = 1 := by
  obtain ⟨h1, h2⟩ := worst_spec.2 (by omega : 0 ≤ worst b s b.nd)
  rw [hw, Int.toNat_natCast] at h1 h2
  have hlack : ¬ need b s k ≤ 0 := fun hn => by
    have := (worst_neg g hs).2 (fun p hp => by
      by_cases e : p = k
      · subst e; exact hn
      · exact hone p hp e)
    omega
  have hex : ∃ i, i < b.nd ∧ b.frm i = k ∧ pay b s b.due i < b.due i := by
    apply Classical.byContradiction
    intro hn
    refine hlack (party_need g hs hk fun i hi hf => ?_)
    apply Classical.byContradiction
    intro hne
    have hl := it_le (s := s) g 1 i hi
    have e1 : it b s 1 i = pay b s b.due i := rfl
    exact hn ⟨i, hi, hf, by omega⟩
  obtain ⟨i, hi, hf, hl⟩ := hex
  have h3 := rnd_of (s := s) g (r := 1) hi hl
  have h4 := (h2 i hi h3.1).1
  have h5 : rnd b s D = 1 := by omega
  refine ⟨?_, h5⟩
  have h6 := (rnd_at g hD h1).1
  have e1 : (rnd b s D).toNat = 1 := by omega
  rw [e1] at h6
  apply Classical.byContradiction
  intro hne
  have hfD := g.frm D hD
  have := party_pay g (p := (b.frm D).toNat) (hone _ (by omega) (by omega)) hD (by omega)
  have e2 : it b s 1 D = pay b s b.due D := rfl
  omega
end
end Cm
