/- Plain mathematics: fair payments; what is kept; the round in which a debt breaks. -/
import Derived.Test.YthofpbnbjkdpaaaDoorCxMath2
set_option linter.unusedSimpArgs false
set_option linter.unusedVariables false
namespace Cm
section
variable {b : Book} {s : Nat}

theorem pay_congr {p q : Nat → Int} (h : ∀ i, i < b.nd → p i = q i) {k : Nat} : pay b s p k = pay b s q k := by
  have h1 := pay_mono (s := s) (k := k) (fun i hi => Int.le_of_eq (h i hi))
  have h2 := pay_mono (s := s) (k := k) (fun i hi => Int.le_of_eq (h i hi).symm)
  omega

theorem clear_fix (g : Good b) : ∀ i, i < b.nd → pay b s (clear b s) i = clear b s i := same_iff.1 (stop_same g)

/-- Payments, again and again. -/
def itf (b : Book) (s : Nat) (q : Nat → Int) : Nat → Nat → Int
  | 0 => q
  | k + 1 => pay b s (itf b s q k)

theorem itf_pays (g : Good b) {q : Nat → Int} (hq : Pays b q) : ∀ k, Pays b (itf b s q k)
  | 0 => hq
  | _ + 1 => pays_pay g

/-- Fair payments are nowhere more than what is paid in any round. -/
theorem fix_le {q : Nat → Int} (hq : Pays b q) (hf : ∀ i, i < b.nd → pay b s q i = q i) : ∀ k i, i < b.nd → q i ≤ it b s k i
  | 0, i, hi => (hq i hi).2
  | k + 1, i, hi => by
    rw [← hf i hi]
    exact pay_mono (fun j hj => fix_le hq hf k j hj)

theorem fair_le {q : Nat → Int} (hq : Pays b q) (hf : ∀ i, i < b.nd → pay b s q i = q i) {i : Nat} (hi : i < b.nd) : q i ≤ clear b s i := fix_le hq hf _ i hi

theorem clear_le (g : Good b) (k i : Nat) (hi : i < b.nd) : clear b s i ≤ it b s k i := fix_le (pays_clear g) (clear_fix g) k i hi

/-! ### Rounds -/

theorem it_anti (g : Good b) {j k : Nat} (h : j ≤ k) {i : Nat} (hi : i < b.nd) : it b s k i ≤ it b s j i := by
  induction k with
  | zero => obtain rfl : j = 0 := (by omega); exact Int.le_refl _
  | succ k ih =>
    by_cases e : j = k + 1
    · subst e; exact Int.le_refl _
    · have h1 := ih (by omega)
      have h2 := it_down (s := s) g k i hi
      omega

theorem it_stop (g : Good b) {k : Nat} (h : stop b s ≤ k) {i : Nat} (hi : i < b.nd) : it b s k i = clear b s i := by
  have h1 := it_anti (s := s) g h hi
  have h2 := clear_le (s := s) g k i hi
  have h3 : it b s (stop b s) i = clear b s i := rfl
  omega

theorem brk_pos (g : Good b) {K i : Nat} (hi : i < b.nd) : ∀ {r : Nat}, r ≤ K → it b s r i < b.due i → 0 < brk b s K i ∧ brk b s K i ≤ r := by
  induction K with
  | zero =>
    intro r hr h
    obtain rfl : r = 0 := (by omega)
    simp [it] at h
  | succ K ih =>
    intro r hr h
    simp only [brk]
    by_cases e : r ≤ K
    · obtain ⟨h1, h2⟩ := ih e h
      rw [if_neg (by omega)]; omega
    · obtain rfl : r = K + 1 := (by omega)
      have hb := brk_bd (b := b) (s := s) (k := K) (i := i)
      by_cases e2 : brk b s K i = 0
      · rw [if_pos ⟨e2, h⟩]; omega
      · rw [if_neg (by omega)]; omega

theorem brk_at (g : Good b) {K i : Nat} (hi : i < b.nd) {r : Nat} (h : brk b s K i = r) (h0 : 0 < r) : it b s r i < b.due i ∧ ∀ j, j < r → it b s j i = b.due i := by
  induction K with
  | zero => simp [brk] at h; omega
  | succ K ih =>
    simp only [brk] at h
    by_cases e : brk b s K i = 0 ∧ it b s (K + 1) i < b.due i
    · rw [if_pos e] at h
      obtain rfl : r = K + 1 := (by omega)
      refine ⟨e.2, fun j hj => ?_⟩
      have h1 := (brk_iff (s := s) g (k := K) hi).1 e.1
      have h2 := it_anti (s := s) g (j := j) (k := K) (by omega) hi
      have h3 := it_le (s := s) g j i hi
      omega
    · rw [if_neg e] at h
      exact ih h

/-- A debt that is not paid whole in some round breaks, not later. -/
theorem rnd_of (g : Good b) {i r : Nat} (hi : i < b.nd) (h : it b s r i < b.due i) : 0 < rnd b s i ∧ rnd b s i ≤ r := by
  by_cases e : r ≤ stop b s
  · exact brk_pos g hi e h
  · have h1 := it_stop (s := s) g (k := r) (by omega) hi
    have h2 := brk_pos (s := s) (K := stop b s) g hi (Nat.le_refl _) (by
      have h3 : it b s (stop b s) i = clear b s i := rfl
      omega)
    have h3 : rnd b s i = brk b s (stop b s) i := rfl
    omega

theorem rnd_at (g : Good b) {i : Nat} (hi : i < b.nd) (h : 0 < rnd b s i) : it b s (rnd b s i).toNat i < b.due i ∧ ∀ j : Nat, (j : Int) < rnd b s i → it b s j i = b.due i := by
  have h1 := brk_at (s := s) (K := stop b s) (r := (rnd b s i).toNat) g hi (by
    have h3 : rnd b s i = brk b s (stop b s) i := rfl
    omega) (by omega)
  exact ⟨h1.1, fun j hj => h1.2 j (by omega)⟩

theorem rnd_iff (g : Good b) {i : Nat} (hi : i < b.nd) : rnd b s i = 0 ↔ clear b s i = b.due i := brk_iff g hi

/-! ### What is left -/

theorem left_eq (g : Good b) (hs : s < b.ns) {x : Int} (hx : 0 ≤ x ∧ x < b.nc) : ∀ k, k ≤ b.nd → left b s (clear b s) x k = has b s x.toNat + gets b (clear b s) x b.nd - owes b (clear b s) x k
  | 0, _ => by
    have := left_zero g hs (pays_clear (s := s) g) hx
    have e : owes b (clear b s) x 0 = 0 := rfl
    omega
  | k + 1, hk => by
    have ih := left_eq g hs hx k (by omega)
    by_cases e : b.frm k = x
    · subst e
      rw [left_own g (by omega), ih, owes_succ, if_pos rfl, clear_fix g k (by omega)]; omega
    · rw [left_other e, ih, owes_succ, if_neg e]; omega

theorem left_nonneg {x : Int} {k : Nat} {p : Nat → Int} : 0 ≤ left b s p x k := by simp only [left]; omega

theorem left_anti (g : Good b) {x : Int} {p : Nat → Int} {j k : Nat} (h : j ≤ k) (hk : k ≤ b.nd) : left b s p x k ≤ left b s p x j := by
  have : owes b b.due x j ≤ owes b b.due x k := sumN_mono (fun i hi => by have := g.due i (by omega); split <;> omega) h
  simp only [left]; omega

/-- Once a debt of a party is not paid whole, nothing is left. -/
theorem left_short (g : Good b) (hs : s < b.ns) {j : Nat} (hj : j < b.nd) (h : clear b s j < b.due j) : left b s (clear b s) (b.frm j) (j + 1) = 0 := by
  have h1 := clear_fix (s := s) g j hj
  rw [left_own g hj, h1]
  have h2 : pay b s (clear b s) j = min (left b s (clear b s) (b.frm j) j) (b.due j) := rfl
  omega

theorem short_zero (g : Good b) (hs : s < b.ns) {i j : Nat} (hji : j < i) (hi : i < b.nd) (he : b.frm i = b.frm j) (h : clear b s j < b.due j) : clear b s i = 0 := by
  have h1 := left_short g hs (j := j) (by omega) h
  have h2 := left_anti g (s := s) (x := b.frm j) (p := clear b s) (j := j + 1) (k := i) (by omega) (by omega)
  have h3 := left_nonneg (b := b) (s := s) (x := b.frm j) (k := i) (p := clear b s)
  have h4 := clear_fix (s := s) g i hi
  have h5 : pay b s (clear b s) i = min (left b s (clear b s) (b.frm i) i) (b.due i) := rfl
  rw [he] at h5
  have h6 := g.due i hi
  omega

/-- Is a debt of a party, of the first k, not paid whole? -/
def shortB (b : Book) (s : Nat) (x : Int) : Nat → Bool
  | 0 => false
  | k + 1 => shortB b s x k || (decide (b.frm k = x) && decide (clear b s k < b.due k))

theorem shortB_iff {x : Int} : ∀ {k : Nat}, shortB b s x k = true ↔ ∃ j, j < k ∧ b.frm j = x ∧ clear b s j < b.due j
  | 0 => by simp [shortB]
  | k + 1 => by
    simp only [shortB, Bool.or_eq_true, shortB_iff (k := k), Bool.and_eq_true, decide_eq_true_eq]
    constructor
    · rintro (⟨j, h1, h2⟩ | h)
      · exact ⟨j, by omega, h2⟩
      · exact ⟨k, by omega, h⟩
    · rintro ⟨j, h1, h2⟩
      by_cases e : j = k
      · subst e; exact .inr h2
      · exact .inl ⟨j, by omega, h2⟩

theorem kept_zero (g : Good b) (hs : s < b.ns) {i : Nat} (hi : i < b.nd) (h : shortB b s (b.frm i) i = true) : clear b s i = 0 := by
  obtain ⟨j, h1, h2, h3⟩ := shortB_iff.1 h
  exact short_zero g hs h1 hi h2.symm h3

theorem lft_left (g : Good b) (hs : s < b.ns) {p : Nat} (hp : p < b.nc) : lft b s p = left b s (clear b s) p b.nd := by
  have := left_eq g hs (x := (p : Int)) ⟨by omega, by omega⟩ b.nd (Nat.le_refl _)
  rw [this, Int.toNat_natCast]; rfl

theorem kept_end (g : Good b) (hs : s < b.ns) {p : Nat} (hp : p < b.nc) : 0 ≤ lft b s p ∧ (0 < lft b s p → shortB b s p b.nd = false) := by
  rw [lft_left g hs hp]
  refine ⟨left_nonneg, fun h => ?_⟩
  cases e : shortB b s p b.nd with
  | false => rfl
  | true =>
    obtain ⟨j, h1, h2, h3⟩ := shortB_iff.1 e
    have h4 := left_short g hs h1 h3
    have h5 := left_anti g (s := s) (x := b.frm j) (p := clear b s) (j := j + 1) (k := b.nd) (by omega) (Nat.le_refl _)
    rw [h2] at h4 h5
    omega

/-- Nothing is made, and nothing is lost. -/
theorem kept_sum (g : Good b) (p : Nat → Int) : sumN b.nc (fun x => gets b p x b.nd) = sumN b.nc (fun x => owes b p x b.nd) := by
  have h1 : sumN b.nc (fun x => gets b p x b.nd) = sumN b.nd p := by
    unfold gets
    rw [sumN_swap]
    refine sumN_congr fun i hi => ?_
    have ht := g.to i hi
    refine (sumN_congr fun x _ => ?_).trans (sumN_one (n := b.nc) (k := (b.to i).toNat) (x := p i) (by omega))
    by_cases e : x = (b.to i).toNat
    · rw [if_pos e, if_pos (by omega)]
    · rw [if_neg e, if_neg (by omega)]
  have h2 : sumN b.nc (fun x => owes b p x b.nd) = sumN b.nd p := by
    unfold owes
    rw [sumN_swap]
    refine sumN_congr fun i hi => ?_
    have ht := g.frm i hi
    refine (sumN_congr fun x _ => ?_).trans (sumN_one (n := b.nc) (k := (b.frm i).toNat) (x := p i) (by omega))
    by_cases e : x = (b.frm i).toNat
    · rw [if_pos e, if_pos (by omega)]
    · rw [if_neg e, if_neg (by omega)]
  rw [h1, h2]

theorem kept_all (g : Good b) : sumN b.nc (fun p => lft b s p) = sumN b.nc (fun p => has b s p) := by
  have h := kept_sum g (clear b s)
  unfold lft
  rw [sumN_sub, sumN_add, h]
  have e : ∀ X Y : Int, X + Y - Y = X := fun X Y => by omega
  exact e _ _
end
end Cm
