/- Plain mathematics for brands: numbers of choices, their sums. -/
import Derived.Test.YthcplmlkgaiggaaSxBase
set_option linter.unusedSimpArgs false
set_option linter.unusedVariables false
namespace Bm

/-- How many choices there are of k of n. -/
def ch : Nat → Nat → Nat
  | _, 0 => 1
  | 0, _ + 1 => 0
  | n + 1, k + 1 => ch n k + ch n (k + 1)

def sN : Nat → (Nat → Nat) → Nat
  | 0, _ => 0
  | n + 1, f => sN n f + f n

theorem ch_zero (n : Nat) : ch n 0 = 1 := by cases n <;> rfl
theorem ch_ss (n k : Nat) : ch (n + 1) (k + 1) = ch n k + ch n (k + 1) := rfl
theorem ch_lt : ∀ {n k : Nat}, n < k → ch n k = 0
  | 0, _ + 1, _ => rfl
  | n + 1, k + 1, h => by rw [ch_ss, ch_lt (by omega : n < k), ch_lt (by omega : n < k + 1)]
  | _, 0, h => absurd h (Nat.not_lt_zero _)
theorem ch_self : ∀ n, ch n n = 1
  | 0 => rfl
  | n + 1 => by rw [ch_ss, ch_self n, ch_lt (Nat.lt_succ_self n)]
theorem ch_pos : ∀ {n k : Nat}, k ≤ n → 0 < ch n k
  | _, 0, _ => by rw [ch_zero]; omega
  | n + 1, k + 1, h => by rw [ch_ss]; have := ch_pos (n := n) (k := k) (by omega); omega
  | 0, k + 1, h => absurd h (Nat.not_succ_le_zero _)
theorem ch_le_pow : ∀ n k, ch n k ≤ 2 ^ n
  | 0, 0 => by decide
  | 0, _ + 1 => Nat.zero_le _
  | n + 1, 0 => by rw [ch_zero]; exact Nat.one_le_two_pow
  | n + 1, k + 1 => by
    rw [ch_ss, Nat.pow_succ]
    have h1 := ch_le_pow n k
    have h2 := ch_le_pow n (k + 1)
    omega
theorem ch_le {n k : Nat} (h : n ≤ 40) : ch n k ≤ 1099511627776 :=
  Nat.le_trans (ch_le_pow n k) (Nat.le_trans (Nat.pow_le_pow_right (by omega) h) (by decide))

/-- One more, and one more chosen. -/
theorem absorb : ∀ n k, (k + 1) * ch (n + 1) (k + 1) = (n + 1) * ch n k
  | 0, 0 => by decide
  | 0, k + 1 => by
    rw [ch_lt (by omega : 0 + 1 < k + 1 + 1), ch_lt (by omega : 0 < k + 1)]; simp
  | n + 1, 0 => by
    have ih := absorb n 0
    rw [ch_ss, Nat.mul_add, ih]
    simp only [ch_zero, Nat.zero_add, Nat.one_mul, Nat.mul_one]; omega
  | n + 1, k + 1 => by
    have h1 := absorb n k
    have h2 := absorb n (k + 1)
    rw [ch_ss (n + 1) (k + 1), Nat.mul_add, h2, Nat.succ_mul (k + 1), h1]
    rw [ch_ss n k]
    simp only [Nat.add_mul, Nat.mul_add, Nat.one_mul, Nat.mul_one]
    omega

theorem sN_congr {n : Nat} {f g : Nat → Nat} (h : ∀ i, i < n → f i = g i) : sN n f = sN n g := by
  induction n with
  | zero => rfl
  | succ n ih => simp only [sN, ih (fun i hi => h i (by omega)), h n (by omega)]
theorem sN_add {n : Nat} {f g : Nat → Nat} : sN n (fun i => f i + g i) = sN n f + sN n g := by
  induction n with
  | zero => rfl
  | succ n ih => simp only [sN, ih]; omega
theorem sN_mul {n : Nat} {f : Nat → Nat} {c : Nat} : sN n (fun i => c * f i) = c * sN n f := by
  induction n with
  | zero => simp [sN]
  | succ n ih => simp only [sN, ih, Nat.mul_add]
theorem sN_head {f : Nat → Nat} : ∀ {n : Nat}, sN (n + 1) f = f 0 + sN n (fun i => f (i + 1))
  | 0 => by simp [sN]
  | n + 1 => by
    show sN (n + 1) f + f (n + 1) = _
    rw [sN_head (n := n)]
    simp only [sN]; omega
theorem sN_le {n : Nat} {f g : Nat → Nat} (h : ∀ i, i < n → f i ≤ g i) : sN n f ≤ sN n g := by
  induction n with
  | zero => exact Nat.le_refl _
  | succ n ih =>
    have h1 := ih (fun i hi => h i (by omega))
    have h2 := h n (by omega)
    simp only [sN]; omega
theorem sN_mono {f : Nat → Nat} {n m : Nat} (h : n ≤ m) : sN n f ≤ sN m f := by
  induction m with
  | zero => obtain rfl : n = 0 := by omega
            exact Nat.le_refl _
  | succ m ih =>
    by_cases e : n = m + 1
    · subst e; exact Nat.le_refl _
    · have := ih (by omega); simp only [sN]; omega
theorem sN_zero {n : Nat} : sN n (fun _ => 0) = 0 := by
  induction n with
  | zero => rfl
  | succ n ih => simp only [sN, ih]
theorem sN_split {f : Nat → Nat} {n : Nat} : ∀ {m : Nat}, sN (n + m) f = sN n f + sN m (fun i => f (n + i))
  | 0 => by simp [sN]
  | m + 1 => by
    show sN (n + m) f + f (n + m) = sN n f + (sN m (fun i => f (n + i)) + f (n + m))
    rw [sN_split (m := m)]; omega

/-- All choices of o of b and c. -/
theorem vander (c : Nat) : ∀ b o, sN (o + 1) (fun k => ch b k * ch c (o - k)) = ch (b + c) o
  | 0, o => by
    rw [sN_head, ch_zero, sN_congr (g := fun _ => 0) (fun i _ => by rw [ch_lt (by omega : 0 < i + 1)]; simp), sN_zero]
    simp
  | b + 1, 0 => by simp [sN, ch_zero]
  | b + 1, o + 1 => by
    have h1 := vander c b (o + 1)
    have h2 := vander c b o
    rw [sN_head] at h1 ⊢
    have e : ∀ i, i < o + 1 → ch (b + 1) (i + 1) * ch c (o + 1 - (i + 1)) = ch b i * ch c (o - i) + ch b (i + 1) * ch c (o + 1 - (i + 1)) := fun i _ => by
      rw [ch_ss, Nat.add_mul, show o + 1 - (i + 1) = o - i by omega]
    rw [sN_congr e, sN_add, h2, show b + 1 + c = b + c + 1 by omega, ch_ss, ← h1]
    simp only [ch_zero, Nat.one_mul]
    omega

/-- With how many choices from lo to hi of the opened barrels are below. -/
def fnd (N b o lo hi : Nat) : Nat := sN (hi + 1 - lo) (fun i => ch b (lo + i) * ch (N - b) (o - (lo + i)))

theorem fnd_all {N b o : Nat} (hb : b ≤ N) : fnd N b o 0 o = ch N o := by
  unfold fnd
  rw [Nat.sub_zero, sN_congr (g := fun k => ch b k * ch (N - b) (o - k)) (fun i _ => by rw [Nat.zero_add]), vander, show b + (N - b) = N by omega]

theorem fnd_le {N b o lo hi : Nat} (hb : b ≤ N) (hh : hi ≤ o) : fnd N b o lo hi ≤ ch N o := by
  rw [← fnd_all hb]
  unfold fnd
  by_cases h : lo ≤ hi + 1
  · have e : o + 1 - 0 = lo + (o + 1 - lo) := by omega
    rw [e, sN_split]
    have h1 : sN (hi + 1 - lo) (fun i => ch b (lo + i) * ch (N - b) (o - (lo + i))) ≤ sN (o + 1 - lo) (fun i => ch b (lo + i) * ch (N - b) (o - (lo + i))) := sN_mono (by omega)
    have h2 : sN (o + 1 - lo) (fun i => ch b (0 + (lo + i)) * ch (N - b) (o - (0 + (lo + i)))) = sN (o + 1 - lo) (fun i => ch b (lo + i) * ch (N - b) (o - (lo + i))) := sN_congr fun i _ => by rw [Nat.zero_add]
    omega
  · rw [show hi + 1 - lo = 0 by omega]; exact Nat.zero_le _
end Bm
namespace Bm

/-- With so many choices at most a of the opened barrels are below. -/
def F (N b o a : Nat) : Nat := sN (a + 1) (fun k => ch b k * ch (N - b) (o - k))
theorem fnd_F (N b o a : Nat) : fnd N b o 0 a = F N b o a := by
  unfold fnd F
  rw [Nat.sub_zero]
  exact sN_congr fun i _ => by rw [Nat.zero_add]
theorem F_le {N b o a : Nat} (hb : b ≤ N) (h : a ≤ o) : F N b o a ≤ ch N o := by rw [← fnd_F]; exact fnd_le hb h
theorem F_all {N b o : Nat} (hb : b ≤ N) : F N b o o = ch N o := by rw [← fnd_F]; exact fnd_all hb
theorem F_none {N o a : Nat} : F N 0 o a = ch N o := by
  unfold F
  rw [sN_head, ch_zero, sN_congr (g := fun _ => 0) (fun i _ => by rw [ch_lt (by omega : 0 < i + 1)]; simp), sN_zero]
  simp
theorem F_mono {N b o a a' : Nat} (h : a ≤ a') : F N b o a ≤ F N b o a' := sN_mono (by omega)

def tl (M b o a : Nat) : Nat := if a < o then ch b a * ch M (o - a - 1) else 0
/-- One more below: so many choices less. -/
theorem F_fall {N b o M : Nat} (hM : N = b + 1 + M) : ∀ {a : Nat}, a ≤ o → F N b o a = F N (b + 1) o a + tl M b o a
  | 0, _ => by
    have e1 : N - b = M + 1 := by omega
    have e2 : N - (b + 1) = M := by omega
    unfold F tl
    simp only [sN, ch_zero, e1, e2, Nat.sub_zero, Nat.zero_add, Nat.one_mul]
    cases o with
    | zero => simp [ch_zero]
    | succ o => rw [if_pos (by omega), ch_ss, Nat.add_sub_cancel]; omega
  | a + 1, h => by
    have ih := F_fall hM (a := a) (o := o) (by omega)
    have e1 : N - b = M + 1 := by omega
    have e2 : N - (b + 1) = M := by omega
    have s1 : F N b o (a + 1) = F N b o a + ch b (a + 1) * ch (M + 1) (o - (a + 1)) := by unfold F; rw [e1]; rfl
    have s2 : F N (b + 1) o (a + 1) = F N (b + 1) o a + ch (b + 1) (a + 1) * ch M (o - (a + 1)) := by unfold F; rw [e2]; rfl
    have t1 : tl M b o a = ch b a * ch M (o - (a + 1)) := by unfold tl; rw [if_pos (by omega), show o - a - 1 = o - (a + 1) by omega]
    rw [s1, s2, ih, t1, ch_ss, Nat.add_mul]
    unfold tl
    by_cases e : a + 1 < o
    · rw [if_pos e]
      obtain ⟨j, hj⟩ : ∃ j, o - (a + 1) = j + 1 := ⟨o - (a + 1) - 1, by omega⟩
      rw [hj, ch_ss, Nat.mul_add, Nat.add_sub_cancel]; omega
    · rw [if_neg e, show o - (a + 1) = 0 by omega, ch_zero, ch_zero]; omega
theorem F_less {N b o a : Nat} (hb : b + 1 ≤ N) (h : a ≤ o) : F N (b + 1) o a ≤ F N b o a := by
  have e : N = b + 1 + (N - (b + 1)) := by omega
  rw [F_fall e h]; exact Nat.le_add_right _ _
theorem F_anti {N o a : Nat} (h : a ≤ o) {b : Nat} : ∀ {b' : Nat}, b ≤ b' → b' ≤ N → F N b' o a ≤ F N b o a
  | 0, h1, _ => by obtain rfl : b = 0 := by omega
                   exact Nat.le_refl _
  | b' + 1, h1, h2 => by
    by_cases e : b = b' + 1
    · subst e; exact Nat.le_refl _
    · exact Nat.le_trans (F_less h2 h) (F_anti h (b' := b') (by omega) (by omega))


/-- By the first barrel that is opened. -/
theorem F_first {N b o a : Nat} (hb : b ≤ N + 1) (ha : a ≤ o + 1) : (o + 1) * F (N + 1) b (o + 1) a = (if 0 < b ∧ 0 < a then b * F N (b - 1) o (a - 1) else 0) + (if b < N + 1 then (N + 1 - b) * F N b o (min o a) else 0) := by
  have sp : (o + 1) * F (N + 1) b (o + 1) a = sN (a + 1) (fun k => k * (ch b k * ch (N + 1 - b) (o + 1 - k))) + sN (a + 1) (fun k => (o + 1 - k) * (ch b k * ch (N + 1 - b) (o + 1 - k))) := by
    unfold F
    rw [← sN_mul, ← sN_add]
    exact sN_congr fun k hk => by rw [← Nat.add_mul, show k + (o + 1 - k) = o + 1 by omega]
  rw [sp]
  congr 1
  · rw [sN_head, Nat.zero_mul, Nat.zero_add]
    cases b with
    | zero =>
      rw [if_neg (by omega), sN_congr (g := fun _ => 0) (fun i _ => by rw [ch_lt (by omega : 0 < i + 1)]; simp), sN_zero]
    | succ c =>
      cases a with
      | zero => rw [if_neg (by omega)]; rfl
      | succ a =>
        rw [if_pos ⟨by omega, by omega⟩, Nat.add_sub_cancel, Nat.add_sub_cancel]
        unfold F
        rw [← sN_mul]
        exact sN_congr fun j _ => by rw [← Nat.mul_assoc, absorb, Nat.mul_assoc, show N + 1 - (c + 1) = N - c by omega, show o + 1 - (j + 1) = o - j by omega]
  · by_cases e : b < N + 1
    · rw [if_pos e]
      have eM : N + 1 - b = N - b + 1 := by omega
      have term : ∀ k, k ≤ o → (o + 1 - k) * (ch b k * ch (N + 1 - b) (o + 1 - k)) = (N + 1 - b) * (ch b k * ch (N - b) (o - k)) := fun k hk => by
        have := absorb (N - b) (o - k)
        rw [eM, show o + 1 - k = o - k + 1 by omega, Nat.mul_left_comm, this, Nat.mul_left_comm]
      unfold F
      rw [← sN_mul]
      by_cases h : a ≤ o
      · rw [Nat.min_eq_right h]
        exact sN_congr fun k hk => term k (by omega)
      · obtain rfl : a = o + 1 := by omega
        rw [Nat.min_eq_left (by omega)]
        have z : (o + 1 - (o + 1)) * (ch b (o + 1) * ch (N + 1 - b) (o + 1 - (o + 1))) = 0 := by rw [Nat.sub_self, Nat.zero_mul]
        show sN (o + 1) _ + (o + 1 - (o + 1)) * (ch b (o + 1) * ch (N + 1 - b) (o + 1 - (o + 1))) = _
        rw [z, Nat.add_zero]
        exact sN_congr fun k hk => term k (by omega)
    · rw [if_neg e, sN_congr (g := fun _ => 0) (fun k _ => ?_), sN_zero]
      rw [show N + 1 - b = 0 by omega]
      by_cases h : o + 1 - k = 0
      · rw [h, Nat.zero_mul]
      · rw [ch_lt (by omega : 0 < o + 1 - k)]; simp

/-- Fractions that are alike are the same, reduced. -/
theorem red_eq {a d a' d' : Nat} (hd : 0 < d) (hd' : 0 < d') (h : a * d' = a' * d) : a / Nat.gcd a d = a' / Nat.gcd a' d' ∧ d / Nat.gcd a d = d' / Nat.gcd a' d' := by
  have g0 : 0 < Nat.gcd a d := Nat.gcd_pos_of_pos_right _ hd
  have g0' : 0 < Nat.gcd a' d' := Nat.gcd_pos_of_pos_right _ hd'
  have c := Nat.coprime_div_gcd_div_gcd g0
  have c' := Nat.coprime_div_gcd_div_gcd g0'
  have e1 := Nat.div_mul_cancel (Nat.gcd_dvd_left a d)
  have e2 := Nat.div_mul_cancel (Nat.gcd_dvd_right a d)
  have e3 := Nat.div_mul_cancel (Nat.gcd_dvd_left a' d')
  have e4 := Nat.div_mul_cancel (Nat.gcd_dvd_right a' d')
  generalize Nat.gcd a d = g at *
  generalize Nat.gcd a' d' = g' at *
  generalize a / g = x at *
  generalize d / g = y at *
  generalize a' / g' = x' at *
  generalize d' / g' = y' at *
  subst e1; subst e2; subst e3; subst e4
  have h1 : x * y' = x' * y := by
    have : (g * g') * (x * y') = (g * g') * (x' * y) := by
      have l : x * g * (y' * g') = (g * g') * (x * y') := by simp only [Nat.mul_comm, Nat.mul_left_comm, Nat.mul_assoc]
      have r : x' * g' * (y * g) = (g * g') * (x' * y) := by simp only [Nat.mul_comm, Nat.mul_left_comm, Nat.mul_assoc]
      rw [← l, ← r]; exact h
    exact Nat.eq_of_mul_eq_mul_left (Nat.mul_pos g0 g0') this
  have y0 : 0 < y := by
    rcases Nat.eq_zero_or_pos y with e | e
    · subst e; simp at hd
    · exact e
  have y0' : 0 < y' := by
    rcases Nat.eq_zero_or_pos y' with e | e
    · subst e; simp at hd'
    · exact e
  have d1 : y ∣ y' := c.symm.dvd_of_dvd_mul_left (by rw [h1]; exact Nat.dvd_mul_left y x')
  have d2 : y' ∣ y := c'.symm.dvd_of_dvd_mul_left (by rw [← h1]; exact Nat.dvd_mul_left y' x)
  have ey : y = y' := Nat.dvd_antisymm d1 d2
  subst ey
  exact ⟨Nat.eq_of_mul_eq_mul_right y0 h1, rfl⟩
end Bm
namespace Bm
/-- All barrels opened. -/
theorem F_top {N b a : Nat} (hb : b ≤ N) (ha : a ≤ N) : F N b N a = if b ≤ a then 1 else 0 := by
  split
  · rename_i h
    have h1 := F_le (N := N) (b := b) (o := N) (a := a) hb ha
    rw [ch_self] at h1
    have h2 : F N b N b ≤ F N b N a := F_mono h
    have h3 : ch b b * ch (N - b) (N - b) ≤ F N b N b := by unfold F; show _ ≤ sN b _ + ch b b * ch (N - b) (N - b); omega
    rw [ch_self, ch_self] at h3
    omega
  · rename_i h
    unfold F
    rw [sN_congr (g := fun _ => 0) (fun k hk => by rw [ch_lt (by omega : N - b < N - k)]; simp), sN_zero]
end Bm
