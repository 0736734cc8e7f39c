/- What the functions about brands answer, in plain Lean. -/
import Derived.Test.YthcplmlkgaiggaaBxLess
import Derived.Test.YthcplmlkgaiggaaSxSimp
set_option linter.unusedSimpArgs false
set_option linter.unusedVariables false
namespace Bm
open Go Go.Sx

def intC (n : Int) : TV := .c (.int .i64 n)
def isM (v : AV) (n : Nat) : Prop := match v with | .t (.c (.int _ m)) => m = n | _ => False

def allB : Nat → (Nat → Bool) → Bool
  | 0, _ => true
  | n + 1, p => allB n p && p n
theorem allB_iff {n : Nat} {p : Nat → Bool} : allB n p = true ↔ ∀ i, i < n → p i = true := by
  induction n with
  | zero => simp [allB]
  | succ n ih =>
    simp only [allB, Bool.and_eq_true, ih]
    constructor
    · rintro ⟨h1, h2⟩ i hi
      by_cases e : i = n
      · subst e; exact h2
      · exact h1 i (by omega)
    · exact fun h => ⟨fun i hi => h i (by omega), h n (by omega)⟩
theorem allB_le {n m : Nat} {p : Nat → Bool} (h : allB m p = true) (hn : n ≤ m) : allB n p = true :=
  allB_iff.2 fun i hi => allB_iff.1 h i (by omega)
theorem allB_false {n m : Nat} {p : Nat → Bool} (h : allB n p = false) (hn : n ≤ m) : allB m p = false := by
  cases e : allB m p with
  | false => rfl
  | true => rw [allB_le e hn] at h; simp at h
theorem allB_congr {n : Nat} {p q : Nat → Bool} (h : ∀ i, i < n → p i = q i) : allB n p = allB n q := by
  induction n with
  | zero => rfl
  | succ n ih => simp only [allB, ih (fun i hi => h i (by omega)), h n (by omega)]
theorem allB_not {n i : Nat} {p : Nat → Bool} (hi : i < n) (h : p i = false) : allB n p = false := by
  cases e : allB n p with
  | false => rfl
  | true => rw [allB_iff.1 e i hi] at h; cases h

/-- The first number below n of which something is so; n: none. -/
def fst (p : Nat → Bool) : Nat → Nat
  | 0 => 0
  | n + 1 => if fst p n < n then fst p n else if p n then n else n + 1
theorem fst_le {p : Nat → Bool} : ∀ n, fst p n ≤ n
  | 0 => Nat.le_refl _
  | n + 1 => by
    have := fst_le (p := p) n
    unfold fst
    split
    · omega
    · split <;> omega
theorem fst_before {p : Nat → Bool} : ∀ {n i : Nat}, i < fst p n → p i = false
  | 0, i, h => absurd h (Nat.not_lt_zero i)
  | n + 1, i, h => by
    unfold fst at h
    have hle := fst_le (p := p) n
    split at h
    · exact fst_before h
    · rename_i h1
      have e : fst p n = n := by omega
      split at h
      · exact fst_before (n := n) (by omega)
      · rename_i h2
        by_cases hi : i = n
        · subst hi; simpa using h2
        · exact fst_before (n := n) (by omega)
theorem fst_at {p : Nat → Bool} : ∀ {n : Nat}, fst p n < n → p (fst p n) = true
  | 0, h => absurd h (Nat.not_lt_zero _)
  | n + 1, h => by
    have hle := fst_le (p := p) n
    unfold fst at h ⊢
    split
    · rename_i h1; exact fst_at h1
    · rename_i h1
      rw [if_neg h1] at h
      split
      · rename_i h2; exact h2
      · rename_i h2
        rw [if_neg h2] at h
        omega
theorem fst_of {p : Nat → Bool} {n i : Nat} (hi : i < n) (hp : p i = true) (hb : ∀ j, j < i → p j = false) : fst p n = i := by
  have h1 : ¬ i < fst p n := fun h => by rw [fst_before h] at hp; cases hp
  by_cases h2 : fst p n < i
  · have h3 := fst_at (p := p) (n := n) (by omega)
    rw [hb _ h2] at h3; cases h3
  · omega
theorem fst_none {p : Nat → Bool} {n : Nat} (hb : ∀ j, j < n → p j = false) : fst p n = n := by
  have h1 := fst_le (p := p) n
  by_cases h2 : fst p n < n
  · have h3 := fst_at h2
    rw [hb _ h2] at h3; cases h3
  · omega

def within (n lo hi : Int) : Bool := decide (lo ≤ n) && decide (n ≤ hi)
theorem within_iff {n lo hi : Int} : within n lo hi = true ↔ lo ≤ n ∧ n ≤ hi := by simp [within]

/-! ### Brands -/
def spanOk (m : Nat → Int) (q : Nat) : Bool := decide (0 ≤ m (q * 2)) && decide (m (q * 2) ≤ m (q * 2 + 1)) && decide (m (q * 2 + 1) ≤ 1000)
def markOk (m : Nat → Int) : Bool := allB 4 (spanOk m)
def marksOk (n : Nat) (m : Nat → Nat → Int) : Bool := within n 1 5 && allB n (fun i => markOk (m i))
def barOk (b : Nat → Int) : Bool := allB 4 (fun q => within (b q) 0 1000)
def reach (m b : Nat → Int) : Bool := allB 4 (fun q => within (b q) (m (q * 2)) (m (q * 2 + 1)))
def gradeI (n : Nat) (m : Nat → Nat → Int) (b : Nat → Int) : Nat := fst (fun i => reach (m i) b) n
def gradeE (n : Nat) (m : Nat → Nat → Int) (b : Nat → Int) : Int := if marksOk n m then (if barOk b then (if gradeI n m b < n then 0 else 4) else 73) else 70
def gradeN (n : Nat) (m : Nat → Nat → Int) (b : Nat → Int) : Int := if gradeE n m b = 0 then gradeI n m b else 0

def marksCV (n : Nat) (m : Nat → Nat → Int) : CV := .vs 8 n (fun i j => .int .i64 (m i j))
def barsCV (n : Nat) (b : Nat → Nat → Int) : CV := .vs 4 n (fun i j => .int .i64 (b i j))
def arrTV (n : Nat) (b : Nat → Int) : TV := .a n (fun j => .int .i64 (b j))
def twoTV (a b : Int) : TV := .a 2 (fun j => .int .i64 (if j = 0 then a else b))

/-! ### Choices -/
/-- Choices of whole numbers. -/
def cI (n k : Int) : Int := if 0 ≤ k then ch n.toNat k.toNat else 0
theorem cI_nat (n k : Nat) : cI n k = ch n k := by
  unfold cI
  rw [if_pos (by omega)]
  simp
theorem cI_neg {n k : Int} (h : k < 0) : cI n k = 0 := if_neg (by omega)
theorem cI_zero {n : Int} : cI n 0 = 1 := by unfold cI; rw [if_pos (by omega)]; simp [ch_zero]
theorem cI_self {n : Int} (h : 0 ≤ n) : cI n n = 1 := by unfold cI; rw [if_pos h, ch_self]; rfl
theorem cI_big {n k : Int} (h0 : 0 ≤ n) (h : n < k) : cI n k = 0 := by
  unfold cI
  rw [if_pos (by omega), ch_lt (by omega)]; rfl
theorem cI_step {n k : Int} (h0 : 0 < k) (h : k < n) : cI n k = cI (n - 1) k + cI (n - 1) (k - 1) := by
  obtain ⟨a, rfl⟩ : ∃ a : Nat, n = ((a + 1 : Nat) : Int) := ⟨(n - 1).toNat, by omega⟩
  obtain ⟨b, rfl⟩ : ∃ b : Nat, k = ((b + 1 : Nat) : Int) := ⟨(k - 1).toNat, by omega⟩
  rw [show ((a + 1 : Nat) : Int) - 1 = (a : Int) by omega, show ((b + 1 : Nat) : Int) - 1 = (b : Int) by omega, cI_nat, cI_nat, cI_nat, ch_ss]
  omega
theorem cI_bd {n k : Int} (h : n ≤ 40) : 0 ≤ cI n k ∧ cI n k ≤ 1099511627776 := by
  unfold cI
  split
  · have := ch_le (n := n.toNat) (k := k.toNat) (by omega)
    omega
  · omega

/-- What is known of the map's entries. -/
def Inv (ks : List Int) (x : Int) : Prop := x = cI (ks.getD 0 0) (ks.getD 1 0)

/-! ### Plans and rules -/
def oddsOk (o i : Int) : Bool := within i 1 1000 && within o 0 i
def planOk (N o a : Int) : Bool := within o 0 N && within a 0 o
/-- A rule: Good, Pass (Of, In), Bad, Fail (Of, In). -/
def ruleOk (N : Int) (r : Nat → Int) : Bool := decide (0 ≤ r 0) && decide (r 0 < r 3) && decide (r 3 ≤ N) && oddsOk (r 1) (r 2) && oddsOk (r 4) (r 5)
/-- Does a plan keep a rule, if so many are below? -/
def keep1 (N o a : Nat) (r : Nat → Int) (b : Nat) : Bool :=
  !((decide ((b : Int) ≤ r 0) && decide ((F N b o a : Int) * r 2 < r 1 * ch N o)) || (decide (r 3 ≤ b) && decide ((F N b o a : Int) * r 5 > r 4 * ch N o)))
def keeps (N o a : Nat) (r : Nat → Int) : Bool := allB (N + 1) (keep1 N o a r)
def fewA (N : Nat) (r : Nat → Int) (o : Nat) : Nat := fst (fun a => keeps N o a r) (o + 1)
def fewO (N : Nat) (r : Nat → Int) : Nat := fst (fun o => decide (fewA N r o < o + 1)) (N + 1)
end Bm
namespace Bm
open Go Go.Sx
def oddsE (N b o a : Int) : Int := if (within N 1 40 && within b 0 N) then (if planOk N o a then 0 else 72) else 7
def oF (N b o a : Int) : Nat := F N.toNat b.toNat o.toNat a.toNat
def oC (N o : Int) : Nat := ch N.toNat o.toNat
def oddsOf (N b o a : Int) : Int := if oddsE N b o a = 0 then ((oF N b o a / Nat.gcd (oF N b o a) (oC N o) : Nat) : Int) else 0
def oddsIn (N b o a : Int) : Int := if oddsE N b o a = 0 then ((oC N o / Nat.gcd (oF N b o a) (oC N o) : Nat) : Int) else 0
theorem odds_zero {N b o a : Int} (h : oddsE N b o a = 0) : 1 ≤ N ∧ N ≤ 40 ∧ 0 ≤ b ∧ b ≤ N ∧ 0 ≤ o ∧ o ≤ N ∧ 0 ≤ a ∧ a ≤ o := by
  unfold oddsE at h
  split at h
  · rename_i h1
    split at h
    · rename_i h2
      simp only [Bool.and_eq_true, within_iff, planOk] at h1 h2
      omega
    · omega
  · omega
end Bm
namespace Bm
theorem tdiv_nat (a b : Nat) : (a : Int).tdiv (b : Int) = ((a / b : Nat) : Int) := rfl
theorem tmod_nat (a b : Nat) : (a : Int).tmod (b : Int) = ((a % b : Nat) : Int) := rfl
theorem gcd_step (x y : Nat) : Nat.gcd y (x % y) = Nat.gcd x y := by rw [Nat.gcd_comm y, ← Nat.gcd_rec, Nat.gcd_comm]
end Bm
namespace Bm
theorem prod_bd {a b : Int} (h1 : 0 ≤ a) (h2 : a ≤ 1099511627776) (h3 : 0 ≤ b) (h4 : b ≤ 1000) : 0 ≤ a * b ∧ a * b ≤ 1099511627776000 := by
  refine ⟨Int.mul_nonneg h1 h3, ?_⟩
  have := Int.mul_le_mul h2 h4 h3 (by omega : (0 : Int) ≤ 1099511627776)
  omega
theorem rule_bd {N : Int} {r : Nat → Int} (h : ruleOk N r = true) : 0 ≤ r 0 ∧ r 0 < r 3 ∧ r 3 ≤ N ∧ (1 ≤ r 2 ∧ r 2 ≤ 1000 ∧ 0 ≤ r 1 ∧ r 1 ≤ r 2) ∧ (1 ≤ r 5 ∧ r 5 ≤ 1000 ∧ 0 ≤ r 4 ∧ r 4 ≤ r 5) := by
  simp only [ruleOk, oddsOk, Bool.and_eq_true, decide_eq_true_eq, within_iff] at h
  omega
/-- Does so many's being below break a rule? -/
def Brk (r : Nat → Int) (b X Y : Int) : Prop := (b ≤ r 0 ∧ X * r 2 < r 1 * Y) ∨ (r 3 ≤ b ∧ r 4 * Y < X * r 5)
theorem keep1_iff {N o a : Nat} {r : Nat → Int} {b : Nat} : keep1 N o a r b = true ↔ ¬ Brk r b (F N b o a) (ch N o) := by
  unfold keep1 Brk
  simp only [Bool.not_eq_true', Bool.or_eq_false_iff, Bool.and_eq_false_iff, decide_eq_false_iff_not, gt_iff_lt]
  constructor
  · rintro ⟨h1, h2⟩ (h | h)
    · rcases h1 with h1 | h1
      · exact h1 h.1
      · exact h1 h.2
    · rcases h2 with h2 | h2
      · exact h2 h.1
      · exact h2 h.2
  · intro h
    refine ⟨?_, ?_⟩
    · by_cases e : (b : Int) ≤ r 0
      · exact .inr fun h' => h (.inl ⟨e, h'⟩)
      · exact .inl e
    · by_cases e : r 3 ≤ (b : Int)
      · exact .inr fun h' => h (.inr ⟨e, h'⟩)
      · exact .inl e
theorem keeps_not {N o a : Nat} {r : Nat → Int} {b : Nat} (hb : b ≤ N) (h : Brk r b (F N b o a) (ch N o)) : keeps N o a r = false := by
  refine allB_not (i := b) (by omega) ?_
  cases e : keep1 N o a r b with
  | false => rfl
  | true => exact absurd h (keep1_iff.1 e)
theorem keeps_step {N o a : Nat} {r : Nat → Int} {b : Nat} (h0 : allB b (keep1 N o a r) = true) (h : ¬ Brk r b (F N b o a) (ch N o)) : allB (b + 1) (keep1 N o a r) = true := by
  simp only [allB, h0, Bool.true_and]
  exact keep1_iff.2 h
theorem odds_bad7 {N b o a : Int} (h : ¬ (within N 1 40 && within b 0 N) = true) : oddsOf N b o a = 0 ∧ oddsIn N b o a = 0 ∧ oddsE N b o a = 7 := by
  have e : oddsE N b o a = 7 := if_neg h
  exact ⟨if_neg (by rw [e]; omega), if_neg (by rw [e]; omega), e⟩
theorem odds_bad72 {N b o a : Int} (h1 : (within N 1 40 && within b 0 N) = true) (h : ¬ planOk N o a = true) : oddsOf N b o a = 0 ∧ oddsIn N b o a = 0 ∧ oddsE N b o a = 72 := by
  have e : oddsE N b o a = 72 := by unfold oddsE; rw [if_pos h1, if_neg h]
  exact ⟨if_neg (by rw [e]; omega), if_neg (by rw [e]; omega), e⟩
theorem odds_good {N b o a : Nat} (h1 : (within N 1 40 && within b 0 N) = true) (h : planOk N o a = true) : oddsOf N b o a = ((F N b o a / Nat.gcd (F N b o a) (ch N o) : Nat) : Int) ∧ oddsIn N b o a = ((ch N o / Nat.gcd (F N b o a) (ch N o) : Nat) : Int) ∧ oddsE N b o a = 0 := by
  have e : oddsE N b o a = 0 := by unfold oddsE; rw [if_pos h1, if_pos h]
  exact ⟨if_pos e, if_pos e, e⟩
end Bm
namespace Bm
open Go Go.Sx
theorem keeps_top {N : Nat} {r : Nat → Int} (h : ruleOk N r = true) : keeps N N (r 0).toNat r = true := by
  obtain ⟨h1, h2, h3, h4, h5⟩ := rule_bd h
  refine allB_iff.2 fun b hb => keep1_iff.2 ?_
  rw [F_top (by omega) (by omega), ch_self]
  rintro (⟨k1, k2⟩ | ⟨k1, k2⟩)
  · rw [if_pos (by omega)] at k2; omega
  · rw [if_neg (by omega)] at k2; omega
theorem fewA_top {N : Nat} {r : Nat → Int} (h : ruleOk N r = true) : fewA N r N < N + 1 := by
  obtain ⟨h1, h2, h3, _⟩ := rule_bd h
  have hk := keeps_top h
  unfold fewA
  apply Nat.lt_of_not_le
  intro hle
  have := fst_before (p := fun a => keeps N N a r) (n := N + 1) (i := (r 0).toNat) (by omega)
  rw [hk] at this; cases this
theorem fewO_le {N : Nat} {r : Nat → Int} (h : ruleOk N r = true) : fewO N r ≤ N := by
  have hk := fewA_top h
  unfold fewO
  apply Nat.le_of_not_lt
  intro hlt
  have := fst_before (p := fun o => decide (fewA N r o < o + 1)) (n := N + 1) (i := N) hlt
  simp at this; omega
def ruledE (N : Int) (r : Nat → Int) : Int := if within N 1 40 then (if ruleOk N r then 0 else 71) else 7
def keepsE (N : Int) (r : Nat → Int) (o a : Int) : Int := if ruledE N r = 0 then (if planOk N o a then 0 else 72) else ruledE N r
def keepsB (N : Int) (r : Nat → Int) (o a : Int) : Bool := decide (keepsE N r o a = 0) && keeps N.toNat o.toNat a.toNat r
def fwO (N : Int) (r : Nat → Int) : Int := if ruledE N r = 0 then (fewO N.toNat r : Nat) else 0
def fwA (N : Int) (r : Nat → Int) : Int := if ruledE N r = 0 then (fewA N.toNat r (fewO N.toNat r) : Nat) else 0
theorem ruled_7 {N : Int} {r : Nat → Int} (h : ¬ within N 1 40 = true) : ruledE N r = 7 := if_neg h
theorem ruled_71 {N : Int} {r : Nat → Int} (h0 : within N 1 40 = true) (h : ¬ ruleOk N r = true) : ruledE N r = 71 := by unfold ruledE; rw [if_pos h0, if_neg h]
theorem ruled_0 {N : Int} {r : Nat → Int} (h0 : within N 1 40 = true) (h : ruleOk N r = true) : ruledE N r = 0 := by unfold ruledE; rw [if_pos h0, if_pos h]
theorem ruled_inv {N : Int} {r : Nat → Int} (h : ruledE N r = 0) : within N 1 40 = true ∧ ruleOk N r = true := by
  unfold ruledE at h
  split at h
  · rename_i h1
    split at h
    · rename_i h2; exact ⟨h1, h2⟩
    · omega
  · omega
theorem kE_bad {N : Int} {r : Nat → Int} {o a : Int} (h : ruledE N r ≠ 0) : keepsE N r o a = ruledE N r ∧ keepsB N r o a = false := by
  have e : keepsE N r o a = ruledE N r := if_neg h
  exact ⟨e, by unfold keepsB; rw [e]; simp [h]⟩
theorem kE_72 {N : Int} {r : Nat → Int} {o a : Int} (h : ruledE N r = 0) (h2 : ¬ planOk N o a = true) : keepsE N r o a = 72 ∧ keepsB N r o a = false := by
  have e : keepsE N r o a = 72 := by unfold keepsE; rw [if_pos h, if_neg h2]
  exact ⟨e, by unfold keepsB; rw [e]; simp⟩
theorem kE_0 {N o a : Nat} {r : Nat → Int} (h : ruledE N r = 0) (h2 : planOk N o a = true) : keepsE N r o a = 0 ∧ keepsB N r o a = keeps N o a r := by
  have e : keepsE N r o a = 0 := by unfold keepsE; rw [if_pos h, if_pos h2]
  exact ⟨e, by unfold keepsB; rw [e]; simp⟩
end Bm
