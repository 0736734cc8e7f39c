/- Plain mathematics: rounds of payments, until nothing changes. -/
import Derived.Test.YthofpbnbjkdpaaaDoorCxMath
set_option linter.unusedSimpArgs false
set_option linter.unusedVariables false
namespace Cm

def it (b : Book) (s : Nat) : Nat → Nat → Int
  | 0 => b.due
  | k + 1 => pay b s (it b s k)

/-- Do the payments of a round stay as they were? -/
def same (b : Book) (s k : Nat) : Bool := allB b.nd fun i => decide (it b s (k + 1) i = it b s k i)

def srch (q : Nat → Bool) : Nat → Nat → Nat
  | 0, k => k
  | n + 1, k => bif q k then k else srch q n (k + 1)

theorem srch_ok {q : Nat → Bool} : ∀ {n k j : Nat}, k ≤ j → j < k + n → q j = true → q (srch q n k) = true ∧ k ≤ srch q n k ∧ srch q n k ≤ j ∧ ∀ i, k ≤ i → i < srch q n k → q i = false
  | 0, k, j, h1, h2, _ => by omega
  | n + 1, k, j, h1, h2, h3 => by
    simp only [srch]
    cases e : q k with
    | true => exact ⟨e, Nat.le_refl _, h1, fun i h4 h5 => by simp only [cond_true] at h5; omega⟩
    | false =>
      have hne : k ≠ j := fun h => by subst h; rw [e] at h3; cases h3
      obtain ⟨a1, a2, a3, a4⟩ := srch_ok (n := n) (k := k + 1) (j := j) (by omega) (by omega) h3
      refine ⟨a1, by simp only [cond_false]; omega, a3, fun i h4 h5 => ?_⟩
      by_cases e2 : i = k
      · subst e2; exact e
      · exact a4 i (by omega) h5

def stop (b : Book) (s : Nat) : Nat := srch (same b s) 120001 0

section
variable {b : Book} {s : Nat} (g : Good b)
include g

theorem pays_it : ∀ k, Pays b (it b s k)
  | 0 => pays_due g
  | _ + 1 => pays_pay g

omit g in
theorem pay_mono {p q : Nat → Int} (h : ∀ i, i < b.nd → p i ≤ q i) {k : Nat} : pay b s p k ≤ pay b s q k := by
  have : gets b p (b.frm k) b.nd ≤ gets b q (b.frm k) b.nd := sumN_le fun i hi => by
    have := h i hi
    split <;> omega
  simp only [pay, left]
  omega

theorem it_down : ∀ (k i : Nat), i < b.nd → it b s (k + 1) i ≤ it b s k i
  | 0, i, hi => (pays_pay g (s := s) (p := b.due) i hi).2
  | k + 1, i, _ => pay_mono (fun j hj => it_down k j hj)

theorem it_le : ∀ (k i : Nat), i < b.nd → it b s k i ≤ b.due i := fun k i hi => (pays_it g k i hi).2

theorem sum_step {k : Nat} (h : same b s k = false) : sumN b.nd (it b s (k + 1)) + 1 ≤ sumN b.nd (it b s k) := by
  have hd := it_down (s := s) g k
  have : ∃ i, i < b.nd ∧ it b s (k + 1) i ≠ it b s k i := by
    apply Classical.byContradiction
    intro hn
    have : same b s k = true := allB_iff.2 fun i hi => decide_eq_true (Classical.byContradiction fun h => hn ⟨i, hi, h⟩)
    rw [this] at h; cases h
  obtain ⟨i, hi, hne⟩ := this
  have h1 : sumN b.nd (fun j => it b s (k + 1) j + if j = i then 1 else 0) ≤ sumN b.nd (it b s k) := sumN_le fun j hj => by
    have := hd j hj
    by_cases e : j = i
    · subst e; rw [if_pos rfl]; omega
    · rw [if_neg e]; omega
  rw [sumN_add, sumN_one hi] at h1
  exact h1

theorem sum_down {n : Nat} (h : ∀ k, k < n → same b s k = false) : sumN b.nd (it b s n) + n ≤ sumN b.nd (it b s 0) := by
  induction n with
  | zero => simp
  | succ n ih =>
    have h1 := ih (fun k hk => h k (by omega))
    have h2 := sum_step g (h n (by omega))
    omega

theorem stop_ex : ∃ j, j < 120001 ∧ same b s j = true := by
  apply Classical.byContradiction
  intro hn
  have h := sum_down (s := s) g (n := 120001) (fun k hk => by
    cases e : same b s k with
    | false => rfl
    | true => exact absurd ⟨k, hk, e⟩ hn)
  have h1 : 0 ≤ sumN b.nd (it b s 120001) := sumN_nonneg fun i hi => (pays_it g _ i hi).1
  have h2 : sumN b.nd (it b s 0) ≤ b.nd * 10000 := sumN_bound fun i hi => (g.due i hi).2
  have := g.nd
  omega

theorem stop_same : same b s (stop b s) = true := by
  obtain ⟨j, h1, h2⟩ := stop_ex (s := s) g
  exact (srch_ok (Nat.zero_le _) (by omega) h2).1

theorem stop_lt {k : Nat} (h : k < stop b s) : same b s k = false := by
  obtain ⟨j, h1, h2⟩ := stop_ex (s := s) g
  exact (srch_ok (n := 120001) (Nat.zero_le _) (by omega) h2).2.2.2 k (Nat.zero_le _) h

theorem stop_bd : stop b s ≤ 120000 := by
  obtain ⟨j, h1, h2⟩ := stop_ex (s := s) g
  have := (srch_ok (n := 120001) (Nat.zero_le _) (by omega) h2).2.2.1
  unfold stop; omega

omit g in
theorem same_iff {k : Nat} : same b s k = true ↔ ∀ i, i < b.nd → it b s (k + 1) i = it b s k i := by
  unfold same; rw [allB_iff]; exact ⟨fun h i hi => of_decide_eq_true (h i hi), fun h i hi => decide_eq_true (h i hi)⟩
end

/-- The round in which a debt breaks, of the first k rounds. -/
def brk (b : Book) (s : Nat) : Nat → Nat → Int
  | 0, _ => 0
  | k + 1, i => if brk b s k i = 0 ∧ it b s (k + 1) i < b.due i then (k + 1 : Nat) else brk b s k i

theorem brk_bd {b : Book} {s : Nat} : ∀ {k i : Nat}, 0 ≤ brk b s k i ∧ brk b s k i ≤ k
  | 0, i => by simp [brk]
  | k + 1, i => by
    have := brk_bd (b := b) (s := s) (k := k) (i := i)
    simp only [brk]; split <;> omega

/-- What has broken is paid less, and the other way round. -/
theorem brk_iff {b : Book} (g : Good b) {s : Nat} : ∀ {k i : Nat}, i < b.nd → (brk b s k i = 0 ↔ it b s k i = b.due i)
  | 0, i, _ => by simp [brk, it]
  | k + 1, i, hi => by
    have ih := brk_iff (s := s) g (k := k) hi
    have h1 := it_down (s := s) g k i hi
    have h2 := it_le (s := s) g k i hi
    have h3 := it_le (s := s) g (k + 1) i hi
    simp only [brk]
    by_cases h : brk b s k i = 0 ∧ it b s (k + 1) i < b.due i
    · rw [if_pos h]; omega
    · rw [if_neg h]; omega

theorem brk_stop {b : Book} (g : Good b) {s i : Nat} (hi : i < b.nd) : brk b s (stop b s + 1) i = brk b s (stop b s) i := by
  have h1 := same_iff.1 (stop_same (s := s) g) i hi
  have h2 := brk_iff (s := s) g (k := stop b s) hi
  simp only [brk]
  rw [if_neg]
  rintro ⟨h3, h4⟩
  have := h2.1 h3
  omega

theorem e12 {F G : Nat → Int} : (decide (F 0 = G 0) && (decide (F 1 = G 1) && (decide (F 2 = G 2) && (decide (F 3 = G 3) && (decide (F 4 = G 4) && (decide (F 5 = G 5) && (decide (F 6 = G 6) && (decide (F 7 = G 7) && (decide (F 8 = G 8) && (decide (F 9 = G 9) && (decide (F 10 = G 10) && (decide (F 11 = G 11) && true)))))))))))) = true ↔ ∀ j, j < 12 → F j = G j := by
  simp only [Bool.and_eq_true, decide_eq_true_eq, and_true]
  constructor
  · rintro ⟨h0, h1, h2, h3, h4, h5, h6, h7, h8, h9, h10, h11⟩ j hj
    match j, hj with
    | 0, _ => exact h0
    | 1, _ => exact h1
    | 2, _ => exact h2
    | 3, _ => exact h3
    | 4, _ => exact h4
    | 5, _ => exact h5
    | 6, _ => exact h6
    | 7, _ => exact h7
    | 8, _ => exact h8
    | 9, _ => exact h9
    | 10, _ => exact h10
    | 11, _ => exact h11
  · intro h
    exact ⟨h 0 (by omega), h 1 (by omega), h 2 (by omega), h 3 (by omega), h 4 (by omega), h 5 (by omega), h 6 (by omega), h 7 (by omega), h 8 (by omega), h 9 (by omega), h 10 (by omega), h 11 (by omega)⟩

theorem ifc {n j : Nat} {x y : Int} (h : j < n → x = y) : (if j < n then x else 0) = if j < n then y else 0 := by
  split
  · rename_i e; exact h e
  · rfl

/-- What is paid of each debt, and in which round each breaks. -/
def clear (b : Book) (s : Nat) : Nat → Int := it b s (stop b s)
def rnd (b : Book) (s : Nat) : Nat → Int := brk b s (stop b s)
end Cm
namespace Cm
def noBook : Book := ⟨0, fun _ => 0, 0, fun _ => 0, fun _ => 0, fun _ => 0, 0, fun _ => 0, fun _ => 0, fun _ _ => 0⟩

/-- The error of a book and a season. -/
def askE (b : Book) (s : Int) : Int := if chk b then (if within s 0 (b.ns - 1) then 0 else 81) else 80
def opn (b : Book) (s : Int) : Book := if askE b s = 0 then b else noBook

theorem askE_ok {b : Book} {s : Int} (h : askE b s = 0) : Good b ∧ 0 ≤ s ∧ s < b.ns ∧ opn b s = b := by
  have ho : opn b s = b := if_pos h
  unfold askE at h
  split at h
  · rename_i hc
    split at h
    · rename_i hw
      have := within_iff.1 hw
      exact ⟨good hc, by omega, by omega, ho⟩
    · cases h
  · cases h

/-- What is left to a party. -/
def lft (b : Book) (s p : Nat) : Int := has b s p + gets b (clear b s) p b.nd - owes b (clear b s) p b.nd

/-- The debt that breaks first, of the first k ones; -1: none does. -/
def worst (b : Book) (s : Nat) : Nat → Int
  | 0 => -1
  | k + 1 => if 0 < rnd b s k ∧ (worst b s k < 0 ∨ rnd b s k < rnd b s (worst b s k).toNat) then k else worst b s k

theorem worst_bd {b : Book} {s : Nat} : ∀ {k : Nat}, -1 ≤ worst b s k ∧ worst b s k < k
  | 0 => by simp [worst]
  | k + 1 => by
    have := worst_bd (b := b) (s := s) (k := k)
    simp only [worst]; split <;> omega

/-- The first season in which a debt breaks. -/
def firstS (b : Book) : Nat := srch (fun s => decide (0 ≤ worst b s b.nd)) b.ns 0

/-- What a party needs, over the first k seasons. -/
def ln (b : Book) (p : Nat) : Nat → Int
  | 0 => 0
  | k + 1 => max (ln b p k) (owes b b.due p b.nd - gets b b.due p b.nd - has b k p)

theorem pays_clear {b : Book} (g : Good b) {s : Nat} : Pays b (clear b s) := pays_it g _
end Cm
namespace Cm
theorem askE_bad {b : Book} {s : Int} (h : ¬ errOf b = 0) : askE b s = errOf b ∧ opn b s = noBook := by
  have h1 : chk b = false := by
    cases e : chk b with
    | false => rfl
    | true => exact absurd (err_zero.2 e) h
  have h2 : askE b s = 80 := by simp [askE, h1]
  have h3 : errOf b = 80 := by simp [errOf, h1]
  exact ⟨by rw [h2, h3], by unfold opn; rw [h2, if_neg (by omega)]⟩
theorem opn_bad {b : Book} {s : Int} (h : ¬ askE b s = 0) : opn b s = noBook := if_neg h
theorem askE_out {b : Book} {s : Int} (h : errOf b = 0) (hw : within s 0 (b.ns - 1) = false) : askE b s = 81 ∧ opn b s = noBook := by
  have h1 := err_zero.1 h
  have h2 : askE b s = 81 := by simp [askE, h1, hw]
  exact ⟨h2, by unfold opn; rw [h2, if_neg (by omega)]⟩
theorem askE_in {b : Book} {s : Int} (h : errOf b = 0) (hw : within s 0 (b.ns - 1) = true) : askE b s = 0 ∧ opn b s = b := by
  have h1 := err_zero.1 h
  have h2 : askE b s = 0 := by simp [askE, h1, hw]
  exact ⟨h2, if_pos h2⟩
/-- A book is as it is. -/
theorem bk (b : Book) {Q : Prop} (h : Q) : b.nc = b.nc ∧ (∀ (i : Nat), i < b.nc → b.cash i = b.cash i) ∧ b.nd = b.nd ∧ (∀ (i : Nat), i < b.nd → b.frm i = b.frm i ∧ b.to i = b.to i ∧ b.due i = b.due i) ∧ b.ns = b.ns ∧ (∀ (i : Nat), i < b.ns → b.price i = b.price i ∧ b.nb i = b.nb i ∧ ∀ (j : Nat), j < b.nb i → b.bar i j = b.bar i j) ∧ Q :=
  ⟨rfl, fun _ _ => rfl, rfl, fun _ _ => ⟨rfl, rfl, rfl⟩, rfl, fun _ _ => ⟨rfl, rfl, fun _ _ => rfl⟩, h⟩
end Cm
namespace Cm
def brE (b : Book) : Int := if chk b then (if firstS b < b.ns then 0 else 4) else 80
def brS (b : Book) : Int := if brE b = 0 then firstS b else 0
def brD (b : Book) : Int := if brE b = 0 then worst b (firstS b) b.nd else 0

theorem srch_none {q : Nat → Bool} : ∀ {n k : Nat}, (∀ i, k ≤ i → i < k + n → q i = false) → srch q n k = k + n
  | 0, k, _ => rfl
  | n + 1, k, h => by
    simp only [srch, h k (Nat.le_refl _) (by omega), cond_false]
    rw [srch_none (fun i h1 h2 => h i (by omega) (by omega))]; omega

theorem firstS_none {b : Book} (h : ∀ s, s < b.ns → worst b s b.nd < 0) : firstS b = b.ns := by
  unfold firstS
  rw [srch_none (fun i _ h2 => decide_eq_false (by have := h i (by omega); omega))]; omega

theorem firstS_at {b : Book} {S : Nat} (hS : S < b.ns) (h : ∀ s, s < S → worst b s b.nd < 0) (h0 : 0 ≤ worst b S b.nd) : firstS b = S := by
  obtain ⟨a1, a2, a3, a4⟩ := srch_ok (q := fun s => decide (0 ≤ worst b s b.nd)) (n := b.ns) (k := 0) (j := S) (Nat.zero_le _) (by omega) (decide_eq_true h0)
  have a1 := of_decide_eq_true a1
  unfold firstS
  by_cases e : srch (fun s => decide (0 ≤ worst b s b.nd)) b.ns 0 < S
  · have := h _ e; omega
  · omega

theorem askE_zero {b : Book} : askE b 0 = errOf b := by
  unfold askE errOf
  split
  · rename_i h
    have := good h
    have h1 := this.ns1
    have : within 0 0 ((b.ns : Int) - 1) = true := within_iff.2 ⟨by omega, by omega⟩
    rw [this]; rfl
  · rfl
end Cm
namespace Cm
theorem br_bad {b : Book} (h : ¬ errOf b = 0) : brS b = 0 ∧ brD b = 0 ∧ brE b = errOf b := by
  have h1 : chk b = false := by
    cases e : chk b with
    | false => rfl
    | true => exact absurd (err_zero.2 e) h
  have h2 : brE b = 80 := by simp [brE, h1]
  have h3 : errOf b = 80 := by simp [errOf, h1]
  exact ⟨by simp [brS, h2], by simp [brD, h2], by rw [h2, h3]⟩
theorem br_none {b : Book} (h : errOf b = 0) (hn : ∀ s, s < b.ns → worst b s b.nd < 0) : brS b = 0 ∧ brD b = 0 ∧ brE b = 4 := by
  have h2 : brE b = 4 := by simp [brE, err_zero.1 h, firstS_none hn]
  exact ⟨by simp [brS, h2], by simp [brD, h2], h2⟩
theorem br_at {b : Book} (h : errOf b = 0) {S : Nat} (hS : S < b.ns) (hn : ∀ s, s < S → worst b s b.nd < 0) (h0 : 0 ≤ worst b S b.nd) : brS b = S ∧ brD b = worst b S b.nd ∧ brE b = 0 := by
  have e := firstS_at hS hn h0
  have h2 : brE b = 0 := by simp [brE, err_zero.1 h, e, hS]
  exact ⟨by simp [brS, h2, e], by simp [brD, h2, e], h2⟩
end Cm
