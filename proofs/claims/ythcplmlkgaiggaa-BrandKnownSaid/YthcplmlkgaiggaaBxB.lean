/- Contracts: odds (program, reference). -/
import Derived.Test.YthcplmlkgaiggaaBxA
set_option linter.unusedSimpArgs false
set_option linter.unusedVariables false
namespace Go.Proofs.Ythcplmlkgaiggaa
open Go Go.Sx Bm
set_option maxRecDepth 100000

def sIn : Sig := ⟨Int × Int × Int, fun x => [intC x.1, intC x.2.1, intC x.2.2], fun _ => True, fun x => [.v (.c (.bool (within x.1 x.2.1 x.2.2)))]⟩
theorem q52 (x : sIn.α) : CallQ Try.prog E0 52 (sIn.arg x) (sIn.res x) := by
  refine bare_all E0_ok [] SigsOk.nil [] EvensOk.nil runs [] [] [] [] (fuel := 5) ?_
  refine of_red (q := (decide (x.snd.fst ≤ x.fst) = true → True ∧ decide (x.fst ≤ x.snd.snd) = within x.fst x.snd.fst x.snd.snd) ∧ (decide (x.snd.fst ≤ x.fst) = false → True ∧ within x.fst x.snd.fst x.snd.snd = false)) (by kernel_rfl) ?_
  simp [within]
  try omega
theorem q34 (x : sIn.α) : CallQ Try.prog E0 34 (sIn.arg x) (sIn.res x) := by
  refine bare_all E0_ok [] SigsOk.nil [] EvensOk.nil runs [] [] [] [] (fuel := 5) ?_
  refine of_red (q := (decide (x.snd.fst ≤ x.fst) = true → True ∧ decide (x.fst ≤ x.snd.snd) = within x.fst x.snd.fst x.snd.snd) ∧ (decide (x.snd.fst ≤ x.fst) = false → True ∧ within x.fst x.snd.fst x.snd.snd = false)) (by kernel_rfl) ?_
  simp [within]
  try omega
def TA : List (Nat × Sig) := [(52, sIn), (34, sIn)]
theorem TA_ok : SigsOk Try.prog E0 TA := (SigsOk.nil.cons (runs 34 (by kernel_rfl)) fun x _ => q34 x).cons (runs 52 (by kernel_rfl)) fun x _ => q52 x

def sOdd : Sig := ⟨Int × Int, fun x => [twoTV x.1 x.2], fun _ => True, fun x => [.v (.c (.bool (oddsOk x.1 x.2)))]⟩
theorem q65 (x : sOdd.α) : CallQ Try.prog E0 65 (sOdd.arg x) (sOdd.res x) := by
  refine bare_all E0_ok TA TA_ok [] EvensOk.nil runs [] [] [] [] (fuel := 5) ?_
  refine of_red (q := ∃ (x_1 : Int × Int × Int), ((True ∧ x.snd = x_1.fst) ∧ (True ∧ (1 : Int) = x_1.snd.fst) ∧ (True ∧ (1000 : Int) = x_1.snd.snd) ∧ True) ∧ True ∧ (within x_1.fst x_1.snd.fst x_1.snd.snd = true → ∃ (x_2 : Int × Int × Int), ((True ∧ x.fst = x_2.fst) ∧ (True ∧ (0 : Int) = x_2.snd.fst) ∧ (True ∧ x.snd = x_2.snd.snd) ∧ True) ∧ True ∧ True ∧ within x_2.fst x_2.snd.fst x_2.snd.snd = oddsOk x.fst x.snd) ∧ (within x_1.fst x_1.snd.fst x_1.snd.snd = false → True ∧ oddsOk x.fst x.snd = false)) (by kernel_rfl) ?_
  simp only [true_and, and_true, inR, Prod.exists, Prod.forall, and_assoc, exists_and_left, exists_eq_left', exists_eq_left, forall_eq, exists_const, forall_const, loopN, loopM, fa2, fas, fas2, dup1, dup2, dup3, dup4, ite_true, exhs, exhn, exhz, exho, exs1, exn1, exz1, exo1, exs2, exn2, exz2, exo2, exs3, exn3, exz3, exo3, exs4, exn4, exz4, exo4, exs5, exn5, exz5, exo5, exs6, exn6, exz6, exo6, exs7, exn7, exz7, exo7, exs8, exn8, exz8, exo8, exs9, exn9, exz9, exo9, ex1, ex2, ex3, ex4, ex5, beqI, bneI, decide_true, Bool.true_and, decide_eq_true_eq, decide_eq_false_iff_not, ne_eq, Decidable.not_not]
  unfold oddsOk
  exact ⟨fun h => by rw [h, Bool.true_and], fun h => by rw [h, Bool.false_and]⟩
theorem q70 (x : sOdd.α) : CallQ Try.prog E0 70 (sOdd.arg x) (sOdd.res x) := by
  refine bare_all E0_ok TA TA_ok [] EvensOk.nil runs [] [] [] [] (fuel := 5) ?_
  refine of_red (q := ∃ (x_1 : Int × Int × Int), ((True ∧ x.snd = x_1.fst) ∧ (True ∧ (1 : Int) = x_1.snd.fst) ∧ (True ∧ (1000 : Int) = x_1.snd.snd) ∧ True) ∧ True ∧ (within x_1.fst x_1.snd.fst x_1.snd.snd = true → ∃ (x_2 : Int × Int × Int), ((True ∧ x.fst = x_2.fst) ∧ (True ∧ (0 : Int) = x_2.snd.fst) ∧ (True ∧ x.snd = x_2.snd.snd) ∧ True) ∧ True ∧ True ∧ within x_2.fst x_2.snd.fst x_2.snd.snd = oddsOk x.fst x.snd) ∧ (within x_1.fst x_1.snd.fst x_1.snd.snd = false → True ∧ oddsOk x.fst x.snd = false)) (by kernel_rfl) ?_
  simp only [true_and, and_true, inR, Prod.exists, Prod.forall, and_assoc, exists_and_left, exists_eq_left', exists_eq_left, forall_eq, exists_const, forall_const, loopN, loopM, fa2, fas, fas2, dup1, dup2, dup3, dup4, ite_true, exhs, exhn, exhz, exho, exs1, exn1, exz1, exo1, exs2, exn2, exz2, exo2, exs3, exn3, exz3, exo3, exs4, exn4, exz4, exo4, exs5, exn5, exz5, exo5, exs6, exn6, exz6, exo6, exs7, exn7, exz7, exo7, exs8, exn8, exz8, exo8, exs9, exn9, exz9, exo9, ex1, ex2, ex3, ex4, ex5, beqI, bneI, decide_true, Bool.true_and, decide_eq_true_eq, decide_eq_false_iff_not, ne_eq, Decidable.not_not]
  unfold oddsOk
  exact ⟨fun h => by rw [h, Bool.true_and], fun h => by rw [h, Bool.false_and]⟩

def sRed : Sig := ⟨Nat × Nat, fun x => [twoTV x.1 x.2], fun x => 0 < x.2 ∧ x.1 ≤ 1099511627776 ∧ x.2 ≤ 1099511627776, fun x => [.v (twoTV (x.1 / Nat.gcd x.1 x.2 : Nat) (x.2 / Nat.gcd x.1 x.2 : Nat))]⟩
def aRed (t u : Nat) (a d : Nat) : Ann := { G := Nat × Nat, ok := fun _ g => Nat.gcd g.1 g.2 = Nat.gcd a d ∧ g.1 ≤ 1099511627776 ∧ g.2 ≤ 1099511627776, dom := fun _ => [], tm := fun _ g => [(t, .t (intC g.1)), (u, .t (intC g.2))], hp := fun _ _ => [], mu := fun _ g => g.2 }
theorem q56 (x : sRed.α) (h : sRed.pre x) : CallQ Try.prog E0 56 (sRed.arg x) (sRed.res x) := by
  obtain ⟨a, d⟩ := x
  refine bare_all E0_ok TA TA_ok [] EvensOk.nil runs [(56, 2, aRed 3 4 a d)] [] [] [] (fuel := 5) ?_
  refine of_red (q := (∃ (g : Nat × Nat), (g.fst.gcd g.snd = a.gcd d ∧ g.fst ≤ (1099511627776 : Nat) ∧ g.snd ≤ (1099511627776 : Nat)) ∧ True ∧ ((True ∧ (↑a : Int) = (↑g.fst : Int)) ∧ (True ∧ (↑d : Int) = (↑g.snd : Int)) ∧ True) ∧ True) ∧ ∀ (g : Nat × Nat), g.fst.gcd g.snd = a.gcd d ∧ g.fst ≤ (1099511627776 : Nat) ∧ g.snd ≤ (1099511627776 : Nat) → (((↑g.snd : Int) != (0 : Int)) = true → (↑g.snd : Int) ≠ (0 : Int) ∧ ∃ (g' : Nat × Nat), (g'.fst.gcd g'.snd = a.gcd d ∧ g'.fst ≤ (1099511627776 : Nat) ∧ g'.snd ≤ (1099511627776 : Nat)) ∧ g'.snd < g.snd ∧ True ∧ ((True ∧ (↑g.snd : Int) = (↑g'.fst : Int)) ∧ (True ∧ (↑g.fst : Int).tmod (↑g.snd : Int) = (↑g'.snd : Int)) ∧ True) ∧ True) ∧ (((↑g.snd : Int) != (0 : Int)) = false → (↑g.fst : Int) ≠ (0 : Int) ∧ inRange IntKind.i64 ((↑a : Int).tdiv (↑g.fst : Int)) ∧ (↑g.fst : Int) ≠ (0 : Int) ∧ inRange IntKind.i64 ((↑d : Int).tdiv (↑g.fst : Int)) ∧ True ∧ (True ∧ True ∧ (↑a : Int).tdiv (↑g.fst : Int) = (↑(a / a.gcd d) : Int)) ∧ True ∧ (↑d : Int).tdiv (↑g.fst : Int) = (↑(d / a.gcd d) : Int))) (by kernel_rfl) ?_
  simp only [true_and, and_true, inR, Prod.exists, Prod.forall, and_assoc, exists_and_left, exists_eq_left', exists_eq_left, forall_eq, exists_const, forall_const, loopN, loopM, fa2, fas, fas2, dup1, dup2, dup3, dup4, ite_true, exhs, exhn, exhz, exho, exs1, exn1, exz1, exo1, exs2, exn2, exz2, exo2, exs3, exn3, exz3, exo3, exs4, exn4, exz4, exo4, exs5, exn5, exz5, exo5, exs6, exn6, exz6, exo6, exs7, exn7, exz7, exo7, exs8, exn8, exz8, exo8, exs9, exn9, exz9, exo9, ex1, ex2, ex3, ex4, ex5, beqI, bneI, decide_true, Bool.true_and, decide_eq_true_eq, decide_eq_false_iff_not, ne_eq, Decidable.not_not]
  obtain ⟨h0, h1, h2⟩ : 0 < d ∧ a ≤ 1099511627776 ∧ d ≤ 1099511627776 := h
  have g0 : 0 < Nat.gcd a d := Nat.gcd_pos_of_pos_right _ h0
  refine ⟨h1, h2, fun x y ⟨hg, hx, hy⟩ => ⟨fun hne => ?_, fun he => ?_⟩⟩
  · have hlt := Nat.mod_lt x (show 0 < y by omega)
    exact ⟨hne, y, x % y, by rw [gcd_step]; exact hg, hy, by omega, hlt, rfl, tmod_nat x y⟩
  · obtain rfl : y = 0 := by omega
    rw [Nat.gcd_zero_right] at hg
    subst hg
    have d1 := Nat.div_le_self a (Nat.gcd a d)
    have d2 := Nat.div_le_self d (Nat.gcd a d)
    rw [tdiv_nat, tdiv_nat]
    generalize a / Nat.gcd a d = p at d1 ⊢
    generalize d / Nat.gcd a d = q at d2 ⊢
    exact ⟨by omega, by omega, by omega, by omega, by omega, by omega, rfl, rfl⟩
def sGcd : Sig := ⟨Nat × Nat, fun x => [intC x.1, intC x.2], fun x => x.1 ≤ 1099511627776 ∧ x.2 ≤ 1099511627776, fun x => [.v (intC (Nat.gcd x.1 x.2))]⟩
theorem q33 (x : sGcd.α) (h : sGcd.pre x) : CallQ Try.prog E0 33 (sGcd.arg x) (sGcd.res x) := by
  obtain ⟨a, d⟩ := x
  refine bare_all E0_ok TA TA_ok [] EvensOk.nil runs [(33, 2, aRed 0 1 a d)] [] [] [] (fuel := 5) ?_
  refine of_red (q := inRange IntKind.i64 (-(↑a : Int)) ∧ inRange IntKind.i64 (-(↑d : Int)) ∧ (∃ (g : Nat × Nat), (g.fst.gcd g.snd = a.gcd d ∧ g.fst ≤ (1099511627776 : Nat) ∧ g.snd ≤ (1099511627776 : Nat)) ∧ True ∧ ((True ∧ imax (-(↑a : Int)) (↑a : Int) = (↑g.fst : Int)) ∧ (True ∧ imax (-(↑d : Int)) (↑d : Int) = (↑g.snd : Int)) ∧ True) ∧ True) ∧ ∀ (g : Nat × Nat), g.fst.gcd g.snd = a.gcd d ∧ g.fst ≤ (1099511627776 : Nat) ∧ g.snd ≤ (1099511627776 : Nat) → (decide ((0 : Int) < (↑g.snd : Int)) = true → (↑g.snd : Int) ≠ (0 : Int) ∧ ∃ (g' : Nat × Nat), (g'.fst.gcd g'.snd = a.gcd d ∧ g'.fst ≤ (1099511627776 : Nat) ∧ g'.snd ≤ (1099511627776 : Nat)) ∧ g'.snd < g.snd ∧ True ∧ ((True ∧ (↑g.snd : Int) = (↑g'.fst : Int)) ∧ (True ∧ (↑g.fst : Int).tmod (↑g.snd : Int) = (↑g'.snd : Int)) ∧ True) ∧ True) ∧ (decide ((0 : Int) < (↑g.snd : Int)) = false → True ∧ (↑g.fst : Int) = (↑(a.gcd d) : Int))) (by kernel_rfl) ?_
  simp only [true_and, and_true, inR, Prod.exists, Prod.forall, and_assoc, exists_and_left, exists_eq_left', exists_eq_left, forall_eq, exists_const, forall_const, loopN, loopM, fa2, fas, fas2, dup1, dup2, dup3, dup4, ite_true, exhs, exhn, exhz, exho, exs1, exn1, exz1, exo1, exs2, exn2, exz2, exo2, exs3, exn3, exz3, exo3, exs4, exn4, exz4, exo4, exs5, exn5, exz5, exo5, exs6, exn6, exz6, exo6, exs7, exn7, exz7, exo7, exs8, exn8, exz8, exo8, exs9, exn9, exz9, exo9, ex1, ex2, ex3, ex4, ex5, beqI, bneI, decide_true, Bool.true_and, decide_eq_true_eq, decide_eq_false_iff_not, ne_eq, Decidable.not_not]
  obtain ⟨h1, h2⟩ : a ≤ 1099511627776 ∧ d ≤ 1099511627776 := h
  refine ⟨by omega, by omega, by omega, by omega, ⟨a, d, rfl, h1, h2, ?_, ?_⟩, fun x y ⟨hg, hx, hy⟩ => ⟨fun hne => ?_, fun he => ?_⟩⟩
  · unfold imax; split <;> omega
  · unfold imax; split <;> omega
  · have hlt := Nat.mod_lt x (show 0 < y by omega)
    exact ⟨by omega, y, x % y, by rw [gcd_step]; exact hg, hy, by omega, hlt, rfl, tmod_nat x y⟩
  · obtain rfl : y = 0 := by omega
    rw [Nat.gcd_zero_right] at hg
    rw [hg]
def sCho : Sig := ⟨Nat × Int, fun x => [intC x.1, intC x.2], fun x => x.1 ≤ 40 ∧ -100 ≤ x.2 ∧ x.2 ≤ 100, fun x => [.v (intC (cI x.1 x.2))]⟩
def aCho (n s : Nat) : Ann := { G := Nat, ok := fun _ j => j ≤ s, dom := fun _ => [], tm := fun _ j => [(5, .t (intC (ch (n - s + j) j))), (6, .t (intC (j + 1 : Nat)))], hp := fun _ _ => [], mu := fun _ j => s + 1 - j }
theorem q59 (x : sCho.α) (h : sCho.pre x) : CallQ Try.prog E0 59 (sCho.arg x) (sCho.res x) := by
  obtain ⟨n, s⟩ := x
  refine bare_all E0_ok TA TA_ok [] EvensOk.nil runs [(59, 5, aCho n s.toNat)] [] [] [] (fuel := 5) ?_
  refine of_red (q := ∃ (x : Int × Int × Int), ((True ∧ s = x.fst) ∧ (True ∧ (0 : Int) = x.snd.fst) ∧ (True ∧ (↑n : Int) = x.snd.snd) ∧ True) ∧ True ∧ ((!within x.fst x.snd.fst x.snd.snd) = true → True ∧ (0 : Int) = cI (↑n : Int) s) ∧ ((!within x.fst x.snd.fst x.snd.snd) = false → (∃ (g : Nat), g ≤ s.toNat ∧ True ∧ ((True ∧ (1 : Int) = (↑(ch (n - s.toNat + g) g) : Int)) ∧ (True ∧ (1 : Int) = (↑(g + (1 : Nat)) : Int)) ∧ True) ∧ True) ∧ ∀ (g : Nat), g ≤ s.toNat → (decide ((↑(g + (1 : Nat)) : Int) ≤ s) = true → inRange IntKind.i64 ((↑n : Int) - s) ∧ inRange IntKind.i64 ((↑n : Int) - s + (↑(g + (1 : Nat)) : Int)) ∧ inRange IntKind.i64 ((↑(ch (n - s.toNat + g) g) : Int) * ((↑n : Int) - s + (↑(g + (1 : Nat)) : Int))) ∧ (↑(g + (1 : Nat)) : Int) ≠ (0 : Int) ∧ inRange IntKind.i64 (((↑(ch (n - s.toNat + g) g) : Int) * ((↑n : Int) - s + (↑(g + (1 : Nat)) : Int))).tdiv (↑(g + (1 : Nat)) : Int)) ∧ inRange IntKind.i64 ((↑(g + (1 : Nat)) : Int) + (1 : Int)) ∧ ∃ (g' : Nat), g' ≤ s.toNat ∧ s.toNat + (1 : Nat) - g' < s.toNat + (1 : Nat) - g ∧ True ∧ ((True ∧ ((↑(ch (n - s.toNat + g) g) : Int) * ((↑n : Int) - s + (↑(g + (1 : Nat)) : Int))).tdiv (↑(g + (1 : Nat)) : Int) = (↑(ch (n - s.toNat + g') g') : Int)) ∧ (True ∧ (↑(g + (1 : Nat)) : Int) + (1 : Int) = (↑(g' + (1 : Nat)) : Int)) ∧ True) ∧ True) ∧ (decide ((↑(g + (1 : Nat)) : Int) ≤ s) = false → True ∧ (↑(ch (n - s.toNat + g) g) : Int) = cI (↑n : Int) s))) (by kernel_rfl) ?_
  simp only [true_and, and_true, inR, Prod.exists, Prod.forall, and_assoc, exists_and_left, exists_eq_left', exists_eq_left, forall_eq, exists_const, forall_const, loopN, loopM, fa2, fas, fas2, dup1, dup2, dup3, dup4, ite_true, exhs, exhn, exhz, exho, exs1, exn1, exz1, exo1, exs2, exn2, exz2, exo2, exs3, exn3, exz3, exo3, exs4, exn4, exz4, exo4, exs5, exn5, exz5, exo5, exs6, exn6, exz6, exo6, exs7, exn7, exz7, exo7, exs8, exn8, exz8, exo8, exs9, exn9, exz9, exo9, ex1, ex2, ex3, ex4, ex5, beqI, bneI, decide_true, Bool.true_and, decide_eq_true_eq, decide_eq_false_iff_not, ne_eq, Decidable.not_not]
  obtain ⟨h0, h1, h2⟩ : n ≤ 40 ∧ -100 ≤ s ∧ s ≤ 100 := h
  refine ⟨fun hw => ?_, fun hw => ?_⟩
  · have hw : ¬ (0 ≤ s ∧ s ≤ n) := fun h => by rw [Bm.within_iff.2 h] at hw; cases hw
    by_cases e : s < 0
    · rw [cI_neg e]
    · rw [cI_big (by omega) (by omega)]
  · have hw : 0 ≤ s ∧ s ≤ n := Bm.within_iff.1 (by simpa using hw)
    obtain ⟨S, rfl⟩ : ∃ S : Nat, s = S := ⟨s.toNat, by omega⟩
    simp only [Int.toNat_natCast]
    obtain ⟨m, hm⟩ : ∃ m, n = m + S := ⟨n - S, by omega⟩
    have e : n - S = m := by omega
    rw [e, cI_nat]
    refine ⟨⟨0, Nat.zero_le _, by rw [ch_zero]; rfl, rfl⟩, fun j hj => ⟨fun hlt => ?_, fun hlt => ?_⟩⟩
    · have ab := absorb (m + j) j
      have b1 := ch_le (n := m + j) (k := j) (by omega)
      have b2 := ch_le (n := m + j + 1) (k := j + 1) (by omega)
      have hz : ((ch (m + j) j : Nat) : Int) * ((n : Int) - (S : Int) + ((j + 1 : Nat) : Int)) = (((j + 1) * ch (m + j + 1) (j + 1) : Nat) : Int) := by
        rw [ab, show (n : Int) - (S : Int) + ((j + 1 : Nat) : Int) = ((m + j + 1 : Nat) : Int) by omega, Nat.mul_comm]
        exact (Int.natCast_mul _ _).symm
      have hb : (j + 1) * ch (m + j + 1) (j + 1) ≤ 41 * 1099511627776 := Nat.mul_le_mul (by omega) b2
      rw [hz, tdiv_nat, Nat.mul_div_cancel_left _ (by omega : 0 < j + 1)]
      exact ⟨by omega, by omega, by omega, by omega, by omega, by omega, by omega, by omega, by omega, by omega, by omega, j + 1, by omega, by omega, rfl, rfl⟩
    · obtain rfl : j = S := by omega
      rw [hm]

def TB : List (Nat × Sig) := (59, sCho) :: (33, sGcd) :: (56, sRed) :: (70, sOdd) :: (65, sOdd) :: TA
theorem TB_ok : SigsOk Try.prog E0 TB := ((((TA_ok.cons (runs 65 (by kernel_rfl)) fun x _ => q65 x).cons (runs 70 (by kernel_rfl)) fun x _ => q70 x).cons (runs 56 (by kernel_rfl)) q56).cons (runs 33 (by kernel_rfl)) q33).cons (runs 59 (by kernel_rfl)) q59
def sFnd : Sig := ⟨FndIn, fun g => [intC g.N, intC g.b, intC g.o, intC g.lo, intC g.hi], eFound.ok, fun g => [.v (intC (fnd g.N g.b g.o g.lo g.hi))]⟩
def aFndR (g : FndIn) : Ann := { G := Nat, ok := fun _ j => j ≤ g.hi + 1 - g.lo, dom := fun _ => [], tm := fun _ j => [(11, .t (intC (fndS g j))), (12, .t (intC (g.lo + j : Nat)))], hp := fun _ _ => [], mu := fun _ j => g.hi + 1 - g.lo - j }
theorem q58 (g : sFnd.α) (h : sFnd.pre g) : CallQ Try.prog E0 58 (sFnd.arg g) (sFnd.res g) := by
  refine bare_all E0_ok TB TB_ok [] EvensOk.nil runs [(58, 3, aFndR g)] [] [] [] (fuel := 5) ?_
  refine of_red (q := (∃ (g_1 : Nat), g_1 ≤ g.hi + (1 : Nat) - g.lo ∧ True ∧ ((True ∧ (0 : Int) = (↑(fndS g g_1) : Int)) ∧ (True ∧ (↑g.lo : Int) = (↑(g.lo + g_1) : Int)) ∧ True) ∧ True) ∧ ∀ (g_1 : Nat), g_1 ≤ g.hi + (1 : Nat) - g.lo → (decide ((↑(g.lo + g_1) : Int) ≤ (↑g.hi : Int)) = true → ∃ (x : Nat × Int), ((True ∧ (↑g.b : Int) = (↑x.fst : Int)) ∧ (True ∧ (↑(g.lo + g_1) : Int) = x.snd) ∧ True) ∧ (x.fst ≤ (40 : Nat) ∧ (-100 : Int) ≤ x.snd ∧ x.snd ≤ (100 : Int)) ∧ inRange IntKind.i64 ((↑g.N : Int) - (↑g.b : Int)) ∧ inRange IntKind.i64 ((↑g.o : Int) - (↑(g.lo + g_1) : Int)) ∧ ∃ (x_1 : Nat × Int), ((True ∧ (↑g.N : Int) - (↑g.b : Int) = (↑x_1.fst : Int)) ∧ (True ∧ (↑g.o : Int) - (↑(g.lo + g_1) : Int) = x_1.snd) ∧ True) ∧ (x_1.fst ≤ (40 : Nat) ∧ (-100 : Int) ≤ x_1.snd ∧ x_1.snd ≤ (100 : Int)) ∧ inRange IntKind.i64 (cI (↑x.fst : Int) x.snd * cI (↑x_1.fst : Int) x_1.snd) ∧ inRange IntKind.i64 ((↑(fndS g g_1) : Int) + cI (↑x.fst : Int) x.snd * cI (↑x_1.fst : Int) x_1.snd) ∧ inRange IntKind.i64 ((↑(g.lo + g_1) : Int) + (1 : Int)) ∧ ∃ (g' : Nat), g' ≤ g.hi + (1 : Nat) - g.lo ∧ g.hi + (1 : Nat) - g.lo - g' < g.hi + (1 : Nat) - g.lo - g_1 ∧ True ∧ ((True ∧ (↑(fndS g g_1) : Int) + cI (↑x.fst : Int) x.snd * cI (↑x_1.fst : Int) x_1.snd = (↑(fndS g g') : Int)) ∧ (True ∧ (↑(g.lo + g_1) : Int) + (1 : Int) = (↑(g.lo + g') : Int)) ∧ True) ∧ True) ∧ (decide ((↑(g.lo + g_1) : Int) ≤ (↑g.hi : Int)) = false → True ∧ (↑(fndS g g_1) : Int) = (↑(fnd g.N g.b g.o g.lo g.hi) : Int))) (by kernel_rfl) ?_
  simp only [true_and, and_true, inR, Prod.exists, Prod.forall, and_assoc, exists_and_left, exists_eq_left', exists_eq_left, forall_eq, exists_const, forall_const, loopN, loopM, fa2, fas, fas2, dup1, dup2, dup3, dup4, ite_true, exhs, exhn, exhz, exho, exs1, exn1, exz1, exo1, exs2, exn2, exz2, exo2, exs3, exn3, exz3, exo3, exs4, exn4, exz4, exo4, exs5, exn5, exz5, exo5, exs6, exn6, exz6, exo6, exs7, exn7, exz7, exo7, exs8, exn8, exz8, exo8, exs9, exn9, exz9, exo9, ex1, ex2, ex3, ex4, ex5, beqI, bneI, decide_true, Bool.true_and, decide_eq_true_eq, decide_eq_false_iff_not, ne_eq, Decidable.not_not]
  obtain ⟨N, b, o, lo, hi⟩ := g
  obtain ⟨h0, h1, h2, h3, h4⟩ : N ≤ 40 ∧ b ≤ N ∧ o ≤ N ∧ hi ≤ o ∧ lo ≤ hi + 1 := h
  have top := fnd_le (N := N) (b := b) (o := o) (lo := lo) (hi := hi) h1 h3
  have top2 := ch_le (n := N) (k := o) h0
  have mono : ∀ j, j ≤ hi + 1 - lo → fndS ⟨N, b, o, lo, hi⟩ j ≤ fnd N b o lo hi := fun j hj => sN_mono hj
  refine ⟨⟨0, Nat.zero_le _, rfl, rfl⟩, fun j hj => ⟨fun hlt => ?_, fun hlt => ?_⟩⟩
  · have hlt : ((lo + j : Nat) : Int) ≤ (hi : Int) := hlt
    have e1 : fndS ⟨N, b, o, lo, hi⟩ (j + 1) = fndS ⟨N, b, o, lo, hi⟩ j + ch b (lo + j) * ch (N - b) (o - (lo + j)) := rfl
    have e2 := mono (j + 1) (by omega)
    have c1 : cI (b : Int) ((lo + j : Nat) : Int) * cI ((N - b : Nat) : Int) ((o : Int) - ((lo + j : Nat) : Int)) = ((ch b (lo + j) * ch (N - b) (o - (lo + j)) : Nat) : Int) := by
      rw [show (o : Int) - ((lo + j : Nat) : Int) = ((o - (lo + j) : Nat) : Int) by omega, cI_nat, cI_nat]
      exact (Int.natCast_mul _ _).symm
    generalize ch b (lo + j) * ch (N - b) (o - (lo + j)) = T at e1 c1
    have e3 : hi + 1 - lo - (j + 1) < hi + 1 - lo - j := by omega
    refine ⟨by show b ≤ 40; omega, by show (-100 : Int) ≤ (lo + j : Nat); omega, by show ((lo + j : Nat) : Int) ≤ 100; omega, by show (-9223372036854775808 : Int) ≤ (N : Int) - b; omega, by show (N : Int) - b ≤ 9223372036854775807; omega, by show (-9223372036854775808 : Int) ≤ (o : Int) - (lo + j : Nat); omega, by show (o : Int) - (lo + j : Nat) ≤ 9223372036854775807; omega, N - b, by show (N : Int) - b = (N - b : Nat); omega, by omega, by show (-100 : Int) ≤ (o : Int) - (lo + j : Nat); omega, by show (o : Int) - (lo + j : Nat) ≤ 100; omega, ?_⟩
    simp only [] at hj ⊢
    exact ⟨by omega, by omega, by omega, by omega, by omega, by omega, j + 1, by omega, e3, by omega, by omega⟩
  · have hlt : ¬ ((lo + j : Nat) : Int) ≤ (hi : Int) := hlt
    have hj : j ≤ hi + 1 - lo := hj
    obtain rfl : j = hi + 1 - lo := by omega
    rfl
def V3 : List (Nat × ESpec) := (67, eFound) :: V2
theorem V3_ok : EvensOk Try.prog E0 V3 := V2_ok.cons r67
/-- A plan of a lot; a rule of a lot. -/
def ePlan : ESpec where
  γ := Nat × Int × Int
  ok g := g.1 ≤ 1000000
  arg g := [lotTV g.1, twoTV g.2.1 g.2.2]
  hp _ := [(.argc 0 1, .mpI MC Inv)]
  res g := [.c (.bool (planOk g.1 g.2.1 g.2.2))]
theorem r54n (n : Nat) (g : Nat × Int × Int) (h : ePlan.ok g) (ms : Nat → List Int → Option Int) (hm : ∀ j T I, canonHp (ePlan.hp g) j = some (.mpI T I) → ∀ ks x, ms j ks = some x → I ks x) : inlBody (E0.all TB ((54, { ePlan with ok := fun g => ePlan.ok g ∧ 0 < n }) :: V3) [] [] [] (wkAt 54)) (vc (E0.all TB ((54, { ePlan with ok := fun g => ePlan.ok g ∧ 0 < n }) :: V3) [] [] [] (wkAt 54)) 6) 54 (ePlan.arg g) (openHp ms (canonHp (ePlan.hp g))) (lenR (ePlan.hp g)) [] (fun v hp _ _ => evenFit ePlan g v hp) := by
  refine of_red (q := (True ∧ ∀ (ks : List Int) (x : Int), ms (0 : Nat) ks = some x → x = cI (ks.getD (0 : Nat) (0 : Int)) (ks.getD (1 : Nat) (0 : Int))) ∧ ∃ (x : Int × Int × Int), ((True ∧ g.snd.fst = x.fst) ∧ (True ∧ (0 : Int) = x.snd.fst) ∧ (True ∧ (↑g.fst : Int) = x.snd.snd) ∧ True) ∧ True ∧ (within x.fst x.snd.fst x.snd.snd = true → ∃ (x : Int × Int × Int), ((True ∧ g.snd.snd = x.fst) ∧ (True ∧ (0 : Int) = x.snd.fst) ∧ (True ∧ g.snd.fst = x.snd.snd) ∧ True) ∧ True ∧ ((True ∧ ∀ (ks : List Int) (x : Int), x = cI (ks.getD (0 : Nat) (0 : Int)) (ks.getD (1 : Nat) (0 : Int)) → x = cI (ks.getD (0 : Nat) (0 : Int)) (ks.getD (1 : Nat) (0 : Int))) ∧ True) ∧ True ∧ within x.fst x.snd.fst x.snd.snd = planOk (↑g.fst : Int) g.snd.fst g.snd.snd) ∧ (within x.fst x.snd.fst x.snd.snd = false → ((True ∧ ∀ (ks : List Int) (x : Int), x = cI (ks.getD (0 : Nat) (0 : Int)) (ks.getD (1 : Nat) (0 : Int)) → x = cI (ks.getD (0 : Nat) (0 : Int)) (ks.getD (1 : Nat) (0 : Int))) ∧ True) ∧ True ∧ planOk (↑g.fst : Int) g.snd.fst g.snd.snd = false)) (by kernel_rfl) ?_
  have hI : ∀ ks x, ms 0 ks = some x → x = cI (ks.getD 0 0) (ks.getD 1 0) := hm 0 MC Inv rfl
  obtain ⟨N, o, a⟩ := g
  simp only [true_and, and_true, inR, Prod.exists, Prod.forall, and_assoc, exists_and_left, exists_eq_left', exists_eq_left, forall_eq, exists_const, forall_const, loopN, loopM, fa2, fas, fas2, dup1, dup2, dup3, dup4, ite_true, exhs, exhn, exhz, exho, exs1, exn1, exz1, exo1, exs2, exn2, exz2, exo2, exs3, exn3, exz3, exo3, exs4, exn4, exz4, exo4, exs5, exn5, exz5, exo5, exs6, exn6, exz6, exo6, exs7, exn7, exz7, exo7, exs8, exn8, exz8, exo8, exs9, exn9, exz9, exo9, ex1, ex2, ex3, ex4, ex5, beqI, bneI, decide_true, Bool.true_and, decide_eq_true_eq, decide_eq_false_iff_not, ne_eq, Decidable.not_not]
  unfold planOk
  exact ⟨hI, fun h => by rw [h, Bool.true_and], fun h => by rw [h, Bool.false_and]⟩
theorem r54 : ∀ g, ePlan.ok g → SemK Try.prog E0 54 ePlan.toK g :=
  even_at E0_ok TB TB_ok V3 V3_ok runs ePlan (fun _ => []) (fun _ => []) [] (fun _ => wkAt 54) (fun _ => 0) (fun n g hg _ ms hm => r54n n g hg ms hm)
def eRule : ESpec where
  γ := Nat × (Nat → Int)
  ok g := g.1 ≤ 1000000
  arg g := [lotTV g.1, arrTV 6 g.2]
  hp _ := [(.argc 0 1, .mpI MC Inv)]
  res g := [.c (.bool (ruleOk g.1 g.2))]
theorem r75n (n : Nat) (g : Nat × (Nat → Int)) (h : eRule.ok g) (ms : Nat → List Int → Option Int) (hm : ∀ j T I, canonHp (eRule.hp g) j = some (.mpI T I) → ∀ ks x, ms j ks = some x → I ks x) : inlBody (E0.all TB ((75, { eRule with ok := fun g => eRule.ok g ∧ 0 < n }) :: V3) [] [] [] (wkAt 75)) (vc (E0.all TB ((75, { eRule with ok := fun g => eRule.ok g ∧ 0 < n }) :: V3) [] [] [] (wkAt 75)) 6) 75 (eRule.arg g) (openHp ms (canonHp (eRule.hp g))) (lenR (eRule.hp g)) [] (fun v hp _ _ => evenFit eRule g v hp) := by
  refine of_red (q := (True ∧ ∀ (ks : List Int) (x : Int), ms (0 : Nat) ks = some x → x = cI (ks.getD (0 : Nat) (0 : Int)) (ks.getD (1 : Nat) (0 : Int))) ∧ (decide ((0 : Int) ≤ g.snd (0 : Nat)) = true → (decide (g.snd (0 : Nat) < g.snd ((0 : Nat) + (nat_lit 2 + (1 : Nat)))) = true → (decide (g.snd ((0 : Nat) + (nat_lit 2 + (1 : Nat))) ≤ (↑g.fst : Int)) = true → ∃ (x : Int × Int), ((True ∧ (True ∧ True ∧ g.snd (nat_lit 0 + (nat_lit 0 + (1 : Nat))) = x.fst) ∧ True ∧ g.snd (nat_lit 1 + (nat_lit 0 + (1 : Nat))) = x.snd) ∧ True) ∧ True ∧ (oddsOk x.fst x.snd = true → ∃ (x : Int × Int), ((True ∧ (True ∧ True ∧ g.snd (nat_lit 0 + (nat_lit 3 + (1 : Nat))) = x.fst) ∧ True ∧ g.snd (nat_lit 1 + (nat_lit 3 + (1 : Nat))) = x.snd) ∧ True) ∧ True ∧ ((True ∧ ∀ (ks : List Int) (x : Int), x = cI (ks.getD (0 : Nat) (0 : Int)) (ks.getD (1 : Nat) (0 : Int)) → x = cI (ks.getD (0 : Nat) (0 : Int)) (ks.getD (1 : Nat) (0 : Int))) ∧ True) ∧ True ∧ oddsOk x.fst x.snd = ruleOk (↑g.fst : Int) g.snd) ∧ (oddsOk x.fst x.snd = false → ((True ∧ ∀ (ks : List Int) (x : Int), x = cI (ks.getD (0 : Nat) (0 : Int)) (ks.getD (1 : Nat) (0 : Int)) → x = cI (ks.getD (0 : Nat) (0 : Int)) (ks.getD (1 : Nat) (0 : Int))) ∧ True) ∧ True ∧ ruleOk (↑g.fst : Int) g.snd = false)) ∧ (decide (g.snd ((0 : Nat) + (nat_lit 2 + (1 : Nat))) ≤ (↑g.fst : Int)) = false → ((True ∧ ∀ (ks : List Int) (x : Int), x = cI (ks.getD (0 : Nat) (0 : Int)) (ks.getD (1 : Nat) (0 : Int)) → x = cI (ks.getD (0 : Nat) (0 : Int)) (ks.getD (1 : Nat) (0 : Int))) ∧ True) ∧ True ∧ ruleOk (↑g.fst : Int) g.snd = false)) ∧ (decide (g.snd (0 : Nat) < g.snd ((0 : Nat) + (nat_lit 2 + (1 : Nat)))) = false → ((True ∧ ∀ (ks : List Int) (x : Int), x = cI (ks.getD (0 : Nat) (0 : Int)) (ks.getD (1 : Nat) (0 : Int)) → x = cI (ks.getD (0 : Nat) (0 : Int)) (ks.getD (1 : Nat) (0 : Int))) ∧ True) ∧ True ∧ ruleOk (↑g.fst : Int) g.snd = false)) ∧ (decide ((0 : Int) ≤ g.snd (0 : Nat)) = false → ((True ∧ ∀ (ks : List Int) (x : Int), x = cI (ks.getD (0 : Nat) (0 : Int)) (ks.getD (1 : Nat) (0 : Int)) → x = cI (ks.getD (0 : Nat) (0 : Int)) (ks.getD (1 : Nat) (0 : Int))) ∧ True) ∧ True ∧ ruleOk (↑g.fst : Int) g.snd = false)) (by kernel_rfl) ?_
  have hI : ∀ ks x, ms 0 ks = some x → x = cI (ks.getD 0 0) (ks.getD 1 0) := hm 0 MC Inv rfl
  obtain ⟨N, r⟩ := g
  simp only [true_and, and_true, inR, Prod.exists, Prod.forall, and_assoc, exists_and_left, exists_eq_left', exists_eq_left, forall_eq, exists_const, forall_const, loopN, loopM, fa2, fas, fas2, dup1, dup2, dup3, dup4, ite_true, exhs, exhn, exhz, exho, exs1, exn1, exz1, exo1, exs2, exn2, exz2, exo2, exs3, exn3, exz3, exo3, exs4, exn4, exz4, exo4, exs5, exn5, exz5, exo5, exs6, exn6, exz6, exo6, exs7, exn7, exz7, exo7, exs8, exn8, exz8, exo8, exs9, exn9, exz9, exo9, ex1, ex2, ex3, ex4, ex5, beqI, bneI, decide_true, Bool.true_and, decide_eq_true_eq, decide_eq_false_iff_not, ne_eq, Decidable.not_not]
  have e : ruleOk N r = (decide (0 ≤ r 0) && decide (r 0 < r 3) && decide (r 3 ≤ (N : Int)) && oddsOk (r 1) (r 2) && oddsOk (r 4) (r 5)) := rfl
  refine ⟨hI, fun a => ⟨fun b => ⟨fun c => ⟨fun d => ?_, fun d => ?_⟩, fun c => ?_⟩, fun b => ?_⟩, fun a => ?_⟩ <;> rw [e]
  all_goals first | (simp_all; done) | (simp_all; intros; omega)
theorem r75 : ∀ g, eRule.ok g → SemK Try.prog E0 75 eRule.toK g :=
  even_at E0_ok TB TB_ok V3 V3_ok runs eRule (fun _ => []) (fun _ => []) [] (fun _ => wkAt 75) (fun _ => 0) (fun n g hg _ ms hm => r75n n g hg ms hm)
end Go.Proofs.Ythcplmlkgaiggaa
