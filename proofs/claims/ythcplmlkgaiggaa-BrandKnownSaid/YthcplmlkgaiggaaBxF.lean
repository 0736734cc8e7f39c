/- The helpers of the laws that stand by themselves: less, Mod, sized, ruled. -/
import Derived.Test.YthcplmlkgaiggaaBxL
import Derived.Test.YthcplmlkgaiggaaBxLess
set_option linter.unusedSimpArgs false
set_option linter.unusedVariables false
namespace Go.Proofs.Ythcplmlkgaiggaa
open Go Go.Sx Bm
set_option maxRecDepth 100000

def LessOk (a m : Int) : Prop := 0 ≤ a ∧ a ≤ 281474976710656 ∧ 1 ≤ m ∧ m ≤ 281474976710656
def sLess : Sig := ⟨(Int × Int) × Int × Int, fun x => [twoTV x.1.1 x.1.2, twoTV x.2.1 x.2.2], fun x => LessOk x.1.1 x.1.2 ∧ LessOk x.2.1 x.2.2, fun x => [.v (.c (.bool (decide (x.1.1 * x.2.2 < x.2.1 * x.1.2))))]⟩
def two (a b : Nat) (j : Nat) : CV := .int .i64 (if j = 0 then a else b)
def aLess (T : Prop) : Ann := { G := Nat × (Nat × Nat) × Nat × Nat, ok := fun _ g => Step g.1 g.2.1.1 g.2.1.2 ∧ Step g.1 g.2.2.1 g.2.2.2 ∧ g.2.1.1 ≤ 281474976710656 ∧ g.2.2.1 ≤ 281474976710656 ∧ (g.2.1.1 * g.2.2.2 < g.2.2.1 * g.2.1.2 ↔ T), dom := fun st => [osN (st.tm 2), osN (st.tm 3)], tm := fun _ g => [(5, .t (intC g.1))], hp := fun st g => [(osN (st.tm 2), .self, some (.box 2 (two g.2.1.1 g.2.1.2))), (osN (st.tm 3), .self, some (.box 2 (two g.2.2.1 g.2.2.2)))], mu := fun _ g => 100 - g.1 }
theorem q36 (x : sLess.α) (h : sLess.pre x) : CallQ Try.prog E0 36 (sLess.arg x) (sLess.res x) := by
  obtain ⟨⟨a, m⟩, b, n⟩ := x
  obtain ⟨⟨h1, h2, h3, h4⟩, h5, h6, h7, h8⟩ : LessOk a m ∧ LessOk b n := h
  obtain ⟨a, rfl⟩ := Int.eq_ofNat_of_zero_le h1
  obtain ⟨b, rfl⟩ := Int.eq_ofNat_of_zero_le h5
  obtain ⟨m, rfl⟩ := Int.eq_ofNat_of_zero_le (show 0 ≤ m by omega)
  obtain ⟨n, rfl⟩ := Int.eq_ofNat_of_zero_le (show 0 ≤ n by omega)
  refine bare_all E0_ok TL TL_ok V5 V5_ok runs [(36, 2, aLess (a * n < b * m))] [] [] [] (fuel := 5) ?_
  refine of_red (q := (∃ (g : Nat × (Nat × Nat) × Nat × Nat), (Step g.fst g.snd.fst.fst g.snd.fst.snd ∧ Step g.fst g.snd.snd.fst g.snd.snd.snd ∧ g.snd.fst.fst ≤ (281474976710656 : Nat) ∧ g.snd.snd.fst ≤ (281474976710656 : Nat) ∧ (g.snd.fst.fst * g.snd.snd.snd < g.snd.snd.fst * g.snd.fst.snd ↔ a * n < b * m)) ∧ True ∧ ((True ∧ (0 : Int) = (↑g.fst : Int)) ∧ True) ∧ (True ∧ (True ∧ True ∧ ((↑a : Int), (↑m : Int)).fst = (↑g.snd.fst.fst : Int)) ∧ True ∧ ((↑a : Int), (↑m : Int)).snd = (↑g.snd.fst.snd : Int)) ∧ (True ∧ (True ∧ True ∧ ((↑b : Int), (↑n : Int)).fst = (↑g.snd.snd.fst : Int)) ∧ True ∧ ((↑b : Int), (↑n : Int)).snd = (↑g.snd.snd.snd : Int)) ∧ True) ∧ ∀ (g : Nat × (Nat × Nat) × Nat × Nat), Step g.fst g.snd.fst.fst g.snd.fst.snd ∧ Step g.fst g.snd.snd.fst g.snd.snd.snd ∧ g.snd.fst.fst ≤ (281474976710656 : Nat) ∧ g.snd.snd.fst ≤ (281474976710656 : Nat) ∧ (g.snd.fst.fst * g.snd.snd.snd < g.snd.snd.fst * g.snd.fst.snd ↔ a * n < b * m) → (decide ((↑g.fst : Int) < (100 : Int)) = true → (decide ((↑g.snd.fst.snd : Int) < (1 : Int)) = true → True ∧ decide (((↑a : Int), (↑m : Int)).fst * ((↑b : Int), (↑n : Int)).snd < ((↑b : Int), (↑n : Int)).fst * ((↑a : Int), (↑m : Int)).snd) = false) ∧ (decide ((↑g.snd.fst.snd : Int) < (1 : Int)) = false → (decide ((↑g.snd.snd.snd : Int) < (1 : Int)) = true → True ∧ decide (((↑a : Int), (↑m : Int)).fst * ((↑b : Int), (↑n : Int)).snd < ((↑b : Int), (↑n : Int)).fst * ((↑a : Int), (↑m : Int)).snd) = false) ∧ (decide ((↑g.snd.snd.snd : Int) < (1 : Int)) = false → (↑g.snd.fst.snd : Int) ≠ (0 : Int) ∧ inRange IntKind.i64 ((↑g.snd.fst.fst : Int).tdiv (↑g.snd.fst.snd : Int)) ∧ (↑g.snd.snd.snd : Int) ≠ (0 : Int) ∧ inRange IntKind.i64 ((↑g.snd.snd.fst : Int).tdiv (↑g.snd.snd.snd : Int)) ∧ (((↑g.snd.fst.fst : Int).tdiv (↑g.snd.fst.snd : Int) != (↑g.snd.snd.fst : Int).tdiv (↑g.snd.snd.snd : Int)) = true → True ∧ decide ((↑g.snd.fst.fst : Int).tdiv (↑g.snd.fst.snd : Int) < (↑g.snd.snd.fst : Int).tdiv (↑g.snd.snd.snd : Int)) = decide (((↑a : Int), (↑m : Int)).fst * ((↑b : Int), (↑n : Int)).snd < ((↑b : Int), (↑n : Int)).fst * ((↑a : Int), (↑m : Int)).snd)) ∧ (((↑g.snd.fst.fst : Int).tdiv (↑g.snd.fst.snd : Int) != (↑g.snd.snd.fst : Int).tdiv (↑g.snd.snd.snd : Int)) = false → (↑g.snd.fst.snd : Int) ≠ (0 : Int) ∧ ∃ (x : Int × Int), ((True ∧ (↑g.snd.fst.fst : Int).tmod (↑g.snd.fst.snd : Int) = x.fst) ∧ (True ∧ (↑g.snd.fst.snd : Int) = x.snd) ∧ True) ∧ True ∧ (↑g.snd.snd.snd : Int) ≠ (0 : Int) ∧ ∃ (x_1 : Int × Int), ((True ∧ (↑g.snd.snd.fst : Int).tmod (↑g.snd.snd.snd : Int) = x_1.fst) ∧ (True ∧ (↑g.snd.snd.snd : Int) = x_1.snd) ∧ True) ∧ True ∧ ((x.fst == (0 : Int)) = true → ((x.fst == (0 : Int)) = true → True ∧ decide ((0 : Int) < x_1.fst) = decide (((↑a : Int), (↑m : Int)).fst * ((↑b : Int), (↑n : Int)).snd < ((↑b : Int), (↑n : Int)).fst * ((↑a : Int), (↑m : Int)).snd)) ∧ ((x.fst == (0 : Int)) = false → True ∧ decide (((↑a : Int), (↑m : Int)).fst * ((↑b : Int), (↑n : Int)).snd < ((↑b : Int), (↑n : Int)).fst * ((↑a : Int), (↑m : Int)).snd) = false)) ∧ ((x.fst == (0 : Int)) = false → ((x_1.fst == (0 : Int)) = true → ((x.fst == (0 : Int)) = true → True ∧ decide ((0 : Int) < x_1.fst) = decide (((↑a : Int), (↑m : Int)).fst * ((↑b : Int), (↑n : Int)).snd < ((↑b : Int), (↑n : Int)).fst * ((↑a : Int), (↑m : Int)).snd)) ∧ ((x.fst == (0 : Int)) = false → True ∧ decide (((↑a : Int), (↑m : Int)).fst * ((↑b : Int), (↑n : Int)).snd < ((↑b : Int), (↑n : Int)).fst * ((↑a : Int), (↑m : Int)).snd) = false)) ∧ ((x_1.fst == (0 : Int)) = false → ∃ (x_2 : Int × Int), ((True ∧ x_1.snd = x_2.fst) ∧ (True ∧ x_1.fst = x_2.snd) ∧ True) ∧ True ∧ ∃ (x_3 : Int × Int), ((True ∧ x.snd = x_3.fst) ∧ (True ∧ x.fst = x_3.snd) ∧ True) ∧ True ∧ inRange IntKind.i64 ((↑g.fst : Int) + (1 : Int)) ∧ ∃ (g' : Nat × (Nat × Nat) × Nat × Nat), (Step g'.fst g'.snd.fst.fst g'.snd.fst.snd ∧ Step g'.fst g'.snd.snd.fst g'.snd.snd.snd ∧ g'.snd.fst.fst ≤ (281474976710656 : Nat) ∧ g'.snd.snd.fst ≤ (281474976710656 : Nat) ∧ (g'.snd.fst.fst * g'.snd.snd.snd < g'.snd.snd.fst * g'.snd.fst.snd ↔ a * n < b * m)) ∧ (100 : Nat) - g'.fst < (100 : Nat) - g.fst ∧ True ∧ ((True ∧ (↑g.fst : Int) + (1 : Int) = (↑g'.fst : Int)) ∧ True) ∧ (True ∧ (True ∧ True ∧ x_2.fst = (↑g'.snd.fst.fst : Int)) ∧ True ∧ x_2.snd = (↑g'.snd.fst.snd : Int)) ∧ (True ∧ (True ∧ True ∧ x_3.fst = (↑g'.snd.snd.fst : Int)) ∧ True ∧ x_3.snd = (↑g'.snd.snd.snd : Int)) ∧ True)))))) ∧ (decide ((↑g.fst : Int) < (100 : Int)) = false → True ∧ decide (((↑a : Int), (↑m : Int)).fst * ((↑b : Int), (↑n : Int)).snd < ((↑b : Int), (↑n : Int)).fst * ((↑a : Int), (↑m : Int)).snd) = false)) (by kernel_rfl) ?_
  simp only [true_and, and_true, inR, Prod.exists, Prod.forall, and_assoc, exists_and_left, exists_eq_left', exists_eq_left, forall_eq, exists_const, forall_const, loopN, loopM, fa2, fas, fas2, dup1, dup2, dup3, dup4, ite_true, exhs, exhn, exhz, exho, exs1, exn1, exz1, exo1, exs2, exn2, exz2, exo2, exs3, exn3, exz3, exo3, exs4, exn4, exz4, exo4, exs5, exn5, exz5, exo5, exs6, exn6, exz6, exo6, exs7, exn7, exz7, exo7, exs8, exn8, exz8, exo8, exs9, exn9, exz9, exo9, ex1, ex2, ex3, ex4, ex5, beqI, bneI, decide_true, Bool.true_and, decide_eq_true_eq, decide_eq_false_iff_not, ne_eq, Decidable.not_not]
  have hm : 0 < m := by omega
  have hn : 0 < n := by omega
  have goalI : ((a : Int) * n < b * m) ↔ a * n < b * m := by
    rw [← Int.natCast_mul, ← Int.natCast_mul]; omega
  refine ⟨Step.start hm (by show m ≤ 281474976710656; omega), Step.start hn (by show n ≤ 281474976710656; omega), by omega, by omega, fun j p q r s ⟨s1, s2, hp, hr, hT⟩ => ⟨fun _ => ⟨fun h => absurd s1.pos (by omega), fun _ => ⟨fun h => absurd s2.pos (by omega), fun _ => ?_⟩⟩, fun h => absurd s1.stop (by omega)⟩⟩
  have dp := Nat.div_le_self p q
  have dr := Nat.div_le_self r s
  have mp := Nat.mod_lt p s1.pos
  have mr := Nat.mod_lt r s2.pos
  have l1 := s1.lo
  have l2 := s2.lo
  have q48 : q ≤ 281474976710656 := Nat.le_trans (Nat.le_mul_of_pos_right q (Nat.two_pow_pos _)) l1
  have s48 : s ≤ 281474976710656 := Nat.le_trans (Nat.le_mul_of_pos_right s (Nat.two_pow_pos _)) l2
  have q0 := s1.pos
  have s0 := s2.pos
  rw [tdiv_nat, tdiv_nat, tmod_nat, tmod_nat]
  have z1 : (0 : Int) ≤ ((p / q : Nat) : Int) := Int.natCast_nonneg _
  have z2 : (0 : Int) ≤ ((r / s : Nat) : Int) := Int.natCast_nonneg _
  refine ⟨by omega, by omega, by omega, by omega, by omega, by omega, fun hne => ?_, fun he => ⟨by omega, by omega, fun h0 => ?_, fun h0 => ⟨fun g0 => ⟨fun h => absurd h h0, fun _ => ?_⟩, fun g0 => ?_⟩⟩⟩
  · have hne' : p / q ≠ r / s := fun e => hne (by rw [e])
    rw [decide_eq_decide, goalI, ← hT, ← frac_whole q0 s0 hne']
    omega
  · have he' : p / q = r / s := by omega
    have h0' : p % q = 0 := by omega
    rw [decide_eq_decide, goalI, ← hT, frac_rest he', h0', Nat.zero_mul]
    constructor
    · intro h
      exact Nat.mul_pos (by omega) q0
    · intro h
      have : r % s ≠ 0 := fun e => by rw [e, Nat.zero_mul] at h; omega
      omega
  · have he' : p / q = r / s := by omega
    have g0' : r % s = 0 := by omega
    rw [goalI, ← hT, frac_rest he', g0', Nat.zero_mul]
    omega
  · have he' : p / q = r / s := by omega
    have lt := s1.stop
    refine ⟨by omega, by omega, j + 1, s, r % s, s2.next (by omega), q, p % q, s1.next (by omega), s48, q48, ?_, by omega, by omega, rfl, rfl, rfl, rfl⟩
    rw [← hT, frac_rest he', Nat.mul_comm s, Nat.mul_comm q]
def sMod : Sig := ⟨Int × Int, fun x => [intC x.1, intC x.2], fun x => 1 ≤ x.2 ∧ x.2 ≤ 1000, fun x => [.v (intC (x.1 % x.2))]⟩
theorem q30 (x : sMod.α) (h : sMod.pre x) : CallQ Try.prog E0 30 (sMod.arg x) (sMod.res x) := by
  obtain ⟨a, m⟩ := x
  obtain ⟨h1, h2⟩ : 1 ≤ m ∧ m ≤ 1000 := h
  refine bare_all E0_ok TL TL_ok V5 V5_ok runs [] [] [] [] (fuel := 5) ?_
  refine of_red (q := m ≠ (0 : Int) ∧ (decide (a.tmod m < (0 : Int)) = true → inRange IntKind.i64 (a.tmod m + m) ∧ True ∧ a.tmod m + m = a % m) ∧ (decide (a.tmod m < (0 : Int)) = false → True ∧ a.tmod m = a % m)) (by kernel_rfl) ?_
  simp only [true_and, and_true, inR, Prod.exists, Prod.forall, and_assoc, exists_and_left, exists_eq_left', exists_eq_left, forall_eq, exists_const, forall_const, loopN, loopM, fa2, fas, fas2, dup1, dup2, dup3, dup4, ite_true, exhs, exhn, exhz, exho, exs1, exn1, exz1, exo1, exs2, exn2, exz2, exo2, exs3, exn3, exz3, exo3, exs4, exn4, exz4, exo4, exs5, exn5, exz5, exo5, exs6, exn6, exz6, exo6, exs7, exn7, exz7, exo7, exs8, exn8, exz8, exo8, exs9, exn9, exz9, exo9, ex1, ex2, ex3, ex4, ex5, beqI, bneI, decide_true, Bool.true_and, decide_eq_true_eq, decide_eq_false_iff_not, ne_eq, Decidable.not_not]
  have e0 := Int.tmod_eq_emod (a := a) (b := m)
  have b1 := Int.emod_nonneg a (show m ≠ 0 by omega)
  have b2 := Int.emod_lt_of_pos a (show 0 < m by omega)
  have n1 : ((m.natAbs : Nat) : Int) = m := by omega
  rw [e0]
  split <;> (try rw [n1]) <;> exact ⟨by omega, fun h => ⟨by omega, by omega, by omega⟩, fun h => by omega⟩
def sSized : Sig := ⟨Int, fun x => [intC x], fun _ => True, fun x => [.v (.c (.bool (within x 1 40)))]⟩
theorem q73 (x : sSized.α) : CallQ Try.prog E0 73 (sSized.arg x) (sSized.res x) := by
  refine bare_all E0_ok TL TL_ok V5 V5_ok runs [] [] [] [] (fuel := 5) ?_
  refine of_red (q := ∃ (x_1 : Int × Int × Int), ((True ∧ x = x_1.fst) ∧ (True ∧ (1 : Int) = x_1.snd.fst) ∧ (True ∧ (40 : Int) = x_1.snd.snd) ∧ True) ∧ True ∧ True ∧ within x_1.fst x_1.snd.fst x_1.snd.snd = within x (1 : Int) (40 : Int)) (by kernel_rfl) ?_
  simp only [true_and, and_true, inR, Prod.exists, Prod.forall, and_assoc, exists_and_left, exists_eq_left', exists_eq_left, forall_eq, exists_const, forall_const, loopN, loopM, fa2, fas, fas2, dup1, dup2, dup3, dup4, ite_true, exhs, exhn, exhz, exho, exs1, exn1, exz1, exo1, exs2, exn2, exz2, exo2, exs3, exn3, exz3, exo3, exs4, exn4, exz4, exo4, exs5, exn5, exz5, exo5, exs6, exn6, exz6, exo6, exs7, exn7, exz7, exo7, exs8, exn8, exz8, exo8, exs9, exn9, exz9, exo9, ex1, ex2, ex3, ex4, ex5, beqI, bneI, decide_true, Bool.true_and, decide_eq_true_eq, decide_eq_false_iff_not, ne_eq, Decidable.not_not]
  exact ⟨x, rfl, rfl⟩
def sRuled : Sig := ⟨Int × (Nat → Int), fun x => [intC x.1, arrTV 6 x.2], fun x => ruledE x.1 x.2 = 0, fun _ => [.v (.c (.bool true))]⟩
def TF : List (Nat × Sig) := (73, sSized) :: (36, sLess) :: (30, sMod) :: TL
theorem TF_ok : SigsOk Try.prog E0 TF := ((TL_ok.cons (runs 30 (by kernel_rfl)) q30).cons (runs 36 (by kernel_rfl)) q36).cons (runs 73 (by kernel_rfl)) fun x _ => q73 x
theorem q37 (x : sRuled.α) (h : sRuled.pre x) : CallQ Try.prog E0 37 (sRuled.arg x) (sRuled.res x) := by
  obtain ⟨N, r⟩ := x
  refine bare_all E0_ok TF TF_ok V5 V5_ok runs [] [] [] [] (fuel := 5) ?_
  refine of_red (q := ∃ (x : Int), ((True ∧ N = x) ∧ True) ∧ True ∧ (within x (1 : Int) (40 : Int) = true → inRange IntKind.i64 (r ((0 : Nat) + (nat_lit 2 + (1 : Nat))) - (1 : Int)) ∧ ∃ (x : Int × Int × Int), ((True ∧ r (0 : Nat) = x.fst) ∧ (True ∧ (0 : Int) = x.snd.fst) ∧ (True ∧ r ((0 : Nat) + (nat_lit 2 + (1 : Nat))) - (1 : Int) = x.snd.snd) ∧ True) ∧ True ∧ (within x.fst x.snd.fst x.snd.snd = true → (decide (r ((0 : Nat) + (nat_lit 2 + (1 : Nat))) ≤ N) = true → ∃ (x : Int × Int × Int), ((True ∧ r ((0 : Nat) + (nat_lit 1 + (1 : Nat))) = x.fst) ∧ (True ∧ (1 : Int) = x.snd.fst) ∧ (True ∧ (1000 : Int) = x.snd.snd) ∧ True) ∧ True ∧ (within x.fst x.snd.fst x.snd.snd = true → ∃ (x : Int × Int × Int), ((True ∧ r ((0 : Nat) + (nat_lit 0 + (1 : Nat))) = x.fst) ∧ (True ∧ (0 : Int) = x.snd.fst) ∧ (True ∧ r ((0 : Nat) + (nat_lit 1 + (1 : Nat))) = x.snd.snd) ∧ True) ∧ True ∧ (within x.fst x.snd.fst x.snd.snd = true → ∃ (x : Int × Int × Int), ((True ∧ r ((0 : Nat) + (nat_lit 4 + (1 : Nat))) = x.fst) ∧ (True ∧ (1 : Int) = x.snd.fst) ∧ (True ∧ (1000 : Int) = x.snd.snd) ∧ True) ∧ True ∧ (within x.fst x.snd.fst x.snd.snd = true → ∃ (x : Int × Int × Int), ((True ∧ r ((0 : Nat) + (nat_lit 3 + (1 : Nat))) = x.fst) ∧ (True ∧ (0 : Int) = x.snd.fst) ∧ (True ∧ r ((0 : Nat) + (nat_lit 4 + (1 : Nat))) = x.snd.snd) ∧ True) ∧ True ∧ True ∧ within x.fst x.snd.fst x.snd.snd = true) ∧ (within x.fst x.snd.fst x.snd.snd = false → True ∧ true = false)) ∧ (within x.fst x.snd.fst x.snd.snd = false → True ∧ true = false)) ∧ (within x.fst x.snd.fst x.snd.snd = false → True ∧ true = false)) ∧ (decide (r ((0 : Nat) + (nat_lit 2 + (1 : Nat))) ≤ N) = false → True ∧ true = false)) ∧ (within x.fst x.snd.fst x.snd.snd = false → True ∧ true = false)) ∧ (within x (1 : Int) (40 : Int) = false → True ∧ true = false)) (by kernel_rfl) ?_
  simp only [true_and, and_true, inR, Prod.exists, Prod.forall, and_assoc, exists_and_left, exists_eq_left', exists_eq_left, forall_eq, exists_const, forall_const, loopN, loopM, fa2, fas, fas2, dup1, dup2, dup3, dup4, ite_true, exhs, exhn, exhz, exho, exs1, exn1, exz1, exo1, exs2, exn2, exz2, exo2, exs3, exn3, exz3, exo3, exs4, exn4, exz4, exo4, exs5, exn5, exz5, exo5, exs6, exn6, exz6, exo6, exs7, exn7, exz7, exo7, exs8, exn8, exz8, exo8, exs9, exn9, exz9, exo9, ex1, ex2, ex3, ex4, ex5, beqI, bneI, decide_true, Bool.true_and, decide_eq_true_eq, decide_eq_false_iff_not, ne_eq, Decidable.not_not]
  have h : ruledE N r = 0 := h
  obtain ⟨w, h⟩ := ruled_inv h
  obtain ⟨h0, h1, h2, ⟨h3, h4, h5, h6⟩, h7, h8, h9, h10⟩ := rule_bd h
  have w' := Bm.within_iff.1 w
  simp only [Nat.zero_add]
  have e3 : r (2 + 1) = r 3 := rfl
  refine ⟨fun _ => ⟨by omega, by omega, fun _ => ⟨fun _ => ⟨fun _ => ⟨fun _ => ⟨fun _ => Bm.within_iff.2 ⟨h9, h10⟩, fun h => ?_⟩, fun h => ?_⟩, fun h => ?_⟩, fun h => absurd (show r (2 + 1) ≤ N from h2) h⟩, fun h => ?_⟩, fun h => ?_⟩
  · exact absurd (Bm.within_iff.2 ⟨h7, h8⟩) (by rw [show r (4 + 1) = r 5 from rfl] at h; rw [h]; simp)
  · exact absurd (Bm.within_iff.2 ⟨h5, h6⟩) (by rw [show r (0 + 1) = r 1 from rfl, show r (1 + 1) = r 2 from rfl] at h; rw [h]; simp)
  · exact absurd (Bm.within_iff.2 ⟨h3, h4⟩) (by rw [show r (1 + 1) = r 2 from rfl] at h; rw [h]; simp)
  · exact absurd (Bm.within_iff.2 ⟨h0, show r 0 ≤ r 3 - 1 by omega⟩) (by rw [show r (2 + 1) = r 3 from rfl] at h; rw [h]; simp)
  · rw [w] at h; cases h
end Go.Proofs.Ythcplmlkgaiggaa
