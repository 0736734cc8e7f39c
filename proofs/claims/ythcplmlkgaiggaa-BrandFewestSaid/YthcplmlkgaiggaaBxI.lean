/- The laws of keeping a rule, as contracts. -/
import Derived.Test.YthcplmlkgaiggaaBxF
import Derived.Test.YthcplmlkgaiggaaBxSpec4
set_option linter.unusedSimpArgs false
set_option linter.unusedVariables false
namespace Go.Proofs.Ythcplmlkgaiggaa
open Go Go.Sx Bm
set_option maxRecDepth 100000

def TH : List (Nat × Sig) := (37, sRuled) :: TF
theorem TH_ok : SigsOk Try.prog E0 TH := TF_ok.cons (runs 37 (by kernel_rfl)) q37
def sLaw11 : Sig := ⟨Int × (Nat → Int) × Int × Int × Int, fun x => [intC x.1, arrTV 6 x.2.1, arr3 x.2.2.1 x.2.2.2.1 x.2.2.2.2], fun _ => True, fun _ => [.v (.c (.bool true))]⟩
theorem q11 (x : sLaw11.α) : CallQ Try.prog E0 11 (sLaw11.arg x) (sLaw11.res x) := by
  obtain ⟨N, r, n0, n1, n2⟩ := x
  refine bare_tight E0_ok TH TH_ok V5 V5_ok runs [] [] [] [] [] [] (fuel := 5) ?_
  refine of_red (q := ∃ (x : Int × (Nat → Int)), ((True ∧ N = x.fst) ∧ (True ∧ (((((True ∧ True ∧ (r, n0, n1, n2).fst (nat_lit 0) = x.snd (nat_lit 0)) ∧ True ∧ (r, n0, n1, n2).fst (nat_lit 1) = x.snd (nat_lit 1)) ∧ True ∧ (r, n0, n1, n2).fst (nat_lit 2) = x.snd (nat_lit 2)) ∧ True ∧ (r, n0, n1, n2).fst (nat_lit 3) = x.snd (nat_lit 3)) ∧ True ∧ (r, n0, n1, n2).fst (nat_lit 4) = x.snd (nat_lit 4)) ∧ True ∧ (r, n0, n1, n2).fst (nat_lit 5) = x.snd (nat_lit 5)) ∧ True) ∧ True ∧ ((ruledE x.fst x.snd != (0 : Int)) = true → ((ruledE x.fst x.snd != (0 : Int)) = true → ((fwO x.fst x.snd == (0 : Int) && (fwA x.fst x.snd == (0 : Int) && true)) = true → ∃ (x : Unit), True ∧ True ∧ True ∧ true = true) ∧ ((fwO x.fst x.snd == (0 : Int) && (fwA x.fst x.snd == (0 : Int) && true)) = false → True ∧ true = false)) ∧ ((ruledE x.fst x.snd != (0 : Int)) = false → True ∧ true = false)) ∧ ((ruledE x.fst x.snd != (0 : Int)) = false → ∃ (x_1 : Int × (Nat → Int)), ((True ∧ N = x_1.fst) ∧ (True ∧ (((((True ∧ True ∧ (r, n0, n1, n2).fst (nat_lit 0) = x_1.snd (nat_lit 0)) ∧ True ∧ (r, n0, n1, n2).fst (nat_lit 1) = x_1.snd (nat_lit 1)) ∧ True ∧ (r, n0, n1, n2).fst (nat_lit 2) = x_1.snd (nat_lit 2)) ∧ True ∧ (r, n0, n1, n2).fst (nat_lit 3) = x_1.snd (nat_lit 3)) ∧ True ∧ (r, n0, n1, n2).fst (nat_lit 4) = x_1.snd (nat_lit 4)) ∧ True ∧ (r, n0, n1, n2).fst (nat_lit 5) = x_1.snd (nat_lit 5)) ∧ True) ∧ ruledE x_1.fst x_1.snd = (0 : Int) ∧ ((!true) = true → ((ruledE x.fst x.snd != (0 : Int)) = true → ((fwO x.fst x.snd == (0 : Int) && (fwA x.fst x.snd == (0 : Int) && true)) = true → ∃ (x : Unit), True ∧ True ∧ True ∧ true = true) ∧ ((fwO x.fst x.snd == (0 : Int) && (fwA x.fst x.snd == (0 : Int) && true)) = false → True ∧ true = false)) ∧ ((ruledE x.fst x.snd != (0 : Int)) = false → True ∧ true = false)) ∧ ((!true) = false → ∃ (x_2 : Int × (Nat → Int) × Int × Int), ((True ∧ N = x_2.fst) ∧ (True ∧ (((((True ∧ True ∧ (r, n0, n1, n2).fst (nat_lit 0) = x_2.snd.fst (nat_lit 0)) ∧ True ∧ (r, n0, n1, n2).fst (nat_lit 1) = x_2.snd.fst (nat_lit 1)) ∧ True ∧ (r, n0, n1, n2).fst (nat_lit 2) = x_2.snd.fst (nat_lit 2)) ∧ True ∧ (r, n0, n1, n2).fst (nat_lit 3) = x_2.snd.fst (nat_lit 3)) ∧ True ∧ (r, n0, n1, n2).fst (nat_lit 4) = x_2.snd.fst (nat_lit 4)) ∧ True ∧ (r, n0, n1, n2).fst (nat_lit 5) = x_2.snd.fst (nat_lit 5)) ∧ (True ∧ (True ∧ True ∧ fwO x.fst x.snd = x_2.snd.snd.fst) ∧ True ∧ fwA x.fst x.snd = x_2.snd.snd.snd) ∧ True) ∧ True ∧ (0 : Int) ≤ (0 : Int) ∧ (0 : Int) < (↑(3 : Nat) : Int) ∧ inRange IntKind.i64 (r (0 : Nat) + (1 : Int)) ∧ ∃ (x_3 : Int × Int), ((True ∧ n0 = x_3.fst) ∧ (True ∧ r (0 : Nat) + (1 : Int) = x_3.snd) ∧ True) ∧ ((1 : Int) ≤ x_3.snd ∧ x_3.snd ≤ (1000 : Int)) ∧ ∃ (x_4 : Int × Int × Int × Int), ((True ∧ N = x_4.fst) ∧ (True ∧ x_3.fst % x_3.snd = x_4.snd.fst) ∧ (True ∧ (True ∧ True ∧ fwO x.fst x.snd = x_4.snd.snd.fst) ∧ True ∧ fwA x.fst x.snd = x_4.snd.snd.snd) ∧ True) ∧ True ∧ (0 : Int) ≤ (0 : Int) ∧ (0 : Int) < (↑(3 : Nat) : Int) ∧ inRange IntKind.i64 (N - r ((0 : Nat) + (nat_lit 2 + (1 : Nat)))) ∧ inRange IntKind.i64 (N - r ((0 : Nat) + (nat_lit 2 + (1 : Nat))) + (1 : Int)) ∧ ∃ (x_5 : Int × Int), ((True ∧ n0 = x_5.fst) ∧ (True ∧ N - r ((0 : Nat) + (nat_lit 2 + (1 : Nat))) + (1 : Int) = x_5.snd) ∧ True) ∧ ((1 : Int) ≤ x_5.snd ∧ x_5.snd ≤ (1000 : Int)) ∧ inRange IntKind.i64 (r ((0 : Nat) + (nat_lit 2 + (1 : Nat))) + x_5.fst % x_5.snd) ∧ ∃ (x_6 : Int × Int × Int × Int), ((True ∧ N = x_6.fst) ∧ (True ∧ r ((0 : Nat) + (nat_lit 2 + (1 : Nat))) + x_5.fst % x_5.snd = x_6.snd.fst) ∧ (True ∧ (True ∧ True ∧ fwO x.fst x.snd = x_6.snd.snd.fst) ∧ True ∧ fwA x.fst x.snd = x_6.snd.snd.snd) ∧ True) ∧ True ∧ ((keepsE x_2.fst x_2.snd.fst x_2.snd.snd.fst x_2.snd.snd.snd != (0 : Int)) = true → True ∧ true = false) ∧ ((keepsE x_2.fst x_2.snd.fst x_2.snd.snd.fst x_2.snd.snd.snd != (0 : Int)) = false → ((oddsE x_4.fst x_4.snd.fst x_4.snd.snd.fst x_4.snd.snd.snd != (0 : Int)) = true → True ∧ true = false) ∧ ((oddsE x_4.fst x_4.snd.fst x_4.snd.snd.fst x_4.snd.snd.snd != (0 : Int)) = false → ((oddsE x_6.fst x_6.snd.fst x_6.snd.snd.fst x_6.snd.snd.snd != (0 : Int)) = true → True ∧ true = false) ∧ ((oddsE x_6.fst x_6.snd.fst x_6.snd.snd.fst x_6.snd.snd.snd != (0 : Int)) = false → ((!keepsB x_2.fst x_2.snd.fst x_2.snd.snd.fst x_2.snd.snd.snd) = true → True ∧ true = false) ∧ ((!keepsB x_2.fst x_2.snd.fst x_2.snd.snd.fst x_2.snd.snd.snd) = false → ∃ (x_7 : (Int × Int) × Int × Int), ((True ∧ (True ∧ True ∧ oddsOf x_4.fst x_4.snd.fst x_4.snd.snd.fst x_4.snd.snd.snd = x_7.fst.fst) ∧ True ∧ oddsIn x_4.fst x_4.snd.fst x_4.snd.snd.fst x_4.snd.snd.snd = x_7.fst.snd) ∧ (True ∧ (True ∧ True ∧ (r, n0, n1, n2).fst (nat_lit 0 + (nat_lit 0 + (1 : Nat))) = x_7.snd.fst) ∧ True ∧ (r, n0, n1, n2).fst (nat_lit 1 + (nat_lit 0 + (1 : Nat))) = x_7.snd.snd) ∧ True) ∧ (((0 : Int) ≤ x_7.fst.fst ∧ x_7.fst.fst ≤ (281474976710656 : Int) ∧ (1 : Int) ≤ x_7.fst.snd ∧ x_7.fst.snd ≤ (281474976710656 : Int)) ∧ (0 : Int) ≤ x_7.snd.fst ∧ x_7.snd.fst ≤ (281474976710656 : Int) ∧ (1 : Int) ≤ x_7.snd.snd ∧ x_7.snd.snd ≤ (281474976710656 : Int)) ∧ (decide (x_7.fst.fst * x_7.snd.snd < x_7.snd.fst * x_7.fst.snd) = true → True ∧ true = false) ∧ (decide (x_7.fst.fst * x_7.snd.snd < x_7.snd.fst * x_7.fst.snd) = false → ∃ (x_8 : (Int × Int) × Int × Int), ((True ∧ (True ∧ True ∧ (r, n0, n1, n2).fst (nat_lit 0 + (nat_lit 3 + (1 : Nat))) = x_8.fst.fst) ∧ True ∧ (r, n0, n1, n2).fst (nat_lit 1 + (nat_lit 3 + (1 : Nat))) = x_8.fst.snd) ∧ (True ∧ (True ∧ True ∧ oddsOf x_6.fst x_6.snd.fst x_6.snd.snd.fst x_6.snd.snd.snd = x_8.snd.fst) ∧ True ∧ oddsIn x_6.fst x_6.snd.fst x_6.snd.snd.fst x_6.snd.snd.snd = x_8.snd.snd) ∧ True) ∧ (((0 : Int) ≤ x_8.fst.fst ∧ x_8.fst.fst ≤ (281474976710656 : Int) ∧ (1 : Int) ≤ x_8.fst.snd ∧ x_8.fst.snd ≤ (281474976710656 : Int)) ∧ (0 : Int) ≤ x_8.snd.fst ∧ x_8.snd.fst ≤ (281474976710656 : Int) ∧ (1 : Int) ≤ x_8.snd.snd ∧ x_8.snd.snd ≤ (281474976710656 : Int)) ∧ (decide (x_8.fst.fst * x_8.snd.snd < x_8.snd.fst * x_8.fst.snd) = true → True ∧ true = false) ∧ (decide (x_8.fst.fst * x_8.snd.snd < x_8.snd.fst * x_8.fst.snd) = false → (0 : Int) ≤ (1 : Int) ∧ (1 : Int) < (↑(3 : Nat) : Int) ∧ inRange IntKind.i64 (fwO x.fst x.snd + (1 : Int)) ∧ ∃ (x_9 : Int × Int), ((True ∧ n1 = x_9.fst) ∧ (True ∧ fwO x.fst x.snd + (1 : Int) = x_9.snd) ∧ True) ∧ ((1 : Int) ≤ x_9.snd ∧ x_9.snd ≤ (1000 : Int)) ∧ ∃ (x_10 : Int × Int), ((True ∧ x_9.fst % x_9.snd = x_10.fst) ∧ (True ∧ (0 : Int) = x_10.snd) ∧ True) ∧ True ∧ (0 : Int) ≤ (2 : Int) ∧ (2 : Int) < (↑(3 : Nat) : Int) ∧ inRange IntKind.i64 (x_10.fst + (1 : Int)) ∧ ∃ (x_11 : Int × Int), ((True ∧ n2 = x_11.fst) ∧ (True ∧ x_10.fst + (1 : Int) = x_11.snd) ∧ True) ∧ ((1 : Int) ≤ x_11.snd ∧ x_11.snd ≤ (1000 : Int)) ∧ ∃ (x_12 : Int × (Nat → Int) × Int × Int), ((True ∧ N = x_12.fst) ∧ (True ∧ (((((True ∧ True ∧ (r, n0, n1, n2).fst (nat_lit 0) = x_12.snd.fst (nat_lit 0)) ∧ True ∧ (r, n0, n1, n2).fst (nat_lit 1) = x_12.snd.fst (nat_lit 1)) ∧ True ∧ (r, n0, n1, n2).fst (nat_lit 2) = x_12.snd.fst (nat_lit 2)) ∧ True ∧ (r, n0, n1, n2).fst (nat_lit 3) = x_12.snd.fst (nat_lit 3)) ∧ True ∧ (r, n0, n1, n2).fst (nat_lit 4) = x_12.snd.fst (nat_lit 4)) ∧ True ∧ (r, n0, n1, n2).fst (nat_lit 5) = x_12.snd.fst (nat_lit 5)) ∧ (True ∧ (True ∧ True ∧ x_10.fst = x_12.snd.snd.fst) ∧ True ∧ x_11.fst % x_11.snd = x_12.snd.snd.snd) ∧ True) ∧ True ∧ ((keepsE x_12.fst x_12.snd.fst x_12.snd.snd.fst x_12.snd.snd.snd == (0 : Int)) = true → ((!keepsB x_12.fst x_12.snd.fst x_12.snd.snd.fst x_12.snd.snd.snd) = true → ∃ (x : Unit), True ∧ True ∧ True ∧ true = true) ∧ ((!keepsB x_12.fst x_12.snd.fst x_12.snd.snd.fst x_12.snd.snd.snd) = false → ((x_10.fst == fwO x.fst x.snd) = true → (decide (fwA x.fst x.snd ≤ x_11.fst % x_11.snd) = true → ∃ (x : Unit), True ∧ True ∧ True ∧ true = true) ∧ (decide (fwA x.fst x.snd ≤ x_11.fst % x_11.snd) = false → True ∧ true = false)) ∧ ((x_10.fst == fwO x.fst x.snd) = false → True ∧ true = false))) ∧ ((keepsE x_12.fst x_12.snd.fst x_12.snd.snd.fst x_12.snd.snd.snd == (0 : Int)) = false → True ∧ true = false)))))))))) (by kernel_rfl) ?_
  simp only [true_and, and_true, inR, Prod.exists, Prod.forall, and_assoc, exists_and_left, exists_eq_left', exists_eq_left, forall_eq, exists_const, forall_const, loopN, loopM, fa2, fas, fas2, dup1, dup2, dup3, dup4, ite_true, exhs, exhn, exhz, exho, exs1, exn1, exz1, exo1, exs2, exn2, exz2, exo2, exs3, exn3, exz3, exo3, exs4, exn4, exz4, exo4, exs5, exn5, exz5, exo5, exs6, exn6, exz6, exo6, exs7, exn7, exz7, exo7, exs8, exn8, exz8, exo8, exs9, exn9, exz9, exo9, ex1, ex2, ex3, ex4, ex5, beqI, bneI, decide_true, Bool.true_and, decide_eq_true_eq, decide_eq_false_iff_not, ne_eq, Decidable.not_not]
  refine ⟨r, rfl, rfl, rfl, rfl, rfl, rfl, ?_⟩
  by_cases h : ruledE N r = 0
  · obtain ⟨w, hr⟩ := ruled_inv h
    obtain ⟨w1, w2⟩ := Bm.within_iff.1 w
    obtain ⟨K, rfl⟩ : ∃ K : Nat, N = K := ⟨N.toNat, by omega⟩
    obtain ⟨b0, b1, b2, ⟨b3, b4, b5, b6⟩, b7, b8, b9, b10⟩ := rule_bd hr
    obtain ⟨k1, k2, k3, k4⟩ := few_out hr
    have e1 : fwO K r = (fewO K r : Nat) := by unfold fwO; rw [if_pos h]; rfl
    have e2 : fwA K r = (fewA K r (fewO K r) : Nat) := by unfold fwA; rw [if_pos h]; rfl
    rw [e1, e2]
    generalize hO : fewO K r = O at *
    generalize hA : fewA K r O = A at *
    simp only [h, not_true_eq_false, false_implies, true_implies, true_and, and_true, Bool.not_true]
    refine ⟨r, rfl, rfl, rfl, rfl, rfl, rfl, h, (fun hf => Bool.noConfusion hf), r, rfl, rfl, rfl, rfl, rfl, rfl, ?_⟩
    simp only [Nat.zero_add, Nat.reduceAdd]
    obtain ⟨G, hG⟩ : ∃ G : Nat, r 0 = G := ⟨(r 0).toNat, by omega⟩
    obtain ⟨B, hB⟩ : ∃ B : Nat, r 3 = B := ⟨(r 3).toNat, by omega⟩
    obtain ⟨D, hD⟩ : ∃ D : Nat, (K : Int) - B = D := ⟨((K : Int) - B).toNat, by omega⟩
    rw [hG, hB, hD]
    obtain ⟨x, hx, x1⟩ := mod_nat (x := n0) (m := G)
    obtain ⟨y, hy, y1⟩ := mod_nat (x := n0) (m := D)
    obtain ⟨u, hu, u1⟩ := mod_nat (x := n1) (m := O)
    obtain ⟨v, hv, v1⟩ := mod_nat (x := n2) (m := u)
    obtain ⟨g1, g2⟩ := (kept_iff (by omega) (by omega) k1 k2 hG hB hr).1 k3
    rw [lo1_iff (by omega) (by omega) (by omega) k1 k2] at g1
    rw [hi1_iff (by omega) (by omega) (by omega) k1 k2] at g2
    have eb : (B : Int) + (y : Int) = ((B + y : Nat) : Int) := by omega
    simp only [hx, hy, hu, hv, eb]
    have l1 : ¬ lo1 K O A r x := fun hl => by
      rw [lo1_iff (by omega) (by omega) (by omega) k1 k2] at hl
      refine g1 (Int.lt_of_le_of_lt ?_ hl)
      exact Int.mul_le_mul_of_nonneg_right (Int.ofNat_le.2 (F_anti k2 (by omega) (by omega))) (by omega)
    have l2 : ¬ hi1 K O A r (B + y : Nat) := fun hl => by
      rw [hi1_iff (by omega) (by omega) (by omega) k1 k2] at hl
      refine g2 (Int.lt_of_lt_of_le hl ?_)
      exact Int.mul_le_mul_of_nonneg_right (Int.ofNat_le.2 (F_anti k2 (by omega) (by omega))) (by omega)
    unfold lo1 at l1
    unfold hi1 at l2
    obtain ⟨E1, _, p, q, _, q1, q2, q3, _, _, e3, e4⟩ := odds_at (N := K) (b := x) (o := O) (a := A) (by omega) (by omega) (by omega) k1 k2
    obtain ⟨E2, _, p', q', _, q1', q2', q3', _, _, e3', e4'⟩ := odds_at (N := K) (b := B + y) (o := O) (a := A) (by omega) (by omega) (by omega) k1 k2
    have pl : ∀ s t : Nat, s ≤ K → t ≤ s → planOk K s t = true := fun s t h1 h2 => by
      unfold planOk
      rw [Bool.and_eq_true, Bm.within_iff, Bm.within_iff]; omega
    have KE : ∀ s t : Nat, s ≤ K → t ≤ s → keepsE K r s t = 0 := fun s t h1 h2 => by
      unfold keepsE; rw [if_pos h, if_pos (pl s t h1 h2)]
    have KB : ∀ s t : Nat, s ≤ K → t ≤ s → keepsB K r s t = keeps K s t r := fun s t h1 h2 => by
      unfold keepsB; rw [KE s t h1 h2]; simp
    rw [e3, e4] at l1
    rw [e3', e4'] at l2
    simp only [E1, E2, e3, e4, e3', e4', KE O A k1 k2, KB O A k1 k2, k3, KE u v (by omega) v1, KB u v (by omega) v1]
    simp only [not_true_eq_false, false_implies, true_implies, true_and, and_true, Bool.not_true, Bool.false_eq_true, l1, l2, not_false_eq_true]
    iterate 44 (refine ⟨by omega, ?_⟩)
    refine ⟨r, hG.symm, rfl, rfl, hB.symm, rfl, rfl, ?_⟩
    simp only [KE u v (by omega) v1, KB u v (by omega) v1, not_true_eq_false, false_implies, true_implies, and_true]
    refine ⟨fun _ => trivial, fun hk => ?_⟩
    have hk : keeps K u v r = true := by simpa using hk
    obtain ⟨m1, m2⟩ := k4 u v u1 v1 hk
    exact ⟨fun _ => ⟨fun _ => trivial, fun hn => absurd (by omega) hn⟩, fun hn => absurd (by omega) hn⟩
  · have e1 : fwO N r = 0 := by unfold fwO; rw [if_neg h]
    have e2 : fwA N r = 0 := by unfold fwA; rw [if_neg h]
    simp [h, e1, e2]
end Go.Proofs.Ythcplmlkgaiggaa
