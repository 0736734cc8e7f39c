/- The laws of keeping a rule, as contracts. -/
import Derived.Test.YthcplmlkgaiggaaBxF
import Derived.Test.YthcplmlkgaiggaaBxSpec4
set_option linter.unusedSimpArgs false
set_option linter.unusedVariables false
namespace Go.Proofs.Ythcplmlkgaiggaa
open Go Go.Sx Bm
set_option maxRecDepth 100000

def TH : List (Nat × Sig) := (37, sRuled) :: TF
theorem TH_ok : SigsOk Try.prog E0 TH := TF_ok.cons (runs 37 (by kernel_rfl)) q37
theorem q12 (x : sLaw5.α) : CallQ Try.prog E0 12 (sLaw5.arg x) (sLaw5.res x) := by
  obtain ⟨N, r, o, a⟩ := x
  refine bare_all E0_ok TH TH_ok V5 V5_ok runs [] [] [] [] (fuel := 5) ?_
  refine of_red (q := ∃ (x : Int × (Nat → Int) × Int × Int), ((True ∧ N = x.fst) ∧ (True ∧ (((((True ∧ True ∧ (r, o, a).fst (nat_lit 0) = x.snd.fst (nat_lit 0)) ∧ True ∧ (r, o, a).fst (nat_lit 1) = x.snd.fst (nat_lit 1)) ∧ True ∧ (r, o, a).fst (nat_lit 2) = x.snd.fst (nat_lit 2)) ∧ True ∧ (r, o, a).fst (nat_lit 3) = x.snd.fst (nat_lit 3)) ∧ True ∧ (r, o, a).fst (nat_lit 4) = x.snd.fst (nat_lit 4)) ∧ True ∧ (r, o, a).fst (nat_lit 5) = x.snd.fst (nat_lit 5)) ∧ (True ∧ (True ∧ True ∧ (r, o, a).snd.fst = x.snd.snd.fst) ∧ True ∧ (r, o, a).snd.snd = x.snd.snd.snd) ∧ True) ∧ True ∧ ((keepsE x.fst x.snd.fst x.snd.snd.fst x.snd.snd.snd != (0 : Int)) = true → ((keepsE x.fst x.snd.fst x.snd.snd.fst x.snd.snd.snd != (0 : Int)) = true → ((!keepsB x.fst x.snd.fst x.snd.snd.fst x.snd.snd.snd) = true → ∃ (x : Unit), True ∧ True ∧ True ∧ true = true) ∧ ((!keepsB x.fst x.snd.fst x.snd.snd.fst x.snd.snd.snd) = false → True ∧ true = false)) ∧ ((keepsE x.fst x.snd.fst x.snd.snd.fst x.snd.snd.snd != (0 : Int)) = false → True ∧ true = false)) ∧ ((keepsE x.fst x.snd.fst x.snd.snd.fst x.snd.snd.snd != (0 : Int)) = false → ∃ (x_1 : Int × (Nat → Int)), ((True ∧ N = x_1.fst) ∧ (True ∧ (((((True ∧ True ∧ (r, o, a).fst (nat_lit 0) = x_1.snd (nat_lit 0)) ∧ True ∧ (r, o, a).fst (nat_lit 1) = x_1.snd (nat_lit 1)) ∧ True ∧ (r, o, a).fst (nat_lit 2) = x_1.snd (nat_lit 2)) ∧ True ∧ (r, o, a).fst (nat_lit 3) = x_1.snd (nat_lit 3)) ∧ True ∧ (r, o, a).fst (nat_lit 4) = x_1.snd (nat_lit 4)) ∧ True ∧ (r, o, a).fst (nat_lit 5) = x_1.snd (nat_lit 5)) ∧ True) ∧ ruledE x_1.fst x_1.snd = (0 : Int) ∧ ((!true) = true → ((keepsE x.fst x.snd.fst x.snd.snd.fst x.snd.snd.snd != (0 : Int)) = true → ((!keepsB x.fst x.snd.fst x.snd.snd.fst x.snd.snd.snd) = true → ∃ (x : Unit), True ∧ True ∧ True ∧ true = true) ∧ ((!keepsB x.fst x.snd.fst x.snd.snd.fst x.snd.snd.snd) = false → True ∧ true = false)) ∧ ((keepsE x.fst x.snd.fst x.snd.snd.fst x.snd.snd.snd != (0 : Int)) = false → True ∧ true = false)) ∧ ((!true) = false → ∃ (x_2 : Int × Int × Int × Int), ((True ∧ N = x_2.fst) ∧ (True ∧ r (0 : Nat) = x_2.snd.fst) ∧ (True ∧ (True ∧ True ∧ (r, o, a).snd.fst = x_2.snd.snd.fst) ∧ True ∧ (r, o, a).snd.snd = x_2.snd.snd.snd) ∧ True) ∧ True ∧ ∃ (x_3 : Int × Int × Int × Int), ((True ∧ N = x_3.fst) ∧ (True ∧ r ((0 : Nat) + (nat_lit 2 + (1 : Nat))) = x_3.snd.fst) ∧ (True ∧ (True ∧ True ∧ (r, o, a).snd.fst = x_3.snd.snd.fst) ∧ True ∧ (r, o, a).snd.snd = x_3.snd.snd.snd) ∧ True) ∧ True ∧ ∃ (x_4 : Int × Int), ((True ∧ N = x_4.fst) ∧ (True ∧ r (0 : Nat) = x_4.snd) ∧ True) ∧ True ∧ ∃ (x_5 : Int × (Nat → Int) × Int × Int), ((True ∧ N = x_5.fst) ∧ (True ∧ (((((True ∧ True ∧ (r, o, a).fst (nat_lit 0) = x_5.snd.fst (nat_lit 0)) ∧ True ∧ (r, o, a).fst (nat_lit 1) = x_5.snd.fst (nat_lit 1)) ∧ True ∧ (r, o, a).fst (nat_lit 2) = x_5.snd.fst (nat_lit 2)) ∧ True ∧ (r, o, a).fst (nat_lit 3) = x_5.snd.fst (nat_lit 3)) ∧ True ∧ (r, o, a).fst (nat_lit 4) = x_5.snd.fst (nat_lit 4)) ∧ True ∧ (r, o, a).fst (nat_lit 5) = x_5.snd.fst (nat_lit 5)) ∧ (True ∧ (True ∧ True ∧ x_4.fst = x_5.snd.snd.fst) ∧ True ∧ x_4.snd = x_5.snd.snd.snd) ∧ True) ∧ True ∧ ((oddsE x_2.fst x_2.snd.fst x_2.snd.snd.fst x_2.snd.snd.snd == (0 : Int)) = true → ((oddsE x_3.fst x_3.snd.fst x_3.snd.snd.fst x_3.snd.snd.snd == (0 : Int)) = true → ((keepsE x_5.fst x_5.snd.fst x_5.snd.snd.fst x_5.snd.snd.snd == (0 : Int)) = true → ∃ (x_6 : (Int × Int) × Int × Int), ((True ∧ (True ∧ True ∧ oddsOf x_2.fst x_2.snd.fst x_2.snd.snd.fst x_2.snd.snd.snd = x_6.fst.fst) ∧ True ∧ oddsIn x_2.fst x_2.snd.fst x_2.snd.snd.fst x_2.snd.snd.snd = x_6.fst.snd) ∧ (True ∧ (True ∧ True ∧ (r, o, a).fst (nat_lit 0 + (nat_lit 0 + (1 : Nat))) = x_6.snd.fst) ∧ True ∧ (r, o, a).fst (nat_lit 1 + (nat_lit 0 + (1 : Nat))) = x_6.snd.snd) ∧ True) ∧ (((0 : Int) ≤ x_6.fst.fst ∧ x_6.fst.fst ≤ (281474976710656 : Int) ∧ (1 : Int) ≤ x_6.fst.snd ∧ x_6.fst.snd ≤ (281474976710656 : Int)) ∧ (0 : Int) ≤ x_6.snd.fst ∧ x_6.snd.fst ≤ (281474976710656 : Int) ∧ (1 : Int) ≤ x_6.snd.snd ∧ x_6.snd.snd ≤ (281474976710656 : Int)) ∧ ((!decide (x_6.fst.fst * x_6.snd.snd < x_6.snd.fst * x_6.fst.snd)) = true → ∃ (x_7 : (Int × Int) × Int × Int), ((True ∧ (True ∧ True ∧ (r, o, a).fst (nat_lit 0 + (nat_lit 3 + (1 : Nat))) = x_7.fst.fst) ∧ True ∧ (r, o, a).fst (nat_lit 1 + (nat_lit 3 + (1 : Nat))) = x_7.fst.snd) ∧ (True ∧ (True ∧ True ∧ oddsOf x_3.fst x_3.snd.fst x_3.snd.snd.fst x_3.snd.snd.snd = x_7.snd.fst) ∧ True ∧ oddsIn x_3.fst x_3.snd.fst x_3.snd.snd.fst x_3.snd.snd.snd = x_7.snd.snd) ∧ True) ∧ (((0 : Int) ≤ x_7.fst.fst ∧ x_7.fst.fst ≤ (281474976710656 : Int) ∧ (1 : Int) ≤ x_7.fst.snd ∧ x_7.fst.snd ≤ (281474976710656 : Int)) ∧ (0 : Int) ≤ x_7.snd.fst ∧ x_7.snd.fst ≤ (281474976710656 : Int) ∧ (1 : Int) ≤ x_7.snd.snd ∧ x_7.snd.snd ≤ (281474976710656 : Int)) ∧ ((keepsB x.fst x.snd.fst x.snd.snd.fst x.snd.snd.snd == !decide (x_7.fst.fst * x_7.snd.snd < x_7.snd.fst * x_7.fst.snd)) = true → (keepsB x_5.fst x_5.snd.fst x_5.snd.snd.fst x_5.snd.snd.snd = true → ∃ (x : Unit), True ∧ True ∧ True ∧ true = true) ∧ (keepsB x_5.fst x_5.snd.fst x_5.snd.snd.fst x_5.snd.snd.snd = false → True ∧ true = false)) ∧ ((keepsB x.fst x.snd.fst x.snd.snd.fst x.snd.snd.snd == !decide (x_7.fst.fst * x_7.snd.snd < x_7.snd.fst * x_7.fst.snd)) = false → True ∧ true = false)) ∧ ((!decide (x_6.fst.fst * x_6.snd.snd < x_6.snd.fst * x_6.fst.snd)) = false → ((keepsB x.fst x.snd.fst x.snd.snd.fst x.snd.snd.snd == false) = true → (keepsB x_5.fst x_5.snd.fst x_5.snd.snd.fst x_5.snd.snd.snd = true → ∃ (x : Unit), True ∧ True ∧ True ∧ true = true) ∧ (keepsB x_5.fst x_5.snd.fst x_5.snd.snd.fst x_5.snd.snd.snd = false → True ∧ true = false)) ∧ ((keepsB x.fst x.snd.fst x.snd.snd.fst x.snd.snd.snd == false) = false → True ∧ true = false))) ∧ ((keepsE x_5.fst x_5.snd.fst x_5.snd.snd.fst x_5.snd.snd.snd == (0 : Int)) = false → True ∧ true = false)) ∧ ((oddsE x_3.fst x_3.snd.fst x_3.snd.snd.fst x_3.snd.snd.snd == (0 : Int)) = false → True ∧ true = false)) ∧ ((oddsE x_2.fst x_2.snd.fst x_2.snd.snd.fst x_2.snd.snd.snd == (0 : Int)) = false → True ∧ true = false)))) (by kernel_rfl) ?_
  simp only [true_and, and_true, inR, Prod.exists, Prod.forall, and_assoc, exists_and_left, exists_eq_left', exists_eq_left, forall_eq, exists_const, forall_const, loopN, loopM, fa2, fas, fas2, dup1, dup2, dup3, dup4, ite_true, exhs, exhn, exhz, exho, exs1, exn1, exz1, exo1, exs2, exn2, exz2, exo2, exs3, exn3, exz3, exo3, exs4, exn4, exz4, exo4, exs5, exn5, exz5, exo5, exs6, exn6, exz6, exo6, exs7, exn7, exz7, exo7, exs8, exn8, exz8, exo8, exs9, exn9, exz9, exo9, ex1, ex2, ex3, ex4, ex5, beqI, bneI, decide_true, Bool.true_and, decide_eq_true_eq, decide_eq_false_iff_not, ne_eq, Decidable.not_not]
  by_cases hk : keepsE N r o a = 0
  · have hru : ruledE N r = 0 := Classical.byContradiction fun h => h (by rw [← (kE_bad (o := o) (a := a) h).1]; exact hk)
    have hpl : planOk N o a = true := Classical.byContradiction fun h => by
      have := (kE_72 hru h).1
      omega
    obtain ⟨hw, hr⟩ := ruled_inv hru
    obtain ⟨w1, w2⟩ := Bm.within_iff.1 hw
    obtain ⟨b0, b1, b2, ⟨b3, b4, b5, b6⟩, b7, b8, b9, b10⟩ := rule_bd hr
    obtain ⟨⟨c1, c2⟩, c3, c4⟩ : (0 ≤ o ∧ o ≤ N) ∧ 0 ≤ a ∧ a ≤ o := by
      unfold planOk at hpl
      rw [Bool.and_eq_true, Bm.within_iff, Bm.within_iff] at hpl
      exact hpl
    obtain ⟨N, rfl⟩ := Int.eq_ofNat_of_zero_le (show 0 ≤ N by omega)
    obtain ⟨o, rfl⟩ := Int.eq_ofNat_of_zero_le c1
    obtain ⟨a, rfl⟩ := Int.eq_ofNat_of_zero_le c3
    obtain ⟨G, hG⟩ := Int.eq_ofNat_of_zero_le b0
    obtain ⟨B, hB⟩ := Int.eq_ofNat_of_zero_le (show 0 ≤ r 3 by omega)
    obtain ⟨E1, g1, p1, q1, _, i1, i2, i3, _, _, i4, i5⟩ := odds_at (N := N) (b := G) (o := o) (a := a) (by omega) (by omega) (by omega) (by omega) (by omega)
    obtain ⟨E3, g3, p3, q3, _, j1, j2, j3, _, _, j4, j5⟩ := odds_at (N := N) (b := B) (o := o) (a := a) (by omega) (by omega) (by omega) (by omega) (by omega)
    have key := kept_iff (N := N) (o := o) (a := a) (G := G) (B := B) (r := r) (by omega) (by omega) (by omega) (by omega) hG hB hr
    rw [← hG] at E1 i4 i5 key
    rw [← hB] at E3 j4 j5 key
    have hpt : planOk (N : Int) (N : Int) (G : Int) = true := by
      unfold planOk
      rw [Bool.and_eq_true, Bm.within_iff, Bm.within_iff]; omega
    obtain ⟨k1, k2⟩ := kE_0 (N := N) (o := N) (a := G) hru hpt
    have kt := keeps_top hr
    rw [hG, Int.toNat_natCast] at kt
    rw [kt, ← hG] at k2
    rw [← hG] at k1
    have kb : keepsB N r o a = (!decide (oddsOf N (r 0) o a * r 2 < r 1 * oddsIn N (r 0) o a) && !decide (r 4 * oddsIn N (r 3) o a < oddsOf N (r 3) o a * r 5)) := by
      rw [(kE_0 hru hpl).2, Bool.eq_iff_iff, Bool.and_eq_true, Bool.not_eq_true', Bool.not_eq_true', decide_eq_false_iff_not, decide_eq_false_iff_not]
      exact key
    refine ⟨r, rfl, rfl, rfl, rfl, rfl, rfl, fun h => absurd hk h, fun _ => ⟨r, rfl, rfl, rfl, rfl, rfl, rfl, hru, fun h => by simp at h, fun _ => ⟨r, rfl, rfl, rfl, rfl, rfl, rfl, ?_⟩⟩⟩
    simp only [Nat.reduceAdd]
    rw [kb, k2]
    refine ⟨fun _ => ⟨fun _ => ⟨fun _ => ⟨by omega, by omega, by omega, by omega, by omega, by omega, by omega, by omega, fun hl => ⟨by omega, by omega, by omega, by omega, by omega, by omega, by omega, by omega, fun _ => ⟨fun _ => trivial, fun h => by cases h⟩, fun h => ?_⟩, fun hl => ⟨fun _ => ⟨fun _ => trivial, fun h => by cases h⟩, fun h => ?_⟩⟩, fun h => absurd k1 h⟩, fun h => absurd E3 h⟩, fun h => absurd E1 h⟩
    · rw [hl] at h; simp at h
    · rw [hl] at h; simp at h
  · have hb : keepsB N r o a = false := by
      unfold keepsB
      rw [decide_eq_false hk]; rfl
    refine ⟨r, rfl, rfl, rfl, rfl, rfl, rfl, fun _ => ⟨fun _ => ⟨fun _ => trivial, fun h => by rw [hb] at h; cases h⟩, fun h => absurd h hk⟩, fun h => absurd h hk⟩
end Go.Proofs.Ythcplmlkgaiggaa
