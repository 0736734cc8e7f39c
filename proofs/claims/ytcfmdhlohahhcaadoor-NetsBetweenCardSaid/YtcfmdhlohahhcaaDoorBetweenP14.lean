/- Texts for the law of the last part, part 14. -/
import Derived.Test.YtcfmdhlohahhcaaDoorBetweenP13
set_option linter.unusedSimpArgs false
set_option linter.unusedVariables false
set_option linter.unusedSimpArgs false
set_option linter.unusedVariables false
namespace Go.Proofs.YtcfmdhlohahhcaaDoor
open Go Go.Sx Nm
set_option maxRecDepth 100000
def sumF (f : Nat → Nat → Int) (a : Int) (n : Nat) : Int := sumN (fun j => f (a.toNat + j) 0) n
def plc (x : Fleet) (f : Nat → Nat → Int) (b k : Nat) (h : Int) : Int := x.net k b + x.net k (6 + 2 * b) * (h - x.net k 4) + sumF f (x.net k 4) (h - x.net k 4).toNat
structure PlAsk where
  x : Fleet
  k : Nat
  h : Int
def PlAsk.ok (a : PlAsk) : Prop := Nm.chk a.x = true ∧ a.x.wf ∧ a.k < a.x.k ∧ a.x.net a.k 4 ≤ a.h ∧ a.h ≤ a.x.hE
def aW1 (x : Fleet) (f : Nat → Nat → Int) (b k : Nat) (h : Int) : Ann := { G := Nat, ok := fun _ g => g ≤ (h - x.net k 4).toNat, dom := fun _ => [], tm := fun _ g => [(10, .t (intC (x.net k b + x.net k (6 + 2 * b) * (h - x.net k 4) + sumF f (x.net k 4) g))), (11, .t (intC (x.net k 4 + g)))], hp := fun _ _ => [], mu := fun _ g => (h - x.net k 4).toNat - g }
def sPlE : Sig := ⟨PlAsk, fun a => [fleetTV a.x, intC a.k, intC a.h, sideE], PlAsk.ok, fun a => [.v (intC (plc a.x a.x.e 0 a.k a.h))]⟩
def sPlN : Sig := ⟨PlAsk, fun a => [fleetTV a.x, intC a.k, intC a.h, sideN], PlAsk.ok, fun a => [.v (intC (plc a.x a.x.n 1 a.k a.h))]⟩
theorem q57e (a : sPlE.α) (ha : sPlE.pre a) : CallQ Tryd.prog E0 57 (sPlE.arg a) (sPlE.res a) := by
  obtain ⟨x, k, h⟩ := a
  refine bare_say E0_ok TS0 TS0_ok [] EvensOk.nil runs { l := [(57, 4, aW1 x x.e 0 k h)] } (fuel := 8) ?_
  refine of_red (q := ∃ (x_1 : Fleet × Int), ((True ∧ flq x x_1.fst) ∧ (True ∧ (↑k : Int) = x_1.snd) ∧ True) ∧ ((x_1.fst.hE < (4611686018427387904 : Nat) ∧ x_1.fst.hN < (4611686018427387904 : Nat) ∧ x_1.fst.k < (4611686018427387904 : Nat)) ∧ (0 : Int) ≤ x_1.snd ∧ x_1.snd < (↑x_1.fst.k : Int)) ∧ ∃ (x_2 : Nat → Int), ((True ∧ (((((((((True ∧ True ∧ x_1.fst.net x_1.snd.toNat 0 = x_2 0) ∧ True ∧ x_1.fst.net x_1.snd.toNat 1 = x_2 1) ∧ True ∧ x_1.fst.net x_1.snd.toNat 2 = x_2 2) ∧ True ∧ x_1.fst.net x_1.snd.toNat 3 = x_2 3) ∧ True ∧ x_1.fst.net x_1.snd.toNat 4 = x_2 4) ∧ True ∧ x_1.fst.net x_1.snd.toNat 5 = x_2 5) ∧ True ∧ x_1.fst.net x_1.snd.toNat 6 = x_2 6) ∧ True ∧ x_1.fst.net x_1.snd.toNat 7 = x_2 7) ∧ True ∧ x_1.fst.net x_1.snd.toNat 8 = x_2 8) ∧ True ∧ x_1.fst.net x_1.snd.toNat 9 = x_2 9) ∧ True) ∧ True ∧ ∃ (x_3 : Nat → Int), ((True ∧ (((((((((True ∧ True ∧ x_1.fst.net x_1.snd.toNat 0 = x_3 0) ∧ True ∧ x_1.fst.net x_1.snd.toNat 1 = x_3 1) ∧ True ∧ x_1.fst.net x_1.snd.toNat 2 = x_3 2) ∧ True ∧ x_1.fst.net x_1.snd.toNat 3 = x_3 3) ∧ True ∧ x_1.fst.net x_1.snd.toNat 4 = x_3 4) ∧ True ∧ x_1.fst.net x_1.snd.toNat 5 = x_3 5) ∧ True ∧ x_1.fst.net x_1.snd.toNat 6 = x_3 6) ∧ True ∧ x_1.fst.net x_1.snd.toNat 7 = x_3 7) ∧ True ∧ x_1.fst.net x_1.snd.toNat 8 = x_3 8) ∧ True ∧ x_1.fst.net x_1.snd.toNat 9 = x_3 9) ∧ True) ∧ True ∧ inRange IntKind.i64 (h - x_1.fst.net x_1.snd.toNat ((0 : Nat) + (nat_lit 3 + (1 : Nat)))) ∧ inRange IntKind.i64 (x_3 (6 : Nat) * (h - x_1.fst.net x_1.snd.toNat ((0 : Nat) + (nat_lit 3 + (1 : Nat))))) ∧ inRange IntKind.i64 (x_2 (0 : Nat) + x_3 (6 : Nat) * (h - x_1.fst.net x_1.snd.toNat ((0 : Nat) + (nat_lit 3 + (1 : Nat))))) ∧ (∃ (g : Nat), g ≤ (h - x.net k (4 : Nat)).toNat ∧ True ∧ ((True ∧ x_2 (0 : Nat) + x_3 (6 : Nat) * (h - x_1.fst.net x_1.snd.toNat ((0 : Nat) + (nat_lit 3 + (1 : Nat)))) = x.net k (0 : Nat) + x.net k ((6 : Nat) + (2 : Nat) * (0 : Nat)) * (h - x.net k (4 : Nat)) + sumF x.e (x.net k (4 : Nat)) g) ∧ (True ∧ x_1.fst.net x_1.snd.toNat ((0 : Nat) + (nat_lit 3 + (1 : Nat))) = x.net k (4 : Nat) + (↑g : Int)) ∧ True) ∧ True) ∧ ∀ (g : Nat), g ≤ (h - x.net k (4 : Nat)).toNat → (decide (x.net k (4 : Nat) + (↑g : Int) < h) = true → ∃ (x_4 : Fleet), ((True ∧ flq x x_4) ∧ True) ∧ (x_4.hE < (4611686018427387904 : Nat) ∧ x_4.hN < (4611686018427387904 : Nat) ∧ x_4.k < (4611686018427387904 : Nat)) ∧ (0 : Int) ≤ x.net k (4 : Nat) + (↑g : Int) ∧ x.net k (4 : Nat) + (↑g : Int) < (↑x_4.hE : Int) ∧ inRange IntKind.i64 (x.net k (0 : Nat) + x.net k ((6 : Nat) + (2 : Nat) * (0 : Nat)) * (h - x.net k (4 : Nat)) + sumF x.e (x.net k (4 : Nat)) g + x_4.e (x.net k (4 : Nat) + (↑g : Int)).toNat (0 : Nat)) ∧ inRange IntKind.i64 (x.net k (4 : Nat) + (↑g : Int) + (1 : Int)) ∧ ∃ (g' : Nat), g' ≤ (h - x.net k (4 : Nat)).toNat ∧ (h - x.net k (4 : Nat)).toNat - g' < (h - x.net k (4 : Nat)).toNat - g ∧ True ∧ ((True ∧ x.net k (0 : Nat) + x.net k ((6 : Nat) + (2 : Nat) * (0 : Nat)) * (h - x.net k (4 : Nat)) + sumF x.e (x.net k (4 : Nat)) g + x_4.e (x.net k (4 : Nat) + (↑g : Int)).toNat (0 : Nat) = x.net k (0 : Nat) + x.net k ((6 : Nat) + (2 : Nat) * (0 : Nat)) * (h - x.net k (4 : Nat)) + sumF x.e (x.net k (4 : Nat)) g') ∧ (True ∧ x.net k (4 : Nat) + (↑g : Int) + (1 : Int) = x.net k (4 : Nat) + (↑g' : Int)) ∧ True) ∧ True) ∧ (decide (x.net k (4 : Nat) + (↑g : Int) < h) = false → True ∧ x.net k (0 : Nat) + x.net k ((6 : Nat) + (2 : Nat) * (0 : Nat)) * (h - x.net k (4 : Nat)) + sumF x.e (x.net k (4 : Nat)) g = plc x x.e (0 : Nat) k h)) (by kernel_rfl) ?_
  simp only [flq, true_and, and_true, inR, Prod.exists, Prod.forall, and_assoc, exists_and_left, exists_eq_left', exists_eq_left, forall_eq, exists_const, forall_const, loopN, loopM, fa2, fas, fas2, dup1, dup2, dup3, dup4, ite_true, exhs, exhn, exhz, exho, exs1, exn1, exz1, exo1, exs2, exn2, exz2, exo2, exs3, exn3, exz3, exo3, exs4, exn4, exz4, exo4, exs5, exn5, exz5, exo5, exs6, exn6, exz6, exo6, exs7, exn7, exz7, exo7, exs8, exn8, exz8, exo8, exs9, exn9, exz9, exo9, ex1, ex2, ex3, ex4, ex5, beqI, bneI, decide_true, Bool.true_and, decide_eq_true_eq, decide_eq_false_iff_not, ne_eq, Decidable.not_not]
  simp only [Int.toNat_natCast, Nat.reduceAdd, Nat.reduceMul]
  obtain ⟨hc, ⟨w1, w2, w3⟩, hk, h1, h2⟩ := (show Nm.chk x = true ∧ x.wf ∧ k < x.k ∧ x.net k 4 ≤ h ∧ h ≤ x.hE from ha)
  obtain ⟨s1, s2, s3, s4, s5, s6, s7⟩ := chk_size hc
  obtain ⟨⟨i1, i2⟩, ⟨j1, j2⟩, _, _, ⟨i3, i4⟩, _, ⟨i5, i6, i7⟩, j5, j6, j7⟩ := chk_net hc hk
  have m : -1200 ≤ x.net k 6 * (h - x.net k 4) ∧ x.net k 6 * (h - x.net k 4) ≤ 1200 := by
    have q : (x.net k 6).natAbs * (h - x.net k 4).natAbs ≤ 50 * 24 := Nat.mul_le_mul (by omega) (by omega)
    rw [← Int.natAbs_mul] at q
    omega
  have bd : ∀ n, n ≤ (h - x.net k 4).toNat → -4800 ≤ sumF x.e (x.net k 4) n ∧ sumF x.e (x.net k 4) n ≤ 4800 := fun n hn => by
    have q := sumN_bd (g := fun j => x.e ((x.net k 4).toNat + j) 0) (c := 200) (n := n) (fun j hj' => by
      have hj : (x.net k 4).toNat + j < x.hE := by omega
      have := (chk_hour hc hj).1
      show -200 ≤ x.e ((x.net k 4).toNat + j) 0 ∧ x.e ((x.net k 4).toNat + j) 0 ≤ 200
      omega)
    show -4800 ≤ sumN (fun j => x.e ((x.net k 4).toNat + j) 0) n ∧ sumN (fun j => x.e ((x.net k 4).toNat + j) 0) n ≤ 4800
    omega
  refine exF ⟨w1, w2, w3, by omega, by omega, exNet (exNet ⟨by omega, by omega, by omega, by omega, by omega, by omega, ⟨0, by omega, (Int.add_zero _).symm, by omega⟩, fun g hg => ⟨fun hlt => exF ⟨w1, w2, w3, by omega, by omega, ?_⟩, fun hge => ?_⟩⟩)⟩
  · have e1 : (x.net k 4 + (g : Int)).toNat = (x.net k 4).toNat + g := by omega
    have q1 := bd g hg
    have hj : (x.net k 4).toNat + g < x.hE := by omega
    have q2 := (chk_hour hc hj).1
    rw [e1]
    refine ⟨by omega, by omega, by omega, by omega, g + 1, by omega, by omega, ?_, by omega⟩
    have e2 : sumF x.e (x.net k 4) (g + 1) = sumF x.e (x.net k 4) g + x.e ((x.net k 4).toNat + g) 0 := rfl
    rw [e2]; omega
  · obtain rfl : g = (h - x.net k 4).toNat := by omega
    rfl
theorem q57n (a : sPlN.α) (ha : sPlN.pre a) : CallQ Tryd.prog E0 57 (sPlN.arg a) (sPlN.res a) := by
  obtain ⟨x, k, h⟩ := a
  refine bare_say E0_ok TS0 TS0_ok [] EvensOk.nil runs { l := [(57, 4, aW1 x x.n 1 k h)] } (fuel := 8) ?_
  refine of_red (q := ∃ (x_1 : Fleet × Int), ((True ∧ flq x x_1.fst) ∧ (True ∧ (↑k : Int) = x_1.snd) ∧ True) ∧ ((x_1.fst.hE < (4611686018427387904 : Nat) ∧ x_1.fst.hN < (4611686018427387904 : Nat) ∧ x_1.fst.k < (4611686018427387904 : Nat)) ∧ (0 : Int) ≤ x_1.snd ∧ x_1.snd < (↑x_1.fst.k : Int)) ∧ ∃ (x_2 : Nat → Int), ((True ∧ (((((((((True ∧ True ∧ x_1.fst.net x_1.snd.toNat 0 = x_2 0) ∧ True ∧ x_1.fst.net x_1.snd.toNat 1 = x_2 1) ∧ True ∧ x_1.fst.net x_1.snd.toNat 2 = x_2 2) ∧ True ∧ x_1.fst.net x_1.snd.toNat 3 = x_2 3) ∧ True ∧ x_1.fst.net x_1.snd.toNat 4 = x_2 4) ∧ True ∧ x_1.fst.net x_1.snd.toNat 5 = x_2 5) ∧ True ∧ x_1.fst.net x_1.snd.toNat 6 = x_2 6) ∧ True ∧ x_1.fst.net x_1.snd.toNat 7 = x_2 7) ∧ True ∧ x_1.fst.net x_1.snd.toNat 8 = x_2 8) ∧ True ∧ x_1.fst.net x_1.snd.toNat 9 = x_2 9) ∧ True) ∧ True ∧ ∃ (x_3 : Nat → Int), ((True ∧ (((((((((True ∧ True ∧ x_1.fst.net x_1.snd.toNat 0 = x_3 0) ∧ True ∧ x_1.fst.net x_1.snd.toNat 1 = x_3 1) ∧ True ∧ x_1.fst.net x_1.snd.toNat 2 = x_3 2) ∧ True ∧ x_1.fst.net x_1.snd.toNat 3 = x_3 3) ∧ True ∧ x_1.fst.net x_1.snd.toNat 4 = x_3 4) ∧ True ∧ x_1.fst.net x_1.snd.toNat 5 = x_3 5) ∧ True ∧ x_1.fst.net x_1.snd.toNat 6 = x_3 6) ∧ True ∧ x_1.fst.net x_1.snd.toNat 7 = x_3 7) ∧ True ∧ x_1.fst.net x_1.snd.toNat 8 = x_3 8) ∧ True ∧ x_1.fst.net x_1.snd.toNat 9 = x_3 9) ∧ True) ∧ True ∧ inRange IntKind.i64 (h - x_1.fst.net x_1.snd.toNat ((0 : Nat) + (nat_lit 3 + (1 : Nat)))) ∧ inRange IntKind.i64 (x_3 (8 : Nat) * (h - x_1.fst.net x_1.snd.toNat ((0 : Nat) + (nat_lit 3 + (1 : Nat))))) ∧ inRange IntKind.i64 (x_2 (1 : Nat) + x_3 (8 : Nat) * (h - x_1.fst.net x_1.snd.toNat ((0 : Nat) + (nat_lit 3 + (1 : Nat))))) ∧ (∃ (g : Nat), g ≤ (h - x.net k (4 : Nat)).toNat ∧ True ∧ ((True ∧ x_2 (1 : Nat) + x_3 (8 : Nat) * (h - x_1.fst.net x_1.snd.toNat ((0 : Nat) + (nat_lit 3 + (1 : Nat)))) = x.net k (1 : Nat) + x.net k ((6 : Nat) + (2 : Nat) * (1 : Nat)) * (h - x.net k (4 : Nat)) + sumF x.n (x.net k (4 : Nat)) g) ∧ (True ∧ x_1.fst.net x_1.snd.toNat ((0 : Nat) + (nat_lit 3 + (1 : Nat))) = x.net k (4 : Nat) + (↑g : Int)) ∧ True) ∧ True) ∧ ∀ (g : Nat), g ≤ (h - x.net k (4 : Nat)).toNat → (decide (x.net k (4 : Nat) + (↑g : Int) < h) = true → ∃ (x_4 : Fleet), ((True ∧ flq x x_4) ∧ True) ∧ (x_4.hE < (4611686018427387904 : Nat) ∧ x_4.hN < (4611686018427387904 : Nat) ∧ x_4.k < (4611686018427387904 : Nat)) ∧ (0 : Int) ≤ x.net k (4 : Nat) + (↑g : Int) ∧ x.net k (4 : Nat) + (↑g : Int) < (↑x_4.hN : Int) ∧ inRange IntKind.i64 (x.net k (1 : Nat) + x.net k ((6 : Nat) + (2 : Nat) * (1 : Nat)) * (h - x.net k (4 : Nat)) + sumF x.n (x.net k (4 : Nat)) g + x_4.n (x.net k (4 : Nat) + (↑g : Int)).toNat (0 : Nat)) ∧ inRange IntKind.i64 (x.net k (4 : Nat) + (↑g : Int) + (1 : Int)) ∧ ∃ (g' : Nat), g' ≤ (h - x.net k (4 : Nat)).toNat ∧ (h - x.net k (4 : Nat)).toNat - g' < (h - x.net k (4 : Nat)).toNat - g ∧ True ∧ ((True ∧ x.net k (1 : Nat) + x.net k ((6 : Nat) + (2 : Nat) * (1 : Nat)) * (h - x.net k (4 : Nat)) + sumF x.n (x.net k (4 : Nat)) g + x_4.n (x.net k (4 : Nat) + (↑g : Int)).toNat (0 : Nat) = x.net k (1 : Nat) + x.net k ((6 : Nat) + (2 : Nat) * (1 : Nat)) * (h - x.net k (4 : Nat)) + sumF x.n (x.net k (4 : Nat)) g') ∧ (True ∧ x.net k (4 : Nat) + (↑g : Int) + (1 : Int) = x.net k (4 : Nat) + (↑g' : Int)) ∧ True) ∧ True) ∧ (decide (x.net k (4 : Nat) + (↑g : Int) < h) = false → True ∧ x.net k (1 : Nat) + x.net k ((6 : Nat) + (2 : Nat) * (1 : Nat)) * (h - x.net k (4 : Nat)) + sumF x.n (x.net k (4 : Nat)) g = plc x x.n (1 : Nat) k h)) (by kernel_rfl) ?_
  simp only [flq, true_and, and_true, inR, Prod.exists, Prod.forall, and_assoc, exists_and_left, exists_eq_left', exists_eq_left, forall_eq, exists_const, forall_const, loopN, loopM, fa2, fas, fas2, dup1, dup2, dup3, dup4, ite_true, exhs, exhn, exhz, exho, exs1, exn1, exz1, exo1, exs2, exn2, exz2, exo2, exs3, exn3, exz3, exo3, exs4, exn4, exz4, exo4, exs5, exn5, exz5, exo5, exs6, exn6, exz6, exo6, exs7, exn7, exz7, exo7, exs8, exn8, exz8, exo8, exs9, exn9, exz9, exo9, ex1, ex2, ex3, ex4, ex5, beqI, bneI, decide_true, Bool.true_and, decide_eq_true_eq, decide_eq_false_iff_not, ne_eq, Decidable.not_not]
  simp only [Int.toNat_natCast, Nat.reduceAdd, Nat.reduceMul]
  obtain ⟨hc, ⟨w1, w2, w3⟩, hk, h1, h2⟩ := (show Nm.chk x = true ∧ x.wf ∧ k < x.k ∧ x.net k 4 ≤ h ∧ h ≤ x.hE from ha)
  obtain ⟨s1, s2, s3, s4, s5, s6, s7⟩ := chk_size hc
  obtain ⟨⟨i1, i2⟩, ⟨j1, j2⟩, _, _, ⟨i3, i4⟩, _, ⟨i5, i6, i7⟩, j5, j6, j7⟩ := chk_net hc hk
  have m : -1200 ≤ x.net k 8 * (h - x.net k 4) ∧ x.net k 8 * (h - x.net k 4) ≤ 1200 := by
    have q : (x.net k 8).natAbs * (h - x.net k 4).natAbs ≤ 50 * 24 := Nat.mul_le_mul (by omega) (by omega)
    rw [← Int.natAbs_mul] at q
    omega
  have bd : ∀ n, n ≤ (h - x.net k 4).toNat → -4800 ≤ sumF x.n (x.net k 4) n ∧ sumF x.n (x.net k 4) n ≤ 4800 := fun n hn => by
    have q := sumN_bd (g := fun j => x.n ((x.net k 4).toNat + j) 0) (c := 200) (n := n) (fun j hj' => by
      have hj : (x.net k 4).toNat + j < x.hE := by omega
      have := (chk_hour hc hj).2
      show -200 ≤ x.n ((x.net k 4).toNat + j) 0 ∧ x.n ((x.net k 4).toNat + j) 0 ≤ 200
      omega)
    show -4800 ≤ sumN (fun j => x.n ((x.net k 4).toNat + j) 0) n ∧ sumN (fun j => x.n ((x.net k 4).toNat + j) 0) n ≤ 4800
    omega
  refine exF ⟨w1, w2, w3, by omega, by omega, exNet (exNet ⟨by omega, by omega, by omega, by omega, by omega, by omega, ⟨0, by omega, (Int.add_zero _).symm, by omega⟩, fun g hg => ⟨fun hlt => exF ⟨w1, w2, w3, by omega, by omega, ?_⟩, fun hge => ?_⟩⟩)⟩
  · have e1 : (x.net k 4 + (g : Int)).toNat = (x.net k 4).toNat + g := by omega
    have q1 := bd g hg
    have hj : (x.net k 4).toNat + g < x.hE := by omega
    have q2 := (chk_hour hc hj).2
    rw [e1]
    refine ⟨by omega, by omega, by omega, by omega, g + 1, by omega, by omega, ?_, by omega⟩
    have e2 : sumF x.n (x.net k 4) (g + 1) = sumF x.n (x.net k 4) g + x.n ((x.net k 4).toNat + g) 0 := rfl
    rw [e2]; omega
  · obtain rfl : g = (h - x.net k 4).toNat := by omega
    rfl
def sPl : Sig := ⟨PlAsk × Nat, fun a => [fleetTV a.1.x, intC a.1.k, intC a.1.h, sideB a.2], fun a => a.1.ok ∧ a.2 ≤ 1, fun a => [.v (intC (plc a.1.x (td a.1.x a.2) a.2 a.1.k a.1.h))]⟩
theorem q57 (a : sPl.α) (ha : sPl.pre a) : CallQ Tryd.prog E0 57 (sPl.arg a) (sPl.res a) := by
  obtain ⟨a, b⟩ := a
  obtain ⟨h1, h2⟩ := ha
  have h2 : b ≤ 1 := h2
  match b, h2 with
  | 0, _ => exact q57e a h1
  | 1, _ => exact q57n a h1
def TW : List (Nat × Sig) := (57, sPl) :: (53, sTruly) :: (24, sCanF) :: (25, sCanF) :: TS0
theorem TW_ok : SigsOk Tryd.prog E0 TW := (((TS0_ok.cons (runs 25 (by kernel_rfl)) q25).cons (runs 24 (by kernel_rfl)) q24).cons (runs 53 (by kernel_rfl)) q53).cons (runs 57 (by kernel_rfl)) q57
end Go.Proofs.YtcfmdhlohahhcaaDoor
set_option linter.unusedSimpArgs false
set_option linter.unusedVariables false
namespace Go.Proofs.YtcfmdhlohahhcaaDoor
open Go Go.Sx Nm
set_option maxRecDepth 100000
theorem trF_chk {x : Fleet} {t : Truth} (hc : Nm.chk x = true) (ht : trOk x t = true) : Nm.chk (trF x t) = true := by
  obtain ⟨c0, ch, cn⟩ := chk_parts hc
  obtain ⟨s1, s2, s3, s4, s5, s6, s7⟩ := chk_size hc
  unfold trOk tells tellB tellI at ht
  simp only [Bool.and_eq_true, decide_eq_true_eq, allB_iff] at ht
  obtain ⟨⟨⟨_, t0⟩, _, t2⟩, ⟨_, t1⟩, _, t3⟩ := ht
  unfold Nm.chk
  rw [Bool.and_eq_true, Bool.and_eq_true, allB_iff, allB_iff]
  refine ⟨⟨?_, fun i hi => ?_⟩, fun i hi => ?_⟩
  · show (within (x.hE : Int) 1 24 && decide ((x.hE : Int) = x.hE) && within x.gap 0 500 && within (x.k : Int) 1 6) = true
    simp only [Bool.and_eq_true, decide_eq_true_eq, Nm.within_iff]
    refine ⟨⟨⟨?_, ?_⟩, ?_⟩, ?_⟩ <;> first | trivial | omega
  · have q := chk_hour hc hi
    have a0 := Nm.within_iff.1 (t0 i hi)
    have a1 := Nm.within_iff.1 (t1 i hi)
    simp only [tv, tl, th] at a0 a1
    show (spanned (t.e i) (t.e i) (-200) 200 && spanned (t.n i) (t.n i) (-200) 200) = true
    simp only [spanned, Bool.and_eq_true, decide_eq_true_eq]
    omega
  · have q := chk_net hc hi
    have a0 := Nm.within_iff.1 (t2 i hi)
    have a1 := Nm.within_iff.1 (t3 i hi)
    simp only [tv, tl, th] at a0 a1
    show netOk x.hE (ntT x t 2 i) = true
    have e : ∀ j, j < 6 → ntT x t 2 i j = x.net i j := fun j hj => by unfold ntT; rw [if_neg (by omega), if_neg (by omega)]
    have e6 : ntT x t 2 i 6 = t.se i := rfl
    have e7 : ntT x t 2 i 7 = t.se i := rfl
    have e8 : ntT x t 2 i 8 = t.sn i := rfl
    have e9 : ntT x t 2 i 9 = t.sn i := rfl
    unfold netOk net1 net2 net3 spanned
    simp only [e 0 (by omega), e 1 (by omega), e 2 (by omega), e 3 (by omega), e 4 (by omega), e 5 (by omega), e6, e7, e8, e9, Bool.and_eq_true, decide_eq_true_eq, Nm.within_iff]
    omega
theorem trF_net {x : Fleet} {t : Truth} {i j : Nat} (hj : j < 6) : (trF x t).net i j = x.net i j := by
  show ntT x t 2 i j = x.net i j
  unfold ntT; rw [if_neg (by omega), if_neg (by omega)]
theorem trF_ly {x : Fleet} {t : Truth} (i h : Int) : lyB (trF x t) i h = lyB x i h := by
  unfold lyB
  rw [trF_net (by omega), trF_net (by omega)]
  rfl
def liP (x : Fleet) (v s : Nat → Int) (b k : Nat) (h : Int) : Int := x.net k b + s k * (h - x.net k 4) + sumN (fun j => v ((x.net k 4).toNat + j)) (h - x.net k 4).toNat
def liErr (x : Fleet) (t : Truth) (k h : Int) : Int := if Nm.chk x then (if trOk x t then (if lyB x k h then 0 else 22) else 21) else 20
def liR (x : Fleet) (t : Truth) (k h : Int) (z : Int) : Int := if liErr x t k h = 0 then z else 0
theorem plc_E {x : Fleet} {t : Truth} {k : Nat} {h : Int} : plc (trF x t) (trF x t).e 0 k h = liP x t.e t.se 0 k h := by
  unfold plc liP sumF
  rw [trF_net (j := 0) (by omega), trF_net (j := 4) (by omega)]
  rfl
theorem plc_N {x : Fleet} {t : Truth} {k : Nat} {h : Int} : plc (trF x t) (trF x t).n 1 k h = liP x t.n t.sn 1 k h := by
  unfold plc liP sumF
  rw [trF_net (j := 1) (by omega), trF_net (j := 4) (by omega)]
  rfl
theorem exT {t : Truth} {R : Truth → Prop} (h : R t) : ∃ a : Truth, t.nE = a.nE ∧ (∀ i, i < t.nE → t.e i = a.e i) ∧ t.nN = a.nN ∧ (∀ i, i < t.nN → t.n i = a.n i) ∧ t.nSE = a.nSE ∧ (∀ i, i < t.nSE → t.se i = a.se i) ∧ t.nSN = a.nSN ∧ (∀ i, i < t.nSN → t.sn i = a.sn i) ∧ R a :=
  ⟨t, rfl, fun _ _ => rfl, rfl, fun _ _ => rfl, rfl, fun _ _ => rfl, rfl, fun _ _ => rfl, h⟩
theorem tr_ok {x : Fleet} {t : Truth} (e : trE x t = 0) : Nm.chk x = true ∧ trOk x t = true ∧ trR x t = trF x t := by
  unfold trE at e
  by_cases hc : Nm.chk x = true
  · rw [if_pos hc] at e
    by_cases ht : trOk x t = true
    · exact ⟨hc, ht, by unfold trR; rw [if_pos hc, if_pos ht]⟩
    · rw [if_neg ht] at e; cases e
  · rw [if_neg hc] at e; cases e
theorem tr_no {x : Fleet} {t : Truth} (e : ¬ trE x t = 0) (k h : Int) : liErr x t k h = trE x t ∧ ¬ (Nm.chk x = true ∧ trOk x t = true) := by
  unfold trE at e
  unfold liErr trE
  by_cases hc : Nm.chk x = true
  · rw [if_pos hc] at e
    by_cases ht : trOk x t = true
    · rw [if_pos ht] at e; exact absurd rfl e
    · rw [if_pos hc, if_neg ht, if_pos hc, if_neg ht]
      exact ⟨rfl, fun h => ht h.2⟩
  · rw [if_neg hc, if_neg hc]
    exact ⟨rfl, fun h => hc h.1⟩
end Go.Proofs.YtcfmdhlohahhcaaDoor
set_option linter.unusedSimpArgs false
set_option linter.unusedVariables false
namespace Go.Proofs.YtcfmdhlohahhcaaDoor
open Go Go.Sx Nm
set_option maxRecDepth 100000
structure LAsk where
  x : Fleet
  t : Truth
  k : Int
  h : Int
def sLies : Sig := ⟨LAsk, fun a => [fleetTV a.x, truthTV a.t, intC a.k, intC a.h], fun a => a.x.wf ∧ a.t.wf, fun a => [.v (spanTV (liR a.x a.t a.k a.h (liP a.x a.t.e a.t.se 0 a.k.toNat a.h)) (liR a.x a.t a.k a.h (liP a.x a.t.n a.t.sn 1 a.k.toNat a.h))), .v (intC (liErr a.x a.t a.k a.h))]⟩
theorem q15 (a : sLies.α) (ha : sLies.pre a) : CallQ Tryd.prog E0 15 (sLies.arg a) (sLies.res a) := by
  obtain ⟨x, t, k, h⟩ := a
  refine bare_say E0_ok TW TW_ok [] EvensOk.nil runs { o := [(15, 7, oT [(8, [11])])] } (fuel := 8) ?_
  refine of_red (q := ∃ (x_1 : Fleet × Truth), ((True ∧ flq x x_1.fst) ∧ (True ∧ (((True ∧ True ∧ True ∧ t.nE = x_1.snd.nE ∧ ∀ (i : Nat), i < t.nE → True ∧ t.e i = x_1.snd.e i) ∧ True ∧ True ∧ t.nN = x_1.snd.nN ∧ ∀ (i : Nat), i < t.nN → True ∧ t.n i = x_1.snd.n i) ∧ True ∧ True ∧ t.nSE = x_1.snd.nSE ∧ ∀ (i : Nat), i < t.nSE → True ∧ t.se i = x_1.snd.se i) ∧ True ∧ True ∧ t.nSN = x_1.snd.nSN ∧ ∀ (i : Nat), i < t.nSN → True ∧ t.sn i = x_1.snd.sn i) ∧ True) ∧ ((x_1.fst.hE < (4611686018427387904 : Nat) ∧ x_1.fst.hN < (4611686018427387904 : Nat) ∧ x_1.fst.k < (4611686018427387904 : Nat)) ∧ x_1.snd.nE < (4611686018427387904 : Nat) ∧ x_1.snd.nN < (4611686018427387904 : Nat) ∧ x_1.snd.nSE < (4611686018427387904 : Nat) ∧ x_1.snd.nSN < (4611686018427387904 : Nat)) ∧ ((trE x_1.fst x_1.snd != (0 : Int)) = true → (True ∧ (True ∧ True ∧ (0 : Int) = liR x t k h (liP x t.e t.se (0 : Nat) k.toNat h)) ∧ True ∧ (0 : Int) = liR x t k h (liP x t.n t.sn (1 : Nat) k.toNat h)) ∧ (True ∧ trE x_1.fst x_1.snd = liErr x t k h) ∧ True) ∧ ((trE x_1.fst x_1.snd != (0 : Int)) = false → inRange IntKind.i64 ((↑(trR x_1.fst x_1.snd).k : Int) - (1 : Int)) ∧ ∃ (x_2 : Int × Int × Int), ((True ∧ k = x_2.fst) ∧ (True ∧ (0 : Int) = x_2.snd.fst) ∧ (True ∧ (↑(trR x_1.fst x_1.snd).k : Int) - (1 : Int) = x_2.snd.snd) ∧ True) ∧ True ∧ ((!within x_2.fst x_2.snd.fst x_2.snd.snd) = true → (True ∧ (True ∧ True ∧ (0 : Int) = liR x t k h (liP x t.e t.se (0 : Nat) k.toNat h)) ∧ True ∧ (0 : Int) = liR x t k h (liP x t.n t.sn (1 : Nat) k.toNat h)) ∧ (True ∧ (22 : Int) = liErr x t k h) ∧ True) ∧ ((!within x_2.fst x_2.snd.fst x_2.snd.snd) = false → ∃ (x_3 : Fleet × Int), ((True ∧ (((True ∧ True ∧ True ∧ (trR x_1.fst x_1.snd).hE = x_3.fst.hE ∧ ∀ (i : Nat), i < (trR x_1.fst x_1.snd).hE → (True ∧ (trR x_1.fst x_1.snd).e i 0 = x_3.fst.e i 0) ∧ (trR x_1.fst x_1.snd).e i 1 = x_3.fst.e i 1) ∧ True ∧ True ∧ (trR x_1.fst x_1.snd).hN = x_3.fst.hN ∧ ∀ (i : Nat), i < (trR x_1.fst x_1.snd).hN → (True ∧ (trR x_1.fst x_1.snd).n i 0 = x_3.fst.n i 0) ∧ (trR x_1.fst x_1.snd).n i 1 = x_3.fst.n i 1) ∧ True ∧ (trR x_1.fst x_1.snd).gap = x_3.fst.gap) ∧ True ∧ True ∧ (trR x_1.fst x_1.snd).k = x_3.fst.k ∧ ∀ (i : Nat), i < (trR x_1.fst x_1.snd).k → (((((((((True ∧ (trR x_1.fst x_1.snd).net i 0 = x_3.fst.net i 0) ∧ (trR x_1.fst x_1.snd).net i 1 = x_3.fst.net i 1) ∧ (trR x_1.fst x_1.snd).net i 2 = x_3.fst.net i 2) ∧ (trR x_1.fst x_1.snd).net i 3 = x_3.fst.net i 3) ∧ (trR x_1.fst x_1.snd).net i 4 = x_3.fst.net i 4) ∧ (trR x_1.fst x_1.snd).net i 5 = x_3.fst.net i 5) ∧ (trR x_1.fst x_1.snd).net i 6 = x_3.fst.net i 6) ∧ (trR x_1.fst x_1.snd).net i 7 = x_3.fst.net i 7) ∧ (trR x_1.fst x_1.snd).net i 8 = x_3.fst.net i 8) ∧ (trR x_1.fst x_1.snd).net i 9 = x_3.fst.net i 9) ∧ (True ∧ k = x_3.snd) ∧ True) ∧ ((x_3.fst.hE < (4611686018427387904 : Nat) ∧ x_3.fst.hN < (4611686018427387904 : Nat) ∧ x_3.fst.k < (4611686018427387904 : Nat)) ∧ (0 : Int) ≤ x_3.snd ∧ x_3.snd < (↑x_3.fst.k : Int)) ∧ ∃ (x_4 : (Nat → Int) × Int), ((True ∧ (((((((((True ∧ True ∧ x_3.fst.net x_3.snd.toNat 0 = x_4.fst 0) ∧ True ∧ x_3.fst.net x_3.snd.toNat 1 = x_4.fst 1) ∧ True ∧ x_3.fst.net x_3.snd.toNat 2 = x_4.fst 2) ∧ True ∧ x_3.fst.net x_3.snd.toNat 3 = x_4.fst 3) ∧ True ∧ x_3.fst.net x_3.snd.toNat 4 = x_4.fst 4) ∧ True ∧ x_3.fst.net x_3.snd.toNat 5 = x_4.fst 5) ∧ True ∧ x_3.fst.net x_3.snd.toNat 6 = x_4.fst 6) ∧ True ∧ x_3.fst.net x_3.snd.toNat 7 = x_4.fst 7) ∧ True ∧ x_3.fst.net x_3.snd.toNat 8 = x_4.fst 8) ∧ True ∧ x_3.fst.net x_3.snd.toNat 9 = x_4.fst 9) ∧ (True ∧ h = x_4.snd) ∧ True) ∧ True ∧ ((!within x_4.snd (x_4.fst (4 : Nat)) (x_4.fst (5 : Nat))) = true → (True ∧ (True ∧ True ∧ (0 : Int) = liR x t k h (liP x t.e t.se (0 : Nat) k.toNat h)) ∧ True ∧ (0 : Int) = liR x t k h (liP x t.n t.sn (1 : Nat) k.toNat h)) ∧ (True ∧ (22 : Int) = liErr x t k h) ∧ True) ∧ ((!within x_4.snd (x_4.fst (4 : Nat)) (x_4.fst (5 : Nat))) = false → ∃ (x_5 : PlAsk × Nat), ((True ∧ (((True ∧ True ∧ True ∧ (trR x_1.fst x_1.snd).hE = x_5.fst.x.hE ∧ ∀ (i : Nat), i < (trR x_1.fst x_1.snd).hE → (True ∧ (trR x_1.fst x_1.snd).e i 0 = x_5.fst.x.e i 0) ∧ (trR x_1.fst x_1.snd).e i 1 = x_5.fst.x.e i 1) ∧ True ∧ True ∧ (trR x_1.fst x_1.snd).hN = x_5.fst.x.hN ∧ ∀ (i : Nat), i < (trR x_1.fst x_1.snd).hN → (True ∧ (trR x_1.fst x_1.snd).n i 0 = x_5.fst.x.n i 0) ∧ (trR x_1.fst x_1.snd).n i 1 = x_5.fst.x.n i 1) ∧ True ∧ (trR x_1.fst x_1.snd).gap = x_5.fst.x.gap) ∧ True ∧ True ∧ (trR x_1.fst x_1.snd).k = x_5.fst.x.k ∧ ∀ (i : Nat), i < (trR x_1.fst x_1.snd).k → (((((((((True ∧ (trR x_1.fst x_1.snd).net i 0 = x_5.fst.x.net i 0) ∧ (trR x_1.fst x_1.snd).net i 1 = x_5.fst.x.net i 1) ∧ (trR x_1.fst x_1.snd).net i 2 = x_5.fst.x.net i 2) ∧ (trR x_1.fst x_1.snd).net i 3 = x_5.fst.x.net i 3) ∧ (trR x_1.fst x_1.snd).net i 4 = x_5.fst.x.net i 4) ∧ (trR x_1.fst x_1.snd).net i 5 = x_5.fst.x.net i 5) ∧ (trR x_1.fst x_1.snd).net i 6 = x_5.fst.x.net i 6) ∧ (trR x_1.fst x_1.snd).net i 7 = x_5.fst.x.net i 7) ∧ (trR x_1.fst x_1.snd).net i 8 = x_5.fst.x.net i 8) ∧ (trR x_1.fst x_1.snd).net i 9 = x_5.fst.x.net i 9) ∧ (True ∧ k = (↑x_5.fst.k : Int)) ∧ (True ∧ h = x_5.fst.h) ∧ (True ∧ (((True ∧ True ∧ (CV.fn (119 : Nat) [] (fun (x x_6 : Nat) => CV.any) (0 : Nat) fun (x : Nat) => CV.any) = [fnC ((119 : Nat) + (5 : Nat) * x_5.snd), fnC ((120 : Nat) + (5 : Nat) * x_5.snd), fnC ((122 : Nat) + (4 : Nat) * x_5.snd), fnC ((123 : Nat) + (4 : Nat) * x_5.snd)].getD 0 CV.any) ∧ True ∧ (CV.fn (120 : Nat) [] (fun (x x_6 : Nat) => CV.any) (0 : Nat) fun (x : Nat) => CV.any) = [fnC ((119 : Nat) + (5 : Nat) * x_5.snd), fnC ((120 : Nat) + (5 : Nat) * x_5.snd), fnC ((122 : Nat) + (4 : Nat) * x_5.snd), fnC ((123 : Nat) + (4 : Nat) * x_5.snd)].getD 1 CV.any) ∧ True ∧ (CV.fn (122 : Nat) [] (fun (x x_6 : Nat) => CV.any) (0 : Nat) fun (x : Nat) => CV.any) = [fnC ((119 : Nat) + (5 : Nat) * x_5.snd), fnC ((120 : Nat) + (5 : Nat) * x_5.snd), fnC ((122 : Nat) + (4 : Nat) * x_5.snd), fnC ((123 : Nat) + (4 : Nat) * x_5.snd)].getD 2 CV.any) ∧ True ∧ (CV.fn (123 : Nat) [] (fun (x x_6 : Nat) => CV.any) (0 : Nat) fun (x : Nat) => CV.any) = [fnC ((119 : Nat) + (5 : Nat) * x_5.snd), fnC ((120 : Nat) + (5 : Nat) * x_5.snd), fnC ((122 : Nat) + (4 : Nat) * x_5.snd), fnC ((123 : Nat) + (4 : Nat) * x_5.snd)].getD 3 CV.any) ∧ True) ∧ ((Nm.chk x_5.fst.x = true ∧ (x_5.fst.x.hE < (4611686018427387904 : Nat) ∧ x_5.fst.x.hN < (4611686018427387904 : Nat) ∧ x_5.fst.x.k < (4611686018427387904 : Nat)) ∧ x_5.fst.k < x_5.fst.x.k ∧ x_5.fst.x.net x_5.fst.k (4 : Nat) ≤ x_5.fst.h ∧ x_5.fst.h ≤ (↑x_5.fst.x.hE : Int)) ∧ x_5.snd ≤ (1 : Nat)) ∧ ∃ (x_6 : PlAsk × Nat), ((True ∧ (((True ∧ True ∧ True ∧ (trR x_1.fst x_1.snd).hE = x_6.fst.x.hE ∧ ∀ (i : Nat), i < (trR x_1.fst x_1.snd).hE → (True ∧ (trR x_1.fst x_1.snd).e i 0 = x_6.fst.x.e i 0) ∧ (trR x_1.fst x_1.snd).e i 1 = x_6.fst.x.e i 1) ∧ True ∧ True ∧ (trR x_1.fst x_1.snd).hN = x_6.fst.x.hN ∧ ∀ (i : Nat), i < (trR x_1.fst x_1.snd).hN → (True ∧ (trR x_1.fst x_1.snd).n i 0 = x_6.fst.x.n i 0) ∧ (trR x_1.fst x_1.snd).n i 1 = x_6.fst.x.n i 1) ∧ True ∧ (trR x_1.fst x_1.snd).gap = x_6.fst.x.gap) ∧ True ∧ True ∧ (trR x_1.fst x_1.snd).k = x_6.fst.x.k ∧ ∀ (i : Nat), i < (trR x_1.fst x_1.snd).k → (((((((((True ∧ (trR x_1.fst x_1.snd).net i 0 = x_6.fst.x.net i 0) ∧ (trR x_1.fst x_1.snd).net i 1 = x_6.fst.x.net i 1) ∧ (trR x_1.fst x_1.snd).net i 2 = x_6.fst.x.net i 2) ∧ (trR x_1.fst x_1.snd).net i 3 = x_6.fst.x.net i 3) ∧ (trR x_1.fst x_1.snd).net i 4 = x_6.fst.x.net i 4) ∧ (trR x_1.fst x_1.snd).net i 5 = x_6.fst.x.net i 5) ∧ (trR x_1.fst x_1.snd).net i 6 = x_6.fst.x.net i 6) ∧ (trR x_1.fst x_1.snd).net i 7 = x_6.fst.x.net i 7) ∧ (trR x_1.fst x_1.snd).net i 8 = x_6.fst.x.net i 8) ∧ (trR x_1.fst x_1.snd).net i 9 = x_6.fst.x.net i 9) ∧ (True ∧ k = (↑x_6.fst.k : Int)) ∧ (True ∧ h = x_6.fst.h) ∧ (True ∧ (((True ∧ True ∧ (CV.fn (124 : Nat) [] (fun (x x_7 : Nat) => CV.any) (0 : Nat) fun (x : Nat) => CV.any) = [fnC ((119 : Nat) + (5 : Nat) * x_6.snd), fnC ((120 : Nat) + (5 : Nat) * x_6.snd), fnC ((122 : Nat) + (4 : Nat) * x_6.snd), fnC ((123 : Nat) + (4 : Nat) * x_6.snd)].getD 0 CV.any) ∧ True ∧ (CV.fn (125 : Nat) [] (fun (x x_7 : Nat) => CV.any) (0 : Nat) fun (x : Nat) => CV.any) = [fnC ((119 : Nat) + (5 : Nat) * x_6.snd), fnC ((120 : Nat) + (5 : Nat) * x_6.snd), fnC ((122 : Nat) + (4 : Nat) * x_6.snd), fnC ((123 : Nat) + (4 : Nat) * x_6.snd)].getD 1 CV.any) ∧ True ∧ (CV.fn (126 : Nat) [] (fun (x x_7 : Nat) => CV.any) (0 : Nat) fun (x : Nat) => CV.any) = [fnC ((119 : Nat) + (5 : Nat) * x_6.snd), fnC ((120 : Nat) + (5 : Nat) * x_6.snd), fnC ((122 : Nat) + (4 : Nat) * x_6.snd), fnC ((123 : Nat) + (4 : Nat) * x_6.snd)].getD 2 CV.any) ∧ True ∧ (CV.fn (127 : Nat) [] (fun (x x_7 : Nat) => CV.any) (0 : Nat) fun (x : Nat) => CV.any) = [fnC ((119 : Nat) + (5 : Nat) * x_6.snd), fnC ((120 : Nat) + (5 : Nat) * x_6.snd), fnC ((122 : Nat) + (4 : Nat) * x_6.snd), fnC ((123 : Nat) + (4 : Nat) * x_6.snd)].getD 3 CV.any) ∧ True) ∧ ((Nm.chk x_6.fst.x = true ∧ (x_6.fst.x.hE < (4611686018427387904 : Nat) ∧ x_6.fst.x.hN < (4611686018427387904 : Nat) ∧ x_6.fst.x.k < (4611686018427387904 : Nat)) ∧ x_6.fst.k < x_6.fst.x.k ∧ x_6.fst.x.net x_6.fst.k (4 : Nat) ≤ x_6.fst.h ∧ x_6.fst.h ≤ (↑x_6.fst.x.hE : Int)) ∧ x_6.snd ≤ (1 : Nat)) ∧ (True ∧ (True ∧ True ∧ plc x_5.fst.x (td x_5.fst.x x_5.snd) x_5.snd x_5.fst.k x_5.fst.h = liR x t k h (liP x t.e t.se (0 : Nat) k.toNat h)) ∧ True ∧ plc x_6.fst.x (td x_6.fst.x x_6.snd) x_6.snd x_6.fst.k x_6.fst.h = liR x t k h (liP x t.n t.sn (1 : Nat) k.toNat h)) ∧ (True ∧ (0 : Int) = liErr x t k h) ∧ True)))) (by kernel_rfl) ?_
  simp only [flq, true_and, and_true, inR, Prod.exists, Prod.forall, and_assoc, exists_and_left, exists_eq_left', exists_eq_left, forall_eq, exists_const, forall_const, loopN, loopM, fa2, fas, fas2, dup1, dup2, dup3, dup4, ite_true, exhs, exhn, exhz, exho, exs1, exn1, exz1, exo1, exs2, exn2, exz2, exo2, exs3, exn3, exz3, exo3, exs4, exn4, exz4, exo4, exs5, exn5, exz5, exo5, exs6, exn6, exz6, exo6, exs7, exn7, exz7, exo7, exs8, exn8, exz8, exo8, exs9, exn9, exz9, exo9, ex1, ex2, ex3, ex4, ex5, beqI, bneI, decide_true, Bool.true_and, decide_eq_true_eq, decide_eq_false_iff_not, ne_eq, Decidable.not_not]
  obtain ⟨⟨w1, w2, w3⟩, v1, v2, v3, v4⟩ := (show x.wf ∧ t.wf from ha)
  have no : liErr x t k h ≠ 0 → ∀ z, 0 = liR x t k h z := fun e z => by unfold liR; rw [if_neg e]
  refine exF (exT ⟨w1, w2, w3, v1, v2, v3, v4, fun e => ?_, fun e => ?_⟩)
  · obtain ⟨e1, _⟩ := tr_no e k h
    have z := no (by rw [e1]; exact e)
    exact ⟨z _, z _, e1.symm⟩
  · obtain ⟨hc, ht, eR⟩ := tr_ok e
    rw [eR]
    obtain ⟨s1, s2, s3, s4, s5, s6, s7⟩ := chk_size hc
    have eK : (trF x t).k = x.k := rfl
    have eH : (trF x t).hE = x.hE := rfl
    have eH' : (trF x t).hN = x.hE := rfl
    have ly : liErr x t k h = if lyB x k h then 0 else 22 := by unfold liErr; rw [if_pos hc, if_pos ht]
    have lyK : lyB x k h = (within k 0 ((x.k : Int) - 1) && within h (x.net k.toNat 4) (x.net k.toNat 5)) := rfl
    have f22 : lyB x k h = false → 0 = liR x t k h (liP x t.e t.se 0 k.toNat h) ∧ 0 = liR x t k h (liP x t.n t.sn 1 k.toNat h) ∧ 22 = liErr x t k h := fun hf => by
      have e2 : liErr x t k h = 22 := by rw [ly, hf]; rfl
      have z := no (by rw [e2]; decide)
      exact ⟨z _, z _, e2.symm⟩
    rw [eK]
    refine ⟨by omega, by omega, fun h1 => f22 ?_, fun h1 => exF ⟨by rw [eH]; omega, by rw [eH']; omega, by rw [eK]; omega, ?_, ?_, exNet ⟨fun h4 => f22 ?_, fun h4 => ?_⟩⟩⟩
    · rw [Bool.not_eq_true'] at h1
      rw [lyK, h1]; rfl
    · rw [Bool.not_eq_false'] at h1
      exact (Nm.within_iff.1 h1).1
    · rw [Bool.not_eq_false'] at h1
      have := Nm.within_iff.1 h1
      rw [eK]; omega
    · rw [trF_net (j := 4) (by omega), trF_net (j := 5) (by omega), Bool.not_eq_true'] at h4
      rw [lyK, h4]; simp
    · rw [trF_net (j := 4) (by omega), trF_net (j := 5) (by omega), Bool.not_eq_false'] at h4
      rw [Bool.not_eq_false'] at h1
      have g1 := Nm.within_iff.1 h1
      have g4 := Nm.within_iff.1 h4
      have e0 : liErr x t k h = 0 := by rw [ly, lyK, h1, h4]; rfl
      have z : ∀ q, liR x t k h q = q := fun q => by unfold liR; rw [if_pos e0]
      obtain ⟨_, _, _, _, ⟨k3, k4⟩, ⟨k5, k6⟩, _⟩ := chk_net hc (i := k.toNat) (by omega)
      have hF := trF_chk hc ht
      have n4 : (trF x t).net k.toNat 4 ≤ h := by rw [trF_net (by omega)]; omega
      simp only [z, e0]
      exact ⟨⟨trF x t, k.toNat, h⟩, rfl, fun _ _ => ⟨rfl, rfl⟩, rfl, fun _ _ => ⟨rfl, rfl⟩, rfl, rfl, fun _ _ => ⟨rfl, rfl, rfl, rfl, rfl, rfl, rfl, rfl, rfl, rfl⟩, by show k = ((k.toNat : Nat) : Int); omega, rfl, 0, rfl, rfl, rfl, rfl, hF, by rw [eH]; omega, by rw [eH']; omega, by rw [eK]; omega, by show k.toNat < x.k; omega, n4, by show h ≤ x.hE; omega, by omega,
        ⟨trF x t, k.toNat, h⟩, rfl, fun _ _ => ⟨rfl, rfl⟩, rfl, fun _ _ => ⟨rfl, rfl⟩, rfl, rfl, fun _ _ => ⟨rfl, rfl, rfl, rfl, rfl, rfl, rfl, rfl, rfl, rfl⟩, by show k = ((k.toNat : Nat) : Int); omega, rfl, 1, rfl, rfl, rfl, rfl, hF, by rw [eH]; omega, by rw [eH']; omega, by rw [eK]; omega, by show k.toNat < x.k; omega, n4, by show h ≤ x.hE; omega, by omega, plc_E, plc_N, trivial⟩
def fouO (x : Fleet) (t : Truth) : Option (Nat × Nat × Nat) := if Nm.chk x = true ∧ trOk x t = true then firstP (x.hE + 1) x.k (canH (trF x t)) else none
def fouE (x : Fleet) (t : Truth) : Int := if trE x t = 0 then oE (fouO x t) else trE x t
def sFouls : Sig := ⟨Fleet × Truth, fun a => [fleetTV a.1, truthTV a.2], fun a => a.1.wf ∧ a.2.wf, fun a => [.v (foulTV (fouO a.1 a.2)), .v (intC (fouE a.1 a.2))]⟩
theorem q19 (a : sFouls.α) (ha : sFouls.pre a) : CallQ Tryd.prog E0 19 (sFouls.arg a) (sFouls.res a) := by
  obtain ⟨x, t⟩ := a
  refine bare_say E0_ok TW TW_ok [] EvensOk.nil runs { l := [(64, 2, aS1 (trR x t) (canH (trR x t))), (100, 1, aS2 (trR x t) (canH (trR x t))), (100, 4, aS3 (trR x t) (canH (trR x t)))] } (fuel := 8) ?_
  refine of_red (q := ∃ (x_1 : Fleet × Truth), ((True ∧ flq x x_1.fst) ∧ (True ∧ (((True ∧ True ∧ True ∧ t.nE = x_1.snd.nE ∧ ∀ (i : Nat), i < t.nE → True ∧ t.e i = x_1.snd.e i) ∧ True ∧ True ∧ t.nN = x_1.snd.nN ∧ ∀ (i : Nat), i < t.nN → True ∧ t.n i = x_1.snd.n i) ∧ True ∧ True ∧ t.nSE = x_1.snd.nSE ∧ ∀ (i : Nat), i < t.nSE → True ∧ t.se i = x_1.snd.se i) ∧ True ∧ True ∧ t.nSN = x_1.snd.nSN ∧ ∀ (i : Nat), i < t.nSN → True ∧ t.sn i = x_1.snd.sn i) ∧ True) ∧ ((x_1.fst.hE < (4611686018427387904 : Nat) ∧ x_1.fst.hN < (4611686018427387904 : Nat) ∧ x_1.fst.k < (4611686018427387904 : Nat)) ∧ x_1.snd.nE < (4611686018427387904 : Nat) ∧ x_1.snd.nN < (4611686018427387904 : Nat) ∧ x_1.snd.nSE < (4611686018427387904 : Nat) ∧ x_1.snd.nSN < (4611686018427387904 : Nat)) ∧ ((trE x_1.fst x_1.snd != (0 : Int)) = true → (True ∧ ((True ∧ True ∧ (0 : Int) = oH (fouO x t)) ∧ True ∧ (0 : Int) = oI (fouO x t)) ∧ True ∧ (0 : Int) = oK (fouO x t)) ∧ (True ∧ trE x_1.fst x_1.snd = fouE x t) ∧ True) ∧ ((trE x_1.fst x_1.snd != (0 : Int)) = false → inRange IntKind.i64 ((↑(trR x_1.fst x_1.snd).hE : Int) + (1 : Int)) ∧ (∃ (g : Nat), (g ≤ (trR x t).hE + (1 : Nat) ∧ ∀ (h : Nat), h < g → ∀ (i : Nat), i < (trR x t).k → ∀ (k : Nat), i < k → k < (trR x t).k → canH (trR x t) h i k = false) ∧ True ∧ ((True ∧ (0 : Int) = (↑g : Int)) ∧ True) ∧ True) ∧ ∀ (g : Nat), (g ≤ (trR x t).hE + (1 : Nat) ∧ ∀ (h : Nat), h < g → ∀ (i : Nat), i < (trR x t).k → ∀ (k : Nat), i < k → k < (trR x t).k → canH (trR x t) h i k = false) → (decide ((↑g : Int) < (↑(trR x_1.fst x_1.snd).hE : Int) + (1 : Int)) = true → (∃ (g_1 : Nat × Nat), ((↑g : Int) = (↑g_1.snd : Int) ∧ g_1.fst ≤ (trR x t).k ∧ ∀ (i : Nat), i < g_1.fst → ∀ (k : Nat), i < k → k < (trR x t).k → canH (trR x t) g_1.snd i k = false) ∧ True ∧ ((True ∧ (0 : Int) = (↑g_1.fst : Int)) ∧ True) ∧ True) ∧ ∀ (g_1 : Nat × Nat), ((↑g : Int) = (↑g_1.snd : Int) ∧ g_1.fst ≤ (trR x t).k ∧ ∀ (i : Nat), i < g_1.fst → ∀ (k : Nat), i < k → k < (trR x t).k → canH (trR x t) g_1.snd i k = false) → (decide ((↑g_1.fst : Int) < (↑(trR x_1.fst x_1.snd).k : Int)) = true → inRange IntKind.i64 ((↑g_1.fst : Int) + (1 : Int)) ∧ (∃ (g_2 : Nat × Nat × Nat), ((↑g : Int) = (↑g_2.snd.snd : Int) ∧ (↑g_1.fst : Int) = (↑g_2.snd.fst : Int) ∧ g_2.snd.fst < g_2.fst ∧ g_2.fst ≤ (trR x t).k ∧ ∀ (k : Nat), g_2.snd.fst < k → k < g_2.fst → canH (trR x t) g_2.snd.snd g_2.snd.fst k = false) ∧ True ∧ ((True ∧ (↑g_1.fst : Int) + (1 : Int) = (↑g_2.fst : Int)) ∧ True) ∧ True) ∧ ∀ (g_2 : Nat × Nat × Nat), ((↑g : Int) = (↑g_2.snd.snd : Int) ∧ (↑g_1.fst : Int) = (↑g_2.snd.fst : Int) ∧ g_2.snd.fst < g_2.fst ∧ g_2.fst ≤ (trR x t).k ∧ ∀ (k : Nat), g_2.snd.fst < k → k < g_2.fst → canH (trR x t) g_2.snd.snd g_2.snd.fst k = false) → (decide ((↑g_2.fst : Int) < (↑(trR x_1.fst x_1.snd).k : Int)) = true → ∃ (x_2 : Fleet × Int), ((True ∧ (((True ∧ True ∧ True ∧ (trR x_1.fst x_1.snd).hE = x_2.fst.hE ∧ ∀ (i : Nat), i < (trR x_1.fst x_1.snd).hE → (True ∧ (trR x_1.fst x_1.snd).e i 0 = x_2.fst.e i 0) ∧ (trR x_1.fst x_1.snd).e i 1 = x_2.fst.e i 1) ∧ True ∧ True ∧ (trR x_1.fst x_1.snd).hN = x_2.fst.hN ∧ ∀ (i : Nat), i < (trR x_1.fst x_1.snd).hN → (True ∧ (trR x_1.fst x_1.snd).n i 0 = x_2.fst.n i 0) ∧ (trR x_1.fst x_1.snd).n i 1 = x_2.fst.n i 1) ∧ True ∧ (trR x_1.fst x_1.snd).gap = x_2.fst.gap) ∧ True ∧ True ∧ (trR x_1.fst x_1.snd).k = x_2.fst.k ∧ ∀ (i : Nat), i < (trR x_1.fst x_1.snd).k → (((((((((True ∧ (trR x_1.fst x_1.snd).net i 0 = x_2.fst.net i 0) ∧ (trR x_1.fst x_1.snd).net i 1 = x_2.fst.net i 1) ∧ (trR x_1.fst x_1.snd).net i 2 = x_2.fst.net i 2) ∧ (trR x_1.fst x_1.snd).net i 3 = x_2.fst.net i 3) ∧ (trR x_1.fst x_1.snd).net i 4 = x_2.fst.net i 4) ∧ (trR x_1.fst x_1.snd).net i 5 = x_2.fst.net i 5) ∧ (trR x_1.fst x_1.snd).net i 6 = x_2.fst.net i 6) ∧ (trR x_1.fst x_1.snd).net i 7 = x_2.fst.net i 7) ∧ (trR x_1.fst x_1.snd).net i 8 = x_2.fst.net i 8) ∧ (trR x_1.fst x_1.snd).net i 9 = x_2.fst.net i 9) ∧ (True ∧ (↑g_1.fst : Int) = x_2.snd) ∧ True) ∧ ((x_2.fst.hE < (4611686018427387904 : Nat) ∧ x_2.fst.hN < (4611686018427387904 : Nat) ∧ x_2.fst.k < (4611686018427387904 : Nat)) ∧ (0 : Int) ≤ x_2.snd ∧ x_2.snd < (↑x_2.fst.k : Int)) ∧ ∃ (x_3 : (Nat → Int) × Int), ((True ∧ (((((((((True ∧ True ∧ x_2.fst.net x_2.snd.toNat 0 = x_3.fst 0) ∧ True ∧ x_2.fst.net x_2.snd.toNat 1 = x_3.fst 1) ∧ True ∧ x_2.fst.net x_2.snd.toNat 2 = x_3.fst 2) ∧ True ∧ x_2.fst.net x_2.snd.toNat 3 = x_3.fst 3) ∧ True ∧ x_2.fst.net x_2.snd.toNat 4 = x_3.fst 4) ∧ True ∧ x_2.fst.net x_2.snd.toNat 5 = x_3.fst 5) ∧ True ∧ x_2.fst.net x_2.snd.toNat 6 = x_3.fst 6) ∧ True ∧ x_2.fst.net x_2.snd.toNat 7 = x_3.fst 7) ∧ True ∧ x_2.fst.net x_2.snd.toNat 8 = x_3.fst 8) ∧ True ∧ x_2.fst.net x_2.snd.toNat 9 = x_3.fst 9) ∧ (True ∧ (↑g : Int) = x_3.snd) ∧ True) ∧ True ∧ (within x_3.snd (x_3.fst (4 : Nat)) (x_3.fst (5 : Nat)) = true → ∃ (x_4 : Fleet × Int), ((True ∧ (((True ∧ True ∧ True ∧ (trR x_1.fst x_1.snd).hE = x_4.fst.hE ∧ ∀ (i : Nat), i < (trR x_1.fst x_1.snd).hE → (True ∧ (trR x_1.fst x_1.snd).e i 0 = x_4.fst.e i 0) ∧ (trR x_1.fst x_1.snd).e i 1 = x_4.fst.e i 1) ∧ True ∧ True ∧ (trR x_1.fst x_1.snd).hN = x_4.fst.hN ∧ ∀ (i : Nat), i < (trR x_1.fst x_1.snd).hN → (True ∧ (trR x_1.fst x_1.snd).n i 0 = x_4.fst.n i 0) ∧ (trR x_1.fst x_1.snd).n i 1 = x_4.fst.n i 1) ∧ True ∧ (trR x_1.fst x_1.snd).gap = x_4.fst.gap) ∧ True ∧ True ∧ (trR x_1.fst x_1.snd).k = x_4.fst.k ∧ ∀ (i : Nat), i < (trR x_1.fst x_1.snd).k → (((((((((True ∧ (trR x_1.fst x_1.snd).net i 0 = x_4.fst.net i 0) ∧ (trR x_1.fst x_1.snd).net i 1 = x_4.fst.net i 1) ∧ (trR x_1.fst x_1.snd).net i 2 = x_4.fst.net i 2) ∧ (trR x_1.fst x_1.snd).net i 3 = x_4.fst.net i 3) ∧ (trR x_1.fst x_1.snd).net i 4 = x_4.fst.net i 4) ∧ (trR x_1.fst x_1.snd).net i 5 = x_4.fst.net i 5) ∧ (trR x_1.fst x_1.snd).net i 6 = x_4.fst.net i 6) ∧ (trR x_1.fst x_1.snd).net i 7 = x_4.fst.net i 7) ∧ (trR x_1.fst x_1.snd).net i 8 = x_4.fst.net i 8) ∧ (trR x_1.fst x_1.snd).net i 9 = x_4.fst.net i 9) ∧ (True ∧ (↑g_2.fst : Int) = x_4.snd) ∧ True) ∧ ((x_4.fst.hE < (4611686018427387904 : Nat) ∧ x_4.fst.hN < (4611686018427387904 : Nat) ∧ x_4.fst.k < (4611686018427387904 : Nat)) ∧ (0 : Int) ≤ x_4.snd ∧ x_4.snd < (↑x_4.fst.k : Int)) ∧ ∃ (x_5 : (Nat → Int) × Int), ((True ∧ (((((((((True ∧ True ∧ x_4.fst.net x_4.snd.toNat 0 = x_5.fst 0) ∧ True ∧ x_4.fst.net x_4.snd.toNat 1 = x_5.fst 1) ∧ True ∧ x_4.fst.net x_4.snd.toNat 2 = x_5.fst 2) ∧ True ∧ x_4.fst.net x_4.snd.toNat 3 = x_5.fst 3) ∧ True ∧ x_4.fst.net x_4.snd.toNat 4 = x_5.fst 4) ∧ True ∧ x_4.fst.net x_4.snd.toNat 5 = x_5.fst 5) ∧ True ∧ x_4.fst.net x_4.snd.toNat 6 = x_5.fst 6) ∧ True ∧ x_4.fst.net x_4.snd.toNat 7 = x_5.fst 7) ∧ True ∧ x_4.fst.net x_4.snd.toNat 8 = x_5.fst 8) ∧ True ∧ x_4.fst.net x_4.snd.toNat 9 = x_5.fst 9) ∧ (True ∧ (↑g : Int) = x_5.snd) ∧ True) ∧ True ∧ (within x_5.snd (x_5.fst (4 : Nat)) (x_5.fst (5 : Nat)) = true → ∃ (x_6 : Ask), ((True ∧ (((True ∧ True ∧ True ∧ (trR x_1.fst x_1.snd).hE = x_6.x.hE ∧ ∀ (i : Nat), i < (trR x_1.fst x_1.snd).hE → (True ∧ (trR x_1.fst x_1.snd).e i 0 = x_6.x.e i 0) ∧ (trR x_1.fst x_1.snd).e i 1 = x_6.x.e i 1) ∧ True ∧ True ∧ (trR x_1.fst x_1.snd).hN = x_6.x.hN ∧ ∀ (i : Nat), i < (trR x_1.fst x_1.snd).hN → (True ∧ (trR x_1.fst x_1.snd).n i 0 = x_6.x.n i 0) ∧ (trR x_1.fst x_1.snd).n i 1 = x_6.x.n i 1) ∧ True ∧ (trR x_1.fst x_1.snd).gap = x_6.x.gap) ∧ True ∧ True ∧ (trR x_1.fst x_1.snd).k = x_6.x.k ∧ ∀ (i : Nat), i < (trR x_1.fst x_1.snd).k → (((((((((True ∧ (trR x_1.fst x_1.snd).net i 0 = x_6.x.net i 0) ∧ (trR x_1.fst x_1.snd).net i 1 = x_6.x.net i 1) ∧ (trR x_1.fst x_1.snd).net i 2 = x_6.x.net i 2) ∧ (trR x_1.fst x_1.snd).net i 3 = x_6.x.net i 3) ∧ (trR x_1.fst x_1.snd).net i 4 = x_6.x.net i 4) ∧ (trR x_1.fst x_1.snd).net i 5 = x_6.x.net i 5) ∧ (trR x_1.fst x_1.snd).net i 6 = x_6.x.net i 6) ∧ (trR x_1.fst x_1.snd).net i 7 = x_6.x.net i 7) ∧ (trR x_1.fst x_1.snd).net i 8 = x_6.x.net i 8) ∧ (trR x_1.fst x_1.snd).net i 9 = x_6.x.net i 9) ∧ (True ∧ (True ∧ True ∧ (↑g_1.fst : Int) = (↑x_6.i : Int)) ∧ True ∧ (↑g_2.fst : Int) = (↑x_6.k : Int)) ∧ (True ∧ (↑g : Int) = x_6.h) ∧ True) ∧ (ChkW x_6.x ∧ (x_6.x.hE < (4611686018427387904 : Nat) ∧ x_6.x.hN < (4611686018427387904 : Nat) ∧ x_6.x.k < (4611686018427387904 : Nat)) ∧ x_6.i < x_6.x.k ∧ x_6.k < x_6.x.k ∧ (0 : Int) ≤ x_6.h ∧ x_6.h ≤ (24 : Int)) ∧ (canP x_6 = true → (True ∧ ((True ∧ True ∧ (↑g : Int) = oH (fouO x t)) ∧ True ∧ (↑g_1.fst : Int) = oI (fouO x t)) ∧ True ∧ (↑g_2.fst : Int) = oK (fouO x t)) ∧ (True ∧ (0 : Int) = fouE x t) ∧ True) ∧ (canP x_6 = false → inRange IntKind.i64 ((↑g_2.fst : Int) + (1 : Int)) ∧ ∃ (g' : Nat × Nat × Nat), ((↑g : Int) = (↑g'.snd.snd : Int) ∧ (↑g_1.fst : Int) = (↑g'.snd.fst : Int) ∧ g'.snd.fst < g'.fst ∧ g'.fst ≤ (trR x t).k ∧ ∀ (k : Nat), g'.snd.fst < k → k < g'.fst → canH (trR x t) g'.snd.snd g'.snd.fst k = false) ∧ (trR x t).k - g'.fst < (trR x t).k - g_2.fst ∧ True ∧ ((True ∧ (↑g_2.fst : Int) + (1 : Int) = (↑g'.fst : Int)) ∧ True) ∧ True)) ∧ (within x_5.snd (x_5.fst (4 : Nat)) (x_5.fst (5 : Nat)) = false → inRange IntKind.i64 ((↑g_2.fst : Int) + (1 : Int)) ∧ ∃ (g' : Nat × Nat × Nat), ((↑g : Int) = (↑g'.snd.snd : Int) ∧ (↑g_1.fst : Int) = (↑g'.snd.fst : Int) ∧ g'.snd.fst < g'.fst ∧ g'.fst ≤ (trR x t).k ∧ ∀ (k : Nat), g'.snd.fst < k → k < g'.fst → canH (trR x t) g'.snd.snd g'.snd.fst k = false) ∧ (trR x t).k - g'.fst < (trR x t).k - g_2.fst ∧ True ∧ ((True ∧ (↑g_2.fst : Int) + (1 : Int) = (↑g'.fst : Int)) ∧ True) ∧ True)) ∧ (within x_3.snd (x_3.fst (4 : Nat)) (x_3.fst (5 : Nat)) = false → inRange IntKind.i64 ((↑g_2.fst : Int) + (1 : Int)) ∧ ∃ (g' : Nat × Nat × Nat), ((↑g : Int) = (↑g'.snd.snd : Int) ∧ (↑g_1.fst : Int) = (↑g'.snd.fst : Int) ∧ g'.snd.fst < g'.fst ∧ g'.fst ≤ (trR x t).k ∧ ∀ (k : Nat), g'.snd.fst < k → k < g'.fst → canH (trR x t) g'.snd.snd g'.snd.fst k = false) ∧ (trR x t).k - g'.fst < (trR x t).k - g_2.fst ∧ True ∧ ((True ∧ (↑g_2.fst : Int) + (1 : Int) = (↑g'.fst : Int)) ∧ True) ∧ True)) ∧ (decide ((↑g_2.fst : Int) < (↑(trR x_1.fst x_1.snd).k : Int)) = false → inRange IntKind.i64 ((↑g_1.fst : Int) + (1 : Int)) ∧ ∃ (g' : Nat × Nat), ((↑g : Int) = (↑g'.snd : Int) ∧ g'.fst ≤ (trR x t).k ∧ ∀ (i : Nat), i < g'.fst → ∀ (k : Nat), i < k → k < (trR x t).k → canH (trR x t) g'.snd i k = false) ∧ (trR x t).k - g'.fst < (trR x t).k - g_1.fst ∧ True ∧ ((True ∧ (↑g_1.fst : Int) + (1 : Int) = (↑g'.fst : Int)) ∧ True) ∧ True)) ∧ (decide ((↑g_1.fst : Int) < (↑(trR x_1.fst x_1.snd).k : Int)) = false → inRange IntKind.i64 ((↑g : Int) + (1 : Int)) ∧ ∃ (g' : Nat), (g' ≤ (trR x t).hE + (1 : Nat) ∧ ∀ (h : Nat), h < g' → ∀ (i : Nat), i < (trR x t).k → ∀ (k : Nat), i < k → k < (trR x t).k → canH (trR x t) h i k = false) ∧ (trR x t).hE + (1 : Nat) - g' < (trR x t).hE + (1 : Nat) - g ∧ True ∧ ((True ∧ (↑g : Int) + (1 : Int) = (↑g' : Int)) ∧ True) ∧ True)) ∧ (decide ((↑g : Int) < (↑(trR x_1.fst x_1.snd).hE : Int) + (1 : Int)) = false → (True ∧ ((True ∧ True ∧ (0 : Int) = oH (fouO x t)) ∧ True ∧ (0 : Int) = oI (fouO x t)) ∧ True ∧ (0 : Int) = oK (fouO x t)) ∧ (True ∧ (4 : Int) = fouE x t) ∧ True))) (by kernel_rfl) ?_
  simp only [flq, true_and, and_true, inR, Prod.exists, Prod.forall, and_assoc, exists_and_left, exists_eq_left', exists_eq_left, forall_eq, exists_const, forall_const, loopN, loopM, fa2, fas, fas2, dup1, dup2, dup3, dup4, ite_true, exhs, exhn, exhz, exho, exs1, exn1, exz1, exo1, exs2, exn2, exz2, exo2, exs3, exn3, exz3, exo3, exs4, exn4, exz4, exo4, exs5, exn5, exz5, exo5, exs6, exn6, exz6, exo6, exs7, exn7, exz7, exo7, exs8, exn8, exz8, exo8, exs9, exn9, exz9, exo9, ex1, ex2, ex3, ex4, ex5, beqI, bneI, decide_true, Bool.true_and, decide_eq_true_eq, decide_eq_false_iff_not, ne_eq, Decidable.not_not]
  simp only [Int.toNat_natCast]
  obtain ⟨⟨w1, w2, w3⟩, v1, v2, v3, v4⟩ := (show x.wf ∧ t.wf from ha)
  refine exF (exT ⟨w1, w2, w3, v1, v2, v3, v4, fun e => ?_, fun e => ?_⟩)
  · have eO : fouO x t = none := if_neg (tr_no e 0 0).2
    have eE : fouE x t = trE x t := if_neg e
    rw [eO, eE]
    exact ⟨rfl, rfl, rfl, rfl⟩
  · obtain ⟨hc0, ht, eR⟩ := tr_ok e
    rw [eR]
    have eO' : fouO x t = firstP ((trF x t).hE + 1) (trF x t).k (canH (trF x t)) := if_pos ⟨hc0, ht⟩
    have eE : fouE x t = oE (fouO x t) := if_pos e
    have hc' := trF_chk hc0 ht
    generalize trF x t = y at eO' hc' ⊢
    have eO := eO'
    have hc := hc'
    obtain ⟨s1, s2, s3, s4, s5, s6, s7⟩ := chk_size hc
    have w1 : y.hE < 4611686018427387904 := by omega
    have w2 : y.hN < 4611686018427387904 := by omega
    have w3 : y.k < 4611686018427387904 := by omega
    refine ⟨by omega, by omega, by omega, fun _ h => by omega, fun g ⟨hg, hG⟩ => ⟨fun hlt => ⟨by omega, fun _ h => by omega, fun a b ⟨hb, ha, hA⟩ => ?_⟩, fun hge => ?_⟩⟩
    · obtain rfl : g = b := by omega
      refine ⟨fun halt => ⟨by omega, by omega, by omega, by omega, fun k h1 h2 => by omega, fun k a' b' ⟨hb', ha', hk1, hk2, hK⟩ => ?_⟩, fun hage => ⟨by omega, by omega, by omega, fun h hh i hi k hik hk => ?_, by omega⟩⟩
      · obtain rfl : g = b' := by omega
        obtain rfl : a = a' := by omega
        refine ⟨fun hk => ?_, fun hk => ⟨by omega, by omega, by omega, fun i hi k' h1 h2 => ?_, by omega⟩⟩
        · have next : canH y g a k = false → -9223372036854775808 ≤ (k : Int) + 1 ∧ (k : Int) + 1 ≤ 9223372036854775807 ∧ a < k + 1 ∧ k + 1 ≤ y.k ∧ (∀ k', a < k' → k' < k + 1 → canH y g a k' = false) ∧ y.k - (k + 1) < y.k - k := fun hf => ⟨by omega, by omega, by omega, by omega, fun k' h1 h2 => by
            by_cases c : k' = k
            · rw [c]; exact hf
            · exact hK k' h1 (by omega), by omega⟩
          have ly : ∀ j : Nat, j < y.k → lyB y j g = within g (y.net j 4) (y.net j 5) := fun j hj => by
            unfold lyB
            rw [Int.toNat_natCast, show within (j : Int) 0 ((y.k : Int) - 1) = true from Nm.within_iff.2 (by omega)]; rfl
          have eH : canH y g a k = (within g (y.net a 4) (y.net a 5) && within g (y.net k 4) (y.net k 5) && canP ⟨y, a, k, g⟩) := by
            unfold canH; rw [ly a (by omega), ly k (by omega)]
          refine exF ⟨w1, w2, w3, by omega, by omega, exNet ⟨fun l1 => exF ⟨w1, w2, w3, by omega, by omega, exNet ⟨fun l2 => ⟨⟨y, a, k, g⟩, rfl, fun _ _ => ⟨rfl, rfl⟩, rfl, fun _ _ => ⟨rfl, rfl⟩, rfl, rfl, fun _ _ => ⟨rfl, rfl, rfl, rfl, rfl, rfl, rfl, rfl, rfl, rfl⟩, rfl, rfl, rfl, chkW_of hc, w1, w2, w3, by show a < y.k; omega, by show k < y.k; omega, by show (0 : Int) ≤ (g : Int); omega, by show (g : Int) ≤ 24; omega, fun hp => ?_, fun hp => next ?_⟩, fun l2 => next ?_⟩⟩, fun l1 => next ?_⟩⟩
          · have hf : fouO x t = some (g, a, k) := by
              rw [eO]
              exact firstP_some (by omega) (by omega) (by omega) (by omega) (by rw [eH, l1, l2, hp]; rfl) hG hA hK
            rw [eE, hf]
            exact ⟨rfl, rfl, rfl, rfl⟩
          · rw [eH, hp]; simp
          · rw [eH, l2]; simp
          · rw [eH, l1]; simp
        · by_cases c : i = a
          · subst c; exact hK k' h1 (by omega)
          · exact hA i (by omega) k' h1 h2
      · by_cases c : h = g
        · subst c; exact hA i (by omega) k hik hk
        · exact hG h (by omega) i hi k hik hk
    · have hn : fouO x t = none := by
        rw [eO]
        exact firstP_none.2 fun h hh i hi k hk hik => hG h (by omega) i hi k hik hk
      rw [eE, hn]
      exact ⟨rfl, rfl, rfl, rfl⟩
end Go.Proofs.YtcfmdhlohahhcaaDoor
set_option linter.unusedSimpArgs false
set_option linter.unusedVariables false
namespace Go.Proofs.YtcfmdhlohahhcaaDoor
open Go Go.Sx Nm
set_option maxRecDepth 100000
def slC (b : Bool) : Nat := if b = true then 8 else 6
def sSlips : Sig := ⟨Fleet × Bool, fun a => [fleetTV a.1, .c (.bool a.2)], fun a => a.1.wf ∧ a.1.k ≤ 6, fun a => [.own 44 2 a.1.k (fun i j => .int .i64 (a.1.net i (slC a.2 + j)))]⟩
def aAA1 (x : Fleet) (b : Bool) : Ann := { G := Nat, ok := fun _ g => g ≤ x.k, dom := fun st => [st.nx], tm := fun st g => [(5, .t (.c (.os st.nx 2 g))), (6, .t (intC g))], hp := fun st g => [(st.nx, .slot 5, some (.row 44 2 g (fun i j => .int .i64 (x.net i (slC b + j)))))], mu := fun _ g => x.k - g }
theorem q92 (a : sSlips.α) (ha : sSlips.pre a) : CallQ Tryd.prog E0 92 (sSlips.arg a) (sSlips.res a) := by
  obtain ⟨x, b⟩ := a
  refine bare_say E0_ok TW TW_ok [] EvensOk.nil runs { l := [(92, 3, aAA1 x b)] } (fuel := 8) ?_
  refine of_red (q := (∃ (g : Nat), g ≤ x.k ∧ True ∧ ((True ∧ g = (0 : Nat)) ∧ (True ∧ (0 : Int) = (↑g : Int)) ∧ True) ∧ g = (0 : Nat) ∧ True) ∧ ∀ (g : Nat), g ≤ x.k → (decide ((↑g : Int) < (↑x.k : Int)) = true → (0 : Int) ≤ (↑g : Int) ∧ (↑g : Int) < (↑x.k : Int) ∧ (b = true → (0 : Int) ≤ (↑g : Int) ∧ (↑g : Int) < (↑x.k : Int) ∧ (g + (1 : Nat)) * (16 : Nat) ≤ (140737488355328 : Nat) ∧ g + (1 : Nat) < (4611686018427387904 : Nat) ∧ inRange IntKind.i64 ((↑g : Int) + (1 : Int)) ∧ ∃ (g' : Nat), g' ≤ x.k ∧ x.k - g' < x.k - g ∧ True ∧ ((True ∧ True ∧ g + (1 : Nat) = g') ∧ (True ∧ (↑g : Int) + (1 : Int) = (↑g' : Int)) ∧ True) ∧ (True ∧ True ∧ g + (1 : Nat) = g' ∧ ∀ (i : Nat), i < g + (1 : Nat) → (True ∧ (if i < g then x.net i (slC b + nat_lit 0) else if i - g = (0 : Nat) then x.net g (nat_lit 0 + (nat_lit 7 + (1 : Nat))) else (0 : Int)) = x.net i (slC b + nat_lit 0)) ∧ (if i < g then x.net i (slC b + nat_lit 1) else if i - g = (0 : Nat) then x.net g (nat_lit 1 + (nat_lit 7 + (1 : Nat))) else (0 : Int)) = x.net i (slC b + nat_lit 1)) ∧ True) ∧ (b = false → (g + (1 : Nat)) * (16 : Nat) ≤ (140737488355328 : Nat) ∧ g + (1 : Nat) < (4611686018427387904 : Nat) ∧ inRange IntKind.i64 ((↑g : Int) + (1 : Int)) ∧ ∃ (g' : Nat), g' ≤ x.k ∧ x.k - g' < x.k - g ∧ True ∧ ((True ∧ True ∧ g + (1 : Nat) = g') ∧ (True ∧ (↑g : Int) + (1 : Int) = (↑g' : Int)) ∧ True) ∧ (True ∧ True ∧ g + (1 : Nat) = g' ∧ ∀ (i : Nat), i < g + (1 : Nat) → (True ∧ (if i < g then x.net i (slC b + nat_lit 0) else if i - g = (0 : Nat) then x.net g (nat_lit 0 + (nat_lit 5 + (1 : Nat))) else (0 : Int)) = x.net i (slC b + nat_lit 0)) ∧ (if i < g then x.net i (slC b + nat_lit 1) else if i - g = (0 : Nat) then x.net g (nat_lit 1 + (nat_lit 5 + (1 : Nat))) else (0 : Int)) = x.net i (slC b + nat_lit 1)) ∧ True)) ∧ (decide ((↑g : Int) < (↑x.k : Int)) = false → True ∧ g = x.k ∧ True ∧ True ∧ g = x.k ∧ ∀ (i : Nat), i < g → (True ∧ x.net i (slC b + nat_lit 0) = x.net i (slC b + nat_lit 0)) ∧ x.net i (slC b + nat_lit 1) = x.net i (slC b + nat_lit 1))) (by kernel_rfl) ?_
  simp only [true_and, and_true, inR, Prod.exists, Prod.forall, and_assoc, exists_and_left, exists_eq_left', exists_eq_left, forall_eq, exists_const, forall_const, loopN, loopM, fa2, fas, fas2, dup1, dup2, dup3, dup4, ite_true, exhs, exhn, exhz, exho, exs1, exn1, exz1, exo1, exs2, exn2, exz2, exo2, exs3, exn3, exz3, exo3, exs4, exn4, exz4, exo4, exs5, exn5, exz5, exo5, exs6, exn6, exz6, exo6, exs7, exn7, exz7, exo7, exs8, exn8, exz8, exo8, exs9, exn9, exz9, exo9, ex1, ex2, ex3, ex4, ex5, beqI, bneI, decide_true, Bool.true_and, decide_eq_true_eq, decide_eq_false_iff_not, ne_eq, Decidable.not_not]
  obtain ⟨⟨w1, w2, w3⟩, hk⟩ := (show x.wf ∧ x.k ≤ 6 from ha)
  refine ⟨Nat.zero_le _, rfl, fun g hg => ⟨by omega, by omega, fun hb => ?_, fun hb => ?_⟩, fun _ _ => trivial⟩
  · subst hb
    refine ⟨by omega, by omega, by omega, by omega, by omega, by omega, g + 1, by omega, by omega, rfl, by omega, rfl, fun i hi => ?_⟩
    by_cases c : i < g
    · rw [if_pos c, if_pos c]; exact ⟨rfl, rfl⟩
    · obtain rfl : i = g := by omega
      rw [if_neg c, if_neg c, if_pos (by omega), if_pos (by omega)]; exact ⟨rfl, rfl⟩
  · subst hb
    refine ⟨by omega, by omega, by omega, by omega, g + 1, by omega, by omega, rfl, by omega, rfl, fun i hi => ?_⟩
    by_cases c : i < g
    · rw [if_pos c, if_pos c]; exact ⟨rfl, rfl⟩
    · obtain rfl : i = g := by omega
      rw [if_neg c, if_neg c, if_pos (by omega), if_pos (by omega)]; exact ⟨rfl, rfl⟩
def wR (n : Nat) (v : Nat → Int) (m : Nat) (f : Nat → Nat → Int) (i : Nat) : Bool := decide ((n : Int) = (m : Int)) && allB i (fun j => within (v j) (f j 0) (f j 1))
structure WAsk where
  n : Nat
  v : Nat → Int
  m : Nat
  f : Nat → Nat → Int
def sWR : Sig := ⟨WAsk, fun a => [.c (intsCV a.n a.v), .c (spansCV a.m a.f)], fun a => a.n < 4611686018427387904 ∧ a.m < 4611686018427387904, fun a => [.v (.c (.bool (wR a.n a.v a.m a.f a.n)))]⟩
def aAA2 (a : WAsk) : Ann := { G := Nat, ok := fun _ g => g ≤ a.n, dom := fun _ => [], tm := fun _ g => [(5, .t (.c (.bool (wR a.n a.v a.m a.f g)))), (6, .t (intC g))], hp := fun _ _ => [], mu := fun _ g => a.n - g }
theorem q91 (a : sWR.α) (ha : sWR.pre a) : CallQ Tryd.prog E0 91 (sWR.arg a) (sWR.res a) := by
  obtain ⟨n, v, m, f⟩ := a
  refine bare_say E0_ok TW TW_ok [] EvensOk.nil runs { l := [(91, 3, aAA2 ⟨n, v, m, f⟩)] } (fuel := 8) ?_
  refine of_red (q := (∃ (g : Nat), g ≤ n ∧ True ∧ ((True ∧ ((↑n : Int) == (↑m : Int)) = wR n v m f g) ∧ (True ∧ (0 : Int) = (↑g : Int)) ∧ True) ∧ True) ∧ ∀ (g : Nat), g ≤ n → (wR n v m f g = true → (decide ((↑g : Int) < (↑n : Int)) = true → (0 : Int) ≤ (↑g : Int) ∧ (↑g : Int) < (↑m : Int) ∧ (0 : Int) ≤ (↑g : Int) ∧ (↑g : Int) < (↑n : Int) ∧ ∃ (x : (Int × Int) × Int), ((True ∧ (True ∧ True ∧ f g 0 = x.fst.fst) ∧ True ∧ f g 1 = x.fst.snd) ∧ (True ∧ v g = x.snd) ∧ True) ∧ True ∧ inRange IntKind.i64 ((↑g : Int) + (1 : Int)) ∧ ∃ (g' : Nat), g' ≤ n ∧ n - g' < n - g ∧ True ∧ ((True ∧ within x.snd x.fst.fst x.fst.snd = wR n v m f g') ∧ (True ∧ (↑g : Int) + (1 : Int) = (↑g' : Int)) ∧ True) ∧ True) ∧ (decide ((↑g : Int) < (↑n : Int)) = false → True ∧ wR n v m f g = wR n v m f n)) ∧ (wR n v m f g = false → True ∧ wR n v m f g = wR n v m f n)) (by kernel_rfl) ?_
  simp only [true_and, and_true, inR, Prod.exists, Prod.forall, and_assoc, exists_and_left, exists_eq_left', exists_eq_left, forall_eq, exists_const, forall_const, loopN, loopM, fa2, fas, fas2, dup1, dup2, dup3, dup4, ite_true, exhs, exhn, exhz, exho, exs1, exn1, exz1, exo1, exs2, exn2, exz2, exo2, exs3, exn3, exz3, exo3, exs4, exn4, exz4, exo4, exs5, exn5, exz5, exo5, exs6, exn6, exz6, exo6, exs7, exn7, exz7, exo7, exs8, exn8, exz8, exo8, exs9, exn9, exz9, exo9, ex1, ex2, ex3, ex4, ex5, beqI, bneI, decide_true, Bool.true_and, decide_eq_true_eq, decide_eq_false_iff_not, ne_eq, Decidable.not_not]
  obtain ⟨h1, h2⟩ := (show n < 4611686018427387904 ∧ m < 4611686018427387904 from ha)
  have nm : ∀ g, wR n v m f g = true → n = m := fun g h => by
    unfold wR at h
    rw [Bool.and_eq_true, decide_eq_true_eq] at h
    omega
  refine ⟨Nat.zero_le _, by unfold wR allB; rw [Bool.and_true], fun g hg => ⟨fun hT => ⟨fun hlt => ?_, fun hge => ?_⟩, fun hF => ?_⟩⟩
  · have e := nm g hT
    refine ⟨by omega, by omega, by omega, by omega, by omega, by omega, by omega, by omega, ?_⟩
    unfold wR at hT ⊢
    rw [Bool.and_eq_true] at hT
    rw [hT.1, allB, hT.2]; rfl
  · obtain rfl : g = n := by omega
    rfl
  · rw [hF]
    symm
    cases hs : wR n v m f n with
    | false => rfl
    | true =>
      unfold wR at hF hs
      rw [Bool.and_eq_true] at hs
      rw [hs.1, allB_iff.2 (fun i hi => allB_iff.1 hs.2 i (by omega))] at hF
      cases hF
def TAA : List (Nat × Sig) := (91, sWR) :: (92, sSlips) :: TW
theorem TAA_ok : SigsOk Tryd.prog E0 TAA := (TW_ok.cons (runs 92 (by kernel_rfl)) q92).cons (runs 91 (by kernel_rfl)) q91
def sIsT : Sig := ⟨Fleet × Truth, fun a => [fleetTV a.1, truthTV a.2], fun a => Nm.chk a.1 = true ∧ a.1.wf ∧ a.2.wf, fun a => [.v (.c (.bool (trOk a.1 a.2)))]⟩
theorem q58 (a : sIsT.α) (ha : sIsT.pre a) : CallQ Tryd.prog E0 58 (sIsT.arg a) (sIsT.res a) := by
  obtain ⟨x, t⟩ := a
  refine bare_say E0_ok TAA TAA_ok [] EvensOk.nil runs { } (fuel := 8) ?_
  refine of_red (q := ∃ (x_1 : WAsk), ((True ∧ True ∧ t.nE = x_1.n ∧ ∀ (i : Nat), i < t.nE → True ∧ t.e i = x_1.v i) ∧ (True ∧ True ∧ x.hE = x_1.m ∧ ∀ (i : Nat), i < x.hE → (True ∧ x.e i 0 = x_1.f i 0) ∧ x.e i 1 = x_1.f i 1) ∧ True) ∧ (x_1.n < (4611686018427387904 : Nat) ∧ x_1.m < (4611686018427387904 : Nat)) ∧ (wR x_1.n x_1.v x_1.m x_1.f x_1.n = true → ∃ (x_2 : WAsk), ((True ∧ True ∧ t.nN = x_2.n ∧ ∀ (i : Nat), i < t.nN → True ∧ t.n i = x_2.v i) ∧ (True ∧ True ∧ x.hN = x_2.m ∧ ∀ (i : Nat), i < x.hN → (True ∧ x.n i 0 = x_2.f i 0) ∧ x.n i 1 = x_2.f i 1) ∧ True) ∧ (x_2.n < (4611686018427387904 : Nat) ∧ x_2.m < (4611686018427387904 : Nat)) ∧ (wR x_2.n x_2.v x_2.m x_2.f x_2.n = true → ∃ (x_3 : Fleet × Bool), ((True ∧ flq x x_3.fst) ∧ (True ∧ x_3.snd = false) ∧ True) ∧ ((x_3.fst.hE < (4611686018427387904 : Nat) ∧ x_3.fst.hN < (4611686018427387904 : Nat) ∧ x_3.fst.k < (4611686018427387904 : Nat)) ∧ x_3.fst.k ≤ (6 : Nat)) ∧ ∃ (x_4 : WAsk), ((True ∧ True ∧ t.nSE = x_4.n ∧ ∀ (i : Nat), i < t.nSE → True ∧ t.se i = x_4.v i) ∧ (True ∧ True ∧ x_3.fst.k = x_4.m ∧ ∀ (i : Nat), i < x_3.fst.k → (True ∧ x_3.fst.net i (slC x_3.snd + nat_lit 0) = x_4.f i 0) ∧ x_3.fst.net i (slC x_3.snd + nat_lit 1) = x_4.f i 1) ∧ True) ∧ (x_4.n < (4611686018427387904 : Nat) ∧ x_4.m < (4611686018427387904 : Nat)) ∧ (wR x_4.n x_4.v x_4.m x_4.f x_4.n = true → ∃ (x_5 : Fleet × Bool), ((True ∧ flq x x_5.fst) ∧ (True ∧ x_5.snd = true) ∧ True) ∧ ((x_5.fst.hE < (4611686018427387904 : Nat) ∧ x_5.fst.hN < (4611686018427387904 : Nat) ∧ x_5.fst.k < (4611686018427387904 : Nat)) ∧ x_5.fst.k ≤ (6 : Nat)) ∧ ∃ (x_6 : WAsk), ((True ∧ True ∧ t.nSN = x_6.n ∧ ∀ (i : Nat), i < t.nSN → True ∧ t.sn i = x_6.v i) ∧ (True ∧ True ∧ x_5.fst.k = x_6.m ∧ ∀ (i : Nat), i < x_5.fst.k → (True ∧ x_5.fst.net i (slC x_5.snd + nat_lit 0) = x_6.f i 0) ∧ x_5.fst.net i (slC x_5.snd + nat_lit 1) = x_6.f i 1) ∧ True) ∧ (x_6.n < (4611686018427387904 : Nat) ∧ x_6.m < (4611686018427387904 : Nat)) ∧ True ∧ wR x_6.n x_6.v x_6.m x_6.f x_6.n = trOk x t) ∧ (wR x_4.n x_4.v x_4.m x_4.f x_4.n = false → True ∧ trOk x t = false)) ∧ (wR x_2.n x_2.v x_2.m x_2.f x_2.n = false → True ∧ trOk x t = false)) ∧ (wR x_1.n x_1.v x_1.m x_1.f x_1.n = false → True ∧ trOk x t = false)) (by kernel_rfl) ?_
  simp only [flq, true_and, and_true, inR, Prod.exists, Prod.forall, and_assoc, exists_and_left, exists_eq_left', exists_eq_left, forall_eq, exists_const, forall_const, loopN, loopM, fa2, fas, fas2, dup1, dup2, dup3, dup4, ite_true, exhs, exhn, exhz, exho, exs1, exn1, exz1, exo1, exs2, exn2, exz2, exo2, exs3, exn3, exz3, exo3, exs4, exn4, exz4, exo4, exs5, exn5, exz5, exo5, exs6, exn6, exz6, exo6, exs7, exn7, exz7, exo7, exs8, exn8, exz8, exo8, exs9, exn9, exz9, exo9, ex1, ex2, ex3, ex4, ex5, beqI, bneI, decide_true, Bool.true_and, decide_eq_true_eq, decide_eq_false_iff_not, ne_eq, Decidable.not_not]
  obtain ⟨hc, ⟨w1, w2, w3⟩, v1, v2, v3, v4⟩ := (show Nm.chk x = true ∧ x.wf ∧ t.wf from ha)
  obtain ⟨s1, s2, s3, s4, s5, s6, s7⟩ := chk_size hc
  have al : ∀ (n m : Nat) (v lo hi : Nat → Int), (decide ((n : Int) = m) && allB n (fun j => within (v j) (lo j) (hi j))) = (decide ((n : Int) = m) && allB m (fun j => within (v j) (lo j) (hi j))) := fun n m v lo hi => by
    by_cases h : n = m
    · rw [h]
    · rw [decide_eq_false (by omega)]; rfl
  have e0 : wR t.nE t.e x.hE x.e t.nE = tells x t 0 := al _ _ _ _ _
  have e1 : wR t.nN t.n x.hN x.n t.nN = tells x t 1 := by rw [s3]; exact al _ _ _ _ _
  have e2 : wR t.nSE t.se x.k (fun i j => x.net i (6 + j)) t.nSE = tells x t 2 := al _ _ _ _ _
  have e3 : wR t.nSN t.sn x.k (fun i j => x.net i (8 + j)) t.nSN = tells x t 3 := al _ _ _ _ _
  have no : ∀ c, c < 4 → tells x t c = false → trOk x t = false := fun c hc4 h => trOk_no hc4 (by rw [h]; rfl)
  refine ⟨⟨t.nE, t.e, x.hE, x.e⟩, rfl, fun _ _ => rfl, rfl, fun _ _ => ⟨rfl, rfl⟩, v1, w1, fun h0 => ⟨⟨t.nN, t.n, x.hN, x.n⟩, rfl, fun _ _ => rfl, rfl, fun _ _ => ⟨rfl, rfl⟩, v2, w2, fun h1 => exF ⟨w1, w2, w3, s7, ⟨t.nSE, t.se, x.k, fun i j => x.net i (6 + j)⟩, rfl, fun _ _ => rfl, rfl, fun _ _ => ⟨rfl, rfl⟩, v3, w3, fun h2 => exF ⟨w1, w2, w3, s7, ⟨t.nSN, t.sn, x.k, fun i j => x.net i (8 + j)⟩, rfl, fun _ _ => rfl, rfl, fun _ _ => ⟨rfl, rfl⟩, v4, w3, ?_⟩, fun h2 => no 2 (by omega) (e2.symm.trans h2)⟩, fun h1 => no 1 (by omega) (e1.symm.trans h1)⟩, fun h0 => no 0 (by omega) (e0.symm.trans h0)⟩
  have q : trOk x t = (tells x t 0 && tells x t 2 && (tells x t 1 && tells x t 3)) := rfl
  rw [q, e0.symm.trans h0, e1.symm.trans h1, e2.symm.trans h2]
  exact e3
structure RlAsk where
  x : Fleet
  t : Truth
  k : Nat
  h : Int
def RlAsk.ok (a : RlAsk) : Prop := Nm.chk a.x = true ∧ trOk a.x a.t = true ∧ (a.x.wf ∧ a.t.wf) ∧ a.k < a.x.k ∧ a.x.net a.k 4 ≤ a.h ∧ a.h ≤ a.x.hE
def sRl : Sig := ⟨RlAsk, fun a => [fleetTV a.x, truthTV a.t, intC a.k, intC a.h], RlAsk.ok, fun a => [.v (spanTV (liP a.x a.t.e a.t.se 0 a.k a.h) (liP a.x a.t.n a.t.sn 1 a.k a.h))]⟩
def liQ (x : Fleet) (v s : Nat → Int) (b k : Nat) (g : Nat) : Int := liP x v s b k (x.net k 4 + g)
theorem trOk_get {x : Fleet} {t : Truth} (hc : Nm.chk x = true) (ht : trOk x t = true) : (t.nE = x.hE ∧ ∀ j, j < x.hE → -200 ≤ t.e j ∧ t.e j ≤ 200) ∧ (t.nSE = x.k ∧ ∀ j, j < x.k → -50 ≤ t.se j ∧ t.se j ≤ 50) ∧ (t.nN = x.hE ∧ ∀ j, j < x.hE → -200 ≤ t.n j ∧ t.n j ≤ 200) ∧ t.nSN = x.k ∧ ∀ j, j < x.k → -50 ≤ t.sn j ∧ t.sn j ≤ 50 := by
  unfold trOk tells tellB tellI at ht
  simp only [Bool.and_eq_true, decide_eq_true_eq, allB_iff] at ht
  obtain ⟨⟨⟨n0, t0⟩, n2, t2⟩, ⟨n1, t1⟩, n3, t3⟩ := ht
  simp only [tn, tm] at n0 n1 n2 n3
  refine ⟨⟨by omega, fun j hj => ?_⟩, ⟨by omega, fun j hj => ?_⟩, ⟨by omega, fun j hj => ?_⟩, by omega, fun j hj => ?_⟩
  · have a := Nm.within_iff.1 (t0 j hj)
    have b := chk_hour hc hj
    simp only [tv, tl, th] at a
    omega
  · have a := Nm.within_iff.1 (t2 j hj)
    have b := chk_net hc hj
    simp only [tv, tl, th] at a
    omega
  · have a := Nm.within_iff.1 (t1 j hj)
    have b := chk_hour hc hj
    simp only [tv, tl, th] at a
    omega
  · have a := Nm.within_iff.1 (t3 j hj)
    have b := chk_net hc hj
    simp only [tv, tl, th] at a
    omega
theorem liQ_eq (x : Fleet) (v s : Nat → Int) (b k g : Nat) : liQ x v s b k g = x.net k b + s k * (g : Int) + sumN (fun j => v ((x.net k 4).toNat + j)) g := by
  unfold liQ liP
  rw [show x.net k 4 + (g : Int) - x.net k 4 = g by omega, Int.toNat_natCast]
theorem liQ_0 (x : Fleet) (v s : Nat → Int) (b k : Nat) : liQ x v s b k 0 = x.net k b := by
  rw [liQ_eq]; simp [sumN]
theorem liQ_step (x : Fleet) (v s : Nat → Int) (b k g : Nat) : liQ x v s b k (g + 1) = liQ x v s b k g + (v ((x.net k 4).toNat + g) + s k) := by
  rw [liQ_eq, liQ_eq, sumN]
  have : s k * ((g + 1 : Nat) : Int) = s k * (g : Int) + s k := by rw [Int.natCast_add, Int.mul_add]; simp
  rw [this]; omega
theorem liQ_bd {x : Fleet} {v s : Nat → Int} {b k g : Nat} (h1 : -10000 ≤ x.net k b ∧ x.net k b ≤ 10000) (h2 : -50 ≤ s k ∧ s k ≤ 50) (hg : g ≤ 24) (hv : ∀ j, j < g → -200 ≤ v ((x.net k 4).toNat + j) ∧ v ((x.net k 4).toNat + j) ≤ 200) : -20000 ≤ liQ x v s b k g ∧ liQ x v s b k g ≤ 20000 := by
  rw [liQ_eq]
  have q : (s k).natAbs * (g : Int).natAbs ≤ 50 * 24 := Nat.mul_le_mul (by omega) (by omega)
  rw [← Int.natAbs_mul] at q
  have r := sumN_bd (g := fun j => v ((x.net k 4).toNat + j)) (c := 200) (n := g) hv
  omega
def aAA3 (x : Fleet) (t : Truth) (k : Nat) (h : Int) : Ann := { G := Nat, ok := fun _ g => g ≤ (h - x.net k 4).toNat, dom := fun st => [osN (st.tm 10)], tm := fun _ g => [(11, .t (intC (x.net k 4 + g)))], hp := fun st g => [(osN (st.tm 10), .self, some (.box 2 (ofList [.int .i64 (liQ x t.e t.se 0 k g), .int .i64 (liQ x t.n t.sn 1 k g)])))], mu := fun _ g => (h - x.net k 4).toNat - g }
theorem q60 (a : sRl.α) (ha : sRl.pre a) : CallQ Tryd.prog E0 60 (sRl.arg a) (sRl.res a) := by
  obtain ⟨x, t, k, h⟩ := a
  refine bare_say E0_ok TAA TAA_ok [] EvensOk.nil runs { l := [(60, 4, aAA3 x t k h)], o := [(60, 6, oT [(10, [15])]), (60, 7, oT [(10, [15])])] } (fuel := 8) ?_
  refine of_red (q := (0 : Int) ≤ (↑k : Int) ∧ (↑k : Int) < (↑x.k : Int) ∧ (∃ (g : Nat), g ≤ (h - x.net k (4 : Nat)).toNat ∧ True ∧ ((True ∧ x.net k ((0 : Nat) + (nat_lit 3 + (1 : Nat))) = x.net k (4 : Nat) + (↑g : Int)) ∧ True) ∧ (True ∧ (True ∧ True ∧ x.net k 0 = liQ x t.e t.se (0 : Nat) k g) ∧ True ∧ x.net k 1 = liQ x t.n t.sn (1 : Nat) k g) ∧ True) ∧ ∀ (g : Nat), g ≤ (h - x.net k (4 : Nat)).toNat → (decide (x.net k (4 : Nat) + (↑g : Int) < h) = true → (0 : Int) ≤ x.net k (4 : Nat) + (↑g : Int) ∧ x.net k (4 : Nat) + (↑g : Int) < (↑t.nE : Int) ∧ (0 : Int) ≤ (↑k : Int) ∧ (↑k : Int) < (↑t.nSE : Int) ∧ inRange IntKind.i64 (t.e (x.net k (4 : Nat) + (↑g : Int)).toNat + t.se k) ∧ inRange IntKind.i64 (liQ x t.e t.se (0 : Nat) k g + (t.e (x.net k (4 : Nat) + (↑g : Int)).toNat + t.se k)) ∧ (0 : Int) ≤ x.net k (4 : Nat) + (↑g : Int) ∧ x.net k (4 : Nat) + (↑g : Int) < (↑t.nN : Int) ∧ (0 : Int) ≤ (↑k : Int) ∧ (↑k : Int) < (↑t.nSN : Int) ∧ inRange IntKind.i64 (t.n (x.net k (4 : Nat) + (↑g : Int)).toNat + t.sn k) ∧ inRange IntKind.i64 (liQ x t.n t.sn (1 : Nat) k g + (t.n (x.net k (4 : Nat) + (↑g : Int)).toNat + t.sn k)) ∧ inRange IntKind.i64 (x.net k (4 : Nat) + (↑g : Int) + (1 : Int)) ∧ ∃ (g' : Nat), g' ≤ (h - x.net k (4 : Nat)).toNat ∧ (h - x.net k (4 : Nat)).toNat - g' < (h - x.net k (4 : Nat)).toNat - g ∧ True ∧ ((True ∧ x.net k (4 : Nat) + (↑g : Int) + (1 : Int) = x.net k (4 : Nat) + (↑g' : Int)) ∧ True) ∧ (True ∧ (True ∧ True ∧ liQ x t.e t.se (0 : Nat) k g + (t.e (x.net k (4 : Nat) + (↑g : Int)).toNat + t.se k) = liQ x t.e t.se (0 : Nat) k g') ∧ True ∧ liQ x t.n t.sn (1 : Nat) k g + (t.n (x.net k (4 : Nat) + (↑g : Int)).toNat + t.sn k) = liQ x t.n t.sn (1 : Nat) k g') ∧ True) ∧ (decide (x.net k (4 : Nat) + (↑g : Int) < h) = false → True ∧ (True ∧ True ∧ liQ x t.e t.se (0 : Nat) k g = liP x t.e t.se (0 : Nat) k h) ∧ True ∧ liQ x t.n t.sn (1 : Nat) k g = liP x t.n t.sn (1 : Nat) k h)) (by kernel_rfl) ?_
  simp only [true_and, and_true, inR, Prod.exists, Prod.forall, and_assoc, exists_and_left, exists_eq_left', exists_eq_left, forall_eq, exists_const, forall_const, loopN, loopM, fa2, fas, fas2, dup1, dup2, dup3, dup4, ite_true, exhs, exhn, exhz, exho, exs1, exn1, exz1, exo1, exs2, exn2, exz2, exo2, exs3, exn3, exz3, exo3, exs4, exn4, exz4, exo4, exs5, exn5, exz5, exo5, exs6, exn6, exz6, exo6, exs7, exn7, exz7, exo7, exs8, exn8, exz8, exo8, exs9, exn9, exz9, exo9, ex1, ex2, ex3, ex4, ex5, beqI, bneI, decide_true, Bool.true_and, decide_eq_true_eq, decide_eq_false_iff_not, ne_eq, Decidable.not_not]
  simp only [Nat.reduceAdd, Nat.zero_add]
  obtain ⟨hc, ht, ⟨⟨w1, w2, w3⟩, v1, v2, v3, v4⟩, hk, h1, h2⟩ := (show Nm.chk x = true ∧ trOk x t = true ∧ (x.wf ∧ t.wf) ∧ k < x.k ∧ x.net k 4 ≤ h ∧ h ≤ x.hE from ha)
  obtain ⟨s1, s2, s3, s4, s5, s6, s7⟩ := chk_size hc
  obtain ⟨⟨i1, i2⟩, ⟨j1, j2⟩, _, _, ⟨i3, i4⟩, _, ⟨i5, i6, i7⟩, j5, j6, j7⟩ := chk_net hc hk
  obtain ⟨⟨n0, t0⟩, ⟨n2, t2⟩, ⟨n1, t1⟩, n3, t3⟩ := trOk_get hc ht
  have c2 := t2 k hk
  have c3 := t3 k hk
  have bE : ∀ g, g ≤ (h - x.net k 4).toNat → -20000 ≤ liQ x t.e t.se 0 k g ∧ liQ x t.e t.se 0 k g ≤ 20000 := fun g hg => liQ_bd (by omega) (by omega) (by omega) (fun j hj => by have := t0 ((x.net k 4).toNat + j) (by omega); omega)
  have bN : ∀ g, g ≤ (h - x.net k 4).toNat → -20000 ≤ liQ x t.n t.sn 1 k g ∧ liQ x t.n t.sn 1 k g ≤ 20000 := fun g hg => liQ_bd (by omega) (by omega) (by omega) (fun j hj => by have := t1 ((x.net k 4).toNat + j) (by omega); omega)
  refine ⟨by omega, by omega, ⟨0, by omega, by omega, (liQ_0 _ _ _ _ _).symm, (liQ_0 _ _ _ _ _).symm⟩, fun g hg => ⟨fun hlt => ?_, fun hge => ?_⟩⟩
  · have e1 : (x.net k 4 + (g : Int)).toNat = (x.net k 4).toNat + g := by omega
    have q1 := bE g hg
    have q2 := bN g hg
    have q3 := t0 ((x.net k 4).toNat + g) (by omega)
    have q4 := t1 ((x.net k 4).toNat + g) (by omega)
    rw [e1]
    exact ⟨by omega, by omega, by omega, by omega, by omega, by omega, by omega, by omega, by omega, by omega, by omega, by omega, by omega, by omega, by omega, by omega, by omega, by omega, g + 1, by omega, by omega, by omega, (liQ_step _ _ _ _ _ _).symm, (liQ_step _ _ _ _ _ _).symm⟩
  · have e : x.net k 4 + (g : Int) = h := by omega
    unfold liQ
    rw [e]
    exact ⟨rfl, rfl⟩
end Go.Proofs.YtcfmdhlohahhcaaDoor
set_option linter.unusedSimpArgs false
set_option linter.unusedVariables false
namespace Go.Proofs.YtcfmdhlohahhcaaDoor
open Go Go.Sx Nm
set_option maxRecDepth 100000
theorem t_same (l n : Int) : tLo l l n = l * n ∧ tHi l l n = l * n := by
  unfold tLo tHi
  split <;> exact ⟨rfl, rfl⟩
theorem sumN_neg {g : Nat → Int} : ∀ n, sumN (fun j => -g j) n = -sumN g n
  | 0 => rfl
  | n + 1 => by rw [sumN, sumN, sumN_neg n]; omega
theorem ap_exact {x : Fleet} {f : Nat → Nat → Int} {v s : Nat → Int} {p q i k h : Nat} (hf : ∀ j, f j 0 = v j ∧ f j 1 = v j) (hi : x.net i q = s i ∧ x.net i (q + 1) = s i) (hk : x.net k q = s k ∧ x.net k (q + 1) = s k)
    (i0 : 0 ≤ x.net i 4) (k0 : 0 ≤ x.net k 4) (ih : x.net i 4 ≤ h) (kh : x.net k 4 ≤ h) :
    apLo x f p q i k h = liP x v s p i h - liP x v s p k h ∧ apHi x f p q i k h = liP x v s p i h - liP x v s p k h := by
  have d1 : ∀ a n, dLo f a 1 n = sumN (fun j => v (a.toNat + j)) n ∧ dHi f a 1 n = sumN (fun j => v (a.toNat + j)) n := fun a n => by
    constructor <;> refine sumN_congr fun j _ => ?_
    · show tLo (f (a.toNat + j) 0) (f (a.toNat + j) 1) 1 = v (a.toNat + j)
      rw [(hf _).1, (hf _).2, (t_same _ _).1, Int.mul_one]
    · show tHi (f (a.toNat + j) 0) (f (a.toNat + j) 1) 1 = v (a.toNat + j)
      rw [(hf _).1, (hf _).2, (t_same _ _).2, Int.mul_one]
  have d2 : ∀ a n, dLo f a (-1) n = -sumN (fun j => v (a.toNat + j)) n ∧ dHi f a (-1) n = -sumN (fun j => v (a.toNat + j)) n := fun a n => by
    rw [← sumN_neg]
    constructor <;> refine sumN_congr fun j _ => ?_
    · show tLo (f (a.toNat + j) 0) (f (a.toNat + j) 1) (-1) = -v (a.toNat + j)
      rw [(hf _).1, (hf _).2, (t_same _ _).1]; omega
    · show tHi (f (a.toNat + j) 0) (f (a.toNat + j) 1) (-1) = -v (a.toNat + j)
      rw [(hf _).1, (hf _).2, (t_same _ _).2]; omega
  have key : sumN (fun j => v ((x.net i 4).toNat + j)) (x.net k 4 - x.net i 4).toNat - sumN (fun j => v ((x.net k 4).toNat + j)) (x.net i 4 - x.net k 4).toNat = sumN (fun j => v ((x.net i 4).toNat + j)) ((h : Int) - x.net i 4).toNat - sumN (fun j => v ((x.net k 4).toNat + j)) ((h : Int) - x.net k 4).toNat := by
    by_cases c : x.net i 4 ≤ x.net k 4
    · rw [show ((h : Int) - x.net i 4).toNat = (x.net k 4 - x.net i 4).toNat + ((h : Int) - x.net k 4).toNat by omega, sumN_split, show (x.net i 4 - x.net k 4).toNat = 0 by omega]
      have : sumN (fun j => v ((x.net i 4).toNat + ((x.net k 4 - x.net i 4).toNat + j))) ((h : Int) - x.net k 4).toNat = sumN (fun j => v ((x.net k 4).toNat + j)) ((h : Int) - x.net k 4).toNat :=
        sumN_congr fun j _ => by rw [show (x.net i 4).toNat + ((x.net k 4 - x.net i 4).toNat + j) = (x.net k 4).toNat + j by omega]
      rw [this]
      simp only [sumN]; omega
    · rw [show ((h : Int) - x.net k 4).toNat = (x.net i 4 - x.net k 4).toNat + ((h : Int) - x.net i 4).toNat by omega, sumN_split (a := (x.net i 4 - x.net k 4).toNat), show (x.net k 4 - x.net i 4).toNat = 0 by omega]
      have : sumN (fun j => v ((x.net k 4).toNat + ((x.net i 4 - x.net k 4).toNat + j))) ((h : Int) - x.net i 4).toNat = sumN (fun j => v ((x.net i 4).toNat + j)) ((h : Int) - x.net i 4).toNat :=
        sumN_congr fun j _ => by rw [show (x.net k 4).toNat + ((x.net i 4 - x.net k 4).toNat + j) = (x.net i 4).toNat + j by omega]
      rw [this]
      simp only [sumN]; omega
  have ek : s k * (x.net k 4 - h) = -(s k * (h - x.net k 4)) := by rw [← Int.mul_neg]; congr 1; omega
  unfold apLo apHi cLo cHi bLo bHi liP
  rw [hi.1, hi.2, hk.1, hk.2, (t_same _ _).1, (t_same _ _).1, (t_same _ _).2, (t_same _ _).2, (d1 _ _).1, (d1 _ _).2, (d2 _ _).1, (d2 _ _).2, ek]
  constructor <;> omega
theorem foul_same {x : Fleet} {t : Truth} {i k h : Nat} (hc : Nm.chk x = true) (hi : i < x.k) (hk : k < x.k) (l1 : lyB x i h = true) (l2 : lyB x k h = true) :
    canP ⟨trF x t, i, k, h⟩ = foulB ⟨x, i, k, liP x t.e t.se 0 i h - liP x t.e t.se 0 k h, liP x t.e t.se 0 i h - liP x t.e t.se 0 k h, liP x t.n t.sn 1 i h - liP x t.n t.sn 1 k h, liP x t.n t.sn 1 i h - liP x t.n t.sn 1 k h⟩ := by
  obtain ⟨_, _, _, _, ⟨i3, _⟩, _⟩ := chk_net hc hi
  obtain ⟨_, _, _, _, ⟨k3, _⟩, _⟩ := chk_net hc hk
  have q1 := l1
  have q2 := l2
  simp only [lyB, Bool.and_eq_true, Int.toNat_natCast] at q1 q2
  have g1 := Nm.within_iff.1 q1.2
  have g2 := Nm.within_iff.1 q2.2
  have n4 : ∀ j, (trF x t).net j 4 = x.net j 4 := fun j => trF_net (by omega)
  have liE : ∀ j (v s : Nat → Int) (b : Nat), b ≤ 1 → liP (trF x t) v s b j h = liP x v s b j h := fun j v s b hb => by
    unfold liP
    rw [n4, trF_net (by omega)]
  obtain ⟨a1, a2⟩ := ap_exact (x := trF x t) (f := (trF x t).e) (v := t.e) (s := t.se) (p := 0) (q := 6) (i := i) (k := k) (h := h) (fun _ => ⟨rfl, rfl⟩) ⟨rfl, rfl⟩ ⟨rfl, rfl⟩ (by rw [n4]; exact i3) (by rw [n4]; exact k3) (by rw [n4]; exact g1.1) (by rw [n4]; exact g2.1)
  obtain ⟨b1, b2⟩ := ap_exact (x := trF x t) (f := (trF x t).n) (v := t.n) (s := t.sn) (p := 1) (q := 8) (i := i) (k := k) (h := h) (fun _ => ⟨rfl, rfl⟩) ⟨rfl, rfl⟩ ⟨rfl, rfl⟩ (by rw [n4]; exact i3) (by rw [n4]; exact k3) (by rw [n4]; exact g1.1) (by rw [n4]; exact g2.1)
  rw [liE _ _ _ _ (by omega), liE _ _ _ _ (by omega)] at a1 a2 b1 b2
  have lgE : ∀ j b, lg ((trF x t).net j) b = lg (x.net j) b := fun j b => by
    unfold lg
    rw [trF_net (j := 2) (by omega), trF_net (j := 3) (by omega)]
  show (nearB (apLo (trF x t) (trF x t).e 0 6 i k h) (apHi (trF x t) (trF x t).e 0 6 i k h) (lg ((trF x t).net i) 0) (lg ((trF x t).net k) 0) x.gap && nearB (apLo (trF x t) (trF x t).n 1 8 i k h) (apHi (trF x t) (trF x t).n 1 8 i k h) (lg ((trF x t).net i) 1) (lg ((trF x t).net k) 1) x.gap) = _
  rw [a1, a2, b1, b2, lgE, lgE, lgE, lgE]
  rfl
end Go.Proofs.YtcfmdhlohahhcaaDoor
