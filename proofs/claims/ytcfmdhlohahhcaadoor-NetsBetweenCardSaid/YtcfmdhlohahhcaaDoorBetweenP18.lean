/- Texts for the law of the last part, part 18. -/
import Derived.Test.YtcfmdhlohahhcaaDoorBetweenP17
set_option linter.unusedSimpArgs false
set_option linter.unusedVariables false
set_option linter.unusedSimpArgs false
set_option linter.unusedVariables false
namespace Go.Proofs.YtcfmdhlohahhcaaDoor
open Go Go.Sx Nm
set_option maxRecDepth 100000
def TBG : List (Nat × Sig) := TBF
theorem TBG_ok : SigsOk Tryd.prog E0 TBG := TBF_ok
structure PAsk2 where
  x : Fleet
  a : Int
  b : Int
  c : Int
def p2i (r : PAsk2) : Int := r.a % (r.x.k : Int)
def p2k (r : PAsk2) : Int := (p2i r + 1 + r.b % ((r.x.k : Int) - 1)) % (r.x.k : Int)
def p2f (r : PAsk2) : Int := imax (r.x.net (p2i r).toNat 4) (r.x.net (p2k r).toNat 4)
def p2l (r : PAsk2) : Int := imin (r.x.net (p2i r).toNat 5) (r.x.net (p2k r).toNat 5)
def p2ok (r : PAsk2) : Bool := decide (2 ≤ r.x.k) && decide (p2f r ≤ p2l r)
def p2h (r : PAsk2) : Int := cho (p2f r) (p2l r) r.c
def p2z (r : PAsk2) (v : Int) : Int := if p2ok r = true then v else 0
def sPH : Sig := ⟨PAsk2, fun r => [fleetTV r.x, .a 3 (ofList [.int .i64 r.a, .int .i64 r.b, .int .i64 r.c])], fun r => Nm.chk r.x = true ∧ r.x.wf, fun r => [.v (intC (p2z r (p2i r))), .v (intC (p2z r (p2k r))), .v (intC (p2z r (p2h r))), .v (.c (.bool (p2ok r)))]⟩
theorem p2_bd {r : PAsk2} (h : 2 ≤ r.x.k) : (0 ≤ p2i r ∧ p2i r < r.x.k) ∧ (0 ≤ p2k r ∧ p2k r < r.x.k) ∧ p2i r ≠ p2k r := by
  have a1 := Int.emod_nonneg r.a (show (r.x.k : Int) ≠ 0 by omega)
  have a2 := Int.emod_lt_of_pos r.a (show 0 < (r.x.k : Int) by omega)
  have b1 := Int.emod_nonneg r.b (show (r.x.k : Int) - 1 ≠ 0 by omega)
  have b2 := Int.emod_lt_of_pos r.b (show 0 < (r.x.k : Int) - 1 by omega)
  have c1 := Int.emod_nonneg (p2i r + 1 + r.b % ((r.x.k : Int) - 1)) (show (r.x.k : Int) ≠ 0 by omega)
  have c2 := Int.emod_lt_of_pos (p2i r + 1 + r.b % ((r.x.k : Int) - 1)) (show 0 < (r.x.k : Int) by omega)
  refine ⟨⟨a1, a2⟩, ⟨c1, c2⟩, fun e => ?_⟩
  have e0 : p2i r = (p2i r + 1 + r.b % ((r.x.k : Int) - 1)) % (r.x.k : Int) := e
  have a1 : 0 ≤ p2i r := a1
  have a2 : p2i r < r.x.k := a2
  by_cases c : p2i r + 1 + r.b % ((r.x.k : Int) - 1) < r.x.k
  · rw [Int.emod_eq_of_lt (by omega) c] at e0; omega
  · have := Int.emod_eq_of_lt (a := p2i r + 1 + r.b % ((r.x.k : Int) - 1) - r.x.k) (b := r.x.k) (by omega) (by omega)
    rw [← Int.sub_emod_right, this] at e0; omega
theorem q39 (r : sPH.α) (hr : sPH.pre r) : CallQ Tryd.prog E0 39 (sPH.arg r) (sPH.res r) := by
  obtain ⟨x, a, b, c⟩ := r
  refine bare_say E0_ok TBG TBG_ok [] EvensOk.nil runs { } (fuel := 8) ?_
  refine of_red (q := (decide ((↑x.k : Int) < (2 : Int)) = true → (True ∧ (0 : Int) = p2z { x := x, a := a, b := b, c := c } (p2i { x := x, a := a, b := b, c := c })) ∧ (True ∧ (0 : Int) = p2z { x := x, a := a, b := b, c := c } (p2k { x := x, a := a, b := b, c := c })) ∧ (True ∧ (0 : Int) = p2z { x := x, a := a, b := b, c := c } (p2h { x := x, a := a, b := b, c := c })) ∧ (True ∧ p2ok { x := x, a := a, b := b, c := c } = false) ∧ True) ∧ (decide ((↑x.k : Int) < (2 : Int)) = false → (0 : Int) ≤ (0 : Int) ∧ (0 : Int) < (↑(3 : Nat) : Int) ∧ ∃ (x_1 : Int × Int), ((True ∧ a = x_1.fst) ∧ (True ∧ (↑x.k : Int) = x_1.snd) ∧ True) ∧ ((0 : Int) < x_1.snd ∧ x_1.snd ≤ (9223372036854775807 : Int)) ∧ inRange IntKind.i64 (x_1.fst % x_1.snd + (1 : Int)) ∧ (0 : Int) ≤ (1 : Int) ∧ (1 : Int) < (↑(3 : Nat) : Int) ∧ inRange IntKind.i64 ((↑x.k : Int) - (1 : Int)) ∧ ∃ (x_2 : Int × Int), ((True ∧ b = x_2.fst) ∧ (True ∧ (↑x.k : Int) - (1 : Int) = x_2.snd) ∧ True) ∧ ((0 : Int) < x_2.snd ∧ x_2.snd ≤ (9223372036854775807 : Int)) ∧ inRange IntKind.i64 (x_1.fst % x_1.snd + (1 : Int) + x_2.fst % x_2.snd) ∧ ∃ (x_3 : Int × Int), ((True ∧ x_1.fst % x_1.snd + (1 : Int) + x_2.fst % x_2.snd = x_3.fst) ∧ (True ∧ (↑x.k : Int) = x_3.snd) ∧ True) ∧ ((0 : Int) < x_3.snd ∧ x_3.snd ≤ (9223372036854775807 : Int)) ∧ (0 : Int) ≤ x_1.fst % x_1.snd ∧ x_1.fst % x_1.snd < (↑x.k : Int) ∧ (0 : Int) ≤ x_3.fst % x_3.snd ∧ x_3.fst % x_3.snd < (↑x.k : Int) ∧ (0 : Int) ≤ x_1.fst % x_1.snd ∧ x_1.fst % x_1.snd < (↑x.k : Int) ∧ (0 : Int) ≤ x_3.fst % x_3.snd ∧ x_3.fst % x_3.snd < (↑x.k : Int) ∧ (decide (imin (x.net (x_1.fst % x_1.snd).toNat ((0 : Nat) + (nat_lit 4 + (1 : Nat)))) (x.net (x_3.fst % x_3.snd).toNat ((0 : Nat) + (nat_lit 4 + (1 : Nat)))) < imax (x.net (x_1.fst % x_1.snd).toNat ((0 : Nat) + (nat_lit 3 + (1 : Nat)))) (x.net (x_3.fst % x_3.snd).toNat ((0 : Nat) + (nat_lit 3 + (1 : Nat))))) = true → (True ∧ (0 : Int) = p2z { x := x, a := a, b := b, c := c } (p2i { x := x, a := a, b := b, c := c })) ∧ (True ∧ (0 : Int) = p2z { x := x, a := a, b := b, c := c } (p2k { x := x, a := a, b := b, c := c })) ∧ (True ∧ (0 : Int) = p2z { x := x, a := a, b := b, c := c } (p2h { x := x, a := a, b := b, c := c })) ∧ (True ∧ p2ok { x := x, a := a, b := b, c := c } = false) ∧ True) ∧ (decide (imin (x.net (x_1.fst % x_1.snd).toNat ((0 : Nat) + (nat_lit 4 + (1 : Nat)))) (x.net (x_3.fst % x_3.snd).toNat ((0 : Nat) + (nat_lit 4 + (1 : Nat)))) < imax (x.net (x_1.fst % x_1.snd).toNat ((0 : Nat) + (nat_lit 3 + (1 : Nat)))) (x.net (x_3.fst % x_3.snd).toNat ((0 : Nat) + (nat_lit 3 + (1 : Nat))))) = false → (0 : Int) ≤ (2 : Int) ∧ (2 : Int) < (↑(3 : Nat) : Int) ∧ ∃ (x_4 : Int × Int × Int), ((True ∧ imax (x.net (x_1.fst % x_1.snd).toNat ((0 : Nat) + (nat_lit 3 + (1 : Nat)))) (x.net (x_3.fst % x_3.snd).toNat ((0 : Nat) + (nat_lit 3 + (1 : Nat)))) = x_4.fst) ∧ (True ∧ imin (x.net (x_1.fst % x_1.snd).toNat ((0 : Nat) + (nat_lit 4 + (1 : Nat)))) (x.net (x_3.fst % x_3.snd).toNat ((0 : Nat) + (nat_lit 4 + (1 : Nat)))) = x_4.snd.fst) ∧ (True ∧ c = x_4.snd.snd) ∧ True) ∧ ((-100000 : Int) ≤ x_4.fst ∧ x_4.fst ≤ (100000 : Int) ∧ (-100000 : Int) ≤ x_4.snd.fst ∧ x_4.snd.fst ≤ (100000 : Int)) ∧ (True ∧ x_1.fst % x_1.snd = p2z { x := x, a := a, b := b, c := c } (p2i { x := x, a := a, b := b, c := c })) ∧ (True ∧ x_3.fst % x_3.snd = p2z { x := x, a := a, b := b, c := c } (p2k { x := x, a := a, b := b, c := c })) ∧ (True ∧ cho x_4.fst x_4.snd.fst x_4.snd.snd = p2z { x := x, a := a, b := b, c := c } (p2h { x := x, a := a, b := b, c := c })) ∧ (True ∧ p2ok { x := x, a := a, b := b, c := c } = true) ∧ True))) (by kernel_rfl) ?_
  simp only [true_and, and_true, inR, Prod.exists, Prod.forall, and_assoc, exists_and_left, exists_eq_left', exists_eq_left, forall_eq, exists_const, forall_const, loopN, loopM, fa2, fas, fas2, dup1, dup2, dup3, dup4, ite_true, exhs, exhn, exhz, exho, exs1, exn1, exz1, exo1, exs2, exn2, exz2, exo2, exs3, exn3, exz3, exo3, exs4, exn4, exz4, exo4, exs5, exn5, exz5, exo5, exs6, exn6, exz6, exo6, exs7, exn7, exz7, exo7, exs8, exn8, exz8, exo8, exs9, exn9, exz9, exo9, ex1, ex2, ex3, ex4, ex5, beqI, bneI, decide_true, Bool.true_and, decide_eq_true_eq, decide_eq_false_iff_not, ne_eq, Decidable.not_not]
  obtain ⟨hc, w1, w2, w3⟩ := (show Nm.chk x = true ∧ x.wf from hr)
  obtain ⟨s1, s2, s3, s4, s5, s6, s7⟩ := chk_size hc
  refine ⟨fun h => ?_, fun h => ?_⟩
  · have e : p2ok ⟨x, a, b, c⟩ = false := by
      unfold p2ok; rw [Bool.and_eq_false_iff]; exact .inl (decide_eq_false (by show ¬ 2 ≤ x.k; omega))
    unfold p2z
    rw [e]
    exact ⟨rfl, rfl, rfl, rfl⟩
  · obtain ⟨⟨i1, i2⟩, ⟨k1, k2⟩, _⟩ := p2_bd (r := ⟨x, a, b, c⟩) (show 2 ≤ x.k by omega)
    have b1 := Int.emod_nonneg b (show (x.k : Int) - 1 ≠ 0 by omega)
    have b2 := Int.emod_lt_of_pos b (show 0 < (x.k : Int) - 1 by omega)
    have i1 : 0 ≤ a % (x.k : Int) := i1
    have i2 : a % (x.k : Int) < x.k := i2
    have k1 : 0 ≤ (a % (x.k : Int) + 1 + b % ((x.k : Int) - 1)) % (x.k : Int) := k1
    have k2 : (a % (x.k : Int) + 1 + b % ((x.k : Int) - 1)) % (x.k : Int) < x.k := k2
    obtain ⟨_, _, _, _, ⟨c1, c2⟩, ⟨c3, c4⟩, _⟩ := chk_net hc (show (a % (x.k : Int)).toNat < x.k by omega)
    obtain ⟨_, _, _, _, ⟨d1, d2⟩, ⟨d3, d4⟩, _⟩ := chk_net hc (show ((a % (x.k : Int) + 1 + b % ((x.k : Int) - 1)) % (x.k : Int)).toNat < x.k by omega)
    have fb : -100000 ≤ p2f ⟨x, a, b, c⟩ ∧ p2f ⟨x, a, b, c⟩ ≤ 100000 := by
      show -100000 ≤ imax (x.net (a % (x.k : Int)).toNat 4) (x.net ((a % (x.k : Int) + 1 + b % ((x.k : Int) - 1)) % (x.k : Int)).toNat 4) ∧ imax (x.net (a % (x.k : Int)).toNat 4) (x.net ((a % (x.k : Int) + 1 + b % ((x.k : Int) - 1)) % (x.k : Int)).toNat 4) ≤ 100000
      unfold imax; split <;> omega
    have lb : -100000 ≤ p2l ⟨x, a, b, c⟩ ∧ p2l ⟨x, a, b, c⟩ ≤ 100000 := by
      show -100000 ≤ imin (x.net (a % (x.k : Int)).toNat 5) (x.net ((a % (x.k : Int) + 1 + b % ((x.k : Int) - 1)) % (x.k : Int)).toNat 5) ∧ imin (x.net (a % (x.k : Int)).toNat 5) (x.net ((a % (x.k : Int) + 1 + b % ((x.k : Int) - 1)) % (x.k : Int)).toNat 5) ≤ 100000
      unfold imin; split <;> omega
    refine ⟨by omega, by omega, by omega, by omega, by omega, by omega, by omega, by omega, by omega, by omega, by omega, by omega, by omega, by omega, by omega, by omega, i1, i2, k1, k2, i1, i2, k1, k2, fun g => ?_, fun g => ?_⟩
    · have g : p2l ⟨x, a, b, c⟩ < p2f ⟨x, a, b, c⟩ := g
      have e : p2ok ⟨x, a, b, c⟩ = false := by
        unfold p2ok; rw [Bool.and_eq_false_iff]; exact .inr (decide_eq_false (by omega))
      unfold p2z
      rw [e]
      exact ⟨rfl, rfl, rfl, rfl⟩
    · have g : ¬ p2l ⟨x, a, b, c⟩ < p2f ⟨x, a, b, c⟩ := g
      have e : p2ok ⟨x, a, b, c⟩ = true := by
        unfold p2ok; rw [Bool.and_eq_true]; exact ⟨decide_eq_true (show 2 ≤ x.k by omega), decide_eq_true (by omega)⟩
      unfold p2z
      rw [e]
      exact ⟨by omega, by omega, fb.1, fb.2, lb.1, lb.2, rfl, rfl, rfl, rfl⟩
end Go.Proofs.YtcfmdhlohahhcaaDoor
set_option linter.unusedSimpArgs false
set_option linter.unusedVariables false
namespace Go.Proofs.YtcfmdhlohahhcaaDoor
open Go Go.Sx Nm
set_option maxRecDepth 100000
theorem li_ok {x : Fleet} {t : Truth} {i h : Nat} (hc : Nm.chk x = true) (ht : trOk x t = true) (hl : lyB x i h = true) : liErr x t i h = 0 ∧ ∀ z, liR x t i h z = z := by
  have e : liErr x t i h = 0 := by unfold liErr; rw [if_pos hc, if_pos ht, if_pos hl]
  exact ⟨e, fun z => by unfold liR; rw [if_pos e]⟩
theorem aq_ok {x : Fleet} {i k h : Nat} (hc : Nm.chk x = true) (hik : i ≠ k) (l1 : lyB x i h = true) (l2 : lyB x k h = true) : aqE ⟨x, i, k, h⟩ = 0 ∧ ∀ z, aqR ⟨x, i, k, h⟩ z = z := by
  have e : aqE ⟨x, i, k, h⟩ = 0 := by
    unfold aqE
    rw [if_pos hc, if_neg (by show ¬ (i : Int) = k; omega), if_pos l1, if_pos l2]
  exact ⟨e, fun z => by unfold aqR; rw [if_pos e]⟩
theorem li_bd {x : Fleet} {t : Truth} {k h : Nat} (hc : Nm.chk x = true) (ht : trOk x t = true) (hl : lyB x k h = true) : (-20000 ≤ liP x t.e t.se 0 k h ∧ liP x t.e t.se 0 k h ≤ 20000) ∧ -20000 ≤ liP x t.n t.sn 1 k h ∧ liP x t.n t.sn 1 k h ≤ 20000 := by
  obtain ⟨hk, h4, h5⟩ := ly_iff.1 hl
  obtain ⟨s1, s2, s3, s4, s5, s6, s7⟩ := chk_size hc
  obtain ⟨n1, n2, _, _, ⟨n3, n4⟩, ⟨n5, n6⟩, _⟩ := chk_net hc hk
  obtain ⟨⟨_, te⟩, ⟨_, tse⟩, ⟨_, tn⟩, _, tsn⟩ := trOk_get hc ht
  have e : (h : Int) = x.net k 4 + ((h : Int) - x.net k 4).toNat := by omega
  rw [e]
  exact ⟨liQ_bd n1 (tse k hk) (by omega) (fun j hj => te _ (by omega)), liQ_bd n2 (tsn k hk) (by omega) (fun j hj => tn _ (by omega))⟩
theorem ra_bd {r : RAsk} (h : r.ok) : (-50000 ≤ raLo r ∧ raLo r ≤ 50000) ∧ -50000 ≤ raHi r ∧ raHi r ≤ 50000 := by
  obtain ⟨h1, h2, h3, h4, h5, h6, h7, h8⟩ := h
  have a := r_bd (f := r.f) (H := r.n) h3 (A := r.a 4) (B := r.b 4) h1 (by omega)
  have b := t_bd (n := (r.h : Int) - r.a 4) h5.1 h5.2.1 h5.2.2 (by omega) (by omega)
  have c := t_bd (n := r.b 4 - (r.h : Int)) h6.1 h6.2.1 h6.2.2 (by omega) (by omega)
  unfold raLo raHi
  omega
theorem p2_is {r : PAsk2} (hc : Nm.chk r.x = true) (h : p2ok r = true) : ∃ i k f h : Nat, p2z r (p2i r) = i ∧ p2z r (p2k r) = k ∧ p2z r (p2h r) = h ∧ imax (r.x.net i 4) (r.x.net k 4) = f ∧ i < r.x.k ∧ k < r.x.k ∧ i ≠ k ∧ f ≤ h ∧ h ≤ 24 ∧ lyB r.x i h = true ∧ lyB r.x k h = true ∧ lyB r.x i f = true ∧ lyB r.x k f = true := by
  have h0 := h
  unfold p2ok at h0
  rw [Bool.and_eq_true, decide_eq_true_eq, decide_eq_true_eq] at h0
  obtain ⟨hk, hfl⟩ := h0
  obtain ⟨⟨i1, i2⟩, ⟨k1, k2⟩, ne⟩ := p2_bd hk
  obtain ⟨_, s2, _⟩ := chk_size hc
  obtain ⟨_, _, _, _, ⟨c1, c2⟩, ⟨c3, c4⟩, _⟩ := chk_net hc (show (p2i r).toNat < r.x.k by omega)
  obtain ⟨_, _, _, _, ⟨d1, d2⟩, ⟨d3, d4⟩, _⟩ := chk_net hc (show (p2k r).toNat < r.x.k by omega)
  have z : ∀ v, p2z r v = v := fun v => by unfold p2z; rw [if_pos h]
  obtain ⟨g1, g2⟩ := cho_in (n := r.c) hfl
  have f0 : (r.x.net (p2i r).toNat 4 ≤ p2f r ∧ r.x.net (p2k r).toNat 4 ≤ p2f r) ∧ 0 ≤ p2f r := by unfold p2f imax; split <;> omega
  have l0 : (p2l r ≤ r.x.net (p2i r).toNat 5 ∧ p2l r ≤ r.x.net (p2k r).toNat 5) ∧ p2l r ≤ 24 := by unfold p2l imin; split <;> omega
  have g1 : p2f r ≤ p2h r := g1
  have g2 : p2h r ≤ p2l r := g2
  refine ⟨(p2i r).toNat, (p2k r).toNat, (p2f r).toNat, (p2h r).toNat, by rw [z]; omega, by rw [z]; omega, by rw [z]; omega, ?_, by omega, by omega, by omega, by omega, by omega, ly_iff.2 ⟨by omega, by omega, by omega⟩, ly_iff.2 ⟨by omega, by omega, by omega⟩, ly_iff.2 ⟨by omega, by omega, by omega⟩, ly_iff.2 ⟨by omega, by omega, by omega⟩⟩
  show p2f r = _
  omega
end Go.Proofs.YtcfmdhlohahhcaaDoor
set_option linter.unusedSimpArgs false
set_option linter.unusedVariables false
namespace Go.Proofs.YtcfmdhlohahhcaaDoor
open Go Go.Sx Nm
set_option maxRecDepth 100000
end Go.Proofs.YtcfmdhlohahhcaaDoor
set_option linter.unusedSimpArgs false
set_option linter.unusedVariables false
namespace Go.Proofs.YtcfmdhlohahhcaaDoor
open Go Go.Sx Nm
set_option maxRecDepth 100000
set_option maxHeartbeats 1000000
end Go.Proofs.YtcfmdhlohahhcaaDoor
set_option linter.unusedSimpArgs false
set_option linter.unusedVariables false
namespace Go.Proofs.YtcfmdhlohahhcaaDoor
open Go Go.Sx Nm
set_option maxRecDepth 100000
set_option maxHeartbeats 1000000
structure EnAsk where
  x : Fleet
  i : Nat
  k : Nat
  h : Nat
  b : Bool
def enB (r : EnAsk) (j : Nat) : Bool := decide (r.x.net r.i 4 ≤ j) && decide ((j : Int) < r.x.net r.k 4)
def enE (r : EnAsk) (g j : Nat) : Int := if j < g then (if enB r j != r.b then r.x.e j 1 else r.x.e j 0) else chE r.x 0 (fun _ => 0) j
def sEnd : Sig := ⟨EnAsk, fun r => [fleetTV r.x, intC r.i, intC r.k, intC r.h, .c (.bool r.b)], fun r => Nm.chk r.x = true ∧ r.x.wf ∧ r.i < r.x.k ∧ r.k < r.x.k ∧ r.i ≠ r.k ∧ r.h ≤ r.x.hE, fun r => [.v (truthTV ⟨r.x.hE, enE r r.h, r.x.hE, chN r.x 0 (fun _ => 0), r.x.k, fun j => if j = r.k then (if r.b then r.x.net r.k 7 else r.x.net r.k 6) else if j = r.i then (if r.b then r.x.net r.i 6 else r.x.net r.i 7) else chSE r.x 0 (fun _ => 0) j, r.x.k, chSN r.x 0 (fun _ => 0)⟩)]⟩
def aEnd (r : EnAsk) : Ann := { G := Nat, ok := fun _ g => g ≤ r.h, dom := fun st => [bxN st 11 0], tm := fun _ g => [(12, .t (intC g))], hp := fun st g => [(bxN st 11 0, .self, some (.row 3 1 r.x.hE (fun j _ => .int .i64 (enE r g j))))], mu := fun _ g => r.h - g }
theorem en_step {r : EnAsk} {g : Nat} {v : Int} (hv : v = if (enB r g != r.b) = true then r.x.e g 1 else r.x.e g 0) (j : Nat) : (if j = g then v else enE r g j) = enE r (g + 1) j := by
  unfold enE
  by_cases c : j = g
  · subst c; rw [if_pos rfl, if_pos (show j < j + 1 by omega), hv]
  · rw [if_neg c]
    by_cases d : j < g
    · rw [if_pos d, if_pos (show j < g + 1 by omega)]
    · rw [if_neg d, if_neg (show ¬ j < g + 1 by omega)]
theorem q42 (r : sEnd.α) (hr : sEnd.pre r) : CallQ Tryd.prog E0 42 (sEnd.arg r) (sEnd.res r) := by
  obtain ⟨x, i, k, h, b⟩ := r
  refine bare_say E0_ok TBE TBE_ok [] EvensOk.nil runs { live := true, l := [(37, 3, aCh1 x 0 (fun _ => 0)), (37, 8, aCh2 x 0 (fun _ => 0)), (42, 3, aEnd ⟨x, i, k, h, b⟩)], o := [(37, 5, fun st => [(osN (st.tm 5), [21]), (bxN st 5 0, [19])]), (37, 6, fun st => [(osN (st.tm 5), [22]), (bxN st 5 1, [20])]), (37, 11, fun st => [(osN (st.tm 5), [16]), (bxN st 5 2, [14])]), (37, 12, fun st => [(osN (st.tm 5), [16]), (bxN st 5 3, [14])]), (42, 7, fun st => [(bxN st 11 0, [10])]), (42, 8, fun st => [(bxN st 11 0, [10])]), (42, 11, fun st => [(bxN st 11 2, [11, 13])]), (42, 12, fun st => [(bxN st 11 2, [11, 13])])] } (fuel := 10) ?_
  refine of_red (q := (∃ (g : Nat), g ≤ x.hE ∧ True ∧ ((True ∧ (0 : Int) = (↑g : Int)) ∧ True) ∧ (True ∧ (((True ∧ True ∧ g = (0 : Nat)) ∧ True ∧ g = (0 : Nat)) ∧ True ∧ True) ∧ True ∧ True) ∧ g = (0 : Nat) ∧ g = (0 : Nat) ∧ True) ∧ ∀ (g : Nat), g ≤ x.hE → (decide ((↑g : Int) < (↑x.hE : Int)) = true → (0 : Int) ≤ (↑g : Int) ∧ (↑g : Int) < (↑x.hE : Int) ∧ (0 : Int) ≤ (↑g : Int) ∧ (↑g : Int) < (↑x.hE : Int) ∧ ∃ (x_1 : Nat × (Nat → Int) × Int), ((True ∧ x_1.fst = (0 : Nat)) ∧ (True ∧ (↑g : Int) = x_1.snd.snd) ∧ True) ∧ x_1.fst < (4611686018427387904 : Nat) ∧ ∃ (x_2 : Int × Int × Int), ((True ∧ x.e g (0 : Nat) = x_2.fst) ∧ (True ∧ x.e g ((0 : Nat) + (nat_lit 0 + (1 : Nat))) = x_2.snd.fst) ∧ (True ∧ pk x_1.snd.fst x_1.fst x_1.snd.snd = x_2.snd.snd) ∧ True) ∧ ((-100000 : Int) ≤ x_2.fst ∧ x_2.fst ≤ (100000 : Int) ∧ (-100000 : Int) ≤ x_2.snd.fst ∧ x_2.snd.fst ≤ (100000 : Int)) ∧ (g + (1 : Nat)) * (8 : Nat) ≤ (140737488355328 : Nat) ∧ g + (1 : Nat) < (4611686018427387904 : Nat) ∧ (0 : Int) ≤ (↑g : Int) ∧ (↑g : Int) < (↑x.hN : Int) ∧ (0 : Int) ≤ (↑g : Int) ∧ (↑g : Int) < (↑x.hN : Int) ∧ inRange IntKind.i64 ((↑g : Int) + (3 : Int)) ∧ ∃ (x_3 : Nat × (Nat → Int) × Int), ((True ∧ x_3.fst = (0 : Nat)) ∧ (True ∧ (↑g : Int) + (3 : Int) = x_3.snd.snd) ∧ True) ∧ x_3.fst < (4611686018427387904 : Nat) ∧ ∃ (x_4 : Int × Int × Int), ((True ∧ x.n g (0 : Nat) = x_4.fst) ∧ (True ∧ x.n g ((0 : Nat) + (nat_lit 0 + (1 : Nat))) = x_4.snd.fst) ∧ (True ∧ pk x_3.snd.fst x_3.fst x_3.snd.snd = x_4.snd.snd) ∧ True) ∧ ((-100000 : Int) ≤ x_4.fst ∧ x_4.fst ≤ (100000 : Int) ∧ (-100000 : Int) ≤ x_4.snd.fst ∧ x_4.snd.fst ≤ (100000 : Int)) ∧ (g + (1 : Nat)) * (8 : Nat) ≤ (140737488355328 : Nat) ∧ g + (1 : Nat) < (4611686018427387904 : Nat) ∧ inRange IntKind.i64 ((↑g : Int) + (1 : Int)) ∧ ∃ (g' : Nat), g' ≤ x.hE ∧ x.hE - g' < x.hE - g ∧ True ∧ ((True ∧ (↑g : Int) + (1 : Int) = (↑g' : Int)) ∧ True) ∧ (True ∧ (((True ∧ True ∧ True ∧ g + (1 : Nat) = g') ∧ True ∧ True ∧ g + (1 : Nat) = g') ∧ True ∧ True) ∧ True ∧ True) ∧ (True ∧ True ∧ g + (1 : Nat) = g' ∧ ∀ (i : Nat), i < g + (1 : Nat) → True ∧ (if i < g then chE x (0 : Nat) (fun (x : Nat) => (0 : Int)) i else if i - g = (0 : Nat) then cho x_2.fst x_2.snd.fst x_2.snd.snd else (0 : Int)) = chE x (0 : Nat) (fun (x : Nat) => (0 : Int)) i) ∧ (True ∧ True ∧ g + (1 : Nat) = g' ∧ ∀ (i : Nat), i < g + (1 : Nat) → True ∧ (if i < g then chN x (0 : Nat) (fun (x : Nat) => (0 : Int)) i else if i - g = (0 : Nat) then cho x_4.fst x_4.snd.fst x_4.snd.snd else (0 : Int)) = chN x (0 : Nat) (fun (x : Nat) => (0 : Int)) i) ∧ True) ∧ (decide ((↑g : Int) < (↑x.hE : Int)) = false → (∃ (g_1 : Nat), g_1 ≤ x.k ∧ True ∧ ((True ∧ (0 : Int) = (↑g_1 : Int)) ∧ True) ∧ (True ∧ (((True ∧ True ∧ True ∧ g = g) ∧ True ∧ True ∧ g = g) ∧ True ∧ g_1 = (0 : Nat)) ∧ True ∧ g_1 = (0 : Nat)) ∧ g_1 = (0 : Nat) ∧ g_1 = (0 : Nat) ∧ True) ∧ ∀ (g_1 : Nat), g_1 ≤ x.k → (decide ((↑g_1 : Int) < (↑x.k : Int)) = true → (0 : Int) ≤ (↑g_1 : Int) ∧ (↑g_1 : Int) < (↑x.k : Int) ∧ inRange IntKind.i64 ((↑g_1 : Int) + (5 : Int)) ∧ ∃ (x_1 : Nat × (Nat → Int) × Int), ((True ∧ x_1.fst = (0 : Nat)) ∧ (True ∧ (↑g_1 : Int) + (5 : Int) = x_1.snd.snd) ∧ True) ∧ x_1.fst < (4611686018427387904 : Nat) ∧ ∃ (x_2 : Int × Int × Int), ((True ∧ x.net g_1 ((0 : Nat) + (nat_lit 5 + (1 : Nat))) = x_2.fst) ∧ (True ∧ x.net g_1 ((0 : Nat) + (nat_lit 6 + (1 : Nat))) = x_2.snd.fst) ∧ (True ∧ pk x_1.snd.fst x_1.fst x_1.snd.snd = x_2.snd.snd) ∧ True) ∧ ((-100000 : Int) ≤ x_2.fst ∧ x_2.fst ≤ (100000 : Int) ∧ (-100000 : Int) ≤ x_2.snd.fst ∧ x_2.snd.fst ≤ (100000 : Int)) ∧ (g_1 + (1 : Nat)) * (8 : Nat) ≤ (140737488355328 : Nat) ∧ g_1 + (1 : Nat) < (4611686018427387904 : Nat) ∧ inRange IntKind.i64 ((↑g_1 : Int) + (8 : Int)) ∧ ∃ (x_3 : Nat × (Nat → Int) × Int), ((True ∧ x_3.fst = (0 : Nat)) ∧ (True ∧ (↑g_1 : Int) + (8 : Int) = x_3.snd.snd) ∧ True) ∧ x_3.fst < (4611686018427387904 : Nat) ∧ ∃ (x_4 : Int × Int × Int), ((True ∧ x.net g_1 ((0 : Nat) + (nat_lit 7 + (1 : Nat))) = x_4.fst) ∧ (True ∧ x.net g_1 ((0 : Nat) + (nat_lit 8 + (1 : Nat))) = x_4.snd.fst) ∧ (True ∧ pk x_3.snd.fst x_3.fst x_3.snd.snd = x_4.snd.snd) ∧ True) ∧ ((-100000 : Int) ≤ x_4.fst ∧ x_4.fst ≤ (100000 : Int) ∧ (-100000 : Int) ≤ x_4.snd.fst ∧ x_4.snd.fst ≤ (100000 : Int)) ∧ (g_1 + (1 : Nat)) * (8 : Nat) ≤ (140737488355328 : Nat) ∧ g_1 + (1 : Nat) < (4611686018427387904 : Nat) ∧ inRange IntKind.i64 ((↑g_1 : Int) + (1 : Int)) ∧ ∃ (g' : Nat), g' ≤ x.k ∧ x.k - g' < x.k - g_1 ∧ True ∧ ((True ∧ (↑g_1 : Int) + (1 : Int) = (↑g' : Int)) ∧ True) ∧ (True ∧ (((True ∧ True ∧ True ∧ g = g) ∧ True ∧ True ∧ g = g) ∧ True ∧ True ∧ g_1 + (1 : Nat) = g') ∧ True ∧ True ∧ g_1 + (1 : Nat) = g') ∧ (True ∧ True ∧ g_1 + (1 : Nat) = g' ∧ ∀ (i : Nat), i < g_1 + (1 : Nat) → True ∧ (if i < g_1 then chSE x (0 : Nat) (fun (x : Nat) => (0 : Int)) i else if i - g_1 = (0 : Nat) then cho x_2.fst x_2.snd.fst x_2.snd.snd else (0 : Int)) = chSE x (0 : Nat) (fun (x : Nat) => (0 : Int)) i) ∧ (True ∧ True ∧ g_1 + (1 : Nat) = g' ∧ ∀ (i : Nat), i < g_1 + (1 : Nat) → True ∧ (if i < g_1 then chSN x (0 : Nat) (fun (x : Nat) => (0 : Int)) i else if i - g_1 = (0 : Nat) then cho x_4.fst x_4.snd.fst x_4.snd.snd else (0 : Int)) = chSN x (0 : Nat) (fun (x : Nat) => (0 : Int)) i) ∧ True) ∧ (decide ((↑g_1 : Int) < (↑x.k : Int)) = false → (∃ (g_2 : Nat), g_2 ≤ h ∧ True ∧ ((True ∧ (0 : Int) = (↑g_2 : Int)) ∧ True) ∧ (True ∧ True ∧ g = x.hE ∧ ∀ (i_1 : Nat), i_1 < g → True ∧ chE x (0 : Nat) (fun (x : Nat) => (0 : Int)) i_1 = enE { x := x, i := i, k := k, h := h, b := b } g_2 i_1) ∧ True) ∧ ∀ (g_2 : Nat), g_2 ≤ h → (decide ((↑g_2 : Int) < (↑x.hE : Int)) = true → (decide ((↑g_2 : Int) < (↑h : Int)) = true → (0 : Int) ≤ (↑i : Int) ∧ (↑i : Int) < (↑x.k : Int) ∧ (decide (x.net i ((0 : Nat) + (nat_lit 3 + (1 : Nat))) ≤ (↑g_2 : Int)) = true → (0 : Int) ≤ (↑k : Int) ∧ (↑k : Int) < (↑x.k : Int) ∧ ((!decide ((↑g_2 : Int) < x.net k ((0 : Nat) + (nat_lit 3 + (1 : Nat)))) == b) = true → (0 : Int) ≤ (↑g_2 : Int) ∧ (↑g_2 : Int) < (↑x.hE : Int) ∧ (0 : Int) ≤ (↑g_2 : Int) ∧ (↑g_2 : Int) < (↑g : Int) ∧ inRange IntKind.i64 ((↑g_2 : Int) + (1 : Int)) ∧ ∃ (g' : Nat), g' ≤ h ∧ h - g' < h - g_2 ∧ True ∧ ((True ∧ (↑g_2 : Int) + (1 : Int) = (↑g' : Int)) ∧ True) ∧ (True ∧ True ∧ x.hE = x.hE ∧ ∀ (i_1 : Nat), i_1 < x.hE → True ∧ (if i_1 = g_2 then x.e g_2 ((0 : Nat) + (nat_lit 0 + (1 : Nat))) else enE { x := x, i := i, k := k, h := h, b := b } g_2 i_1) = enE { x := x, i := i, k := k, h := h, b := b } g' i_1) ∧ True) ∧ ((!decide ((↑g_2 : Int) < x.net k ((0 : Nat) + (nat_lit 3 + (1 : Nat)))) == b) = false → (0 : Int) ≤ (↑g_2 : Int) ∧ (↑g_2 : Int) < (↑x.hE : Int) ∧ (0 : Int) ≤ (↑g_2 : Int) ∧ (↑g_2 : Int) < (↑g : Int) ∧ inRange IntKind.i64 ((↑g_2 : Int) + (1 : Int)) ∧ ∃ (g' : Nat), g' ≤ h ∧ h - g' < h - g_2 ∧ True ∧ ((True ∧ (↑g_2 : Int) + (1 : Int) = (↑g' : Int)) ∧ True) ∧ (True ∧ True ∧ x.hE = x.hE ∧ ∀ (i_1 : Nat), i_1 < x.hE → True ∧ (if i_1 = g_2 then x.e g_2 (0 : Nat) else enE { x := x, i := i, k := k, h := h, b := b } g_2 i_1) = enE { x := x, i := i, k := k, h := h, b := b } g' i_1) ∧ True)) ∧ (decide (x.net i ((0 : Nat) + (nat_lit 3 + (1 : Nat))) ≤ (↑g_2 : Int)) = false → ((!false == b) = true → (0 : Int) ≤ (↑g_2 : Int) ∧ (↑g_2 : Int) < (↑x.hE : Int) ∧ (0 : Int) ≤ (↑g_2 : Int) ∧ (↑g_2 : Int) < (↑g : Int) ∧ inRange IntKind.i64 ((↑g_2 : Int) + (1 : Int)) ∧ ∃ (g' : Nat), g' ≤ h ∧ h - g' < h - g_2 ∧ True ∧ ((True ∧ (↑g_2 : Int) + (1 : Int) = (↑g' : Int)) ∧ True) ∧ (True ∧ True ∧ x.hE = x.hE ∧ ∀ (i_1 : Nat), i_1 < x.hE → True ∧ (if i_1 = g_2 then x.e g_2 ((0 : Nat) + (nat_lit 0 + (1 : Nat))) else enE { x := x, i := i, k := k, h := h, b := b } g_2 i_1) = enE { x := x, i := i, k := k, h := h, b := b } g' i_1) ∧ True) ∧ ((!false == b) = false → (0 : Int) ≤ (↑g_2 : Int) ∧ (↑g_2 : Int) < (↑x.hE : Int) ∧ (0 : Int) ≤ (↑g_2 : Int) ∧ (↑g_2 : Int) < (↑g : Int) ∧ inRange IntKind.i64 ((↑g_2 : Int) + (1 : Int)) ∧ ∃ (g' : Nat), g' ≤ h ∧ h - g' < h - g_2 ∧ True ∧ ((True ∧ (↑g_2 : Int) + (1 : Int) = (↑g' : Int)) ∧ True) ∧ (True ∧ True ∧ x.hE = x.hE ∧ ∀ (i_1 : Nat), i_1 < x.hE → True ∧ (if i_1 = g_2 then x.e g_2 (0 : Nat) else enE { x := x, i := i, k := k, h := h, b := b } g_2 i_1) = enE { x := x, i := i, k := k, h := h, b := b } g' i_1) ∧ True))) ∧ (decide ((↑g_2 : Int) < (↑h : Int)) = false → (0 : Int) ≤ (↑i : Int) ∧ (↑i : Int) < (↑x.k : Int) ∧ (0 : Int) ≤ (↑k : Int) ∧ (↑k : Int) < (↑x.k : Int) ∧ (b = true → (0 : Int) ≤ (↑i : Int) ∧ (↑i : Int) < (↑g_1 : Int) ∧ (0 : Int) ≤ (↑k : Int) ∧ (↑k : Int) < (↑g_1 : Int) ∧ True ∧ (((True ∧ True ∧ True ∧ x.hE = x.hE ∧ ∀ (i_1 : Nat), i_1 < x.hE → True ∧ enE { x := x, i := i, k := k, h := h, b := b } g_2 i_1 = enE { x := x, i := i, k := k, h := h, b := b } h i_1) ∧ True ∧ True ∧ g = x.hE ∧ ∀ (i : Nat), i < g → True ∧ chN x (0 : Nat) (fun (x : Nat) => (0 : Int)) i = chN x (0 : Nat) (fun (x : Nat) => (0 : Int)) i) ∧ True ∧ True ∧ g_1 = x.k ∧ ∀ (i_1 : Nat), i_1 < g_1 → True ∧ (if i_1 = k then x.net k ((0 : Nat) + (nat_lit 0 + (1 : Nat)) + (nat_lit 5 + (1 : Nat))) else if i_1 = i then x.net i ((0 : Nat) + (nat_lit 5 + (1 : Nat))) else chSE x (0 : Nat) (fun (x : Nat) => (0 : Int)) i_1) = if i_1 = k then if b = true then x.net k (7 : Nat) else x.net k (6 : Nat) else if i_1 = i then if b = true then x.net i (6 : Nat) else x.net i (7 : Nat) else chSE x (0 : Nat) (fun (x : Nat) => (0 : Int)) i_1) ∧ True ∧ True ∧ g_1 = x.k ∧ ∀ (i : Nat), i < g_1 → True ∧ chSN x (0 : Nat) (fun (x : Nat) => (0 : Int)) i = chSN x (0 : Nat) (fun (x : Nat) => (0 : Int)) i) ∧ (b = false → (0 : Int) ≤ (↑i : Int) ∧ (↑i : Int) < (↑g_1 : Int) ∧ (0 : Int) ≤ (↑k : Int) ∧ (↑k : Int) < (↑g_1 : Int) ∧ True ∧ (((True ∧ True ∧ True ∧ x.hE = x.hE ∧ ∀ (i_1 : Nat), i_1 < x.hE → True ∧ enE { x := x, i := i, k := k, h := h, b := b } g_2 i_1 = enE { x := x, i := i, k := k, h := h, b := b } h i_1) ∧ True ∧ True ∧ g = x.hE ∧ ∀ (i : Nat), i < g → True ∧ chN x (0 : Nat) (fun (x : Nat) => (0 : Int)) i = chN x (0 : Nat) (fun (x : Nat) => (0 : Int)) i) ∧ True ∧ True ∧ g_1 = x.k ∧ ∀ (i_1 : Nat), i_1 < g_1 → True ∧ (if i_1 = k then x.net k ((0 : Nat) + (nat_lit 5 + (1 : Nat))) else if i_1 = i then x.net i ((0 : Nat) + (nat_lit 0 + (1 : Nat)) + (nat_lit 5 + (1 : Nat))) else chSE x (0 : Nat) (fun (x : Nat) => (0 : Int)) i_1) = if i_1 = k then if b = true then x.net k (7 : Nat) else x.net k (6 : Nat) else if i_1 = i then if b = true then x.net i (6 : Nat) else x.net i (7 : Nat) else chSE x (0 : Nat) (fun (x : Nat) => (0 : Int)) i_1) ∧ True ∧ True ∧ g_1 = x.k ∧ ∀ (i : Nat), i < g_1 → True ∧ chSN x (0 : Nat) (fun (x : Nat) => (0 : Int)) i = chSN x (0 : Nat) (fun (x : Nat) => (0 : Int)) i))) ∧ (decide ((↑g_2 : Int) < (↑x.hE : Int)) = false → (0 : Int) ≤ (↑i : Int) ∧ (↑i : Int) < (↑x.k : Int) ∧ (0 : Int) ≤ (↑k : Int) ∧ (↑k : Int) < (↑x.k : Int) ∧ (b = true → (0 : Int) ≤ (↑i : Int) ∧ (↑i : Int) < (↑g_1 : Int) ∧ (0 : Int) ≤ (↑k : Int) ∧ (↑k : Int) < (↑g_1 : Int) ∧ True ∧ (((True ∧ True ∧ True ∧ x.hE = x.hE ∧ ∀ (i_1 : Nat), i_1 < x.hE → True ∧ enE { x := x, i := i, k := k, h := h, b := b } g_2 i_1 = enE { x := x, i := i, k := k, h := h, b := b } h i_1) ∧ True ∧ True ∧ g = x.hE ∧ ∀ (i : Nat), i < g → True ∧ chN x (0 : Nat) (fun (x : Nat) => (0 : Int)) i = chN x (0 : Nat) (fun (x : Nat) => (0 : Int)) i) ∧ True ∧ True ∧ g_1 = x.k ∧ ∀ (i_1 : Nat), i_1 < g_1 → True ∧ (if i_1 = k then x.net k ((0 : Nat) + (nat_lit 0 + (1 : Nat)) + (nat_lit 5 + (1 : Nat))) else if i_1 = i then x.net i ((0 : Nat) + (nat_lit 5 + (1 : Nat))) else chSE x (0 : Nat) (fun (x : Nat) => (0 : Int)) i_1) = if i_1 = k then if b = true then x.net k (7 : Nat) else x.net k (6 : Nat) else if i_1 = i then if b = true then x.net i (6 : Nat) else x.net i (7 : Nat) else chSE x (0 : Nat) (fun (x : Nat) => (0 : Int)) i_1) ∧ True ∧ True ∧ g_1 = x.k ∧ ∀ (i : Nat), i < g_1 → True ∧ chSN x (0 : Nat) (fun (x : Nat) => (0 : Int)) i = chSN x (0 : Nat) (fun (x : Nat) => (0 : Int)) i) ∧ (b = false → (0 : Int) ≤ (↑i : Int) ∧ (↑i : Int) < (↑g_1 : Int) ∧ (0 : Int) ≤ (↑k : Int) ∧ (↑k : Int) < (↑g_1 : Int) ∧ True ∧ (((True ∧ True ∧ True ∧ x.hE = x.hE ∧ ∀ (i_1 : Nat), i_1 < x.hE → True ∧ enE { x := x, i := i, k := k, h := h, b := b } g_2 i_1 = enE { x := x, i := i, k := k, h := h, b := b } h i_1) ∧ True ∧ True ∧ g = x.hE ∧ ∀ (i : Nat), i < g → True ∧ chN x (0 : Nat) (fun (x : Nat) => (0 : Int)) i = chN x (0 : Nat) (fun (x : Nat) => (0 : Int)) i) ∧ True ∧ True ∧ g_1 = x.k ∧ ∀ (i_1 : Nat), i_1 < g_1 → True ∧ (if i_1 = k then x.net k ((0 : Nat) + (nat_lit 5 + (1 : Nat))) else if i_1 = i then x.net i ((0 : Nat) + (nat_lit 0 + (1 : Nat)) + (nat_lit 5 + (1 : Nat))) else chSE x (0 : Nat) (fun (x : Nat) => (0 : Int)) i_1) = if i_1 = k then if b = true then x.net k (7 : Nat) else x.net k (6 : Nat) else if i_1 = i then if b = true then x.net i (6 : Nat) else x.net i (7 : Nat) else chSE x (0 : Nat) (fun (x : Nat) => (0 : Int)) i_1) ∧ True ∧ True ∧ g_1 = x.k ∧ ∀ (i : Nat), i < g_1 → True ∧ chSN x (0 : Nat) (fun (x : Nat) => (0 : Int)) i = chSN x (0 : Nat) (fun (x : Nat) => (0 : Int)) i))))) (by kernel_rfl) ?_
  simp only [true_and, and_true, inR, Prod.exists, Prod.forall, and_assoc, exists_and_left, exists_eq_left', exists_eq_left, forall_eq, exists_const, forall_const, loopN, loopM, fa2, fas, fas2, dup1, dup2, dup3, dup4, ite_true, exhs, exhn, exhz, exho, exs1, exn1, exz1, exo1, exs2, exn2, exz2, exo2, exs3, exn3, exz3, exo3, exs4, exn4, exz4, exo4, exs5, exn5, exz5, exo5, exs6, exn6, exz6, exo6, exs7, exn7, exz7, exo7, exs8, exn8, exz8, exo8, exs9, exn9, exz9, exo9, ex1, ex2, ex3, ex4, ex5, beqI, bneI, decide_true, Bool.true_and, decide_eq_true_eq, decide_eq_false_iff_not, ne_eq, Decidable.not_not]
  obtain ⟨hc, ⟨w1, w2, w3⟩, hi, hk, ne, hh⟩ := (show Nm.chk x = true ∧ x.wf ∧ i < x.k ∧ k < x.k ∧ i ≠ k ∧ h ≤ x.hE from hr)
  obtain ⟨s1, s2, s3, s4, s5, s6, s7⟩ := chk_size hc
  have up : ∀ (F : Nat → Int) (v : Int) (g : Nat), v = F g → ∀ i, i < g + 1 → (if i < g then F i else if i - g = 0 then v else 0) = F i := fun F v g hv i hi => by
    by_cases h : i < g
    · rw [if_pos h]
    · obtain rfl : i = g := by omega
      rw [if_neg h, if_pos (by omega), hv]
  have E1 : ∀ D : Bool, (!D == b) = true → (D != b) = true := fun D h => by revert h; cases D <;> cases b <;> decide
  have E0 : ∀ D : Bool, (!D == b) = false → ¬ (D != b) = true := fun D h => by revert h; cases D <;> cases b <;> decide
  have B1 : ∀ g : Nat, x.net i 4 ≤ g → enB ⟨x, i, k, h, b⟩ g = decide ((g : Int) < x.net k 4) := fun g h1 => by unfold enB; rw [decide_eq_true (show x.net i 4 ≤ (g : Int) from h1)]; rfl
  have B0 : ∀ g : Nat, ¬ x.net i 4 ≤ g → enB ⟨x, i, k, h, b⟩ g = false := fun g h1 => by unfold enB; rw [decide_eq_false (show ¬ x.net i 4 ≤ (g : Int) from h1)]; rfl
  have fin : ∀ g, g ≤ h → ¬ g < h → ∀ j, enE ⟨x, i, k, h, b⟩ g j = enE ⟨x, i, k, h, b⟩ h j := fun g h1 h2 j => by rw [show g = h by omega]
  refine ⟨⟨0, by omega, rfl, rfl, rfl, rfl, rfl⟩, fun g hg => ?_, ⟨0, by omega, rfl, rfl, rfl, rfl, rfl⟩, fun g hg => ?_, ⟨0, by omega, rfl, fun j _ => by unfold enE; rw [if_neg (Nat.not_lt_zero j)]⟩, fun g hg => ⟨fun h1 => ⟨fun h2 => ⟨by omega, by omega, fun c1 => ⟨by omega, by omega, fun c2 => ?_, fun c2 => ?_⟩, fun c1 => ⟨fun c2 => ?_, fun c2 => ?_⟩⟩, fun h2 => ?_⟩, fun h1 => ?_⟩⟩
  · obtain ⟨⟨a1, a2, a3⟩, b1, b2, b3⟩ := chk_hour hc hg
    refine ⟨by omega, by omega, by omega, by omega, by omega, by omega, by omega, by show -100000 ≤ x.e g 1; omega, by show x.e g 1 ≤ 100000; omega, by omega, by omega, by omega, by omega, by omega, by omega, by omega, by omega, by omega, by omega, by omega, by show -100000 ≤ x.n g 1; omega, by show x.n g 1 ≤ 100000; omega, by omega, by omega, by omega, by omega, fun _ => 0, fun _ => 0, g + 1, by omega, by omega, by omega, rfl, rfl, rfl, up (chE x 0 _) _ g rfl, rfl, up (chN x 0 _) _ g rfl⟩
  · obtain ⟨_, _, _, _, _, _, ⟨a1, a2, a3⟩, b1, b2, b3⟩ := chk_net hc hg
    refine ⟨by omega, by omega, by omega, by omega, by omega, by show -100000 ≤ x.net g 6; omega, by show x.net g 6 ≤ 100000; omega, by show -100000 ≤ x.net g 7; omega, by show x.net g 7 ≤ 100000; omega, by omega, by omega, by omega, by omega, by omega, by show -100000 ≤ x.net g 8; omega, by show x.net g 8 ≤ 100000; omega, by show -100000 ≤ x.net g 9; omega, by show x.net g 9 ≤ 100000; omega, by omega, by omega, by omega, by omega, fun _ => 0, fun _ => 0, g + 1, by omega, by omega, by omega, rfl, rfl, rfl, up (chSE x 0 _) _ g rfl, rfl, up (chSN x 0 _) _ g rfl⟩
  · exact ⟨by omega, by omega, by omega, by omega, by omega, by omega, g + 1, by omega, by omega, by omega, fun j _ => en_step (by rw [B1 g c1, if_pos (E1 _ c2)]) j⟩
  · exact ⟨by omega, by omega, by omega, by omega, by omega, by omega, g + 1, by omega, by omega, by omega, fun j _ => en_step (by rw [B1 g c1, if_neg (E0 _ c2)]) j⟩
  · exact ⟨by omega, by omega, by omega, by omega, by omega, by omega, g + 1, by omega, by omega, by omega, fun j _ => en_step (by rw [B0 g c1, if_pos (E1 _ c2)]) j⟩
  · exact ⟨by omega, by omega, by omega, by omega, by omega, by omega, g + 1, by omega, by omega, by omega, fun j _ => en_step (by rw [B0 g c1, if_neg (E0 _ c2)]) j⟩
  · exact ⟨by omega, by omega, by omega, by omega, fun hb => by subst hb; exact ⟨by omega, by omega, by omega, by omega, fun j _ => fin g hg (by omega) j, fun _ _ => trivial, fun j _ => rfl, fun _ _ => trivial⟩, fun hb => by subst hb; exact ⟨by omega, by omega, by omega, by omega, fun j _ => fin g hg (by omega) j, fun _ _ => trivial, fun j _ => rfl, fun _ _ => trivial⟩⟩
  · exact ⟨by omega, by omega, by omega, by omega, fun hb => by subst hb; exact ⟨by omega, by omega, by omega, by omega, fun j _ => fin g hg (by omega) j, fun _ _ => trivial, fun j _ => rfl, fun _ _ => trivial⟩, fun hb => by subst hb; exact ⟨by omega, by omega, by omega, by omega, fun j _ => fin g hg (by omega) j, fun _ _ => trivial, fun j _ => rfl, fun _ _ => trivial⟩⟩
end Go.Proofs.YtcfmdhlohahhcaaDoor
set_option linter.unusedSimpArgs false
set_option linter.unusedVariables false
namespace Go.Proofs.YtcfmdhlohahhcaaDoor
open Go Go.Sx Nm
set_option maxRecDepth 100000
set_option maxHeartbeats 1000000
def TBH : List (Nat × Sig) := (39, sPH) :: TBG
theorem TBH_ok : SigsOk Tryd.prog E0 TBH := TBG_ok.cons (runs 39 (by kernel_rfl)) q39
theorem exP {x : Fleet} {n m l : Int} {R : PAsk2 → Prop} (h : R ⟨x, n, m, l⟩) : ∃ a : PAsk2, x.hE = a.x.hE ∧ (∀ i, i < x.hE → x.e i 0 = a.x.e i 0 ∧ x.e i 1 = a.x.e i 1) ∧ x.hN = a.x.hN ∧ (∀ i, i < x.hN → x.n i 0 = a.x.n i 0 ∧ x.n i 1 = a.x.n i 1) ∧ x.gap = a.x.gap ∧ x.k = a.x.k ∧ (∀ i, i < x.k → x.net i 0 = a.x.net i 0 ∧ x.net i 1 = a.x.net i 1 ∧ x.net i 2 = a.x.net i 2 ∧ x.net i 3 = a.x.net i 3 ∧ x.net i 4 = a.x.net i 4 ∧ x.net i 5 = a.x.net i 5 ∧ x.net i 6 = a.x.net i 6 ∧ x.net i 7 = a.x.net i 7 ∧ x.net i 8 = a.x.net i 8 ∧ x.net i 9 = a.x.net i 9) ∧ n = a.a ∧ m = a.b ∧ l = a.c ∧ R a :=
  ⟨⟨x, n, m, l⟩, rfl, fun _ _ => ⟨rfl, rfl⟩, rfl, fun _ _ => ⟨rfl, rfl⟩, rfl, rfl, fun _ _ => ⟨rfl, rfl, rfl, rfl, rfl, rfl, rfl, rfl, rfl, rfl⟩, rfl, rfl, rfl, h⟩
end Go.Proofs.YtcfmdhlohahhcaaDoor
set_option linter.unusedSimpArgs false
set_option linter.unusedVariables false
namespace Go.Proofs.YtcfmdhlohahhcaaDoor
open Go Go.Sx Nm
set_option maxRecDepth 100000
theorem ra_truth {x : Fleet} {t : Truth} {i k h : Nat} (hc : Nm.chk x = true) (l1 : lyB x i h = true) (l2 : lyB x k h = true) :
    (raLo (rE (trF x t) i k h) = liP x t.e t.se 0 i h - liP x t.e t.se 0 k h ∧ raHi (rE (trF x t) i k h) = liP x t.e t.se 0 i h - liP x t.e t.se 0 k h) ∧
    raLo (rN (trF x t) i k h) = liP x t.n t.sn 1 i h - liP x t.n t.sn 1 k h ∧ raHi (rN (trF x t) i k h) = liP x t.n t.sn 1 i h - liP x t.n t.sn 1 k h := by
  obtain ⟨hi, g1, _⟩ := ly_iff.1 l1
  obtain ⟨hk, g2, _⟩ := ly_iff.1 l2
  obtain ⟨_, _, _, _, ⟨i3, _⟩, _⟩ := chk_net hc hi
  obtain ⟨_, _, _, _, ⟨k3, _⟩, _⟩ := chk_net hc hk
  have n4 : ∀ j, (trF x t).net j 4 = x.net j 4 := fun j => trF_net (by omega)
  have liE : ∀ j (v s : Nat → Int) (b : Nat), b ≤ 1 → liP (trF x t) v s b j h = liP x v s b j h := fun j v s b hb => by
    unfold liP
    rw [n4, trF_net (by omega)]
  obtain ⟨a1, a2⟩ := ap_exact (x := trF x t) (f := (trF x t).e) (v := t.e) (s := t.se) (p := 0) (q := 6) (i := i) (k := k) (h := h) (fun _ => ⟨rfl, rfl⟩) ⟨rfl, rfl⟩ ⟨rfl, rfl⟩ (by rw [n4]; exact i3) (by rw [n4]; exact k3) (by rw [n4]; exact g1) (by rw [n4]; exact g2)
  obtain ⟨b1, b2⟩ := ap_exact (x := trF x t) (f := (trF x t).n) (v := t.n) (s := t.sn) (p := 1) (q := 8) (i := i) (k := k) (h := h) (fun _ => ⟨rfl, rfl⟩) ⟨rfl, rfl⟩ ⟨rfl, rfl⟩ (by rw [n4]; exact i3) (by rw [n4]; exact k3) (by rw [n4]; exact g1) (by rw [n4]; exact g2)
  rw [liE _ _ _ _ (by omega), liE _ _ _ _ (by omega)] at a1 a2 b1 b2
  obtain ⟨c1, c2⟩ := ap_same (x := trF x t) (i := i) (k := k) (h := h) (trF x t).e 0 6 (by rw [n4]; exact i3) (by rw [n4]; exact k3) (by rw [n4]; exact g1) (by rw [n4]; exact g2) (trF x t).hE
  obtain ⟨d1, d2⟩ := ap_same (x := trF x t) (i := i) (k := k) (h := h) (trF x t).n 1 8 (by rw [n4]; exact i3) (by rw [n4]; exact k3) (by rw [n4]; exact g1) (by rw [n4]; exact g2) (trF x t).hN
  exact ⟨⟨c1.symm.trans a1, c2.symm.trans a2⟩, d1.symm.trans b1, d2.symm.trans b2⟩
theorem btw {x : Fleet} {t : Truth} {i k h : Nat} (hc : Nm.chk x = true) (ht : trOk x t = true) (l1 : lyB x i h = true) (l2 : lyB x k h = true) :
    (raLo (rE x i k h) ≤ liP x t.e t.se 0 i h - liP x t.e t.se 0 k h ∧ liP x t.e t.se 0 i h - liP x t.e t.se 0 k h ≤ raHi (rE x i k h)) ∧
    raLo (rN x i k h) ≤ liP x t.n t.sn 1 i h - liP x t.n t.sn 1 k h ∧ liP x t.n t.sn 1 i h - liP x t.n t.sn 1 k h ≤ raHi (rN x i k h) := by
  obtain ⟨⟨a1, a2⟩, b1, b2⟩ := ra_truth (t := t) hc l1 l2
  obtain ⟨hi, _, g3⟩ := ly_iff.1 l1
  obtain ⟨hk, _⟩ := ly_iff.1 l2
  obtain ⟨_, _, _, _, _, ⟨_, q⟩, _⟩ := chk_net hc hi
  have N := tr_nar ht hi hk (show h ≤ x.hE by omega)
  have e := nar_e N
  have n := nar_n N
  omega
theorem back {x : Fleet} {i k h : Nat} : (raLo (rE x k i h) = -raHi (rE x i k h) ∧ raHi (rE x k i h) = -raLo (rE x i k h)) ∧ raLo (rN x k i h) = -raHi (rN x i k h) ∧ raHi (rN x k i h) = -raLo (rN x i k h) :=
  ⟨ra_neg (r := rE x i k h) (s := rE x k i h) rfl rfl rfl (by show x.net k 0 - x.net i 0 = -(x.net i 0 - x.net k 0); omega) ⟨rfl, rfl⟩ ⟨rfl, rfl⟩ rfl,
    ra_neg (r := rN x i k h) (s := rN x k i h) rfl rfl rfl (by show x.net k 1 - x.net i 1 = -(x.net i 1 - x.net k 1); omega) ⟨rfl, rfl⟩ ⟨rfl, rfl⟩ rfl⟩
def enT (r : EnAsk) : Truth := ⟨r.x.hE, enE r r.h, r.x.hE, chN r.x 0 (fun _ => 0), r.x.k, fun j => if j = r.k then (if r.b then r.x.net r.k 7 else r.x.net r.k 6) else if j = r.i then (if r.b then r.x.net r.i 6 else r.x.net r.i 7) else chSE r.x 0 (fun _ => 0) j, r.x.k, chSN r.x 0 (fun _ => 0)⟩
theorem enT_ok {r : EnAsk} (hc : Nm.chk r.x = true) (hi : r.i < r.x.k) (hk : r.k < r.x.k) : trOk r.x (enT r) = true := by
  obtain ⟨x, i, k, h, b⟩ := r
  have hc : Nm.chk x = true := hc
  refine trOk_of (tells_of rfl fun j hj => ?_) (tells_of rfl fun j hj => ?_)
    (tells_of rfl fun j hj => cho_in (by have := (chk_hour hc (show j < x.hE from hj)).2; show x.n j 0 ≤ x.n j 1; omega))
    (tells_of rfl fun j hj => cho_in (by obtain ⟨_, _, _, _, _, _, _, a⟩ := chk_net hc (show j < x.k from hj); show x.net j 8 ≤ x.net j 9; omega))
  · have a := (chk_hour hc (show j < x.hE from hj)).1
    have c := cho_in (lo := x.e j 0) (hi := x.e j 1) (n := pk (fun _ => 0) 0 j) (by omega)
    show x.e j 0 ≤ enE ⟨x, i, k, h, b⟩ h j ∧ enE ⟨x, i, k, h, b⟩ h j ≤ x.e j 1
    unfold enE
    simp only
    split
    · split <;> omega
    · exact c
  · have nj := (chk_net hc (show j < x.k from hj)).2.2.2.2.2.2.1
    have ni := (chk_net hc (show i < x.k from hi)).2.2.2.2.2.2.1
    have nk := (chk_net hc (show k < x.k from hk)).2.2.2.2.2.2.1
    have c := cho_in (lo := x.net j 6) (hi := x.net j 7) (n := pk (fun _ => 0) 0 (j + 5)) (by omega)
    have c : x.net j 6 ≤ chSE x 0 (fun _ => 0) j ∧ chSE x 0 (fun _ => 0) j ≤ x.net j 7 := c
    show x.net j 6 ≤ (if j = k then (if b then x.net k 7 else x.net k 6) else if j = i then (if b then x.net i 6 else x.net i 7) else chSE x 0 (fun _ => 0) j) ∧ (if j = k then (if b then x.net k 7 else x.net k 6) else if j = i then (if b then x.net i 6 else x.net i 7) else chSE x 0 (fun _ => 0) j) ≤ x.net j 7
    by_cases d1 : j = k
    · subst d1; rw [if_pos rfl]; cases b <;> simp <;> omega
    · rw [if_neg d1]
      by_cases d2 : j = i
      · subst d2; rw [if_pos rfl]; cases b <;> simp <;> omega
      · rw [if_neg d2]; exact c
theorem enE_at {x : Fleet} {i k h : Nat} {b : Bool} {j : Nat} (hj : j < h) : (x.net i 4 ≤ j → ¬ x.net k 4 ≤ j → enE ⟨x, i, k, h, b⟩ h j = if b then x.e j 0 else x.e j 1) ∧ (¬ x.net i 4 ≤ j → enE ⟨x, i, k, h, b⟩ h j = if b then x.e j 1 else x.e j 0) := by
  unfold enE enB
  simp only
  rw [if_pos hj]
  constructor
  · intro a c
    rw [decide_eq_true a, decide_eq_true (show (j : Int) < x.net k 4 by omega)]
    cases b <;> rfl
  · intro a
    rw [decide_eq_false a]
    cases b <;> rfl
theorem en_lo {x : Fleet} {i k h : Nat} (ne : i ≠ k) (l1 : x.net i 4 ≤ h) (l2 : x.net k 4 ≤ h) : raLo (rE (trF x (enT ⟨x, i, k, h, true⟩)) i k h) = raLo (rE x i k h) := by
  have n : ∀ j p, p < 6 → (trF x (enT ⟨x, i, k, h, true⟩)).net j p = x.net j p := fun j p hp => trF_net hp
  have s : rLo (fun j _ => enE ⟨x, i, k, h, true⟩ h j) (x.net i 4) (x.net k 4) h = rLo x.e (x.net i 4) (x.net k 4) h := sumN_congr fun j hj => by
    obtain ⟨q1, q2⟩ := enE_at (x := x) (i := i) (k := k) (b := true) hj
    unfold nh
    dsimp only
    by_cases c1 : x.net i 4 ≤ j <;> by_cases c2 : x.net k 4 ≤ j
    · rw [if_pos c1, if_pos c2]; exact (t_zero _ _).1.trans (t_zero _ _).1.symm
    · rw [if_pos c1, if_neg c2, q1 c1 c2]; rfl
    · rw [if_neg c1, if_pos c2, q2 c1]; rfl
    · rw [if_neg c1, if_neg c2]; exact (t_zero _ _).1.trans (t_zero _ _).1.symm
  have e0 : (if i = k then x.net k 7 else if i = i then x.net i 6 else chSE x 0 (fun _ => 0) i) = x.net i 6 := by rw [if_neg ne, if_pos rfl]
  have e1 : (if k = k then x.net k 7 else if k = i then x.net i 6 else chSE x 0 (fun _ => 0) k) = x.net k 7 := if_pos rfl
  show (trF x (enT ⟨x, i, k, h, true⟩)).net i 0 - (trF x (enT ⟨x, i, k, h, true⟩)).net k 0 + rLo (fun j _ => enE ⟨x, i, k, h, true⟩ h j) ((trF x (enT ⟨x, i, k, h, true⟩)).net i 4) ((trF x (enT ⟨x, i, k, h, true⟩)).net k 4) h + (tLo (if i = k then x.net k 7 else if i = i then x.net i 6 else chSE x 0 (fun _ => 0) i) (if i = k then x.net k 7 else if i = i then x.net i 6 else chSE x 0 (fun _ => 0) i) (h - (trF x (enT ⟨x, i, k, h, true⟩)).net i 4) + tLo (if k = k then x.net k 7 else if k = i then x.net i 6 else chSE x 0 (fun _ => 0) k) (if k = k then x.net k 7 else if k = i then x.net i 6 else chSE x 0 (fun _ => 0) k) ((trF x (enT ⟨x, i, k, h, true⟩)).net k 4 - h)) = x.net i 0 - x.net k 0 + rLo x.e (x.net i 4) (x.net k 4) h + (tLo (x.net i 6) (x.net i 7) (h - x.net i 4) + tLo (x.net k 6) (x.net k 7) (x.net k 4 - h))
  rw [n i 0 (by omega), n k 0 (by omega), n i 4 (by omega), n k 4 (by omega), s, e0, e1, (t_same _ _).1, (t_same _ _).1]
  have a : tLo (x.net i 6) (x.net i 7) ((h : Int) - x.net i 4) = x.net i 6 * ((h : Int) - x.net i 4) := if_neg (by omega)
  have b : tLo (x.net k 6) (x.net k 7) (x.net k 4 - (h : Int)) = x.net k 7 * (x.net k 4 - (h : Int)) := by
    unfold tLo
    by_cases c : x.net k 4 - (h : Int) < 0
    · rw [if_pos c]
    · rw [if_neg c, show x.net k 4 - (h : Int) = 0 by omega]; simp
  rw [a, b]
theorem en_hi {x : Fleet} {i k h : Nat} (ne : i ≠ k) (l1 : x.net i 4 ≤ h) (l2 : x.net k 4 ≤ h) : raHi (rE (trF x (enT ⟨x, i, k, h, false⟩)) i k h) = raHi (rE x i k h) := by
  have n : ∀ j p, p < 6 → (trF x (enT ⟨x, i, k, h, false⟩)).net j p = x.net j p := fun j p hp => trF_net hp
  have s : rHi (fun j _ => enE ⟨x, i, k, h, false⟩ h j) (x.net i 4) (x.net k 4) h = rHi x.e (x.net i 4) (x.net k 4) h := sumN_congr fun j hj => by
    obtain ⟨q1, q2⟩ := enE_at (x := x) (i := i) (k := k) (b := false) hj
    unfold nh
    dsimp only
    by_cases c1 : x.net i 4 ≤ j <;> by_cases c2 : x.net k 4 ≤ j
    · rw [if_pos c1, if_pos c2]; exact (t_zero _ _).2.trans (t_zero _ _).2.symm
    · rw [if_pos c1, if_neg c2, q1 c1 c2]; rfl
    · rw [if_neg c1, if_pos c2, q2 c1]; rfl
    · rw [if_neg c1, if_neg c2]; exact (t_zero _ _).2.trans (t_zero _ _).2.symm
  have e0 : (if i = k then x.net k 6 else if i = i then x.net i 7 else chSE x 0 (fun _ => 0) i) = x.net i 7 := by rw [if_neg ne, if_pos rfl]
  have e1 : (if k = k then x.net k 6 else if k = i then x.net i 7 else chSE x 0 (fun _ => 0) k) = x.net k 6 := if_pos rfl
  show (trF x (enT ⟨x, i, k, h, false⟩)).net i 0 - (trF x (enT ⟨x, i, k, h, false⟩)).net k 0 + rHi (fun j _ => enE ⟨x, i, k, h, false⟩ h j) ((trF x (enT ⟨x, i, k, h, false⟩)).net i 4) ((trF x (enT ⟨x, i, k, h, false⟩)).net k 4) h + (tHi (if i = k then x.net k 6 else if i = i then x.net i 7 else chSE x 0 (fun _ => 0) i) (if i = k then x.net k 6 else if i = i then x.net i 7 else chSE x 0 (fun _ => 0) i) (h - (trF x (enT ⟨x, i, k, h, false⟩)).net i 4) + tHi (if k = k then x.net k 6 else if k = i then x.net i 7 else chSE x 0 (fun _ => 0) k) (if k = k then x.net k 6 else if k = i then x.net i 7 else chSE x 0 (fun _ => 0) k) ((trF x (enT ⟨x, i, k, h, false⟩)).net k 4 - h)) = x.net i 0 - x.net k 0 + rHi x.e (x.net i 4) (x.net k 4) h + (tHi (x.net i 6) (x.net i 7) (h - x.net i 4) + tHi (x.net k 6) (x.net k 7) (x.net k 4 - h))
  rw [n i 0 (by omega), n k 0 (by omega), n i 4 (by omega), n k 4 (by omega), s, e0, e1, (t_same _ _).2, (t_same _ _).2]
  have a : tHi (x.net i 6) (x.net i 7) ((h : Int) - x.net i 4) = x.net i 7 * ((h : Int) - x.net i 4) := if_neg (by omega)
  have b : tHi (x.net k 6) (x.net k 7) (x.net k 4 - (h : Int)) = x.net k 6 * (x.net k 4 - (h : Int)) := by
    unfold tHi
    by_cases c : x.net k 4 - (h : Int) < 0
    · rw [if_pos c]
    · rw [if_neg c, show x.net k 4 - (h : Int) = 0 by omega]; simp
  rw [a, b]
theorem ends_so {x : Fleet} {i k h : Nat} (hc : Nm.chk x = true) (ne : i ≠ k) (l1 : lyB x i h = true) (l2 : lyB x k h = true) :
    liP x (enT ⟨x, i, k, h, true⟩).e (enT ⟨x, i, k, h, true⟩).se 0 i h - liP x (enT ⟨x, i, k, h, true⟩).e (enT ⟨x, i, k, h, true⟩).se 0 k h = raLo (rE x i k h) ∧
    liP x (enT ⟨x, i, k, h, false⟩).e (enT ⟨x, i, k, h, false⟩).se 0 i h - liP x (enT ⟨x, i, k, h, false⟩).e (enT ⟨x, i, k, h, false⟩).se 0 k h = raHi (rE x i k h) :=
  ⟨(ra_truth hc l1 l2).1.1.symm.trans (en_lo ne (ly_iff.1 l1).2.1 (ly_iff.1 l2).2.1), (ra_truth hc l1 l2).1.2.symm.trans (en_hi ne (ly_iff.1 l1).2.1 (ly_iff.1 l2).2.1)⟩
end Go.Proofs.YtcfmdhlohahhcaaDoor
set_option linter.unusedSimpArgs false
set_option linter.unusedVariables false
namespace Go.Proofs.YtcfmdhlohahhcaaDoor
open Go Go.Sx Nm
set_option maxRecDepth 100000
set_option maxHeartbeats 2000000
def TBM : List (Nat × Sig) := (42, sEnd) :: TBH
theorem TBM_ok : SigsOk Tryd.prog E0 TBM := TBH_ok.cons (runs 42 (by kernel_rfl)) q42
def aBt : Ann := { G := Nat, ok := fun _ g => g ≤ 2, dom := fun _ => [], tm := fun _ g => [(24, .t (intC g))], hp := fun _ _ => [], mu := fun _ g => 2 - g }
theorem exEn {x : Fleet} {i k h : Nat} {b : Bool} {R : EnAsk → Prop} (H : R ⟨x, i, k, h, b⟩) : ∃ a : EnAsk, x.hE = a.x.hE ∧ (∀ i, i < x.hE → x.e i 0 = a.x.e i 0 ∧ x.e i 1 = a.x.e i 1) ∧ x.hN = a.x.hN ∧ (∀ i, i < x.hN → x.n i 0 = a.x.n i 0 ∧ x.n i 1 = a.x.n i 1) ∧ x.gap = a.x.gap ∧ x.k = a.x.k ∧ (∀ i, i < x.k → x.net i 0 = a.x.net i 0 ∧ x.net i 1 = a.x.net i 1 ∧ x.net i 2 = a.x.net i 2 ∧ x.net i 3 = a.x.net i 3 ∧ x.net i 4 = a.x.net i 4 ∧ x.net i 5 = a.x.net i 5 ∧ x.net i 6 = a.x.net i 6 ∧ x.net i 7 = a.x.net i 7 ∧ x.net i 8 = a.x.net i 8 ∧ x.net i 9 = a.x.net i 9) ∧ (i : Int) = a.i ∧ (k : Int) = a.k ∧ (h : Int) = a.h ∧ a.b = b ∧ R a :=
  ⟨⟨x, i, k, h, b⟩, rfl, fun _ _ => ⟨rfl, rfl⟩, rfl, fun _ _ => ⟨rfl, rfl⟩, rfl, rfl, fun _ _ => ⟨rfl, rfl, rfl, rfl, rfl, rfl, rfl, rfl, rfl, rfl⟩, rfl, rfl, rfl, rfl, H⟩
theorem q8 (a : Fleet × Int × Int × Int × Nat × (Nat → Int)) (ha : a.1.wf ∧ a.2.2.2.2.1 < 4611686018427387904) : CallQ Tryd.prog E0 8 [fleetTV a.1, .a 3 (ofList [.int .i64 a.2.1, .int .i64 a.2.2.1, .int .i64 a.2.2.2.1]), .c (intsCV a.2.2.2.2.1 a.2.2.2.2.2)] [.v (.c (.bool true))] := by
  obtain ⟨x, a, b, c, m, l⟩ := a
  refine bare_say E0_ok TBM TBM_ok [] EvensOk.nil runs { live := true, l := [(8, 16, aBt)], q := [(8, 18, [(24, [0, 1])])] } (fuel := 8) ?_
  refine of_red (q := ∃ (x_1 : Fleet), ((True ∧ flq x x_1) ∧ True) ∧ (x_1.hE < (4611686018427387904 : Nat) ∧ x_1.hN < (4611686018427387904 : Nat) ∧ x_1.k < (4611686018427387904 : Nat)) ∧ ((!Nm.chk x_1) = true → ∃ (x : Unit), True ∧ True ∧ True ∧ true = true) ∧ ((!Nm.chk x_1) = false → ∃ (x_2 : PAsk2), ((True ∧ flq x x_2.x) ∧ (True ∧ ((True ∧ True ∧ (a, b, c, m, l).fst = x_2.a) ∧ True ∧ (a, b, c, m, l).snd.fst = x_2.b) ∧ True ∧ (a, b, c, m, l).snd.snd.fst = x_2.c) ∧ True) ∧ (Nm.chk x_2.x = true ∧ x_2.x.hE < (4611686018427387904 : Nat) ∧ x_2.x.hN < (4611686018427387904 : Nat) ∧ x_2.x.k < (4611686018427387904 : Nat)) ∧ ((!p2ok x_2) = true → ∃ (x : Unit), True ∧ True ∧ True ∧ true = true) ∧ ((!p2ok x_2) = false → ∃ (x_3 : QAsk), ((True ∧ flq x x_3.x) ∧ (True ∧ p2z x_2 (p2i x_2) = x_3.i) ∧ (True ∧ p2z x_2 (p2k x_2) = x_3.k) ∧ (True ∧ p2z x_2 (p2h x_2) = x_3.h) ∧ True) ∧ (x_3.x.hE < (4611686018427387904 : Nat) ∧ x_3.x.hN < (4611686018427387904 : Nat) ∧ x_3.x.k < (4611686018427387904 : Nat)) ∧ ∃ (x_4 : QAsk), ((True ∧ flq x x_4.x) ∧ (True ∧ p2z x_2 (p2k x_2) = x_4.i) ∧ (True ∧ p2z x_2 (p2i x_2) = x_4.k) ∧ (True ∧ p2z x_2 (p2h x_2) = x_4.h) ∧ True) ∧ (x_4.x.hE < (4611686018427387904 : Nat) ∧ x_4.x.hN < (4611686018427387904 : Nat) ∧ x_4.x.k < (4611686018427387904 : Nat)) ∧ ∃ (x_5 : Fleet × Nat × (Nat → Int)), ((True ∧ flq x x_5.fst) ∧ (True ∧ True ∧ (c, m, l).snd.fst = x_5.snd.fst ∧ ∀ (i : Nat), i < (c, m, l).snd.fst → True ∧ (a, b, c, m, l).snd.snd.snd.snd i = x_5.snd.snd i) ∧ True) ∧ (Nm.chk x_5.fst = true ∧ (x_5.fst.hE < (4611686018427387904 : Nat) ∧ x_5.fst.hN < (4611686018427387904 : Nat) ∧ x_5.fst.k < (4611686018427387904 : Nat)) ∧ x_5.snd.fst < (4611686018427387904 : Nat)) ∧ ∃ (x_6 : LAsk), ((True ∧ flq x x_6.x) ∧ (True ∧ (((True ∧ True ∧ True ∧ (chF x_5.fst x_5.snd.fst x_5.snd.snd).nE = x_6.t.nE ∧ ∀ (i : Nat), i < (chF x_5.fst x_5.snd.fst x_5.snd.snd).nE → True ∧ (chF x_5.fst x_5.snd.fst x_5.snd.snd).e i = x_6.t.e i) ∧ True ∧ True ∧ (chF x_5.fst x_5.snd.fst x_5.snd.snd).nN = x_6.t.nN ∧ ∀ (i : Nat), i < (chF x_5.fst x_5.snd.fst x_5.snd.snd).nN → True ∧ (chF x_5.fst x_5.snd.fst x_5.snd.snd).n i = x_6.t.n i) ∧ True ∧ True ∧ (chF x_5.fst x_5.snd.fst x_5.snd.snd).nSE = x_6.t.nSE ∧ ∀ (i : Nat), i < (chF x_5.fst x_5.snd.fst x_5.snd.snd).nSE → True ∧ (chF x_5.fst x_5.snd.fst x_5.snd.snd).se i = x_6.t.se i) ∧ True ∧ True ∧ (chF x_5.fst x_5.snd.fst x_5.snd.snd).nSN = x_6.t.nSN ∧ ∀ (i : Nat), i < (chF x_5.fst x_5.snd.fst x_5.snd.snd).nSN → True ∧ (chF x_5.fst x_5.snd.fst x_5.snd.snd).sn i = x_6.t.sn i) ∧ (True ∧ p2z x_2 (p2i x_2) = x_6.k) ∧ (True ∧ p2z x_2 (p2h x_2) = x_6.h) ∧ True) ∧ ((x_6.x.hE < (4611686018427387904 : Nat) ∧ x_6.x.hN < (4611686018427387904 : Nat) ∧ x_6.x.k < (4611686018427387904 : Nat)) ∧ x_6.t.nE < (4611686018427387904 : Nat) ∧ x_6.t.nN < (4611686018427387904 : Nat) ∧ x_6.t.nSE < (4611686018427387904 : Nat) ∧ x_6.t.nSN < (4611686018427387904 : Nat)) ∧ ∃ (x_7 : LAsk), ((True ∧ flq x x_7.x) ∧ (True ∧ (((True ∧ True ∧ True ∧ (chF x_5.fst x_5.snd.fst x_5.snd.snd).nE = x_7.t.nE ∧ ∀ (i : Nat), i < (chF x_5.fst x_5.snd.fst x_5.snd.snd).nE → True ∧ (chF x_5.fst x_5.snd.fst x_5.snd.snd).e i = x_7.t.e i) ∧ True ∧ True ∧ (chF x_5.fst x_5.snd.fst x_5.snd.snd).nN = x_7.t.nN ∧ ∀ (i : Nat), i < (chF x_5.fst x_5.snd.fst x_5.snd.snd).nN → True ∧ (chF x_5.fst x_5.snd.fst x_5.snd.snd).n i = x_7.t.n i) ∧ True ∧ True ∧ (chF x_5.fst x_5.snd.fst x_5.snd.snd).nSE = x_7.t.nSE ∧ ∀ (i : Nat), i < (chF x_5.fst x_5.snd.fst x_5.snd.snd).nSE → True ∧ (chF x_5.fst x_5.snd.fst x_5.snd.snd).se i = x_7.t.se i) ∧ True ∧ True ∧ (chF x_5.fst x_5.snd.fst x_5.snd.snd).nSN = x_7.t.nSN ∧ ∀ (i : Nat), i < (chF x_5.fst x_5.snd.fst x_5.snd.snd).nSN → True ∧ (chF x_5.fst x_5.snd.fst x_5.snd.snd).sn i = x_7.t.sn i) ∧ (True ∧ p2z x_2 (p2k x_2) = x_7.k) ∧ (True ∧ p2z x_2 (p2h x_2) = x_7.h) ∧ True) ∧ ((x_7.x.hE < (4611686018427387904 : Nat) ∧ x_7.x.hN < (4611686018427387904 : Nat) ∧ x_7.x.k < (4611686018427387904 : Nat)) ∧ x_7.t.nE < (4611686018427387904 : Nat) ∧ x_7.t.nN < (4611686018427387904 : Nat) ∧ x_7.t.nSE < (4611686018427387904 : Nat) ∧ x_7.t.nSN < (4611686018427387904 : Nat)) ∧ ((aqE x_3 != (0 : Int)) = true → True ∧ true = false) ∧ ((aqE x_3 != (0 : Int)) = false → ((aqE x_4 != (0 : Int)) = true → True ∧ true = false) ∧ ((aqE x_4 != (0 : Int)) = false → ((liErr x_6.x x_6.t x_6.k x_6.h != (0 : Int)) = true → True ∧ true = false) ∧ ((liErr x_6.x x_6.t x_6.k x_6.h != (0 : Int)) = false → ((liErr x_7.x x_7.t x_7.k x_7.h != (0 : Int)) = true → True ∧ true = false) ∧ ((liErr x_7.x x_7.t x_7.k x_7.h != (0 : Int)) = false → inRange IntKind.i64 (liR x_6.x x_6.t x_6.k x_6.h (liP x_6.x x_6.t.e x_6.t.se (0 : Nat) x_6.k.toNat x_6.h) - liR x_7.x x_7.t x_7.k x_7.h (liP x_7.x x_7.t.e x_7.t.se (0 : Nat) x_7.k.toNat x_7.h)) ∧ ∃ (x_8 : (Int × Int) × Int), ((True ∧ (True ∧ True ∧ aqR x_3 (raLo (rE x_3.x x_3.i.toNat x_3.k.toNat x_3.h.toNat)) = x_8.fst.fst) ∧ True ∧ aqR x_3 (raHi (rE x_3.x x_3.i.toNat x_3.k.toNat x_3.h.toNat)) = x_8.fst.snd) ∧ (True ∧ liR x_6.x x_6.t x_6.k x_6.h (liP x_6.x x_6.t.e x_6.t.se (0 : Nat) x_6.k.toNat x_6.h) - liR x_7.x x_7.t x_7.k x_7.h (liP x_7.x x_7.t.e x_7.t.se (0 : Nat) x_7.k.toNat x_7.h) = x_8.snd) ∧ True) ∧ True ∧ ((!within x_8.snd x_8.fst.fst x_8.fst.snd) = true → True ∧ true = false) ∧ ((!within x_8.snd x_8.fst.fst x_8.fst.snd) = false → inRange IntKind.i64 (liR x_6.x x_6.t x_6.k x_6.h (liP x_6.x x_6.t.n x_6.t.sn (1 : Nat) x_6.k.toNat x_6.h) - liR x_7.x x_7.t x_7.k x_7.h (liP x_7.x x_7.t.n x_7.t.sn (1 : Nat) x_7.k.toNat x_7.h)) ∧ ∃ (x_9 : (Int × Int) × Int), ((True ∧ (True ∧ True ∧ aqR x_3 (raLo (rN x_3.x x_3.i.toNat x_3.k.toNat x_3.h.toNat)) = x_9.fst.fst) ∧ True ∧ aqR x_3 (raHi (rN x_3.x x_3.i.toNat x_3.k.toNat x_3.h.toNat)) = x_9.fst.snd) ∧ (True ∧ liR x_6.x x_6.t x_6.k x_6.h (liP x_6.x x_6.t.n x_6.t.sn (1 : Nat) x_6.k.toNat x_6.h) - liR x_7.x x_7.t x_7.k x_7.h (liP x_7.x x_7.t.n x_7.t.sn (1 : Nat) x_7.k.toNat x_7.h) = x_9.snd) ∧ True) ∧ True ∧ ((!within x_9.snd x_9.fst.fst x_9.fst.snd) = true → True ∧ true = false) ∧ ((!within x_9.snd x_9.fst.fst x_9.fst.snd) = false → inRange IntKind.i64 (-aqR x_3 (raHi (rE x_3.x x_3.i.toNat x_3.k.toNat x_3.h.toNat))) ∧ inRange IntKind.i64 (-aqR x_3 (raLo (rE x_3.x x_3.i.toNat x_3.k.toNat x_3.h.toNat))) ∧ ∃ (x_10 : Int × Int), ((True ∧ -aqR x_3 (raHi (rE x_3.x x_3.i.toNat x_3.k.toNat x_3.h.toNat)) = x_10.fst) ∧ (True ∧ -aqR x_3 (raLo (rE x_3.x x_3.i.toNat x_3.k.toNat x_3.h.toNat)) = x_10.snd) ∧ True) ∧ True ∧ ((!(aqR x_4 (raLo (rE x_4.x x_4.i.toNat x_4.k.toNat x_4.h.toNat)) == x_10.fst && (aqR x_4 (raHi (rE x_4.x x_4.i.toNat x_4.k.toNat x_4.h.toNat)) == x_10.snd && true))) = true → True ∧ true = false) ∧ ((!(aqR x_4 (raLo (rE x_4.x x_4.i.toNat x_4.k.toNat x_4.h.toNat)) == x_10.fst && (aqR x_4 (raHi (rE x_4.x x_4.i.toNat x_4.k.toNat x_4.h.toNat)) == x_10.snd && true))) = false → inRange IntKind.i64 (-aqR x_3 (raHi (rN x_3.x x_3.i.toNat x_3.k.toNat x_3.h.toNat))) ∧ inRange IntKind.i64 (-aqR x_3 (raLo (rN x_3.x x_3.i.toNat x_3.k.toNat x_3.h.toNat))) ∧ ∃ (x_11 : Int × Int), ((True ∧ -aqR x_3 (raHi (rN x_3.x x_3.i.toNat x_3.k.toNat x_3.h.toNat)) = x_11.fst) ∧ (True ∧ -aqR x_3 (raLo (rN x_3.x x_3.i.toNat x_3.k.toNat x_3.h.toNat)) = x_11.snd) ∧ True) ∧ True ∧ ((!(aqR x_4 (raLo (rN x_4.x x_4.i.toNat x_4.k.toNat x_4.h.toNat)) == x_11.fst && (aqR x_4 (raHi (rN x_4.x x_4.i.toNat x_4.k.toNat x_4.h.toNat)) == x_11.snd && true))) = true → True ∧ true = false) ∧ ((!(aqR x_4 (raLo (rN x_4.x x_4.i.toNat x_4.k.toNat x_4.h.toNat)) == x_11.fst && (aqR x_4 (raHi (rN x_4.x x_4.i.toNat x_4.k.toNat x_4.h.toNat)) == x_11.snd && true))) = false → ∃ (x_12 : EnAsk), ((True ∧ flq x x_12.x) ∧ (True ∧ p2z x_2 (p2i x_2) = (↑x_12.i : Int)) ∧ (True ∧ p2z x_2 (p2k x_2) = (↑x_12.k : Int)) ∧ (True ∧ p2z x_2 (p2h x_2) = (↑x_12.h : Int)) ∧ (True ∧ x_12.b = true) ∧ True) ∧ (Nm.chk x_12.x = true ∧ (x_12.x.hE < (4611686018427387904 : Nat) ∧ x_12.x.hN < (4611686018427387904 : Nat) ∧ x_12.x.k < (4611686018427387904 : Nat)) ∧ x_12.i < x_12.x.k ∧ x_12.k < x_12.x.k ∧ x_12.i ≠ x_12.k ∧ x_12.h ≤ x_12.x.hE) ∧ ∃ (x_13 : EnAsk), ((True ∧ flq x x_13.x) ∧ (True ∧ p2z x_2 (p2i x_2) = (↑x_13.i : Int)) ∧ (True ∧ p2z x_2 (p2k x_2) = (↑x_13.k : Int)) ∧ (True ∧ p2z x_2 (p2h x_2) = (↑x_13.h : Int)) ∧ (True ∧ x_13.b = false) ∧ True) ∧ (Nm.chk x_13.x = true ∧ (x_13.x.hE < (4611686018427387904 : Nat) ∧ x_13.x.hN < (4611686018427387904 : Nat) ∧ x_13.x.k < (4611686018427387904 : Nat)) ∧ x_13.i < x_13.x.k ∧ x_13.k < x_13.x.k ∧ x_13.i ≠ x_13.k ∧ x_13.h ≤ x_13.x.hE) ∧ (∃ (g : Nat), g ≤ (2 : Nat) ∧ True ∧ ((True ∧ (0 : Int) = (↑g : Int)) ∧ True) ∧ True) ∧ ∀ (g : Nat), g ≤ (2 : Nat) → (decide ((↑g : Int) < (2 : Int)) = true → ((↑g : Int) = (0 : Int) ∨ (↑g : Int) = (1 : Int) ∨ False) ∧ ((↑g : Int) = (0 : Int) → (0 : Int) ≤ (0 : Int) ∧ (0 : Int) < (↑(2 : Nat) : Int) ∧ ∃ (x_14 : LAsk), ((True ∧ flq x x_14.x) ∧ (True ∧ (((True ∧ True ∧ True ∧ x_12.x.hE = x_14.t.nE ∧ ∀ (i : Nat), i < x_12.x.hE → True ∧ enE x_12 x_12.h i = x_14.t.e i) ∧ True ∧ True ∧ x_12.x.hE = x_14.t.nN ∧ ∀ (i : Nat), i < x_12.x.hE → True ∧ chN x_12.x (0 : Nat) (fun (x : Nat) => (0 : Int)) i = x_14.t.n i) ∧ True ∧ True ∧ x_12.x.k = x_14.t.nSE ∧ ∀ (i : Nat), i < x_12.x.k → True ∧ (if i = x_12.k then if x_12.b = true then x_12.x.net x_12.k (7 : Nat) else x_12.x.net x_12.k (6 : Nat) else if i = x_12.i then if x_12.b = true then x_12.x.net x_12.i (6 : Nat) else x_12.x.net x_12.i (7 : Nat) else chSE x_12.x (0 : Nat) (fun (x : Nat) => (0 : Int)) i) = x_14.t.se i) ∧ True ∧ True ∧ x_12.x.k = x_14.t.nSN ∧ ∀ (i : Nat), i < x_12.x.k → True ∧ chSN x_12.x (0 : Nat) (fun (x : Nat) => (0 : Int)) i = x_14.t.sn i) ∧ (True ∧ p2z x_2 (p2i x_2) = x_14.k) ∧ (True ∧ p2z x_2 (p2h x_2) = x_14.h) ∧ True) ∧ ((x_14.x.hE < (4611686018427387904 : Nat) ∧ x_14.x.hN < (4611686018427387904 : Nat) ∧ x_14.x.k < (4611686018427387904 : Nat)) ∧ x_14.t.nE < (4611686018427387904 : Nat) ∧ x_14.t.nN < (4611686018427387904 : Nat) ∧ x_14.t.nSE < (4611686018427387904 : Nat) ∧ x_14.t.nSN < (4611686018427387904 : Nat)) ∧ (0 : Int) ≤ (0 : Int) ∧ (0 : Int) < (↑(2 : Nat) : Int) ∧ ∃ (x_15 : LAsk), ((True ∧ flq x x_15.x) ∧ (True ∧ (((True ∧ True ∧ True ∧ x_12.x.hE = x_15.t.nE ∧ ∀ (i : Nat), i < x_12.x.hE → True ∧ enE x_12 x_12.h i = x_15.t.e i) ∧ True ∧ True ∧ x_12.x.hE = x_15.t.nN ∧ ∀ (i : Nat), i < x_12.x.hE → True ∧ chN x_12.x (0 : Nat) (fun (x : Nat) => (0 : Int)) i = x_15.t.n i) ∧ True ∧ True ∧ x_12.x.k = x_15.t.nSE ∧ ∀ (i : Nat), i < x_12.x.k → True ∧ (if i = x_12.k then if x_12.b = true then x_12.x.net x_12.k (7 : Nat) else x_12.x.net x_12.k (6 : Nat) else if i = x_12.i then if x_12.b = true then x_12.x.net x_12.i (6 : Nat) else x_12.x.net x_12.i (7 : Nat) else chSE x_12.x (0 : Nat) (fun (x : Nat) => (0 : Int)) i) = x_15.t.se i) ∧ True ∧ True ∧ x_12.x.k = x_15.t.nSN ∧ ∀ (i : Nat), i < x_12.x.k → True ∧ chSN x_12.x (0 : Nat) (fun (x : Nat) => (0 : Int)) i = x_15.t.sn i) ∧ (True ∧ p2z x_2 (p2k x_2) = x_15.k) ∧ (True ∧ p2z x_2 (p2h x_2) = x_15.h) ∧ True) ∧ ((x_15.x.hE < (4611686018427387904 : Nat) ∧ x_15.x.hN < (4611686018427387904 : Nat) ∧ x_15.x.k < (4611686018427387904 : Nat)) ∧ x_15.t.nE < (4611686018427387904 : Nat) ∧ x_15.t.nN < (4611686018427387904 : Nat) ∧ x_15.t.nSE < (4611686018427387904 : Nat) ∧ x_15.t.nSN < (4611686018427387904 : Nat)) ∧ ((liErr x_14.x x_14.t x_14.k x_14.h != (0 : Int)) = true → True ∧ true = false) ∧ ((liErr x_14.x x_14.t x_14.k x_14.h != (0 : Int)) = false → ((liErr x_15.x x_15.t x_15.k x_15.h != (0 : Int)) = true → True ∧ true = false) ∧ ((liErr x_15.x x_15.t x_15.k x_15.h != (0 : Int)) = false → inRange IntKind.i64 (liR x_14.x x_14.t x_14.k x_14.h (liP x_14.x x_14.t.e x_14.t.se (0 : Nat) x_14.k.toNat x_14.h) - liR x_15.x x_15.t x_15.k x_15.h (liP x_15.x x_15.t.e x_15.t.se (0 : Nat) x_15.k.toNat x_15.h)) ∧ (0 : Int) ≤ (0 : Int) ∧ (0 : Int) < (↑(2 : Nat) : Int) ∧ ((liR x_14.x x_14.t x_14.k x_14.h (liP x_14.x x_14.t.e x_14.t.se (0 : Nat) x_14.k.toNat x_14.h) - liR x_15.x x_15.t x_15.k x_15.h (liP x_15.x x_15.t.e x_15.t.se (0 : Nat) x_15.k.toNat x_15.h) != aqR x_3 (raLo (rE x_3.x x_3.i.toNat x_3.k.toNat x_3.h.toNat))) = true → True ∧ true = false) ∧ ((liR x_14.x x_14.t x_14.k x_14.h (liP x_14.x x_14.t.e x_14.t.se (0 : Nat) x_14.k.toNat x_14.h) - liR x_15.x x_15.t x_15.k x_15.h (liP x_15.x x_15.t.e x_15.t.se (0 : Nat) x_15.k.toNat x_15.h) != aqR x_3 (raLo (rE x_3.x x_3.i.toNat x_3.k.toNat x_3.h.toNat))) = false → inRange IntKind.i64 ((0 : Int) + (1 : Int)) ∧ ∃ (g' : Nat), g' ≤ (2 : Nat) ∧ (2 : Nat) - g' < (2 : Nat) - g ∧ True ∧ ((True ∧ (0 : Int) + (1 : Int) = (↑g' : Int)) ∧ True) ∧ True)))) ∧ ((↑g : Int) = (1 : Int) → (0 : Int) ≤ (1 : Int) ∧ (1 : Int) < (↑(2 : Nat) : Int) ∧ ∃ (x_14 : LAsk), ((True ∧ flq x x_14.x) ∧ (True ∧ (((True ∧ True ∧ True ∧ x_13.x.hE = x_14.t.nE ∧ ∀ (i : Nat), i < x_13.x.hE → True ∧ enE x_13 x_13.h i = x_14.t.e i) ∧ True ∧ True ∧ x_13.x.hE = x_14.t.nN ∧ ∀ (i : Nat), i < x_13.x.hE → True ∧ chN x_13.x (0 : Nat) (fun (x : Nat) => (0 : Int)) i = x_14.t.n i) ∧ True ∧ True ∧ x_13.x.k = x_14.t.nSE ∧ ∀ (i : Nat), i < x_13.x.k → True ∧ (if i = x_13.k then if x_13.b = true then x_13.x.net x_13.k (7 : Nat) else x_13.x.net x_13.k (6 : Nat) else if i = x_13.i then if x_13.b = true then x_13.x.net x_13.i (6 : Nat) else x_13.x.net x_13.i (7 : Nat) else chSE x_13.x (0 : Nat) (fun (x : Nat) => (0 : Int)) i) = x_14.t.se i) ∧ True ∧ True ∧ x_13.x.k = x_14.t.nSN ∧ ∀ (i : Nat), i < x_13.x.k → True ∧ chSN x_13.x (0 : Nat) (fun (x : Nat) => (0 : Int)) i = x_14.t.sn i) ∧ (True ∧ p2z x_2 (p2i x_2) = x_14.k) ∧ (True ∧ p2z x_2 (p2h x_2) = x_14.h) ∧ True) ∧ ((x_14.x.hE < (4611686018427387904 : Nat) ∧ x_14.x.hN < (4611686018427387904 : Nat) ∧ x_14.x.k < (4611686018427387904 : Nat)) ∧ x_14.t.nE < (4611686018427387904 : Nat) ∧ x_14.t.nN < (4611686018427387904 : Nat) ∧ x_14.t.nSE < (4611686018427387904 : Nat) ∧ x_14.t.nSN < (4611686018427387904 : Nat)) ∧ (0 : Int) ≤ (1 : Int) ∧ (1 : Int) < (↑(2 : Nat) : Int) ∧ ∃ (x_15 : LAsk), ((True ∧ flq x x_15.x) ∧ (True ∧ (((True ∧ True ∧ True ∧ x_13.x.hE = x_15.t.nE ∧ ∀ (i : Nat), i < x_13.x.hE → True ∧ enE x_13 x_13.h i = x_15.t.e i) ∧ True ∧ True ∧ x_13.x.hE = x_15.t.nN ∧ ∀ (i : Nat), i < x_13.x.hE → True ∧ chN x_13.x (0 : Nat) (fun (x : Nat) => (0 : Int)) i = x_15.t.n i) ∧ True ∧ True ∧ x_13.x.k = x_15.t.nSE ∧ ∀ (i : Nat), i < x_13.x.k → True ∧ (if i = x_13.k then if x_13.b = true then x_13.x.net x_13.k (7 : Nat) else x_13.x.net x_13.k (6 : Nat) else if i = x_13.i then if x_13.b = true then x_13.x.net x_13.i (6 : Nat) else x_13.x.net x_13.i (7 : Nat) else chSE x_13.x (0 : Nat) (fun (x : Nat) => (0 : Int)) i) = x_15.t.se i) ∧ True ∧ True ∧ x_13.x.k = x_15.t.nSN ∧ ∀ (i : Nat), i < x_13.x.k → True ∧ chSN x_13.x (0 : Nat) (fun (x : Nat) => (0 : Int)) i = x_15.t.sn i) ∧ (True ∧ p2z x_2 (p2k x_2) = x_15.k) ∧ (True ∧ p2z x_2 (p2h x_2) = x_15.h) ∧ True) ∧ ((x_15.x.hE < (4611686018427387904 : Nat) ∧ x_15.x.hN < (4611686018427387904 : Nat) ∧ x_15.x.k < (4611686018427387904 : Nat)) ∧ x_15.t.nE < (4611686018427387904 : Nat) ∧ x_15.t.nN < (4611686018427387904 : Nat) ∧ x_15.t.nSE < (4611686018427387904 : Nat) ∧ x_15.t.nSN < (4611686018427387904 : Nat)) ∧ ((liErr x_14.x x_14.t x_14.k x_14.h != (0 : Int)) = true → True ∧ true = false) ∧ ((liErr x_14.x x_14.t x_14.k x_14.h != (0 : Int)) = false → ((liErr x_15.x x_15.t x_15.k x_15.h != (0 : Int)) = true → True ∧ true = false) ∧ ((liErr x_15.x x_15.t x_15.k x_15.h != (0 : Int)) = false → inRange IntKind.i64 (liR x_14.x x_14.t x_14.k x_14.h (liP x_14.x x_14.t.e x_14.t.se (0 : Nat) x_14.k.toNat x_14.h) - liR x_15.x x_15.t x_15.k x_15.h (liP x_15.x x_15.t.e x_15.t.se (0 : Nat) x_15.k.toNat x_15.h)) ∧ (0 : Int) ≤ (1 : Int) ∧ (1 : Int) < (↑(2 : Nat) : Int) ∧ ((liR x_14.x x_14.t x_14.k x_14.h (liP x_14.x x_14.t.e x_14.t.se (0 : Nat) x_14.k.toNat x_14.h) - liR x_15.x x_15.t x_15.k x_15.h (liP x_15.x x_15.t.e x_15.t.se (0 : Nat) x_15.k.toNat x_15.h) != aqR x_3 (raHi (rE x_3.x x_3.i.toNat x_3.k.toNat x_3.h.toNat))) = true → True ∧ true = false) ∧ ((liR x_14.x x_14.t x_14.k x_14.h (liP x_14.x x_14.t.e x_14.t.se (0 : Nat) x_14.k.toNat x_14.h) - liR x_15.x x_15.t x_15.k x_15.h (liP x_15.x x_15.t.e x_15.t.se (0 : Nat) x_15.k.toNat x_15.h) != aqR x_3 (raHi (rE x_3.x x_3.i.toNat x_3.k.toNat x_3.h.toNat))) = false → inRange IntKind.i64 ((1 : Int) + (1 : Int)) ∧ ∃ (g' : Nat), g' ≤ (2 : Nat) ∧ (2 : Nat) - g' < (2 : Nat) - g ∧ True ∧ ((True ∧ (1 : Int) + (1 : Int) = (↑g' : Int)) ∧ True) ∧ True)))) ∧ True) ∧ (decide ((↑g : Int) < (2 : Int)) = false → ∃ (x : Unit), True ∧ True ∧ True ∧ true = true)))))))))))) (by kernel_rfl) ?_
  simp only [flq, true_and, and_true, inR, Prod.exists, Prod.forall, and_assoc, exists_and_left, exists_eq_left', exists_eq_left, forall_eq, exists_const, forall_const, loopN, loopM, fa2, fas, fas2, dup1, dup2, dup3, dup4, ite_true, exhs, exhn, exhz, exho, exs1, exn1, exz1, exo1, exs2, exn2, exz2, exo2, exs3, exn3, exz3, exo3, exs4, exn4, exz4, exo4, exs5, exn5, exz5, exo5, exs6, exn6, exz6, exo6, exs7, exn7, exz7, exo7, exs8, exn8, exz8, exo8, exs9, exn9, exz9, exo9, ex1, ex2, ex3, ex4, ex5, beqI, bneI, decide_true, Bool.true_and, decide_eq_true_eq, decide_eq_false_iff_not, ne_eq, Decidable.not_not]
  obtain ⟨⟨w1, w2, w3⟩, hm⟩ := (show x.wf ∧ m < 4611686018427387904 from ha)
  refine exF ⟨w1, w2, w3, fun _ => trivial, fun hn => ?_⟩
  have hc : Nm.chk x = true := by cases h : Nm.chk x <;> simp_all
  refine exP ⟨hc, w1, w2, w3, fun _ => trivial, fun ho => ?_⟩
  have ho : p2ok ⟨x, a, b, c⟩ = true := by cases h : p2ok ⟨x, a, b, c⟩ <;> simp_all
  obtain ⟨i, k, f, h, e1, e2, e3, e4, hi, hk, hik, hfh, hh, l1, l2, l3, l4⟩ := p2_is hc ho
  have hi : i < x.k := hi
  have hk : k < x.k := hk
  have l1 : lyB x i h = true := l1
  have l2 : lyB x k h = true := l2
  rw [e1, e2, e3]
  have ht := chF_ok (x := x) (m := m) (l := l) hc
  have hE : h ≤ x.hE := by
    obtain ⟨_, _, _, _, _, ⟨_, q⟩, _⟩ := chk_net hc hi
    have := (ly_iff.1 l1).2.2
    omega
  refine exQ ⟨w1, w2, w3, exQ ⟨w1, w2, w3, exF ⟨l, fun _ _ => rfl, hc, w1, w2, w3, hm, exL (t := chF x m l) ⟨w1, w2, w3, w1, w1, w3, w3, exL (t := chF x m l) ⟨w1, w2, w3, w1, w1, w3, w3, ?_⟩⟩⟩⟩⟩
  simp only [Int.toNat_natCast]
  rw [(li_ok hc ht l1).1, (li_ok hc ht l2).1, (aq_ok hc hik l1 l2).1, (aq_ok hc (Ne.symm hik) l2 l1).1]
  simp only [(li_ok hc ht l1).2, (li_ok hc ht l2).2, (aq_ok hc hik l1 l2).2, (aq_ok hc (Ne.symm hik) l2 l1).2]
  have b1 := li_bd hc ht l1
  have b2 := li_bd hc ht l2
  obtain ⟨⟨t1, t2⟩, t3, t4⟩ := btw hc ht l1 l2
  obtain ⟨⟨v1, v2⟩, v3, v4⟩ := back (x := x) (i := i) (k := k) (h := h)
  have rb := ra_bd (rE_ok (chkW_of hc) hi hk hE)
  have rn := ra_bd (rN_ok (chkW_of hc) hi hk hE)
  have B : ∀ n lo hi : Int, lo ≤ n → n ≤ hi → within n lo hi = true := fun n lo hi h1 h2 => Nm.within_iff.2 ⟨h1, h2⟩
  rw [B _ _ _ t1 t2, B _ _ _ t3 t4, v1, v2, v3, v4]
  simp only [decide_true, Bool.and_true, Bool.not_true, Bool.false_eq_true, false_implies, true_and, not_true_eq_false, forall_const]
  refine ⟨by omega, by omega, by omega, by omega, by omega, by omega, by omega, by omega, by omega, by omega, by omega, by omega, exEn ⟨hc, w1, w2, w3, hi, hk, hik, hE, exEn ⟨hc, w1, w2, w3, hi, hk, hik, hE, ?_⟩⟩⟩
  have en1 := enT_ok (r := ⟨x, i, k, h, true⟩) hc hi hk
  have en2 := enT_ok (r := ⟨x, i, k, h, false⟩) hc hi hk
  obtain ⟨z1, z2⟩ := ends_so hc hik l1 l2
  have g1 := li_bd hc en1 l1
  have g2 := li_bd hc en1 l2
  have g3 := li_bd hc en2 l1
  have g4 := li_bd hc en2 l2
  refine ⟨by omega, fun g hg => ⟨fun hg2 => ⟨by omega, fun g0 => ⟨by omega, by omega, exL (t := enT ⟨x, i, k, h, true⟩) ⟨w1, w2, w3, w1, w1, w3, w3, by omega, by omega, exL (t := enT ⟨x, i, k, h, true⟩) ⟨w1, w2, w3, w1, w1, w3, w3, ?_⟩⟩⟩, fun g1 => ⟨by omega, by omega, exL (t := enT ⟨x, i, k, h, false⟩) ⟨w1, w2, w3, w1, w1, w3, w3, by omega, by omega, exL (t := enT ⟨x, i, k, h, false⟩) ⟨w1, w2, w3, w1, w1, w3, w3, ?_⟩⟩⟩⟩, fun _ => trivial⟩⟩
  · simp only [Int.toNat_natCast]
    rw [(li_ok hc en1 l1).1, (li_ok hc en1 l2).1]
    simp only [(li_ok hc en1 l1).2, (li_ok hc en1 l2).2]
    refine ⟨fun q => absurd trivial q, fun _ => ⟨fun q => absurd trivial q, fun _ => ⟨by omega, by omega, by omega, by omega, fun q => absurd z1 q, fun _ => ⟨by omega, by omega, g + 1, by omega, by omega, by omega⟩⟩⟩⟩
  · simp only [Int.toNat_natCast]
    rw [(li_ok hc en2 l1).1, (li_ok hc en2 l2).1]
    simp only [(li_ok hc en2 l1).2, (li_ok hc en2 l2).2]
    refine ⟨fun q => absurd trivial q, fun _ => ⟨fun q => absurd trivial q, fun _ => ⟨by omega, by omega, by omega, by omega, fun q => absurd z2 q, fun _ => ⟨by omega, by omega, g + 1, by omega, by omega, by omega⟩⟩⟩⟩
end Go.Proofs.YtcfmdhlohahhcaaDoor
