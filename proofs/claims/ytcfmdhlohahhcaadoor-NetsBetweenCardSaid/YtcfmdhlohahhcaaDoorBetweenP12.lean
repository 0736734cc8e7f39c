/- Texts for the law of the last part, part 12. -/
import Derived.Test.YtcfmdhlohahhcaaDoorBetweenP11
set_option linter.unusedSimpArgs false
set_option linter.unusedVariables false
set_option linter.unusedSimpArgs false
set_option linter.unusedVariables false
namespace Go.Proofs.YtcfmdhlohahhcaaDoor
open Go Go.Sx Nm
set_option maxRecDepth 100000
def TI0 : List (Nat × Sig) := (98, sRAp) :: TF
theorem TI0_ok : SigsOk Tryd.prog E0 TI0 := TF_ok.cons (runs 98 (by kernel_rfl)) q98
def nearB (lo hi own other gap : Int) : Bool := decide (lo ≤ other + gap) && decide (-own - gap ≤ hi)
structure NAsk where
  lo : Int
  hi : Int
  own : Int
  other : Int
  gap : Int
def NAsk.ok (r : NAsk) : Prop := (0 ≤ r.own ∧ r.own ≤ 2000) ∧ (0 ≤ r.other ∧ r.other ≤ 2000) ∧ 0 ≤ r.gap ∧ r.gap ≤ 500
def sNr : Sig := ⟨NAsk, fun r => [spanTV r.lo r.hi, intC r.own, intC r.other, intC r.gap], NAsk.ok, fun r => [.v (.c (.bool (nearB r.lo r.hi r.own r.other r.gap)))]⟩
theorem q96 (r : sNr.α) (hr : sNr.pre r) : CallQ Tryd.prog E0 96 (sNr.arg r) (sNr.res r) := by
  refine bare_tight E0_ok TI0 TI0_ok [] EvensOk.nil runs [] [] [] [] [] [] (fuel := 5) ?_
  refine of_red (q := inRange IntKind.i64 (r.other + r.gap) ∧ (decide (r.lo ≤ r.other + r.gap) = true → inRange IntKind.i64 (-r.own) ∧ inRange IntKind.i64 (-r.own - r.gap) ∧ True ∧ decide (-r.own - r.gap ≤ r.hi) = nearB r.lo r.hi r.own r.other r.gap) ∧ (decide (r.lo ≤ r.other + r.gap) = false → True ∧ nearB r.lo r.hi r.own r.other r.gap = false)) (by kernel_rfl) ?_
  simp only [true_and, and_true, inR, Prod.exists, Prod.forall, and_assoc, exists_and_left, exists_eq_left', exists_eq_left, forall_eq, exists_const, forall_const, loopN, loopM, fa2, fas, fas2, dup1, dup2, dup3, dup4, ite_true, exhs, exhn, exhz, exho, exs1, exn1, exz1, exo1, exs2, exn2, exz2, exo2, exs3, exn3, exz3, exo3, exs4, exn4, exz4, exo4, exs5, exn5, exz5, exo5, exs6, exn6, exz6, exo6, exs7, exn7, exz7, exo7, exs8, exn8, exz8, exo8, exs9, exn9, exz9, exo9, ex1, ex2, ex3, ex4, ex5, beqI, bneI, decide_true, Bool.true_and, decide_eq_true_eq, decide_eq_false_iff_not, ne_eq, Decidable.not_not]
  obtain ⟨lo, hi, own, other, gap⟩ := r
  obtain ⟨⟨o1, o2⟩, ⟨o3, o4⟩, g1, g2⟩ := (show (0 ≤ own ∧ own ≤ 2000) ∧ (0 ≤ other ∧ other ≤ 2000) ∧ 0 ≤ gap ∧ gap ≤ 500 from hr)
  simp only
  exact ⟨by omega, by omega, fun h1 => ⟨by omega, by omega, by omega, by omega, by rw [nearB, decide_eq_true h1, Bool.true_and]⟩, fun h1 => by rw [nearB, decide_eq_false h1, Bool.false_and]⟩
def sLo2 : Sig := ⟨Nat → Int, fun m => [arrTV 10 m], fun _ => True, fun m => [.v (intC (if m 3 = 0 then m 2 else 0)), .v (intC (if m 3 = 0 then 0 else m 2))]⟩
theorem q95 (m : Nat → Int) : CallQ Tryd.prog E0 95 (sLo2.arg m) (sLo2.res m) := by
  refine bare_tight E0_ok TI0 TI0_ok [] EvensOk.nil runs [] [] [] [] [] [] (fuel := 5) ?_
  refine of_red (q := ((m ((0 : Nat) + (nat_lit 2 + (1 : Nat))) == (0 : Int)) = true → (True ∧ m ((0 : Nat) + (nat_lit 1 + (1 : Nat))) = if m (3 : Nat) = (0 : Int) then m (2 : Nat) else (0 : Int)) ∧ (True ∧ (0 : Int) = if m (3 : Nat) = (0 : Int) then (0 : Int) else m (2 : Nat)) ∧ True) ∧ ((m ((0 : Nat) + (nat_lit 2 + (1 : Nat))) == (0 : Int)) = false → (True ∧ (0 : Int) = if m (3 : Nat) = (0 : Int) then m (2 : Nat) else (0 : Int)) ∧ (True ∧ m ((0 : Nat) + (nat_lit 1 + (1 : Nat))) = if m (3 : Nat) = (0 : Int) then (0 : Int) else m (2 : Nat)) ∧ True)) (by kernel_rfl) ?_
  simp only [true_and, and_true, inR, Prod.exists, Prod.forall, and_assoc, exists_and_left, exists_eq_left', exists_eq_left, forall_eq, exists_const, forall_const, loopN, loopM, fa2, fas, fas2, dup1, dup2, dup3, dup4, ite_true, exhs, exhn, exhz, exho, exs1, exn1, exz1, exo1, exs2, exn2, exz2, exo2, exs3, exn3, exz3, exo3, exs4, exn4, exz4, exo4, exs5, exn5, exz5, exo5, exs6, exn6, exz6, exo6, exs7, exn7, exz7, exo7, exs8, exn8, exz8, exo8, exs9, exn9, exz9, exo9, ex1, ex2, ex3, ex4, ex5, beqI, bneI, decide_true, Bool.true_and, decide_eq_true_eq, decide_eq_false_iff_not, ne_eq, Decidable.not_not]
  exact ⟨fun e => ⟨by rw [if_pos e], by rw [if_pos e]⟩, fun e => ⟨by rw [if_neg e], by rw [if_neg e]⟩⟩
def lyB (x : Fleet) (i h : Int) : Bool := within i 0 ((x.k : Int) - 1) && within h (x.net i.toNat 4) (x.net i.toNat 5)
def sLy : Sig := ⟨Fleet × Int × Int, fun x => [fleetTV x.1, intC x.2.1, intC x.2.2], fun x => x.1.wf, fun x => [.v (.c (.bool (lyB x.1 x.2.1 x.2.2)))]⟩
theorem q59 (r : sLy.α) (hr : sLy.pre r) : CallQ Tryd.prog E0 59 (sLy.arg r) (sLy.res r) := by
  obtain ⟨x, i, h⟩ := r
  refine bare_tight E0_ok TI0 TI0_ok [] EvensOk.nil runs [] [] [] [] [] [] (fuel := 5) ?_
  refine of_red (q := inRange IntKind.i64 ((↑x.k : Int) - (1 : Int)) ∧ ∃ (x_1 : Int × Int × Int), ((True ∧ i = x_1.fst) ∧ (True ∧ (0 : Int) = x_1.snd.fst) ∧ (True ∧ (↑x.k : Int) - (1 : Int) = x_1.snd.snd) ∧ True) ∧ True ∧ (within x_1.fst x_1.snd.fst x_1.snd.snd = true → (0 : Int) ≤ i ∧ i < (↑x.k : Int) ∧ (0 : Int) ≤ i ∧ i < (↑x.k : Int) ∧ ∃ (x_2 : Int × Int × Int), ((True ∧ h = x_2.fst) ∧ (True ∧ x.net i.toNat ((0 : Nat) + (nat_lit 3 + (1 : Nat))) = x_2.snd.fst) ∧ (True ∧ x.net i.toNat ((0 : Nat) + (nat_lit 4 + (1 : Nat))) = x_2.snd.snd) ∧ True) ∧ True ∧ True ∧ within x_2.fst x_2.snd.fst x_2.snd.snd = lyB x (i, h).fst (i, h).snd) ∧ (within x_1.fst x_1.snd.fst x_1.snd.snd = false → True ∧ lyB x (i, h).fst (i, h).snd = false)) (by kernel_rfl) ?_
  simp only [true_and, and_true, inR, Prod.exists, Prod.forall, and_assoc, exists_and_left, exists_eq_left', exists_eq_left, forall_eq, exists_const, forall_const, loopN, loopM, fa2, fas, fas2, dup1, dup2, dup3, dup4, ite_true, exhs, exhn, exhz, exho, exs1, exn1, exz1, exo1, exs2, exn2, exz2, exo2, exs3, exn3, exz3, exo3, exs4, exn4, exz4, exo4, exs5, exn5, exz5, exo5, exs6, exn6, exz6, exo6, exs7, exn7, exz7, exo7, exs8, exn8, exz8, exo8, exs9, exn9, exz9, exo9, ex1, ex2, ex3, ex4, ex5, beqI, bneI, decide_true, Bool.true_and, decide_eq_true_eq, decide_eq_false_iff_not, ne_eq, Decidable.not_not]
  obtain ⟨w1, w2, w3⟩ := (show x.wf from hr)
  refine ⟨by omega, by omega, fun h1 => ?_, fun h1 => by rw [lyB, h1, Bool.false_and]⟩
  have h2 := Nm.within_iff.1 h1
  exact ⟨by omega, by omega, by omega, by omega, by rw [lyB, h1, Bool.true_and]⟩
structure PAsk where
  x : Fleet
  i : Nat
  k : Nat
  lo : Int
  hi : Int
def PAsk.ok (r : PAsk) : Prop := ChkW r.x ∧ r.x.wf ∧ r.i < r.x.k ∧ r.k < r.x.k
def lg (m : Nat → Int) (s : Int) : Int := if m 3 = s then m 2 else 0
def sNrE : Sig := ⟨PAsk, fun r => [fleetTV r.x, spanTV r.i r.k, spanTV r.lo r.hi, sideE], PAsk.ok, fun r => [.v (.c (.bool (nearB r.lo r.hi (lg (r.x.net r.i) 0) (lg (r.x.net r.k) 0) r.x.gap)))]⟩
theorem q94e (r : sNrE.α) (hr : sNrE.pre r) : CallQ Tryd.prog E0 94 (sNrE.arg r) (sNrE.res r) := by
  obtain ⟨x, i, k, lo, hi⟩ := r
  refine bare_tight E0_ok TI0 TI0_ok [] EvensOk.nil runs [] [] [] [] [] [] (fuel := 5) ?_
  refine of_red (q := ∃ (x_1 : Fleet × Int), ((True ∧ flq x x_1.fst) ∧ (True ∧ (↑k : Int) = x_1.snd) ∧ True) ∧ ((x_1.fst.hE < (4611686018427387904 : Nat) ∧ x_1.fst.hN < (4611686018427387904 : Nat) ∧ x_1.fst.k < (4611686018427387904 : Nat)) ∧ (0 : Int) ≤ x_1.snd ∧ x_1.snd < (↑x_1.fst.k : Int)) ∧ ∃ (x_2 : Nat → Int), ((True ∧ (((((((((True ∧ True ∧ x_1.fst.net x_1.snd.toNat 0 = x_2 0) ∧ True ∧ x_1.fst.net x_1.snd.toNat 1 = x_2 1) ∧ True ∧ x_1.fst.net x_1.snd.toNat 2 = x_2 2) ∧ True ∧ x_1.fst.net x_1.snd.toNat 3 = x_2 3) ∧ True ∧ x_1.fst.net x_1.snd.toNat 4 = x_2 4) ∧ True ∧ x_1.fst.net x_1.snd.toNat 5 = x_2 5) ∧ True ∧ x_1.fst.net x_1.snd.toNat 6 = x_2 6) ∧ True ∧ x_1.fst.net x_1.snd.toNat 7 = x_2 7) ∧ True ∧ x_1.fst.net x_1.snd.toNat 8 = x_2 8) ∧ True ∧ x_1.fst.net x_1.snd.toNat 9 = x_2 9) ∧ True) ∧ True ∧ inRange IntKind.i64 ((if x_2 (3 : Nat) = (0 : Int) then x_2 (2 : Nat) else (0 : Int)) + x.gap) ∧ (decide (lo ≤ (if x_2 (3 : Nat) = (0 : Int) then x_2 (2 : Nat) else (0 : Int)) + x.gap) = true → ∃ (x_3 : Fleet × Int), ((True ∧ flq x x_3.fst) ∧ (True ∧ (↑i : Int) = x_3.snd) ∧ True) ∧ ((x_3.fst.hE < (4611686018427387904 : Nat) ∧ x_3.fst.hN < (4611686018427387904 : Nat) ∧ x_3.fst.k < (4611686018427387904 : Nat)) ∧ (0 : Int) ≤ x_3.snd ∧ x_3.snd < (↑x_3.fst.k : Int)) ∧ ∃ (x_4 : Nat → Int), ((True ∧ (((((((((True ∧ True ∧ x_3.fst.net x_3.snd.toNat 0 = x_4 0) ∧ True ∧ x_3.fst.net x_3.snd.toNat 1 = x_4 1) ∧ True ∧ x_3.fst.net x_3.snd.toNat 2 = x_4 2) ∧ True ∧ x_3.fst.net x_3.snd.toNat 3 = x_4 3) ∧ True ∧ x_3.fst.net x_3.snd.toNat 4 = x_4 4) ∧ True ∧ x_3.fst.net x_3.snd.toNat 5 = x_4 5) ∧ True ∧ x_3.fst.net x_3.snd.toNat 6 = x_4 6) ∧ True ∧ x_3.fst.net x_3.snd.toNat 7 = x_4 7) ∧ True ∧ x_3.fst.net x_3.snd.toNat 8 = x_4 8) ∧ True ∧ x_3.fst.net x_3.snd.toNat 9 = x_4 9) ∧ True) ∧ True ∧ inRange IntKind.i64 (-if x_4 (3 : Nat) = (0 : Int) then x_4 (2 : Nat) else (0 : Int)) ∧ inRange IntKind.i64 ((-if x_4 (3 : Nat) = (0 : Int) then x_4 (2 : Nat) else (0 : Int)) - x.gap) ∧ True ∧ decide ((-if x_4 (3 : Nat) = (0 : Int) then x_4 (2 : Nat) else (0 : Int)) - x.gap ≤ hi) = nearB lo hi (lg (x.net i) (0 : Int)) (lg (x.net k) (0 : Int)) x.gap) ∧ (decide (lo ≤ (if x_2 (3 : Nat) = (0 : Int) then x_2 (2 : Nat) else (0 : Int)) + x.gap) = false → True ∧ nearB lo hi (lg (x.net i) (0 : Int)) (lg (x.net k) (0 : Int)) x.gap = false)) (by kernel_rfl) ?_
  simp only [flq, true_and, and_true, inR, Prod.exists, Prod.forall, and_assoc, exists_and_left, exists_eq_left', exists_eq_left, forall_eq, exists_const, forall_const, loopN, loopM, fa2, fas, fas2, dup1, dup2, dup3, dup4, ite_true, exhs, exhn, exhz, exho, exs1, exn1, exz1, exo1, exs2, exn2, exz2, exo2, exs3, exn3, exz3, exo3, exs4, exn4, exz4, exo4, exs5, exn5, exz5, exo5, exs6, exn6, exz6, exo6, exs7, exn7, exz7, exo7, exs8, exn8, exz8, exo8, exs9, exn9, exz9, exo9, ex1, ex2, ex3, ex4, ex5, beqI, bneI, decide_true, Bool.true_and, decide_eq_true_eq, decide_eq_false_iff_not, ne_eq, Decidable.not_not]
  simp only [Int.toNat_natCast, Nat.reduceAdd]
  obtain ⟨hc, ⟨w1, w2, w3⟩, hi', hk⟩ := (show ChkW x ∧ x.wf ∧ i < x.k ∧ k < x.k from hr)
  obtain ⟨_, _, ⟨i1, i2⟩, _⟩ := chkW_net hc hi'
  obtain ⟨_, _, ⟨k1, k2⟩, _⟩ := chkW_net hc hk
  obtain ⟨s1, s2, s3, s4, s5, _⟩ := chkW_size hc
  have lk : 0 ≤ (if x.net k 3 = 0 then x.net k 2 else 0) ∧ (if x.net k 3 = 0 then x.net k 2 else 0) ≤ 2000 := by split <;> omega
  have li : 0 ≤ (if x.net i 3 = 0 then x.net i 2 else 0) ∧ (if x.net i 3 = 0 then x.net i 2 else 0) ≤ 2000 := by split <;> omega
  obtain ⟨lk1, lk2⟩ := lk
  obtain ⟨li1, li2⟩ := li
  refine ⟨x, rfl, fun _ _ => ⟨rfl, rfl⟩, rfl, fun _ _ => ⟨rfl, rfl⟩, rfl, rfl, fun _ _ => ⟨rfl, rfl, rfl, rfl, rfl, rfl, rfl, rfl, rfl, rfl⟩, w1, w2, w3, by omega, by omega, x.net k, rfl, rfl, rfl, rfl, rfl, rfl, rfl, rfl, rfl, rfl, ?_⟩
  unfold lg
  generalize (if x.net k 3 = 0 then x.net k 2 else 0) = p at *
  refine ⟨by omega, by omega, fun h1 => ⟨x, rfl, fun _ _ => ⟨rfl, rfl⟩, rfl, fun _ _ => ⟨rfl, rfl⟩, rfl, rfl, fun _ _ => ⟨rfl, rfl, rfl, rfl, rfl, rfl, rfl, rfl, rfl, rfl⟩, w1, w2, w3, by omega, by omega, x.net i, rfl, rfl, rfl, rfl, rfl, rfl, rfl, rfl, rfl, rfl, ?_⟩, fun h1 => by rw [nearB, decide_eq_false h1, Bool.false_and]⟩
  generalize (if x.net i 3 = 0 then x.net i 2 else 0) = q at *
  exact ⟨by omega, by omega, by omega, by omega, by rw [nearB, decide_eq_true h1, Bool.true_and]⟩
end Go.Proofs.YtcfmdhlohahhcaaDoor
set_option linter.unusedSimpArgs false
set_option linter.unusedVariables false
namespace Go.Proofs.YtcfmdhlohahhcaaDoor
open Go Go.Sx Nm
set_option maxRecDepth 100000
def TJ0 : List (Nat × Sig) := (59, sLy) :: (95, sLo2) :: (96, sNr) :: TI0
theorem TJ0_ok : SigsOk Tryd.prog E0 TJ0 := ((TI0_ok.cons (runs 96 (by kernel_rfl)) q96).cons (runs 95 (by kernel_rfl)) fun x _ => q95 x).cons (runs 59 (by kernel_rfl)) q59
structure BAsk where
  x : Fleet
  i : Nat
  k : Nat
  h : Nat
def BAsk.ok (a : BAsk) : Prop := ChkW a.x ∧ a.x.wf ∧ a.i < a.x.k ∧ a.k < a.x.k ∧ a.h ≤ a.x.hE
def rE (x : Fleet) (i k h : Nat) : RAsk := ⟨x.hE, x.e, x.net i, x.net k, x.net i 0 - x.net k 0, x.net i 6, x.net i 7, x.net k 6, x.net k 7, h⟩
def rN (x : Fleet) (i k h : Nat) : RAsk := ⟨x.hN, x.n, x.net i, x.net k, x.net i 1 - x.net k 1, x.net i 8, x.net i 9, x.net k 8, x.net k 9, h⟩
theorem rE_ok {x : Fleet} {i k h : Nat} (hc : ChkW x) (hi : i < x.k) (hk : k < x.k) (hh : h ≤ x.hE) : (rE x i k h).ok := by
  obtain ⟨⟨i1, i2⟩, _, _, _, ⟨i3, i4⟩, _, ⟨i5, i6, i7⟩, _⟩ := chkW_net hc hi
  obtain ⟨⟨k1, k2⟩, _, _, _, ⟨k3, k4⟩, _, ⟨k5, k6, k7⟩, _⟩ := chkW_net hc hk
  obtain ⟨s1, s2, s3, _⟩ := chkW_size hc
  exact ⟨hh, s2, fun j hj => (chkW_hour hc hj).1, ⟨by show -40000 ≤ x.net i 0 - x.net k 0; omega, by show x.net i 0 - x.net k 0 ≤ 40000; omega⟩, ⟨i5, i6, i7⟩, ⟨k5, k6, k7⟩, ⟨i3, by show x.net i 4 ≤ 24; omega⟩, k3, by show x.net k 4 ≤ 24; omega⟩
theorem rN_ok {x : Fleet} {i k h : Nat} (hc : ChkW x) (hi : i < x.k) (hk : k < x.k) (hh : h ≤ x.hE) : (rN x i k h).ok := by
  obtain ⟨_, ⟨i1, i2⟩, _, _, ⟨i3, i4⟩, _, _, i5, i6, i7⟩ := chkW_net hc hi
  obtain ⟨_, ⟨k1, k2⟩, _, _, ⟨k3, k4⟩, _, _, k5, k6, k7⟩ := chkW_net hc hk
  obtain ⟨s1, s2, s3, _⟩ := chkW_size hc
  exact ⟨by show h ≤ x.hN; omega, by show x.hN ≤ 24; omega, fun j hj => (chkW_hour hc (by have : j < x.hN := hj; omega)).2, ⟨by show -40000 ≤ x.net i 1 - x.net k 1; omega, by show x.net i 1 - x.net k 1 ≤ 40000; omega⟩, ⟨i5, i6, i7⟩, ⟨k5, k6, k7⟩, ⟨i3, by show x.net i 4 ≤ 24; omega⟩, k3, by show x.net k 4 ≤ 24; omega⟩
def sBoth : Sig := ⟨BAsk, fun a => [fleetTV a.x, intC a.i, intC a.k, intC a.h], BAsk.ok, fun a => [.v (spanTV (raLo (rE a.x a.i a.k a.h)) (raHi (rE a.x a.i a.k a.h))), .v (spanTV (raLo (rN a.x a.i a.k a.h)) (raHi (rN a.x a.i a.k a.h)))]⟩
theorem q69 (a : sBoth.α) (ha : sBoth.pre a) : CallQ Tryd.prog E0 69 (sBoth.arg a) (sBoth.res a) := by
  obtain ⟨x, i, k, h⟩ := a
  refine bare_tight E0_ok TJ0 TJ0_ok [] EvensOk.nil runs [] [] [] [] [] [] (fuel := 5) ?_
  refine of_red (q := (0 : Int) ≤ (↑i : Int) ∧ (↑i : Int) < (↑x.k : Int) ∧ (0 : Int) ≤ (↑k : Int) ∧ (↑k : Int) < (↑x.k : Int) ∧ inRange IntKind.i64 (x.net i (0 : Nat) - x.net k (0 : Nat)) ∧ ∃ (x_1 : RAsk), ((True ∧ True ∧ x.hE = x_1.n ∧ ∀ (i : Nat), i < x.hE → (True ∧ x.e i 0 = x_1.f i 0) ∧ x.e i 1 = x_1.f i 1) ∧ (True ∧ (((((((((True ∧ True ∧ x.net i 0 = x_1.a 0) ∧ True ∧ x.net i 1 = x_1.a 1) ∧ True ∧ x.net i 2 = x_1.a 2) ∧ True ∧ x.net i 3 = x_1.a 3) ∧ True ∧ x.net i 4 = x_1.a 4) ∧ True ∧ x.net i 5 = x_1.a 5) ∧ True ∧ x.net i 6 = x_1.a 6) ∧ True ∧ x.net i 7 = x_1.a 7) ∧ True ∧ x.net i 8 = x_1.a 8) ∧ True ∧ x.net i 9 = x_1.a 9) ∧ (True ∧ (((((((((True ∧ True ∧ x.net k 0 = x_1.b 0) ∧ True ∧ x.net k 1 = x_1.b 1) ∧ True ∧ x.net k 2 = x_1.b 2) ∧ True ∧ x.net k 3 = x_1.b 3) ∧ True ∧ x.net k 4 = x_1.b 4) ∧ True ∧ x.net k 5 = x_1.b 5) ∧ True ∧ x.net k 6 = x_1.b 6) ∧ True ∧ x.net k 7 = x_1.b 7) ∧ True ∧ x.net k 8 = x_1.b 8) ∧ True ∧ x.net k 9 = x_1.b 9) ∧ (True ∧ x.net i (0 : Nat) - x.net k (0 : Nat) = x_1.off) ∧ (True ∧ (True ∧ True ∧ x.net i (nat_lit 0 + (nat_lit 5 + (1 : Nat))) = x_1.l) ∧ True ∧ x.net i (nat_lit 1 + (nat_lit 5 + (1 : Nat))) = x_1.u) ∧ (True ∧ (True ∧ True ∧ x.net k (nat_lit 0 + (nat_lit 5 + (1 : Nat))) = x_1.l2) ∧ True ∧ x.net k (nat_lit 1 + (nat_lit 5 + (1 : Nat))) = x_1.u2) ∧ (True ∧ (↑h : Int) = (↑x_1.h : Int)) ∧ True) ∧ (x_1.h ≤ x_1.n ∧ x_1.n ≤ (24 : Nat) ∧ (∀ (j : Nat), j < x_1.n → (-200 : Int) ≤ x_1.f j (0 : Nat) ∧ x_1.f j (0 : Nat) ≤ x_1.f j (1 : Nat) ∧ x_1.f j (1 : Nat) ≤ (200 : Int)) ∧ ((-40000 : Int) ≤ x_1.off ∧ x_1.off ≤ (40000 : Int)) ∧ ((-50 : Int) ≤ x_1.l ∧ x_1.l ≤ x_1.u ∧ x_1.u ≤ (50 : Int)) ∧ ((-50 : Int) ≤ x_1.l2 ∧ x_1.l2 ≤ x_1.u2 ∧ x_1.u2 ≤ (50 : Int)) ∧ ((0 : Int) ≤ x_1.a (4 : Nat) ∧ x_1.a (4 : Nat) ≤ (24 : Int)) ∧ (0 : Int) ≤ x_1.b (4 : Nat) ∧ x_1.b (4 : Nat) ≤ (24 : Int)) ∧ inRange IntKind.i64 (x.net i ((0 : Nat) + (nat_lit 0 + (1 : Nat))) - x.net k ((0 : Nat) + (nat_lit 0 + (1 : Nat)))) ∧ ∃ (x_2 : RAsk), ((True ∧ True ∧ x.hN = x_2.n ∧ ∀ (i : Nat), i < x.hN → (True ∧ x.n i 0 = x_2.f i 0) ∧ x.n i 1 = x_2.f i 1) ∧ (True ∧ (((((((((True ∧ True ∧ x.net i 0 = x_2.a 0) ∧ True ∧ x.net i 1 = x_2.a 1) ∧ True ∧ x.net i 2 = x_2.a 2) ∧ True ∧ x.net i 3 = x_2.a 3) ∧ True ∧ x.net i 4 = x_2.a 4) ∧ True ∧ x.net i 5 = x_2.a 5) ∧ True ∧ x.net i 6 = x_2.a 6) ∧ True ∧ x.net i 7 = x_2.a 7) ∧ True ∧ x.net i 8 = x_2.a 8) ∧ True ∧ x.net i 9 = x_2.a 9) ∧ (True ∧ (((((((((True ∧ True ∧ x.net k 0 = x_2.b 0) ∧ True ∧ x.net k 1 = x_2.b 1) ∧ True ∧ x.net k 2 = x_2.b 2) ∧ True ∧ x.net k 3 = x_2.b 3) ∧ True ∧ x.net k 4 = x_2.b 4) ∧ True ∧ x.net k 5 = x_2.b 5) ∧ True ∧ x.net k 6 = x_2.b 6) ∧ True ∧ x.net k 7 = x_2.b 7) ∧ True ∧ x.net k 8 = x_2.b 8) ∧ True ∧ x.net k 9 = x_2.b 9) ∧ (True ∧ x.net i ((0 : Nat) + (nat_lit 0 + (1 : Nat))) - x.net k ((0 : Nat) + (nat_lit 0 + (1 : Nat))) = x_2.off) ∧ (True ∧ (True ∧ True ∧ x.net i (nat_lit 0 + (nat_lit 7 + (1 : Nat))) = x_2.l) ∧ True ∧ x.net i (nat_lit 1 + (nat_lit 7 + (1 : Nat))) = x_2.u) ∧ (True ∧ (True ∧ True ∧ x.net k (nat_lit 0 + (nat_lit 7 + (1 : Nat))) = x_2.l2) ∧ True ∧ x.net k (nat_lit 1 + (nat_lit 7 + (1 : Nat))) = x_2.u2) ∧ (True ∧ (↑h : Int) = (↑x_2.h : Int)) ∧ True) ∧ (x_2.h ≤ x_2.n ∧ x_2.n ≤ (24 : Nat) ∧ (∀ (j : Nat), j < x_2.n → (-200 : Int) ≤ x_2.f j (0 : Nat) ∧ x_2.f j (0 : Nat) ≤ x_2.f j (1 : Nat) ∧ x_2.f j (1 : Nat) ≤ (200 : Int)) ∧ ((-40000 : Int) ≤ x_2.off ∧ x_2.off ≤ (40000 : Int)) ∧ ((-50 : Int) ≤ x_2.l ∧ x_2.l ≤ x_2.u ∧ x_2.u ≤ (50 : Int)) ∧ ((-50 : Int) ≤ x_2.l2 ∧ x_2.l2 ≤ x_2.u2 ∧ x_2.u2 ≤ (50 : Int)) ∧ ((0 : Int) ≤ x_2.a (4 : Nat) ∧ x_2.a (4 : Nat) ≤ (24 : Int)) ∧ (0 : Int) ≤ x_2.b (4 : Nat) ∧ x_2.b (4 : Nat) ≤ (24 : Int)) ∧ (True ∧ (True ∧ True ∧ raLo x_1 = raLo (rE x i k h)) ∧ True ∧ raHi x_1 = raHi (rE x i k h)) ∧ (True ∧ (True ∧ True ∧ raLo x_2 = raLo (rN x i k h)) ∧ True ∧ raHi x_2 = raHi (rN x i k h)) ∧ True) (by kernel_rfl) ?_
  simp only [true_and, and_true, inR, Prod.exists, Prod.forall, and_assoc, exists_and_left, exists_eq_left', exists_eq_left, forall_eq, exists_const, forall_const, loopN, loopM, fa2, fas, fas2, dup1, dup2, dup3, dup4, ite_true, exhs, exhn, exhz, exho, exs1, exn1, exz1, exo1, exs2, exn2, exz2, exo2, exs3, exn3, exz3, exo3, exs4, exn4, exz4, exo4, exs5, exn5, exz5, exo5, exs6, exn6, exz6, exo6, exs7, exn7, exz7, exo7, exs8, exn8, exz8, exo8, exs9, exn9, exz9, exo9, ex1, ex2, ex3, ex4, ex5, beqI, bneI, decide_true, Bool.true_and, decide_eq_true_eq, decide_eq_false_iff_not, ne_eq, Decidable.not_not]
  simp only [Int.toNat_natCast, Nat.reduceAdd]
  obtain ⟨hc, ⟨w1, w2, w3⟩, hi, hk, hh⟩ := (show ChkW x ∧ x.wf ∧ i < x.k ∧ k < x.k ∧ h ≤ x.hE from ha)
  obtain ⟨⟨a1, a2⟩, ⟨a3, a4⟩, _⟩ := chkW_net hc hi
  obtain ⟨⟨b1, b2⟩, ⟨b3, b4⟩, _⟩ := chkW_net hc hk
  obtain ⟨e1, e2, e3, ⟨e4, e5⟩, ⟨e6, e7, e8⟩, ⟨e9, e10, e11⟩, ⟨e12, e13⟩, e14, e15⟩ := rE_ok hc hi hk hh
  obtain ⟨n1, n2, n3, ⟨n4, n5⟩, ⟨n6, n7, n8⟩, ⟨n9, n10, n11⟩, ⟨n12, n13⟩, n14, n15⟩ := rN_ok hc hi hk hh
  refine ⟨by omega, by omega, by omega, by omega, by omega, by omega, rE x i k h, rfl, fun _ _ => ⟨rfl, rfl⟩, rfl, rfl, rfl, rfl, rfl, rfl, rfl, rfl, rfl, rfl, rfl, rfl, rfl, rfl, rfl, rfl, rfl, rfl, rfl, rfl, rfl, rfl, rfl, rfl, rfl, rfl, e1, e2, e3, e4, e5, e6, e7, e8, e9, e10, e11, e12, e13, e14, e15, ?_⟩
  refine ⟨by omega, by omega, rN x i k h, rfl, fun _ _ => ⟨rfl, rfl⟩, rfl, rfl, rfl, rfl, rfl, rfl, rfl, rfl, rfl, rfl, rfl, rfl, rfl, rfl, rfl, rfl, rfl, rfl, rfl, rfl, rfl, rfl, rfl, rfl, rfl, rfl, n1, n2, n3, n4, n5, n6, n7, n8, n9, n10, n11, n12, n13, n14, n15, ?_⟩
  exact ⟨rfl, rfl, rfl, rfl⟩
structure FAsk where
  x : Fleet
  i : Nat
  k : Nat
  l : Int
  u : Int
  l2 : Int
  u2 : Int
def FAsk.ok (a : FAsk) : Prop := ChkW a.x ∧ a.x.wf ∧ a.i < a.x.k ∧ a.k < a.x.k
def foulB (a : FAsk) : Bool := nearB a.l a.u (lg (a.x.net a.i) 0) (lg (a.x.net a.k) 0) a.x.gap && nearB a.l2 a.u2 (lg (a.x.net a.i) 1) (lg (a.x.net a.k) 1) a.x.gap
def sFoul : Sig := ⟨FAsk, fun a => [fleetTV a.x, intC a.i, intC a.k, spanTV a.l a.u, spanTV a.l2 a.u2], FAsk.ok, fun a => [.v (.c (.bool (foulB a)))]⟩
theorem q66 (a : sFoul.α) (ha : sFoul.pre a) : CallQ Tryd.prog E0 66 (sFoul.arg a) (sFoul.res a) := by
  obtain ⟨x, i, k, l, u, l2, u2⟩ := a
  refine bare_tight E0_ok TJ0 TJ0_ok [] EvensOk.nil runs [] [] [] [] [] [] (fuel := 5) ?_
  refine of_red (q := (0 : Int) ≤ (↑i : Int) ∧ (↑i : Int) < (↑x.k : Int) ∧ ∃ (x_1 : Nat → Int), ((True ∧ (((((((((True ∧ True ∧ x.net i 0 = x_1 0) ∧ True ∧ x.net i 1 = x_1 1) ∧ True ∧ x.net i 2 = x_1 2) ∧ True ∧ x.net i 3 = x_1 3) ∧ True ∧ x.net i 4 = x_1 4) ∧ True ∧ x.net i 5 = x_1 5) ∧ True ∧ x.net i 6 = x_1 6) ∧ True ∧ x.net i 7 = x_1 7) ∧ True ∧ x.net i 8 = x_1 8) ∧ True ∧ x.net i 9 = x_1 9) ∧ True) ∧ True ∧ (0 : Int) ≤ (↑k : Int) ∧ (↑k : Int) < (↑x.k : Int) ∧ ∃ (x_2 : Nat → Int), ((True ∧ (((((((((True ∧ True ∧ x.net k 0 = x_2 0) ∧ True ∧ x.net k 1 = x_2 1) ∧ True ∧ x.net k 2 = x_2 2) ∧ True ∧ x.net k 3 = x_2 3) ∧ True ∧ x.net k 4 = x_2 4) ∧ True ∧ x.net k 5 = x_2 5) ∧ True ∧ x.net k 6 = x_2 6) ∧ True ∧ x.net k 7 = x_2 7) ∧ True ∧ x.net k 8 = x_2 8) ∧ True ∧ x.net k 9 = x_2 9) ∧ True) ∧ True ∧ ∃ (x_3 : NAsk), ((True ∧ (True ∧ True ∧ l = x_3.lo) ∧ True ∧ u = x_3.hi) ∧ (True ∧ (if x_1 (3 : Nat) = (0 : Int) then x_1 (2 : Nat) else (0 : Int)) = x_3.own) ∧ (True ∧ (if x_2 (3 : Nat) = (0 : Int) then x_2 (2 : Nat) else (0 : Int)) = x_3.other) ∧ (True ∧ x.gap = x_3.gap) ∧ True) ∧ (((0 : Int) ≤ x_3.own ∧ x_3.own ≤ (2000 : Int)) ∧ ((0 : Int) ≤ x_3.other ∧ x_3.other ≤ (2000 : Int)) ∧ (0 : Int) ≤ x_3.gap ∧ x_3.gap ≤ (500 : Int)) ∧ (nearB x_3.lo x_3.hi x_3.own x_3.other x_3.gap = true → ∃ (x_4 : NAsk), ((True ∧ (True ∧ True ∧ l2 = x_4.lo) ∧ True ∧ u2 = x_4.hi) ∧ (True ∧ (if x_1 (3 : Nat) = (0 : Int) then (0 : Int) else x_1 (2 : Nat)) = x_4.own) ∧ (True ∧ (if x_2 (3 : Nat) = (0 : Int) then (0 : Int) else x_2 (2 : Nat)) = x_4.other) ∧ (True ∧ x.gap = x_4.gap) ∧ True) ∧ (((0 : Int) ≤ x_4.own ∧ x_4.own ≤ (2000 : Int)) ∧ ((0 : Int) ≤ x_4.other ∧ x_4.other ≤ (2000 : Int)) ∧ (0 : Int) ≤ x_4.gap ∧ x_4.gap ≤ (500 : Int)) ∧ True ∧ nearB x_4.lo x_4.hi x_4.own x_4.other x_4.gap = foulB { x := x, i := i, k := k, l := l, u := u, l2 := l2, u2 := u2 }) ∧ (nearB x_3.lo x_3.hi x_3.own x_3.other x_3.gap = false → True ∧ foulB { x := x, i := i, k := k, l := l, u := u, l2 := l2, u2 := u2 } = false)) (by kernel_rfl) ?_
  simp only [true_and, and_true, inR, Prod.exists, Prod.forall, and_assoc, exists_and_left, exists_eq_left', exists_eq_left, forall_eq, exists_const, forall_const, loopN, loopM, fa2, fas, fas2, dup1, dup2, dup3, dup4, ite_true, exhs, exhn, exhz, exho, exs1, exn1, exz1, exo1, exs2, exn2, exz2, exo2, exs3, exn3, exz3, exo3, exs4, exn4, exz4, exo4, exs5, exn5, exz5, exo5, exs6, exn6, exz6, exo6, exs7, exn7, exz7, exo7, exs8, exn8, exz8, exo8, exs9, exn9, exz9, exo9, ex1, ex2, ex3, ex4, ex5, beqI, bneI, decide_true, Bool.true_and, decide_eq_true_eq, decide_eq_false_iff_not, ne_eq, Decidable.not_not]
  obtain ⟨hc, ⟨w1, w2, w3⟩, hi, hk⟩ := (show ChkW x ∧ x.wf ∧ i < x.k ∧ k < x.k from ha)
  obtain ⟨_, _, ⟨i1, i2⟩, ⟨i3, i4⟩, _⟩ := chkW_net hc hi
  obtain ⟨_, _, ⟨k1, k2⟩, ⟨k3, k4⟩, _⟩ := chkW_net hc hk
  obtain ⟨s1, s2, s3, s4, s5, _⟩ := chkW_size hc
  have bd : ∀ (m : Nat → Int) (t : Int), 0 ≤ m 2 → m 2 ≤ 2000 → 0 ≤ lg m t ∧ lg m t ≤ 2000 := fun m t h1 h2 => by unfold lg; split <;> omega
  have tw : ∀ (m : Nat → Int), 0 ≤ m 3 → m 3 ≤ 1 → (if m 3 = 0 then 0 else m 2) = lg m 1 := fun m h1 h2 => by unfold lg; split <;> split <;> omega
  obtain ⟨p1, p2⟩ := bd (x.net i) 0 i1 i2
  obtain ⟨p3, p4⟩ := bd (x.net k) 0 k1 k2
  obtain ⟨p5, p6⟩ := bd (x.net i) 1 i1 i2
  obtain ⟨p7, p8⟩ := bd (x.net k) 1 k1 k2
  refine ⟨by omega, by omega, x.net i, rfl, rfl, rfl, rfl, rfl, rfl, rfl, rfl, rfl, rfl, by omega, by omega, x.net k, rfl, rfl, rfl, rfl, rfl, rfl, rfl, rfl, rfl, rfl, ⟨l, u, lg (x.net i) 0, lg (x.net k) 0, x.gap⟩, rfl, rfl, rfl, rfl, rfl, p1, p2, p3, p4, s4, s5, fun h1 => ⟨⟨l2, u2, lg (x.net i) 1, lg (x.net k) 1, x.gap⟩, rfl, rfl, tw _ i3 i4, tw _ k3 k4, rfl, p5, p6, p7, p8, s4, s5, ?_⟩, fun h1 => ?_⟩
  · have h1 : nearB l u (lg (x.net i) 0) (lg (x.net k) 0) x.gap = true := h1
    show nearB l2 u2 (lg (x.net i) 1) (lg (x.net k) 1) x.gap = (nearB l u (lg (x.net i) 0) (lg (x.net k) 0) x.gap && nearB l2 u2 (lg (x.net i) 1) (lg (x.net k) 1) x.gap)
    rw [h1]; rfl
  · have h1 : nearB l u (lg (x.net i) 0) (lg (x.net k) 0) x.gap = false := h1
    show (nearB l u (lg (x.net i) 0) (lg (x.net k) 0) x.gap && nearB l2 u2 (lg (x.net i) 1) (lg (x.net k) 1) x.gap) = false
    rw [h1]; rfl
end Go.Proofs.YtcfmdhlohahhcaaDoor
set_option linter.unusedSimpArgs false
set_option linter.unusedVariables false
namespace Go.Proofs.YtcfmdhlohahhcaaDoor
open Go Go.Sx Nm
set_option maxRecDepth 100000
def TK0 : List (Nat × Sig) := (66, sFoul) :: (69, sBoth) :: TJ0
theorem TK0_ok : SigsOk Tryd.prog E0 TK0 := (TJ0_ok.cons (runs 69 (by kernel_rfl)) q69).cons (runs 66 (by kernel_rfl)) q66
def fRef (x : Fleet) (i k h : Nat) : FAsk := ⟨x, i, k, raLo (rE x i k h), raHi (rE x i k h), raLo (rN x i k h), raHi (rN x i k h)⟩
def canB (a : BAsk) : Bool := lyB a.x a.i a.h && lyB a.x a.k a.h && foulB (fRef a.x a.i a.k a.h)
def sCan : Sig := ⟨BAsk, fun a => [fleetTV a.x, intC a.i, intC a.k, intC a.h], BAsk.ok, fun a => [.v (.c (.bool (canB a)))]⟩
theorem q70 (a : sCan.α) (ha : sCan.pre a) : CallQ Tryd.prog E0 70 (sCan.arg a) (sCan.res a) := by
  obtain ⟨x, i, k, h⟩ := a
  refine bare_tight E0_ok TK0 TK0_ok [] EvensOk.nil runs [] [] [] [] [] [] (fuel := 5) ?_
  refine of_red (q := ∃ (x_1 : Fleet × Int × Int), ((True ∧ flq x x_1.fst) ∧ (True ∧ (↑i : Int) = x_1.snd.fst) ∧ (True ∧ (↑h : Int) = x_1.snd.snd) ∧ True) ∧ (x_1.fst.hE < (4611686018427387904 : Nat) ∧ x_1.fst.hN < (4611686018427387904 : Nat) ∧ x_1.fst.k < (4611686018427387904 : Nat)) ∧ ((!lyB x_1.fst x_1.snd.fst x_1.snd.snd) = true → True ∧ canB { x := x, i := i, k := k, h := h } = false) ∧ ((!lyB x_1.fst x_1.snd.fst x_1.snd.snd) = false → ∃ (x_2 : Fleet × Int × Int), ((True ∧ flq x x_2.fst) ∧ (True ∧ (↑k : Int) = x_2.snd.fst) ∧ (True ∧ (↑h : Int) = x_2.snd.snd) ∧ True) ∧ (x_2.fst.hE < (4611686018427387904 : Nat) ∧ x_2.fst.hN < (4611686018427387904 : Nat) ∧ x_2.fst.k < (4611686018427387904 : Nat)) ∧ ((!lyB x_2.fst x_2.snd.fst x_2.snd.snd) = true → True ∧ canB { x := x, i := i, k := k, h := h } = false) ∧ ((!lyB x_2.fst x_2.snd.fst x_2.snd.snd) = false → ∃ (x_3 : BAsk), ((True ∧ flq x x_3.x) ∧ (True ∧ (↑i : Int) = (↑x_3.i : Int)) ∧ (True ∧ (↑k : Int) = (↑x_3.k : Int)) ∧ (True ∧ (↑h : Int) = (↑x_3.h : Int)) ∧ True) ∧ (ChkW x_3.x ∧ (x_3.x.hE < (4611686018427387904 : Nat) ∧ x_3.x.hN < (4611686018427387904 : Nat) ∧ x_3.x.k < (4611686018427387904 : Nat)) ∧ x_3.i < x_3.x.k ∧ x_3.k < x_3.x.k ∧ x_3.h ≤ x_3.x.hE) ∧ ∃ (x_4 : FAsk), ((True ∧ flq x x_4.x) ∧ (True ∧ (↑i : Int) = (↑x_4.i : Int)) ∧ (True ∧ (↑k : Int) = (↑x_4.k : Int)) ∧ (True ∧ (True ∧ True ∧ raLo (rE x_3.x x_3.i x_3.k x_3.h) = x_4.l) ∧ True ∧ raHi (rE x_3.x x_3.i x_3.k x_3.h) = x_4.u) ∧ (True ∧ (True ∧ True ∧ raLo (rN x_3.x x_3.i x_3.k x_3.h) = x_4.l2) ∧ True ∧ raHi (rN x_3.x x_3.i x_3.k x_3.h) = x_4.u2) ∧ True) ∧ (ChkW x_4.x ∧ (x_4.x.hE < (4611686018427387904 : Nat) ∧ x_4.x.hN < (4611686018427387904 : Nat) ∧ x_4.x.k < (4611686018427387904 : Nat)) ∧ x_4.i < x_4.x.k ∧ x_4.k < x_4.x.k) ∧ True ∧ foulB x_4 = canB { x := x, i := i, k := k, h := h }))) (by kernel_rfl) ?_
  simp only [flq, true_and, and_true, inR, Prod.exists, Prod.forall, and_assoc, exists_and_left, exists_eq_left', exists_eq_left, forall_eq, exists_const, forall_const, loopN, loopM, fa2, fas, fas2, dup1, dup2, dup3, dup4, ite_true, exhs, exhn, exhz, exho, exs1, exn1, exz1, exo1, exs2, exn2, exz2, exo2, exs3, exn3, exz3, exo3, exs4, exn4, exz4, exo4, exs5, exn5, exz5, exo5, exs6, exn6, exz6, exo6, exs7, exn7, exz7, exo7, exs8, exn8, exz8, exo8, exs9, exn9, exz9, exo9, ex1, ex2, ex3, ex4, ex5, beqI, bneI, decide_true, Bool.true_and, decide_eq_true_eq, decide_eq_false_iff_not, ne_eq, Decidable.not_not]
  obtain ⟨hc, ⟨w1, w2, w3⟩, hi, hk, hh⟩ := (show ChkW x ∧ x.wf ∧ i < x.k ∧ k < x.k ∧ h ≤ x.hE from ha)
  refine ⟨x, rfl, fun _ _ => ⟨rfl, rfl⟩, rfl, fun _ _ => ⟨rfl, rfl⟩, rfl, rfl, fun _ _ => ⟨rfl, rfl, rfl, rfl, rfl, rfl, rfl, rfl, rfl, rfl⟩, w1, w2, w3, fun h1 => ?_, fun h1 => ⟨x, rfl, fun _ _ => ⟨rfl, rfl⟩, rfl, fun _ _ => ⟨rfl, rfl⟩, rfl, rfl, fun _ _ => ⟨rfl, rfl, rfl, rfl, rfl, rfl, rfl, rfl, rfl, rfl⟩, w1, w2, w3, fun h2 => ?_, fun h2 => ⟨⟨x, i, k, h⟩, rfl, fun _ _ => ⟨rfl, rfl⟩, rfl, fun _ _ => ⟨rfl, rfl⟩, rfl, rfl, fun _ _ => ⟨rfl, rfl, rfl, rfl, rfl, rfl, rfl, rfl, rfl, rfl⟩, rfl, rfl, rfl, hc, w1, w2, w3, hi, hk, hh, fRef x i k h, rfl, fun _ _ => ⟨rfl, rfl⟩, rfl, fun _ _ => ⟨rfl, rfl⟩, rfl, rfl, fun _ _ => ⟨rfl, rfl, rfl, rfl, rfl, rfl, rfl, rfl, rfl, rfl⟩, rfl, rfl, rfl, rfl, rfl, rfl, hc, w1, w2, w3, hi, hk, ?_⟩⟩⟩
  · rw [Bool.not_eq_true'] at h1
    show (lyB x i h && lyB x k h && foulB (fRef x i k h)) = false
    rw [h1]; rfl
  · rw [Bool.not_eq_false'] at h1
    rw [Bool.not_eq_true'] at h2
    show (lyB x i h && lyB x k h && foulB (fRef x i k h)) = false
    rw [h1, h2]; rfl
  · rw [Bool.not_eq_false'] at h1 h2
    show foulB (fRef x i k h) = (lyB x i h && lyB x k h && foulB (fRef x i k h))
    rw [h1, h2]; rfl
end Go.Proofs.YtcfmdhlohahhcaaDoor
set_option linter.unusedSimpArgs false
set_option linter.unusedVariables false
namespace Go.Proofs.YtcfmdhlohahhcaaDoor
open Go Go.Sx Nm
set_option maxRecDepth 100000
def sNrN : Sig := ⟨PAsk, fun r => [fleetTV r.x, spanTV r.i r.k, spanTV r.lo r.hi, sideN], PAsk.ok, fun r => [.v (.c (.bool (nearB r.lo r.hi (lg (r.x.net r.i) 1) (lg (r.x.net r.k) 1) r.x.gap)))]⟩
theorem q94n (r : sNrN.α) (hr : sNrN.pre r) : CallQ Tryd.prog E0 94 (sNrN.arg r) (sNrN.res r) := by
  obtain ⟨x, i, k, lo, hi⟩ := r
  refine bare_tight E0_ok TI0 TI0_ok [] EvensOk.nil runs [] [] [] [] [] [] (fuel := 5) ?_
  refine of_red (q := ∃ (x_1 : Fleet × Int), ((True ∧ flq x x_1.fst) ∧ (True ∧ (↑k : Int) = x_1.snd) ∧ True) ∧ ((x_1.fst.hE < (4611686018427387904 : Nat) ∧ x_1.fst.hN < (4611686018427387904 : Nat) ∧ x_1.fst.k < (4611686018427387904 : Nat)) ∧ (0 : Int) ≤ x_1.snd ∧ x_1.snd < (↑x_1.fst.k : Int)) ∧ ∃ (x_2 : Nat → Int), ((True ∧ (((((((((True ∧ True ∧ x_1.fst.net x_1.snd.toNat 0 = x_2 0) ∧ True ∧ x_1.fst.net x_1.snd.toNat 1 = x_2 1) ∧ True ∧ x_1.fst.net x_1.snd.toNat 2 = x_2 2) ∧ True ∧ x_1.fst.net x_1.snd.toNat 3 = x_2 3) ∧ True ∧ x_1.fst.net x_1.snd.toNat 4 = x_2 4) ∧ True ∧ x_1.fst.net x_1.snd.toNat 5 = x_2 5) ∧ True ∧ x_1.fst.net x_1.snd.toNat 6 = x_2 6) ∧ True ∧ x_1.fst.net x_1.snd.toNat 7 = x_2 7) ∧ True ∧ x_1.fst.net x_1.snd.toNat 8 = x_2 8) ∧ True ∧ x_1.fst.net x_1.snd.toNat 9 = x_2 9) ∧ True) ∧ True ∧ inRange IntKind.i64 ((if x_2 (3 : Nat) = (1 : Int) then x_2 (2 : Nat) else (0 : Int)) + x.gap) ∧ (decide (lo ≤ (if x_2 (3 : Nat) = (1 : Int) then x_2 (2 : Nat) else (0 : Int)) + x.gap) = true → ∃ (x_3 : Fleet × Int), ((True ∧ flq x x_3.fst) ∧ (True ∧ (↑i : Int) = x_3.snd) ∧ True) ∧ ((x_3.fst.hE < (4611686018427387904 : Nat) ∧ x_3.fst.hN < (4611686018427387904 : Nat) ∧ x_3.fst.k < (4611686018427387904 : Nat)) ∧ (0 : Int) ≤ x_3.snd ∧ x_3.snd < (↑x_3.fst.k : Int)) ∧ ∃ (x_4 : Nat → Int), ((True ∧ (((((((((True ∧ True ∧ x_3.fst.net x_3.snd.toNat 0 = x_4 0) ∧ True ∧ x_3.fst.net x_3.snd.toNat 1 = x_4 1) ∧ True ∧ x_3.fst.net x_3.snd.toNat 2 = x_4 2) ∧ True ∧ x_3.fst.net x_3.snd.toNat 3 = x_4 3) ∧ True ∧ x_3.fst.net x_3.snd.toNat 4 = x_4 4) ∧ True ∧ x_3.fst.net x_3.snd.toNat 5 = x_4 5) ∧ True ∧ x_3.fst.net x_3.snd.toNat 6 = x_4 6) ∧ True ∧ x_3.fst.net x_3.snd.toNat 7 = x_4 7) ∧ True ∧ x_3.fst.net x_3.snd.toNat 8 = x_4 8) ∧ True ∧ x_3.fst.net x_3.snd.toNat 9 = x_4 9) ∧ True) ∧ True ∧ inRange IntKind.i64 (-if x_4 (3 : Nat) = (1 : Int) then x_4 (2 : Nat) else (0 : Int)) ∧ inRange IntKind.i64 ((-if x_4 (3 : Nat) = (1 : Int) then x_4 (2 : Nat) else (0 : Int)) - x.gap) ∧ True ∧ decide ((-if x_4 (3 : Nat) = (1 : Int) then x_4 (2 : Nat) else (0 : Int)) - x.gap ≤ hi) = nearB lo hi (lg (x.net i) (1 : Int)) (lg (x.net k) (1 : Int)) x.gap) ∧ (decide (lo ≤ (if x_2 (3 : Nat) = (1 : Int) then x_2 (2 : Nat) else (0 : Int)) + x.gap) = false → True ∧ nearB lo hi (lg (x.net i) (1 : Int)) (lg (x.net k) (1 : Int)) x.gap = false)) (by kernel_rfl) ?_
  simp only [flq, true_and, and_true, inR, Prod.exists, Prod.forall, and_assoc, exists_and_left, exists_eq_left', exists_eq_left, forall_eq, exists_const, forall_const, loopN, loopM, fa2, fas, fas2, dup1, dup2, dup3, dup4, ite_true, exhs, exhn, exhz, exho, exs1, exn1, exz1, exo1, exs2, exn2, exz2, exo2, exs3, exn3, exz3, exo3, exs4, exn4, exz4, exo4, exs5, exn5, exz5, exo5, exs6, exn6, exz6, exo6, exs7, exn7, exz7, exo7, exs8, exn8, exz8, exo8, exs9, exn9, exz9, exo9, ex1, ex2, ex3, ex4, ex5, beqI, bneI, decide_true, Bool.true_and, decide_eq_true_eq, decide_eq_false_iff_not, ne_eq, Decidable.not_not]
  simp only [Int.toNat_natCast, Nat.reduceAdd]
  obtain ⟨hc, ⟨w1, w2, w3⟩, hi', hk⟩ := (show ChkW x ∧ x.wf ∧ i < x.k ∧ k < x.k from hr)
  obtain ⟨_, _, ⟨i1, i2⟩, _⟩ := chkW_net hc hi'
  obtain ⟨_, _, ⟨k1, k2⟩, _⟩ := chkW_net hc hk
  obtain ⟨s1, s2, s3, s4, s5, _⟩ := chkW_size hc
  have lk : 0 ≤ (if x.net k 3 = 1 then x.net k 2 else 0) ∧ (if x.net k 3 = 1 then x.net k 2 else 0) ≤ 2000 := by split <;> omega
  have li : 0 ≤ (if x.net i 3 = 1 then x.net i 2 else 0) ∧ (if x.net i 3 = 1 then x.net i 2 else 0) ≤ 2000 := by split <;> omega
  obtain ⟨lk1, lk2⟩ := lk
  obtain ⟨li1, li2⟩ := li
  refine ⟨x, rfl, fun _ _ => ⟨rfl, rfl⟩, rfl, fun _ _ => ⟨rfl, rfl⟩, rfl, rfl, fun _ _ => ⟨rfl, rfl, rfl, rfl, rfl, rfl, rfl, rfl, rfl, rfl⟩, w1, w2, w3, by omega, by omega, x.net k, rfl, rfl, rfl, rfl, rfl, rfl, rfl, rfl, rfl, rfl, ?_⟩
  unfold lg
  generalize (if x.net k 3 = 1 then x.net k 2 else 0) = p at *
  refine ⟨by omega, by omega, fun h1 => ⟨x, rfl, fun _ _ => ⟨rfl, rfl⟩, rfl, fun _ _ => ⟨rfl, rfl⟩, rfl, rfl, fun _ _ => ⟨rfl, rfl, rfl, rfl, rfl, rfl, rfl, rfl, rfl, rfl⟩, w1, w2, w3, by omega, by omega, x.net i, rfl, rfl, rfl, rfl, rfl, rfl, rfl, rfl, rfl, rfl, ?_⟩, fun h1 => by rw [nearB, decide_eq_false h1, Bool.false_and]⟩
  generalize (if x.net i 3 = 1 then x.net i 2 else 0) = q at *
  exact ⟨by omega, by omega, by omega, by omega, by rw [nearB, decide_eq_true h1, Bool.true_and]⟩
end Go.Proofs.YtcfmdhlohahhcaaDoor
set_option linter.unusedSimpArgs false
set_option linter.unusedVariables false
namespace Go.Proofs.YtcfmdhlohahhcaaDoor
open Go Go.Sx Nm
set_option maxRecDepth 100000
def sideB (b : Nat) : TV := .a 4 (ofList [fnC (119 + 5 * b), fnC (120 + 5 * b), fnC (122 + 4 * b), fnC (123 + 4 * b)])
def td (x : Fleet) (b : Nat) : Nat → Nat → Int := if b = 0 then x.e else x.n
def sAp : Sig := ⟨Ask × Nat, fun a => [fleetTV a.1.x, spanTV a.1.i a.1.k, intC a.1.h, sideB a.2], fun a => a.1.ok ∧ a.2 ≤ 1, fun a => [.v (spanTV (apLo a.1.x (td a.1.x a.2) a.2 (6 + 2 * a.2) a.1.i a.1.k a.1.h) (apHi a.1.x (td a.1.x a.2) a.2 (6 + 2 * a.2) a.1.i a.1.k a.1.h))]⟩
theorem q68 (a : sAp.α) (ha : sAp.pre a) : CallQ Tryd.prog E0 68 (sAp.arg a) (sAp.res a) := by
  obtain ⟨a, b⟩ := a
  obtain ⟨h1, h2⟩ := ha
  have h2 : b ≤ 1 := h2
  match b, h2 with
  | 0, _ => exact q68e a h1
  | 1, _ => exact q68n a h1
def sNe : Sig := ⟨PAsk × Nat, fun r => [fleetTV r.1.x, spanTV r.1.i r.1.k, spanTV r.1.lo r.1.hi, sideB r.2], fun r => r.1.ok ∧ r.2 ≤ 1, fun r => [.v (.c (.bool (nearB r.1.lo r.1.hi (lg (r.1.x.net r.1.i) (r.2 : Int)) (lg (r.1.x.net r.1.k) (r.2 : Int)) r.1.x.gap)))]⟩
theorem q94 (a : sNe.α) (ha : sNe.pre a) : CallQ Tryd.prog E0 94 (sNe.arg a) (sNe.res a) := by
  obtain ⟨a, b⟩ := a
  obtain ⟨h1, h2⟩ := ha
  have h2 : b ≤ 1 := h2
  match b, h2 with
  | 0, _ => exact q94e a h1
  | 1, _ => exact q94n a h1
def TM : List (Nat × Sig) := (94, sNe) :: (68, sAp) :: (70, sCan) :: TK0
theorem TM_ok : SigsOk Tryd.prog E0 TM := ((TK0_ok.cons (runs 70 (by kernel_rfl)) q70).cons (runs 68 (by kernel_rfl)) q68).cons (runs 94 (by kernel_rfl)) q94
end Go.Proofs.YtcfmdhlohahhcaaDoor
set_option linter.unusedSimpArgs false
set_option linter.unusedVariables false
namespace Go.Proofs.YtcfmdhlohahhcaaDoor
open Go Go.Sx Nm
set_option maxRecDepth 100000
def nearS (a : Ask) (f : Nat → Nat → Int) (b : Nat) : Bool := nearB (apLo a.x f b (6 + 2 * b) a.i a.k a.h) (apHi a.x f b (6 + 2 * b) a.i a.k a.h) (lg (a.x.net a.i) (b : Int)) (lg (a.x.net a.k) (b : Int)) a.x.gap
def canP (a : Ask) : Bool := nearS a a.x.e 0 && nearS a a.x.n 1
def sCanP : Sig := ⟨Ask, fun a => [fleetTV a.x, spanTV a.i a.k, intC a.h], Ask.ok, fun a => [.v (.c (.bool (canP a)))]⟩
theorem q65 (a : sCanP.α) (ha : sCanP.pre a) : CallQ Tryd.prog E0 65 (sCanP.arg a) (sCanP.res a) := by
  obtain ⟨x, i, k, h⟩ := a
  refine bare_tight E0_ok TM TM_ok [] EvensOk.nil runs [] [] [] [] [] [] (fuel := 5) ?_
  refine of_red (q := ∃ (x_1 : Ask × Nat), ((True ∧ flq x x_1.fst.x) ∧ (True ∧ (True ∧ True ∧ (↑i : Int) = (↑x_1.fst.i : Int)) ∧ True ∧ (↑k : Int) = (↑x_1.fst.k : Int)) ∧ (True ∧ h = x_1.fst.h) ∧ (True ∧ (((True ∧ True ∧ (CV.fn (119 : Nat) [] (fun (x x_2 : Nat) => CV.any) (0 : Nat) fun (x : Nat) => CV.any) = [fnC ((119 : Nat) + (5 : Nat) * x_1.snd), fnC ((120 : Nat) + (5 : Nat) * x_1.snd), fnC ((122 : Nat) + (4 : Nat) * x_1.snd), fnC ((123 : Nat) + (4 : Nat) * x_1.snd)].getD 0 CV.any) ∧ True ∧ (CV.fn (120 : Nat) [] (fun (x x_2 : Nat) => CV.any) (0 : Nat) fun (x : Nat) => CV.any) = [fnC ((119 : Nat) + (5 : Nat) * x_1.snd), fnC ((120 : Nat) + (5 : Nat) * x_1.snd), fnC ((122 : Nat) + (4 : Nat) * x_1.snd), fnC ((123 : Nat) + (4 : Nat) * x_1.snd)].getD 1 CV.any) ∧ True ∧ (CV.fn (122 : Nat) [] (fun (x x_2 : Nat) => CV.any) (0 : Nat) fun (x : Nat) => CV.any) = [fnC ((119 : Nat) + (5 : Nat) * x_1.snd), fnC ((120 : Nat) + (5 : Nat) * x_1.snd), fnC ((122 : Nat) + (4 : Nat) * x_1.snd), fnC ((123 : Nat) + (4 : Nat) * x_1.snd)].getD 2 CV.any) ∧ True ∧ (CV.fn (123 : Nat) [] (fun (x x_2 : Nat) => CV.any) (0 : Nat) fun (x : Nat) => CV.any) = [fnC ((119 : Nat) + (5 : Nat) * x_1.snd), fnC ((120 : Nat) + (5 : Nat) * x_1.snd), fnC ((122 : Nat) + (4 : Nat) * x_1.snd), fnC ((123 : Nat) + (4 : Nat) * x_1.snd)].getD 3 CV.any) ∧ True) ∧ ((ChkW x_1.fst.x ∧ (x_1.fst.x.hE < (4611686018427387904 : Nat) ∧ x_1.fst.x.hN < (4611686018427387904 : Nat) ∧ x_1.fst.x.k < (4611686018427387904 : Nat)) ∧ x_1.fst.i < x_1.fst.x.k ∧ x_1.fst.k < x_1.fst.x.k ∧ (0 : Int) ≤ x_1.fst.h ∧ x_1.fst.h ≤ (24 : Int)) ∧ x_1.snd ≤ (1 : Nat)) ∧ ∃ (x_2 : PAsk × Nat), ((True ∧ flq x x_2.fst.x) ∧ (True ∧ (True ∧ True ∧ (↑i : Int) = (↑x_2.fst.i : Int)) ∧ True ∧ (↑k : Int) = (↑x_2.fst.k : Int)) ∧ (True ∧ (True ∧ True ∧ apLo x_1.fst.x (td x_1.fst.x x_1.snd) x_1.snd ((6 : Nat) + (2 : Nat) * x_1.snd) x_1.fst.i x_1.fst.k x_1.fst.h = x_2.fst.lo) ∧ True ∧ apHi x_1.fst.x (td x_1.fst.x x_1.snd) x_1.snd ((6 : Nat) + (2 : Nat) * x_1.snd) x_1.fst.i x_1.fst.k x_1.fst.h = x_2.fst.hi) ∧ (True ∧ (((True ∧ True ∧ (CV.fn (119 : Nat) [] (fun (x x_3 : Nat) => CV.any) (0 : Nat) fun (x : Nat) => CV.any) = [fnC ((119 : Nat) + (5 : Nat) * x_2.snd), fnC ((120 : Nat) + (5 : Nat) * x_2.snd), fnC ((122 : Nat) + (4 : Nat) * x_2.snd), fnC ((123 : Nat) + (4 : Nat) * x_2.snd)].getD 0 CV.any) ∧ True ∧ (CV.fn (120 : Nat) [] (fun (x x_3 : Nat) => CV.any) (0 : Nat) fun (x : Nat) => CV.any) = [fnC ((119 : Nat) + (5 : Nat) * x_2.snd), fnC ((120 : Nat) + (5 : Nat) * x_2.snd), fnC ((122 : Nat) + (4 : Nat) * x_2.snd), fnC ((123 : Nat) + (4 : Nat) * x_2.snd)].getD 1 CV.any) ∧ True ∧ (CV.fn (122 : Nat) [] (fun (x x_3 : Nat) => CV.any) (0 : Nat) fun (x : Nat) => CV.any) = [fnC ((119 : Nat) + (5 : Nat) * x_2.snd), fnC ((120 : Nat) + (5 : Nat) * x_2.snd), fnC ((122 : Nat) + (4 : Nat) * x_2.snd), fnC ((123 : Nat) + (4 : Nat) * x_2.snd)].getD 2 CV.any) ∧ True ∧ (CV.fn (123 : Nat) [] (fun (x x_3 : Nat) => CV.any) (0 : Nat) fun (x : Nat) => CV.any) = [fnC ((119 : Nat) + (5 : Nat) * x_2.snd), fnC ((120 : Nat) + (5 : Nat) * x_2.snd), fnC ((122 : Nat) + (4 : Nat) * x_2.snd), fnC ((123 : Nat) + (4 : Nat) * x_2.snd)].getD 3 CV.any) ∧ True) ∧ ((ChkW x_2.fst.x ∧ (x_2.fst.x.hE < (4611686018427387904 : Nat) ∧ x_2.fst.x.hN < (4611686018427387904 : Nat) ∧ x_2.fst.x.k < (4611686018427387904 : Nat)) ∧ x_2.fst.i < x_2.fst.x.k ∧ x_2.fst.k < x_2.fst.x.k) ∧ x_2.snd ≤ (1 : Nat)) ∧ (nearB x_2.fst.lo x_2.fst.hi (lg (x_2.fst.x.net x_2.fst.i) (↑x_2.snd : Int)) (lg (x_2.fst.x.net x_2.fst.k) (↑x_2.snd : Int)) x_2.fst.x.gap = true → ∃ (x_3 : Ask × Nat), ((True ∧ flq x x_3.fst.x) ∧ (True ∧ (True ∧ True ∧ (↑i : Int) = (↑x_3.fst.i : Int)) ∧ True ∧ (↑k : Int) = (↑x_3.fst.k : Int)) ∧ (True ∧ h = x_3.fst.h) ∧ (True ∧ (((True ∧ True ∧ (CV.fn (124 : Nat) [] (fun (x x_4 : Nat) => CV.any) (0 : Nat) fun (x : Nat) => CV.any) = [fnC ((119 : Nat) + (5 : Nat) * x_3.snd), fnC ((120 : Nat) + (5 : Nat) * x_3.snd), fnC ((122 : Nat) + (4 : Nat) * x_3.snd), fnC ((123 : Nat) + (4 : Nat) * x_3.snd)].getD 0 CV.any) ∧ True ∧ (CV.fn (125 : Nat) [] (fun (x x_4 : Nat) => CV.any) (0 : Nat) fun (x : Nat) => CV.any) = [fnC ((119 : Nat) + (5 : Nat) * x_3.snd), fnC ((120 : Nat) + (5 : Nat) * x_3.snd), fnC ((122 : Nat) + (4 : Nat) * x_3.snd), fnC ((123 : Nat) + (4 : Nat) * x_3.snd)].getD 1 CV.any) ∧ True ∧ (CV.fn (126 : Nat) [] (fun (x x_4 : Nat) => CV.any) (0 : Nat) fun (x : Nat) => CV.any) = [fnC ((119 : Nat) + (5 : Nat) * x_3.snd), fnC ((120 : Nat) + (5 : Nat) * x_3.snd), fnC ((122 : Nat) + (4 : Nat) * x_3.snd), fnC ((123 : Nat) + (4 : Nat) * x_3.snd)].getD 2 CV.any) ∧ True ∧ (CV.fn (127 : Nat) [] (fun (x x_4 : Nat) => CV.any) (0 : Nat) fun (x : Nat) => CV.any) = [fnC ((119 : Nat) + (5 : Nat) * x_3.snd), fnC ((120 : Nat) + (5 : Nat) * x_3.snd), fnC ((122 : Nat) + (4 : Nat) * x_3.snd), fnC ((123 : Nat) + (4 : Nat) * x_3.snd)].getD 3 CV.any) ∧ True) ∧ ((ChkW x_3.fst.x ∧ (x_3.fst.x.hE < (4611686018427387904 : Nat) ∧ x_3.fst.x.hN < (4611686018427387904 : Nat) ∧ x_3.fst.x.k < (4611686018427387904 : Nat)) ∧ x_3.fst.i < x_3.fst.x.k ∧ x_3.fst.k < x_3.fst.x.k ∧ (0 : Int) ≤ x_3.fst.h ∧ x_3.fst.h ≤ (24 : Int)) ∧ x_3.snd ≤ (1 : Nat)) ∧ ∃ (x_4 : PAsk × Nat), ((True ∧ flq x x_4.fst.x) ∧ (True ∧ (True ∧ True ∧ (↑i : Int) = (↑x_4.fst.i : Int)) ∧ True ∧ (↑k : Int) = (↑x_4.fst.k : Int)) ∧ (True ∧ (True ∧ True ∧ apLo x_3.fst.x (td x_3.fst.x x_3.snd) x_3.snd ((6 : Nat) + (2 : Nat) * x_3.snd) x_3.fst.i x_3.fst.k x_3.fst.h = x_4.fst.lo) ∧ True ∧ apHi x_3.fst.x (td x_3.fst.x x_3.snd) x_3.snd ((6 : Nat) + (2 : Nat) * x_3.snd) x_3.fst.i x_3.fst.k x_3.fst.h = x_4.fst.hi) ∧ (True ∧ (((True ∧ True ∧ (CV.fn (124 : Nat) [] (fun (x x_5 : Nat) => CV.any) (0 : Nat) fun (x : Nat) => CV.any) = [fnC ((119 : Nat) + (5 : Nat) * x_4.snd), fnC ((120 : Nat) + (5 : Nat) * x_4.snd), fnC ((122 : Nat) + (4 : Nat) * x_4.snd), fnC ((123 : Nat) + (4 : Nat) * x_4.snd)].getD 0 CV.any) ∧ True ∧ (CV.fn (125 : Nat) [] (fun (x x_5 : Nat) => CV.any) (0 : Nat) fun (x : Nat) => CV.any) = [fnC ((119 : Nat) + (5 : Nat) * x_4.snd), fnC ((120 : Nat) + (5 : Nat) * x_4.snd), fnC ((122 : Nat) + (4 : Nat) * x_4.snd), fnC ((123 : Nat) + (4 : Nat) * x_4.snd)].getD 1 CV.any) ∧ True ∧ (CV.fn (126 : Nat) [] (fun (x x_5 : Nat) => CV.any) (0 : Nat) fun (x : Nat) => CV.any) = [fnC ((119 : Nat) + (5 : Nat) * x_4.snd), fnC ((120 : Nat) + (5 : Nat) * x_4.snd), fnC ((122 : Nat) + (4 : Nat) * x_4.snd), fnC ((123 : Nat) + (4 : Nat) * x_4.snd)].getD 2 CV.any) ∧ True ∧ (CV.fn (127 : Nat) [] (fun (x x_5 : Nat) => CV.any) (0 : Nat) fun (x : Nat) => CV.any) = [fnC ((119 : Nat) + (5 : Nat) * x_4.snd), fnC ((120 : Nat) + (5 : Nat) * x_4.snd), fnC ((122 : Nat) + (4 : Nat) * x_4.snd), fnC ((123 : Nat) + (4 : Nat) * x_4.snd)].getD 3 CV.any) ∧ True) ∧ ((ChkW x_4.fst.x ∧ (x_4.fst.x.hE < (4611686018427387904 : Nat) ∧ x_4.fst.x.hN < (4611686018427387904 : Nat) ∧ x_4.fst.x.k < (4611686018427387904 : Nat)) ∧ x_4.fst.i < x_4.fst.x.k ∧ x_4.fst.k < x_4.fst.x.k) ∧ x_4.snd ≤ (1 : Nat)) ∧ True ∧ nearB x_4.fst.lo x_4.fst.hi (lg (x_4.fst.x.net x_4.fst.i) (↑x_4.snd : Int)) (lg (x_4.fst.x.net x_4.fst.k) (↑x_4.snd : Int)) x_4.fst.x.gap = canP { x := x, i := i, k := k, h := h }) ∧ (nearB x_2.fst.lo x_2.fst.hi (lg (x_2.fst.x.net x_2.fst.i) (↑x_2.snd : Int)) (lg (x_2.fst.x.net x_2.fst.k) (↑x_2.snd : Int)) x_2.fst.x.gap = false → True ∧ canP { x := x, i := i, k := k, h := h } = false)) (by kernel_rfl) ?_
  simp only [flq, true_and, and_true, inR, Prod.exists, Prod.forall, and_assoc, exists_and_left, exists_eq_left', exists_eq_left, forall_eq, exists_const, forall_const, loopN, loopM, fa2, fas, fas2, dup1, dup2, dup3, dup4, ite_true, exhs, exhn, exhz, exho, exs1, exn1, exz1, exo1, exs2, exn2, exz2, exo2, exs3, exn3, exz3, exo3, exs4, exn4, exz4, exo4, exs5, exn5, exz5, exo5, exs6, exn6, exz6, exo6, exs7, exn7, exz7, exo7, exs8, exn8, exz8, exo8, exs9, exn9, exz9, exo9, ex1, ex2, ex3, ex4, ex5, beqI, bneI, decide_true, Bool.true_and, decide_eq_true_eq, decide_eq_false_iff_not, ne_eq, Decidable.not_not]
  obtain ⟨hc, ⟨w1, w2, w3⟩, hi, hk, h0, h24⟩ := (show ChkW x ∧ x.wf ∧ i < x.k ∧ k < x.k ∧ 0 ≤ h ∧ h ≤ 24 from ha)
  refine ⟨⟨x, i, k, h⟩, rfl, fun _ _ => ⟨rfl, rfl⟩, rfl, fun _ _ => ⟨rfl, rfl⟩, rfl, rfl, fun _ _ => ⟨rfl, rfl, rfl, rfl, rfl, rfl, rfl, rfl, rfl, rfl⟩, rfl, rfl, rfl, 0, rfl, rfl, rfl, rfl, hc, w1, w2, w3, hi, hk, h0, h24, by omega, ⟨x, i, k, apLo x x.e 0 6 i k h, apHi x x.e 0 6 i k h⟩, rfl, fun _ _ => ⟨rfl, rfl⟩, rfl, fun _ _ => ⟨rfl, rfl⟩, rfl, rfl, fun _ _ => ⟨rfl, rfl, rfl, rfl, rfl, rfl, rfl, rfl, rfl, rfl⟩, rfl, rfl, rfl, rfl, 0, rfl, rfl, rfl, rfl, hc, w1, w2, w3, hi, hk, by omega, fun h1 => ?_, fun h1 => ?_⟩
  · refine ⟨⟨x, i, k, h⟩, rfl, fun _ _ => ⟨rfl, rfl⟩, rfl, fun _ _ => ⟨rfl, rfl⟩, rfl, rfl, fun _ _ => ⟨rfl, rfl, rfl, rfl, rfl, rfl, rfl, rfl, rfl, rfl⟩, rfl, rfl, rfl, 1, rfl, rfl, rfl, rfl, hc, w1, w2, w3, hi, hk, h0, h24, by omega, ⟨x, i, k, apLo x x.n 1 8 i k h, apHi x x.n 1 8 i k h⟩, rfl, fun _ _ => ⟨rfl, rfl⟩, rfl, fun _ _ => ⟨rfl, rfl⟩, rfl, rfl, fun _ _ => ⟨rfl, rfl, rfl, rfl, rfl, rfl, rfl, rfl, rfl, rfl⟩, rfl, rfl, rfl, rfl, 1, rfl, rfl, rfl, rfl, hc, w1, w2, w3, hi, hk, by omega, ?_⟩
    have h1 : nearS ⟨x, i, k, h⟩ x.e 0 = true := h1
    show nearS ⟨x, i, k, h⟩ x.n 1 = (nearS ⟨x, i, k, h⟩ x.e 0 && nearS ⟨x, i, k, h⟩ x.n 1)
    rw [h1]; rfl
  · have h1 : nearS ⟨x, i, k, h⟩ x.e 0 = false := h1
    show (nearS ⟨x, i, k, h⟩ x.e 0 && nearS ⟨x, i, k, h⟩ x.n 1) = false
    rw [h1]; rfl
end Go.Proofs.YtcfmdhlohahhcaaDoor
set_option linter.unusedSimpArgs false
set_option linter.unusedVariables false
namespace Go.Proofs.YtcfmdhlohahhcaaDoor
open Go Go.Sx Nm
theorem ap_same {x : Fleet} {i k h : Nat} (f : Nat → Nat → Int) (p s : Nat) (i0 : 0 ≤ x.net i 4) (k0 : 0 ≤ x.net k 4) (hi : x.net i 4 ≤ h) (hk : x.net k 4 ≤ h) (n : Nat) :
    apLo x f p s i k h = raLo ⟨n, f, x.net i, x.net k, x.net i p - x.net k p, x.net i s, x.net i (s + 1), x.net k s, x.net k (s + 1), h⟩ ∧
    apHi x f p s i k h = raHi ⟨n, f, x.net i, x.net k, x.net i p - x.net k p, x.net i s, x.net i (s + 1), x.net k s, x.net k (s + 1), h⟩ := by
  have e1 := r_same i0 k0 hi hk tLo (fun l u => (t_zero l u).1) f
  have e2 := r_same i0 k0 hi hk tHi (fun l u => (t_zero l u).2) f
  have d1 : rLo f (x.net i 4) (x.net k 4) h = dLo f (x.net i 4) 1 (x.net k 4 - x.net i 4).toNat + dLo f (x.net k 4) (-1) (x.net i 4 - x.net k 4).toNat := e1
  have d2 : rHi f (x.net i 4) (x.net k 4) h = dHi f (x.net i 4) 1 (x.net k 4 - x.net i 4).toNat + dHi f (x.net k 4) (-1) (x.net i 4 - x.net k 4).toNat := e2
  unfold apLo apHi raLo raHi cLo cHi bLo bHi
  simp only [d1, d2]
  constructor <;> omega
theorem can_same {x : Fleet} {i k h : Nat} (hc : ChkW x) (hi : i < x.k) (hk : k < x.k) (l1 : lyB x i h = true) (l2 : lyB x k h = true) : canP ⟨x, i, k, h⟩ = canB ⟨x, i, k, h⟩ := by
  obtain ⟨_, _, _, _, ⟨i3, _⟩, _⟩ := chkW_net hc hi
  obtain ⟨_, _, _, _, ⟨k3, _⟩, _⟩ := chkW_net hc hk
  have q1 := l1
  have q2 := l2
  simp only [lyB, Bool.and_eq_true, Int.toNat_natCast] at q1 q2
  have g1 := Nm.within_iff.1 q1.2
  have g2 := Nm.within_iff.1 q2.2
  obtain ⟨a1, a2⟩ := ap_same (x := x) (i := i) (k := k) (h := h) x.e 0 6 i3 k3 g1.1 g2.1 x.hE
  obtain ⟨b1, b2⟩ := ap_same (x := x) (i := i) (k := k) (h := h) x.n 1 8 i3 k3 g1.1 g2.1 x.hN
  show (nearB (apLo x x.e 0 6 i k h) (apHi x x.e 0 6 i k h) (lg (x.net i) 0) (lg (x.net k) 0) x.gap && nearB (apLo x x.n 1 8 i k h) (apHi x x.n 1 8 i k h) (lg (x.net i) 1) (lg (x.net k) 1) x.gap) = (lyB x i h && lyB x k h && foulB (fRef x i k h))
  rw [l1, l2, a1, a2, b1, b2]
  rfl
end Go.Proofs.YtcfmdhlohahhcaaDoor
set_option linter.unusedSimpArgs false
set_option linter.unusedVariables false
namespace Go.Proofs.YtcfmdhlohahhcaaDoor
open Go Go.Sx Nm
set_option maxRecDepth 100000
def opF (x : Fleet) : Fleet := ⟨if Nm.chk x then x.hE else 0, x.e, if Nm.chk x then x.hN else 0, x.n, if Nm.chk x then x.gap else 0, if Nm.chk x then x.k else 0, x.net⟩
def sOpen : Sig := ⟨Fleet, fun x => [fleetTV x], fun x => x.wf, fun x => [.v (fleetTV (opF x)), .v (intC (chkE x))]⟩
theorem q67 (x : Fleet) (h : x.wf) : CallQ Tryd.prog E0 67 (sOpen.arg x) (sOpen.res x) := by
  refine bare_tight E0_ok TM TM_ok [] EvensOk.nil runs [] [] [] [] [] [] (fuel := 5) ?_
  refine of_red (q := ∃ (x_1 : Fleet), ((True ∧ flq x x_1) ∧ True) ∧ (x_1.hE < (4611686018427387904 : Nat) ∧ x_1.hN < (4611686018427387904 : Nat) ∧ x_1.k < (4611686018427387904 : Nat)) ∧ ((chkE x_1 != (0 : Int)) = true → (True ∧ (((True ∧ True ∧ (opF x).hE = (0 : Nat)) ∧ True ∧ (opF x).hN = (0 : Nat)) ∧ True ∧ (0 : Int) = (opF x).gap) ∧ True ∧ (opF x).k = (0 : Nat)) ∧ (True ∧ chkE x_1 = chkE x) ∧ True) ∧ ((chkE x_1 != (0 : Int)) = false → (True ∧ (((True ∧ True ∧ True ∧ x.hE = (opF x).hE ∧ ∀ (i : Nat), i < x.hE → (True ∧ x.e i 0 = (opF x).e i 0) ∧ x.e i 1 = (opF x).e i 1) ∧ True ∧ True ∧ x.hN = (opF x).hN ∧ ∀ (i : Nat), i < x.hN → (True ∧ x.n i 0 = (opF x).n i 0) ∧ x.n i 1 = (opF x).n i 1) ∧ True ∧ x.gap = (opF x).gap) ∧ True ∧ True ∧ x.k = (opF x).k ∧ ∀ (i : Nat), i < x.k → (((((((((True ∧ x.net i 0 = (opF x).net i 0) ∧ x.net i 1 = (opF x).net i 1) ∧ x.net i 2 = (opF x).net i 2) ∧ x.net i 3 = (opF x).net i 3) ∧ x.net i 4 = (opF x).net i 4) ∧ x.net i 5 = (opF x).net i 5) ∧ x.net i 6 = (opF x).net i 6) ∧ x.net i 7 = (opF x).net i 7) ∧ x.net i 8 = (opF x).net i 8) ∧ x.net i 9 = (opF x).net i 9) ∧ (True ∧ (0 : Int) = chkE x) ∧ True)) (by kernel_rfl) ?_
  simp only [flq, true_and, and_true, inR, Prod.exists, Prod.forall, and_assoc, exists_and_left, exists_eq_left', exists_eq_left, forall_eq, exists_const, forall_const, loopN, loopM, fa2, fas, fas2, dup1, dup2, dup3, dup4, ite_true, exhs, exhn, exhz, exho, exs1, exn1, exz1, exo1, exs2, exn2, exz2, exo2, exs3, exn3, exz3, exo3, exs4, exn4, exz4, exo4, exs5, exn5, exz5, exo5, exs6, exn6, exz6, exo6, exs7, exn7, exz7, exo7, exs8, exn8, exz8, exo8, exs9, exn9, exz9, exo9, ex1, ex2, ex3, ex4, ex5, beqI, bneI, decide_true, Bool.true_and, decide_eq_true_eq, decide_eq_false_iff_not, ne_eq, Decidable.not_not]
  obtain ⟨w1, w2, w3⟩ := h
  refine ⟨x, rfl, fun _ _ => ⟨rfl, rfl⟩, rfl, fun _ _ => ⟨rfl, rfl⟩, rfl, rfl, fun _ _ => ⟨rfl, rfl, rfl, rfl, rfl, rfl, rfl, rfl, rfl, rfl⟩, w1, w2, w3, fun e => ?_, fun e => ?_⟩
  · have hc : ¬ Nm.chk x = true := fun hc => e (by unfold chkE; rw [if_pos hc])
    exact ⟨if_neg hc, if_neg hc, (if_neg hc).symm, if_neg hc, rfl⟩
  · have hc : Nm.chk x = true := by
      apply Classical.byContradiction
      intro hc
      unfold chkE at e
      rw [if_neg hc] at e
      cases e
    exact ⟨(if_pos hc).symm, fun _ _ => ⟨rfl, rfl⟩, (if_pos hc).symm, fun _ _ => ⟨rfl, rfl⟩, (if_pos hc).symm, (if_pos hc).symm, fun _ _ => ⟨rfl, rfl, rfl, rfl, rfl, rfl, rfl, rfl, rfl, rfl⟩, e.symm⟩
end Go.Proofs.YtcfmdhlohahhcaaDoor
set_option linter.unusedSimpArgs false
set_option linter.unusedVariables false
namespace Go.Proofs.YtcfmdhlohahhcaaDoor
open Go Go.Sx Nm
set_option maxRecDepth 100000
structure QAsk where
  x : Fleet
  i : Int
  k : Int
  h : Int
def aqE (a : QAsk) : Int := if Nm.chk a.x then (if a.i = a.k then 22 else if lyB a.x a.i a.h then (if lyB a.x a.k a.h then 0 else 22) else 22) else 20
def aqR (a : QAsk) (z : Int) : Int := if aqE a = 0 then z else 0
def sApart : Sig := ⟨QAsk, fun a => [fleetTV a.x, intC a.i, intC a.k, intC a.h], fun a => a.x.wf, fun a => [.v (spanTV (aqR a (raLo (rE a.x a.i.toNat a.k.toNat a.h.toNat))) (aqR a (raHi (rE a.x a.i.toNat a.k.toNat a.h.toNat)))), .v (spanTV (aqR a (raLo (rN a.x a.i.toNat a.k.toNat a.h.toNat))) (aqR a (raHi (rN a.x a.i.toNat a.k.toNat a.h.toNat)))), .v (intC (aqE a))]⟩
def TQ : List (Nat × Sig) := (67, sOpen) :: TM
theorem TQ_ok : SigsOk Tryd.prog E0 TQ := TM_ok.cons (runs 67 (by kernel_rfl)) q67
theorem q23 (a : sApart.α) (ha : sApart.pre a) : CallQ Tryd.prog E0 23 (sApart.arg a) (sApart.res a) := by
  obtain ⟨x, i, k, h⟩ := a
  refine bare_tight E0_ok TQ TQ_ok [] EvensOk.nil runs [] [] [] [] [] [(23, 7)] (fuel := 5) ?_
  refine of_red (q := ∃ (x_1 : Fleet), ((True ∧ flq x x_1) ∧ True) ∧ (x_1.hE < (4611686018427387904 : Nat) ∧ x_1.hN < (4611686018427387904 : Nat) ∧ x_1.k < (4611686018427387904 : Nat)) ∧ ((chkE x_1 != (0 : Int)) = true → (True ∧ (True ∧ True ∧ (0 : Int) = aqR { x := x, i := i, k := k, h := h } (raLo (rE x i.toNat k.toNat h.toNat))) ∧ True ∧ (0 : Int) = aqR { x := x, i := i, k := k, h := h } (raHi (rE x i.toNat k.toNat h.toNat))) ∧ (True ∧ (True ∧ True ∧ (0 : Int) = aqR { x := x, i := i, k := k, h := h } (raLo (rN x i.toNat k.toNat h.toNat))) ∧ True ∧ (0 : Int) = aqR { x := x, i := i, k := k, h := h } (raHi (rN x i.toNat k.toNat h.toNat))) ∧ (True ∧ chkE x_1 = aqE { x := x, i := i, k := k, h := h }) ∧ True) ∧ ((chkE x_1 != (0 : Int)) = false → ((i == k) = true → (True ∧ (True ∧ True ∧ (0 : Int) = aqR { x := x, i := i, k := k, h := h } (raLo (rE x i.toNat k.toNat h.toNat))) ∧ True ∧ (0 : Int) = aqR { x := x, i := i, k := k, h := h } (raHi (rE x i.toNat k.toNat h.toNat))) ∧ (True ∧ (True ∧ True ∧ (0 : Int) = aqR { x := x, i := i, k := k, h := h } (raLo (rN x i.toNat k.toNat h.toNat))) ∧ True ∧ (0 : Int) = aqR { x := x, i := i, k := k, h := h } (raHi (rN x i.toNat k.toNat h.toNat))) ∧ (True ∧ (22 : Int) = aqE { x := x, i := i, k := k, h := h }) ∧ True) ∧ ((i == k) = false → ∃ (x_2 : Fleet × Int × Int), ((True ∧ flq x x_2.fst) ∧ (True ∧ i = x_2.snd.fst) ∧ (True ∧ h = x_2.snd.snd) ∧ True) ∧ (x_2.fst.hE < (4611686018427387904 : Nat) ∧ x_2.fst.hN < (4611686018427387904 : Nat) ∧ x_2.fst.k < (4611686018427387904 : Nat)) ∧ ((!lyB x_2.fst x_2.snd.fst x_2.snd.snd) = true → (True ∧ (True ∧ True ∧ (0 : Int) = aqR { x := x, i := i, k := k, h := h } (raLo (rE x i.toNat k.toNat h.toNat))) ∧ True ∧ (0 : Int) = aqR { x := x, i := i, k := k, h := h } (raHi (rE x i.toNat k.toNat h.toNat))) ∧ (True ∧ (True ∧ True ∧ (0 : Int) = aqR { x := x, i := i, k := k, h := h } (raLo (rN x i.toNat k.toNat h.toNat))) ∧ True ∧ (0 : Int) = aqR { x := x, i := i, k := k, h := h } (raHi (rN x i.toNat k.toNat h.toNat))) ∧ (True ∧ (22 : Int) = aqE { x := x, i := i, k := k, h := h }) ∧ True) ∧ ((!lyB x_2.fst x_2.snd.fst x_2.snd.snd) = false → ∃ (x_3 : Fleet × Int × Int), ((True ∧ flq x x_3.fst) ∧ (True ∧ k = x_3.snd.fst) ∧ (True ∧ h = x_3.snd.snd) ∧ True) ∧ (x_3.fst.hE < (4611686018427387904 : Nat) ∧ x_3.fst.hN < (4611686018427387904 : Nat) ∧ x_3.fst.k < (4611686018427387904 : Nat)) ∧ ((!lyB x_3.fst x_3.snd.fst x_3.snd.snd) = true → (True ∧ (True ∧ True ∧ (0 : Int) = aqR { x := x, i := i, k := k, h := h } (raLo (rE x i.toNat k.toNat h.toNat))) ∧ True ∧ (0 : Int) = aqR { x := x, i := i, k := k, h := h } (raHi (rE x i.toNat k.toNat h.toNat))) ∧ (True ∧ (True ∧ True ∧ (0 : Int) = aqR { x := x, i := i, k := k, h := h } (raLo (rN x i.toNat k.toNat h.toNat))) ∧ True ∧ (0 : Int) = aqR { x := x, i := i, k := k, h := h } (raHi (rN x i.toNat k.toNat h.toNat))) ∧ (True ∧ (22 : Int) = aqE { x := x, i := i, k := k, h := h }) ∧ True) ∧ ((!lyB x_3.fst x_3.snd.fst x_3.snd.snd) = false → ∃ (x_4 : BAsk), ((True ∧ flq x x_4.x) ∧ (True ∧ i = (↑x_4.i : Int)) ∧ (True ∧ k = (↑x_4.k : Int)) ∧ (True ∧ h = (↑x_4.h : Int)) ∧ True) ∧ (ChkW x_4.x ∧ (x_4.x.hE < (4611686018427387904 : Nat) ∧ x_4.x.hN < (4611686018427387904 : Nat) ∧ x_4.x.k < (4611686018427387904 : Nat)) ∧ x_4.i < x_4.x.k ∧ x_4.k < x_4.x.k ∧ x_4.h ≤ x_4.x.hE) ∧ ((((((True ∧ (True ∧ True ∧ raLo (rE x_4.x x_4.i x_4.k x_4.h) = aqR { x := x, i := i, k := k, h := h } (raLo (rE x i.toNat k.toNat h.toNat))) ∧ True ∧ raHi (rE x_4.x x_4.i x_4.k x_4.h) = aqR { x := x, i := i, k := k, h := h } (raHi (rE x i.toNat k.toNat h.toNat))) ∧ (True ∧ (True ∧ True ∧ raLo (rN x_4.x x_4.i x_4.k x_4.h) = aqR { x := x, i := i, k := k, h := h } (raLo (rN x i.toNat k.toNat h.toNat))) ∧ True ∧ raHi (rN x_4.x x_4.i x_4.k x_4.h) = aqR { x := x, i := i, k := k, h := h } (raHi (rN x i.toNat k.toNat h.toNat))) ∧ (True ∧ (0 : Int) = aqE { x := x, i := i, k := k, h := h }) ∧ True) ∧ True) ∧ True) ∧ True) ∧ (((((True ∧ (True ∧ True ∧ raLo (rE x_4.x x_4.i x_4.k x_4.h) = aqR { x := x, i := i, k := k, h := h } (raLo (rE x i.toNat k.toNat h.toNat))) ∧ True ∧ raHi (rE x_4.x x_4.i x_4.k x_4.h) = aqR { x := x, i := i, k := k, h := h } (raHi (rE x i.toNat k.toNat h.toNat))) ∧ (True ∧ (True ∧ True ∧ raLo (rN x_4.x x_4.i x_4.k x_4.h) = aqR { x := x, i := i, k := k, h := h } (raLo (rN x i.toNat k.toNat h.toNat))) ∧ True ∧ raHi (rN x_4.x x_4.i x_4.k x_4.h) = aqR { x := x, i := i, k := k, h := h } (raHi (rN x i.toNat k.toNat h.toNat))) ∧ (True ∧ (0 : Int) = aqE { x := x, i := i, k := k, h := h }) ∧ True) ∧ True) ∧ True) ∧ True) ∧ True) ∧ ((((((True ∧ (True ∧ True ∧ raLo (rE x_4.x x_4.i x_4.k x_4.h) = aqR { x := x, i := i, k := k, h := h } (raLo (rE x i.toNat k.toNat h.toNat))) ∧ True ∧ raHi (rE x_4.x x_4.i x_4.k x_4.h) = aqR { x := x, i := i, k := k, h := h } (raHi (rE x i.toNat k.toNat h.toNat))) ∧ (True ∧ (True ∧ True ∧ raLo (rN x_4.x x_4.i x_4.k x_4.h) = aqR { x := x, i := i, k := k, h := h } (raLo (rN x i.toNat k.toNat h.toNat))) ∧ True ∧ raHi (rN x_4.x x_4.i x_4.k x_4.h) = aqR { x := x, i := i, k := k, h := h } (raHi (rN x i.toNat k.toNat h.toNat))) ∧ (True ∧ (0 : Int) = aqE { x := x, i := i, k := k, h := h }) ∧ True) ∧ True) ∧ True) ∧ True) ∧ True) ∧ True))))) (by kernel_rfl) ?_
  simp only [flq, true_and, and_true, inR, Prod.exists, Prod.forall, and_assoc, exists_and_left, exists_eq_left', exists_eq_left, forall_eq, exists_const, forall_const, loopN, loopM, fa2, fas, fas2, dup1, dup2, dup3, dup4, ite_true, exhs, exhn, exhz, exho, exs1, exn1, exz1, exo1, exs2, exn2, exz2, exo2, exs3, exn3, exz3, exo3, exs4, exn4, exz4, exo4, exs5, exn5, exz5, exo5, exs6, exn6, exz6, exo6, exs7, exn7, exz7, exo7, exs8, exn8, exz8, exo8, exs9, exn9, exz9, exo9, ex1, ex2, ex3, ex4, ex5, beqI, bneI, decide_true, Bool.true_and, decide_eq_true_eq, decide_eq_false_iff_not, ne_eq, Decidable.not_not]
  obtain ⟨w1, w2, w3⟩ := (show x.wf from ha)
  have no : ∀ v : Int, v ≠ 0 → aqE ⟨x, i, k, h⟩ = v → ∀ t, 0 = aqR ⟨x, i, k, h⟩ t := fun v hv e t => by
    unfold aqR; rw [if_neg (by rw [e]; exact hv)]
  refine ⟨x, rfl, fun _ _ => ⟨rfl, rfl⟩, rfl, fun _ _ => ⟨rfl, rfl⟩, rfl, rfl, fun _ _ => ⟨rfl, rfl, rfl, rfl, rfl, rfl, rfl, rfl, rfl, rfl⟩, w1, w2, w3, fun e => ?_, fun e => ⟨fun hik => ?_, fun hik => ⟨x, rfl, fun _ _ => ⟨rfl, rfl⟩, rfl, fun _ _ => ⟨rfl, rfl⟩, rfl, rfl, fun _ _ => ⟨rfl, rfl, rfl, rfl, rfl, rfl, rfl, rfl, rfl, rfl⟩, w1, w2, w3, fun h1 => ?_, fun h1 => ⟨x, rfl, fun _ _ => ⟨rfl, rfl⟩, rfl, fun _ _ => ⟨rfl, rfl⟩, rfl, rfl, fun _ _ => ⟨rfl, rfl, rfl, rfl, rfl, rfl, rfl, rfl, rfl, rfl⟩, w1, w2, w3, fun h2 => ?_, fun h2 => ?_⟩⟩⟩⟩
  · have hc : ¬ Nm.chk x = true := fun hc => e (by unfold chkE; rw [if_pos hc])
    have ev : aqE ⟨x, i, k, h⟩ = 20 := by unfold aqE; exact if_neg hc
    have z := no 20 (by decide) ev
    exact ⟨z _, z _, z _, z _, by rw [ev]; unfold chkE; rw [if_neg hc]⟩
  · have hc : Nm.chk x = true := by
      apply Classical.byContradiction
      intro hc
      unfold chkE at e
      rw [if_neg hc] at e
      cases e
    have ev : aqE ⟨x, i, k, h⟩ = 22 := by unfold aqE; exact (if_pos hc).trans (if_pos hik)
    have z := no 22 (by decide) ev
    exact ⟨z _, z _, z _, z _, ev.symm⟩
  · have hc : Nm.chk x = true := by
      apply Classical.byContradiction
      intro hc
      unfold chkE at e
      rw [if_neg hc] at e
      cases e
    rw [Bool.not_eq_true'] at h1
    have ev : aqE ⟨x, i, k, h⟩ = 22 := by unfold aqE; exact (if_pos hc).trans ((if_neg hik).trans (if_neg (by rw [h1]; simp)))
    have z := no 22 (by decide) ev
    exact ⟨z _, z _, z _, z _, ev.symm⟩
  · have hc : Nm.chk x = true := by
      apply Classical.byContradiction
      intro hc
      unfold chkE at e
      rw [if_neg hc] at e
      cases e
    rw [Bool.not_eq_false'] at h1
    rw [Bool.not_eq_true'] at h2
    have ev : aqE ⟨x, i, k, h⟩ = 22 := by unfold aqE; exact (if_pos hc).trans ((if_neg hik).trans ((if_pos h1).trans (if_neg (by rw [h2]; simp))))
    have z := no 22 (by decide) ev
    exact ⟨z _, z _, z _, z _, ev.symm⟩
  · have hc : Nm.chk x = true := by
      apply Classical.byContradiction
      intro hc
      unfold chkE at e
      rw [if_neg hc] at e
      cases e
    rw [Bool.not_eq_false'] at h1 h2
    have ev : aqE ⟨x, i, k, h⟩ = 0 := by unfold aqE; exact (if_pos hc).trans ((if_neg hik).trans ((if_pos h1).trans (if_pos h2)))
    have z : ∀ t, t = aqR ⟨x, i, k, h⟩ t := fun t => by unfold aqR; rw [if_pos ev]
    have q1 := h1
    have q2 := h2
    simp only [lyB, Bool.and_eq_true, Nm.within_iff] at q1 q2
    obtain ⟨_, _, _, _, ⟨i3, _⟩, ⟨_, i5⟩, _⟩ := chk_net hc (i := i.toNat) (by omega)
    exact ⟨⟨x, i.toNat, k.toNat, h.toNat⟩, rfl, fun _ _ => ⟨rfl, rfl⟩, rfl, fun _ _ => ⟨rfl, rfl⟩, rfl, rfl, fun _ _ => ⟨rfl, rfl, rfl, rfl, rfl, rfl, rfl, rfl, rfl, rfl⟩, by show i = ((i.toNat : Nat) : Int); omega, by show k = ((k.toNat : Nat) : Int); omega, by show h = ((h.toNat : Nat) : Int); omega, chkW_of hc, w1, w2, w3, by show i.toNat < x.k; omega, by show k.toNat < x.k; omega, by show h.toNat ≤ x.hE; omega, z _, z _, z _, z _, ev.symm, z _, z _, z _, z _, ev.symm, z _, z _, z _, z _, ev.symm⟩
end Go.Proofs.YtcfmdhlohahhcaaDoor
set_option linter.unusedSimpArgs false
set_option linter.unusedVariables false
namespace Go.Proofs.YtcfmdhlohahhcaaDoor
open Go Go.Sx Nm
set_option maxRecDepth 100000
theorem opF_eq {x : Fleet} (hc : Nm.chk x = true) : opF x = x := by
  cases x
  unfold opF
  rw [if_pos hc, if_pos hc, if_pos hc, if_pos hc]
theorem chk_of {x : Fleet} (e : chkE x = 0) : Nm.chk x = true := by
  apply Classical.byContradiction
  intro hc
  unfold chkE at e
  rw [if_neg hc] at e
  cases e
theorem not_chk {x : Fleet} (e : ¬ chkE x = 0) : ¬ Nm.chk x = true ∧ chkE x = 20 := by
  have hc : ¬ Nm.chk x = true := fun hc => e (by unfold chkE; rw [if_pos hc])
  exact ⟨hc, by unfold chkE; rw [if_neg hc]⟩
theorem exF {x : Fleet} {R : Fleet → Prop} (h : R x) : ∃ a : Fleet, x.hE = a.hE ∧ (∀ i, i < x.hE → x.e i 0 = a.e i 0 ∧ x.e i 1 = a.e i 1) ∧ x.hN = a.hN ∧ (∀ i, i < x.hN → x.n i 0 = a.n i 0 ∧ x.n i 1 = a.n i 1) ∧ x.gap = a.gap ∧ x.k = a.k ∧
    (∀ i, i < x.k → x.net i 0 = a.net i 0 ∧ x.net i 1 = a.net i 1 ∧ x.net i 2 = a.net i 2 ∧ x.net i 3 = a.net i 3 ∧ x.net i 4 = a.net i 4 ∧ x.net i 5 = a.net i 5 ∧ x.net i 6 = a.net i 6 ∧ x.net i 7 = a.net i 7 ∧ x.net i 8 = a.net i 8 ∧ x.net i 9 = a.net i 9) ∧ R a :=
  ⟨x, rfl, fun _ _ => ⟨rfl, rfl⟩, rfl, fun _ _ => ⟨rfl, rfl⟩, rfl, rfl, fun _ _ => ⟨rfl, rfl, rfl, rfl, rfl, rfl, rfl, rfl, rfl, rfl⟩, h⟩
theorem exNet {m : Nat → Int} {R : (Nat → Int) → Prop} (h : R m) : ∃ a : Nat → Int, m 0 = a 0 ∧ m 1 = a 1 ∧ m 2 = a 2 ∧ m 3 = a 3 ∧ m 4 = a 4 ∧ m 5 = a 5 ∧ m 6 = a 6 ∧ m 7 = a 7 ∧ m 8 = a 8 ∧ m 9 = a 9 ∧ R a :=
  ⟨m, rfl, rfl, rfl, rfl, rfl, rfl, rfl, rfl, rfl, rfl, h⟩
end Go.Proofs.YtcfmdhlohahhcaaDoor
set_option linter.unusedSimpArgs false
set_option linter.unusedVariables false
namespace Go.Proofs.YtcfmdhlohahhcaaDoor
open Go Go.Sx Nm
set_option maxRecDepth 100000
theorem q22 (a : sApart.α) (ha : sApart.pre a) : CallQ Tryd.prog E0 22 (sApart.arg a) (sApart.res a) := by
  obtain ⟨x, i, k, h⟩ := a
  refine bare_say E0_ok TQ TQ_ok [] EvensOk.nil runs { o := [(22, 3, oT [(8, [3]), (9, [4])]), (22, 6, oT [(8, [2]), (9, [3])]), (22, 8, oT [(8, [10]), (9, [11])])] } (fuel := 5) ?_
  refine of_red (q := ∃ (x_1 : Fleet), ((True ∧ flq x x_1) ∧ True) ∧ (x_1.hE < (4611686018427387904 : Nat) ∧ x_1.hN < (4611686018427387904 : Nat) ∧ x_1.k < (4611686018427387904 : Nat)) ∧ ((chkE x_1 != (0 : Int)) = true → (True ∧ (True ∧ True ∧ (0 : Int) = aqR { x := x, i := i, k := k, h := h } (raLo (rE x i.toNat k.toNat h.toNat))) ∧ True ∧ (0 : Int) = aqR { x := x, i := i, k := k, h := h } (raHi (rE x i.toNat k.toNat h.toNat))) ∧ (True ∧ (True ∧ True ∧ (0 : Int) = aqR { x := x, i := i, k := k, h := h } (raLo (rN x i.toNat k.toNat h.toNat))) ∧ True ∧ (0 : Int) = aqR { x := x, i := i, k := k, h := h } (raHi (rN x i.toNat k.toNat h.toNat))) ∧ (True ∧ chkE x_1 = aqE { x := x, i := i, k := k, h := h }) ∧ True) ∧ ((chkE x_1 != (0 : Int)) = false → inRange IntKind.i64 ((↑(opF x_1).k : Int) - (1 : Int)) ∧ ∃ (x_2 : Int × Int × Int), ((True ∧ i = x_2.fst) ∧ (True ∧ (0 : Int) = x_2.snd.fst) ∧ (True ∧ (↑(opF x_1).k : Int) - (1 : Int) = x_2.snd.snd) ∧ True) ∧ True ∧ ((!within x_2.fst x_2.snd.fst x_2.snd.snd) = true → (True ∧ (True ∧ True ∧ (0 : Int) = aqR { x := x, i := i, k := k, h := h } (raLo (rE x i.toNat k.toNat h.toNat))) ∧ True ∧ (0 : Int) = aqR { x := x, i := i, k := k, h := h } (raHi (rE x i.toNat k.toNat h.toNat))) ∧ (True ∧ (True ∧ True ∧ (0 : Int) = aqR { x := x, i := i, k := k, h := h } (raLo (rN x i.toNat k.toNat h.toNat))) ∧ True ∧ (0 : Int) = aqR { x := x, i := i, k := k, h := h } (raHi (rN x i.toNat k.toNat h.toNat))) ∧ (True ∧ (22 : Int) = aqE { x := x, i := i, k := k, h := h }) ∧ True) ∧ ((!within x_2.fst x_2.snd.fst x_2.snd.snd) = false → ∃ (x_3 : Int × Int × Int), ((True ∧ k = x_3.fst) ∧ (True ∧ (0 : Int) = x_3.snd.fst) ∧ (True ∧ (↑(opF x_1).k : Int) - (1 : Int) = x_3.snd.snd) ∧ True) ∧ True ∧ ((!within x_3.fst x_3.snd.fst x_3.snd.snd) = true → (True ∧ (True ∧ True ∧ (0 : Int) = aqR { x := x, i := i, k := k, h := h } (raLo (rE x i.toNat k.toNat h.toNat))) ∧ True ∧ (0 : Int) = aqR { x := x, i := i, k := k, h := h } (raHi (rE x i.toNat k.toNat h.toNat))) ∧ (True ∧ (True ∧ True ∧ (0 : Int) = aqR { x := x, i := i, k := k, h := h } (raLo (rN x i.toNat k.toNat h.toNat))) ∧ True ∧ (0 : Int) = aqR { x := x, i := i, k := k, h := h } (raHi (rN x i.toNat k.toNat h.toNat))) ∧ (True ∧ (22 : Int) = aqE { x := x, i := i, k := k, h := h }) ∧ True) ∧ ((!within x_3.fst x_3.snd.fst x_3.snd.snd) = false → ((i == k) = true → (True ∧ (True ∧ True ∧ (0 : Int) = aqR { x := x, i := i, k := k, h := h } (raLo (rE x i.toNat k.toNat h.toNat))) ∧ True ∧ (0 : Int) = aqR { x := x, i := i, k := k, h := h } (raHi (rE x i.toNat k.toNat h.toNat))) ∧ (True ∧ (True ∧ True ∧ (0 : Int) = aqR { x := x, i := i, k := k, h := h } (raLo (rN x i.toNat k.toNat h.toNat))) ∧ True ∧ (0 : Int) = aqR { x := x, i := i, k := k, h := h } (raHi (rN x i.toNat k.toNat h.toNat))) ∧ (True ∧ (22 : Int) = aqE { x := x, i := i, k := k, h := h }) ∧ True) ∧ ((i == k) = false → ∃ (x_4 : Fleet × Int), ((True ∧ (((True ∧ True ∧ True ∧ (opF x_1).hE = x_4.fst.hE ∧ ∀ (i : Nat), i < (opF x_1).hE → (True ∧ (opF x_1).e i 0 = x_4.fst.e i 0) ∧ (opF x_1).e i 1 = x_4.fst.e i 1) ∧ True ∧ True ∧ (opF x_1).hN = x_4.fst.hN ∧ ∀ (i : Nat), i < (opF x_1).hN → (True ∧ (opF x_1).n i 0 = x_4.fst.n i 0) ∧ (opF x_1).n i 1 = x_4.fst.n i 1) ∧ True ∧ (opF x_1).gap = x_4.fst.gap) ∧ True ∧ True ∧ (opF x_1).k = x_4.fst.k ∧ ∀ (i : Nat), i < (opF x_1).k → (((((((((True ∧ (opF x_1).net i 0 = x_4.fst.net i 0) ∧ (opF x_1).net i 1 = x_4.fst.net i 1) ∧ (opF x_1).net i 2 = x_4.fst.net i 2) ∧ (opF x_1).net i 3 = x_4.fst.net i 3) ∧ (opF x_1).net i 4 = x_4.fst.net i 4) ∧ (opF x_1).net i 5 = x_4.fst.net i 5) ∧ (opF x_1).net i 6 = x_4.fst.net i 6) ∧ (opF x_1).net i 7 = x_4.fst.net i 7) ∧ (opF x_1).net i 8 = x_4.fst.net i 8) ∧ (opF x_1).net i 9 = x_4.fst.net i 9) ∧ (True ∧ i = x_4.snd) ∧ True) ∧ ((x_4.fst.hE < (4611686018427387904 : Nat) ∧ x_4.fst.hN < (4611686018427387904 : Nat) ∧ x_4.fst.k < (4611686018427387904 : Nat)) ∧ (0 : Int) ≤ x_4.snd ∧ x_4.snd < (↑x_4.fst.k : Int)) ∧ ∃ (x_5 : (Nat → Int) × Int), ((True ∧ (((((((((True ∧ True ∧ x_4.fst.net x_4.snd.toNat 0 = x_5.fst 0) ∧ True ∧ x_4.fst.net x_4.snd.toNat 1 = x_5.fst 1) ∧ True ∧ x_4.fst.net x_4.snd.toNat 2 = x_5.fst 2) ∧ True ∧ x_4.fst.net x_4.snd.toNat 3 = x_5.fst 3) ∧ True ∧ x_4.fst.net x_4.snd.toNat 4 = x_5.fst 4) ∧ True ∧ x_4.fst.net x_4.snd.toNat 5 = x_5.fst 5) ∧ True ∧ x_4.fst.net x_4.snd.toNat 6 = x_5.fst 6) ∧ True ∧ x_4.fst.net x_4.snd.toNat 7 = x_5.fst 7) ∧ True ∧ x_4.fst.net x_4.snd.toNat 8 = x_5.fst 8) ∧ True ∧ x_4.fst.net x_4.snd.toNat 9 = x_5.fst 9) ∧ (True ∧ h = x_5.snd) ∧ True) ∧ True ∧ ((!within x_5.snd (x_5.fst (4 : Nat)) (x_5.fst (5 : Nat))) = true → (True ∧ (True ∧ True ∧ (0 : Int) = aqR { x := x, i := i, k := k, h := h } (raLo (rE x i.toNat k.toNat h.toNat))) ∧ True ∧ (0 : Int) = aqR { x := x, i := i, k := k, h := h } (raHi (rE x i.toNat k.toNat h.toNat))) ∧ (True ∧ (True ∧ True ∧ (0 : Int) = aqR { x := x, i := i, k := k, h := h } (raLo (rN x i.toNat k.toNat h.toNat))) ∧ True ∧ (0 : Int) = aqR { x := x, i := i, k := k, h := h } (raHi (rN x i.toNat k.toNat h.toNat))) ∧ (True ∧ (22 : Int) = aqE { x := x, i := i, k := k, h := h }) ∧ True) ∧ ((!within x_5.snd (x_5.fst (4 : Nat)) (x_5.fst (5 : Nat))) = false → ∃ (x_6 : Fleet × Int), ((True ∧ (((True ∧ True ∧ True ∧ (opF x_1).hE = x_6.fst.hE ∧ ∀ (i : Nat), i < (opF x_1).hE → (True ∧ (opF x_1).e i 0 = x_6.fst.e i 0) ∧ (opF x_1).e i 1 = x_6.fst.e i 1) ∧ True ∧ True ∧ (opF x_1).hN = x_6.fst.hN ∧ ∀ (i : Nat), i < (opF x_1).hN → (True ∧ (opF x_1).n i 0 = x_6.fst.n i 0) ∧ (opF x_1).n i 1 = x_6.fst.n i 1) ∧ True ∧ (opF x_1).gap = x_6.fst.gap) ∧ True ∧ True ∧ (opF x_1).k = x_6.fst.k ∧ ∀ (i : Nat), i < (opF x_1).k → (((((((((True ∧ (opF x_1).net i 0 = x_6.fst.net i 0) ∧ (opF x_1).net i 1 = x_6.fst.net i 1) ∧ (opF x_1).net i 2 = x_6.fst.net i 2) ∧ (opF x_1).net i 3 = x_6.fst.net i 3) ∧ (opF x_1).net i 4 = x_6.fst.net i 4) ∧ (opF x_1).net i 5 = x_6.fst.net i 5) ∧ (opF x_1).net i 6 = x_6.fst.net i 6) ∧ (opF x_1).net i 7 = x_6.fst.net i 7) ∧ (opF x_1).net i 8 = x_6.fst.net i 8) ∧ (opF x_1).net i 9 = x_6.fst.net i 9) ∧ (True ∧ k = x_6.snd) ∧ True) ∧ ((x_6.fst.hE < (4611686018427387904 : Nat) ∧ x_6.fst.hN < (4611686018427387904 : Nat) ∧ x_6.fst.k < (4611686018427387904 : Nat)) ∧ (0 : Int) ≤ x_6.snd ∧ x_6.snd < (↑x_6.fst.k : Int)) ∧ ∃ (x_7 : (Nat → Int) × Int), ((True ∧ (((((((((True ∧ True ∧ x_6.fst.net x_6.snd.toNat 0 = x_7.fst 0) ∧ True ∧ x_6.fst.net x_6.snd.toNat 1 = x_7.fst 1) ∧ True ∧ x_6.fst.net x_6.snd.toNat 2 = x_7.fst 2) ∧ True ∧ x_6.fst.net x_6.snd.toNat 3 = x_7.fst 3) ∧ True ∧ x_6.fst.net x_6.snd.toNat 4 = x_7.fst 4) ∧ True ∧ x_6.fst.net x_6.snd.toNat 5 = x_7.fst 5) ∧ True ∧ x_6.fst.net x_6.snd.toNat 6 = x_7.fst 6) ∧ True ∧ x_6.fst.net x_6.snd.toNat 7 = x_7.fst 7) ∧ True ∧ x_6.fst.net x_6.snd.toNat 8 = x_7.fst 8) ∧ True ∧ x_6.fst.net x_6.snd.toNat 9 = x_7.fst 9) ∧ (True ∧ h = x_7.snd) ∧ True) ∧ True ∧ ((!within x_7.snd (x_7.fst (4 : Nat)) (x_7.fst (5 : Nat))) = true → (True ∧ (True ∧ True ∧ (0 : Int) = aqR { x := x, i := i, k := k, h := h } (raLo (rE x i.toNat k.toNat h.toNat))) ∧ True ∧ (0 : Int) = aqR { x := x, i := i, k := k, h := h } (raHi (rE x i.toNat k.toNat h.toNat))) ∧ (True ∧ (True ∧ True ∧ (0 : Int) = aqR { x := x, i := i, k := k, h := h } (raLo (rN x i.toNat k.toNat h.toNat))) ∧ True ∧ (0 : Int) = aqR { x := x, i := i, k := k, h := h } (raHi (rN x i.toNat k.toNat h.toNat))) ∧ (True ∧ (22 : Int) = aqE { x := x, i := i, k := k, h := h }) ∧ True) ∧ ((!within x_7.snd (x_7.fst (4 : Nat)) (x_7.fst (5 : Nat))) = false → ∃ (x_8 : Ask × Nat), ((True ∧ (((True ∧ True ∧ True ∧ (opF x_1).hE = x_8.fst.x.hE ∧ ∀ (i : Nat), i < (opF x_1).hE → (True ∧ (opF x_1).e i 0 = x_8.fst.x.e i 0) ∧ (opF x_1).e i 1 = x_8.fst.x.e i 1) ∧ True ∧ True ∧ (opF x_1).hN = x_8.fst.x.hN ∧ ∀ (i : Nat), i < (opF x_1).hN → (True ∧ (opF x_1).n i 0 = x_8.fst.x.n i 0) ∧ (opF x_1).n i 1 = x_8.fst.x.n i 1) ∧ True ∧ (opF x_1).gap = x_8.fst.x.gap) ∧ True ∧ True ∧ (opF x_1).k = x_8.fst.x.k ∧ ∀ (i : Nat), i < (opF x_1).k → (((((((((True ∧ (opF x_1).net i 0 = x_8.fst.x.net i 0) ∧ (opF x_1).net i 1 = x_8.fst.x.net i 1) ∧ (opF x_1).net i 2 = x_8.fst.x.net i 2) ∧ (opF x_1).net i 3 = x_8.fst.x.net i 3) ∧ (opF x_1).net i 4 = x_8.fst.x.net i 4) ∧ (opF x_1).net i 5 = x_8.fst.x.net i 5) ∧ (opF x_1).net i 6 = x_8.fst.x.net i 6) ∧ (opF x_1).net i 7 = x_8.fst.x.net i 7) ∧ (opF x_1).net i 8 = x_8.fst.x.net i 8) ∧ (opF x_1).net i 9 = x_8.fst.x.net i 9) ∧ (True ∧ (True ∧ True ∧ i = (↑x_8.fst.i : Int)) ∧ True ∧ k = (↑x_8.fst.k : Int)) ∧ (True ∧ h = x_8.fst.h) ∧ (True ∧ (((True ∧ True ∧ (CV.fn (119 : Nat) [] (fun (x x_9 : Nat) => CV.any) (0 : Nat) fun (x : Nat) => CV.any) = [fnC ((119 : Nat) + (5 : Nat) * x_8.snd), fnC ((120 : Nat) + (5 : Nat) * x_8.snd), fnC ((122 : Nat) + (4 : Nat) * x_8.snd), fnC ((123 : Nat) + (4 : Nat) * x_8.snd)].getD 0 CV.any) ∧ True ∧ (CV.fn (120 : Nat) [] (fun (x x_9 : Nat) => CV.any) (0 : Nat) fun (x : Nat) => CV.any) = [fnC ((119 : Nat) + (5 : Nat) * x_8.snd), fnC ((120 : Nat) + (5 : Nat) * x_8.snd), fnC ((122 : Nat) + (4 : Nat) * x_8.snd), fnC ((123 : Nat) + (4 : Nat) * x_8.snd)].getD 1 CV.any) ∧ True ∧ (CV.fn (122 : Nat) [] (fun (x x_9 : Nat) => CV.any) (0 : Nat) fun (x : Nat) => CV.any) = [fnC ((119 : Nat) + (5 : Nat) * x_8.snd), fnC ((120 : Nat) + (5 : Nat) * x_8.snd), fnC ((122 : Nat) + (4 : Nat) * x_8.snd), fnC ((123 : Nat) + (4 : Nat) * x_8.snd)].getD 2 CV.any) ∧ True ∧ (CV.fn (123 : Nat) [] (fun (x x_9 : Nat) => CV.any) (0 : Nat) fun (x : Nat) => CV.any) = [fnC ((119 : Nat) + (5 : Nat) * x_8.snd), fnC ((120 : Nat) + (5 : Nat) * x_8.snd), fnC ((122 : Nat) + (4 : Nat) * x_8.snd), fnC ((123 : Nat) + (4 : Nat) * x_8.snd)].getD 3 CV.any) ∧ True) ∧ ((ChkW x_8.fst.x ∧ (x_8.fst.x.hE < (4611686018427387904 : Nat) ∧ x_8.fst.x.hN < (4611686018427387904 : Nat) ∧ x_8.fst.x.k < (4611686018427387904 : Nat)) ∧ x_8.fst.i < x_8.fst.x.k ∧ x_8.fst.k < x_8.fst.x.k ∧ (0 : Int) ≤ x_8.fst.h ∧ x_8.fst.h ≤ (24 : Int)) ∧ x_8.snd ≤ (1 : Nat)) ∧ ∃ (x_9 : Ask × Nat), ((True ∧ (((True ∧ True ∧ True ∧ (opF x_1).hE = x_9.fst.x.hE ∧ ∀ (i : Nat), i < (opF x_1).hE → (True ∧ (opF x_1).e i 0 = x_9.fst.x.e i 0) ∧ (opF x_1).e i 1 = x_9.fst.x.e i 1) ∧ True ∧ True ∧ (opF x_1).hN = x_9.fst.x.hN ∧ ∀ (i : Nat), i < (opF x_1).hN → (True ∧ (opF x_1).n i 0 = x_9.fst.x.n i 0) ∧ (opF x_1).n i 1 = x_9.fst.x.n i 1) ∧ True ∧ (opF x_1).gap = x_9.fst.x.gap) ∧ True ∧ True ∧ (opF x_1).k = x_9.fst.x.k ∧ ∀ (i : Nat), i < (opF x_1).k → (((((((((True ∧ (opF x_1).net i 0 = x_9.fst.x.net i 0) ∧ (opF x_1).net i 1 = x_9.fst.x.net i 1) ∧ (opF x_1).net i 2 = x_9.fst.x.net i 2) ∧ (opF x_1).net i 3 = x_9.fst.x.net i 3) ∧ (opF x_1).net i 4 = x_9.fst.x.net i 4) ∧ (opF x_1).net i 5 = x_9.fst.x.net i 5) ∧ (opF x_1).net i 6 = x_9.fst.x.net i 6) ∧ (opF x_1).net i 7 = x_9.fst.x.net i 7) ∧ (opF x_1).net i 8 = x_9.fst.x.net i 8) ∧ (opF x_1).net i 9 = x_9.fst.x.net i 9) ∧ (True ∧ (True ∧ True ∧ i = (↑x_9.fst.i : Int)) ∧ True ∧ k = (↑x_9.fst.k : Int)) ∧ (True ∧ h = x_9.fst.h) ∧ (True ∧ (((True ∧ True ∧ (CV.fn (124 : Nat) [] (fun (x x_10 : Nat) => CV.any) (0 : Nat) fun (x : Nat) => CV.any) = [fnC ((119 : Nat) + (5 : Nat) * x_9.snd), fnC ((120 : Nat) + (5 : Nat) * x_9.snd), fnC ((122 : Nat) + (4 : Nat) * x_9.snd), fnC ((123 : Nat) + (4 : Nat) * x_9.snd)].getD 0 CV.any) ∧ True ∧ (CV.fn (125 : Nat) [] (fun (x x_10 : Nat) => CV.any) (0 : Nat) fun (x : Nat) => CV.any) = [fnC ((119 : Nat) + (5 : Nat) * x_9.snd), fnC ((120 : Nat) + (5 : Nat) * x_9.snd), fnC ((122 : Nat) + (4 : Nat) * x_9.snd), fnC ((123 : Nat) + (4 : Nat) * x_9.snd)].getD 1 CV.any) ∧ True ∧ (CV.fn (126 : Nat) [] (fun (x x_10 : Nat) => CV.any) (0 : Nat) fun (x : Nat) => CV.any) = [fnC ((119 : Nat) + (5 : Nat) * x_9.snd), fnC ((120 : Nat) + (5 : Nat) * x_9.snd), fnC ((122 : Nat) + (4 : Nat) * x_9.snd), fnC ((123 : Nat) + (4 : Nat) * x_9.snd)].getD 2 CV.any) ∧ True ∧ (CV.fn (127 : Nat) [] (fun (x x_10 : Nat) => CV.any) (0 : Nat) fun (x : Nat) => CV.any) = [fnC ((119 : Nat) + (5 : Nat) * x_9.snd), fnC ((120 : Nat) + (5 : Nat) * x_9.snd), fnC ((122 : Nat) + (4 : Nat) * x_9.snd), fnC ((123 : Nat) + (4 : Nat) * x_9.snd)].getD 3 CV.any) ∧ True) ∧ ((ChkW x_9.fst.x ∧ (x_9.fst.x.hE < (4611686018427387904 : Nat) ∧ x_9.fst.x.hN < (4611686018427387904 : Nat) ∧ x_9.fst.x.k < (4611686018427387904 : Nat)) ∧ x_9.fst.i < x_9.fst.x.k ∧ x_9.fst.k < x_9.fst.x.k ∧ (0 : Int) ≤ x_9.fst.h ∧ x_9.fst.h ≤ (24 : Int)) ∧ x_9.snd ≤ (1 : Nat)) ∧ (True ∧ (True ∧ True ∧ apLo x_8.fst.x (td x_8.fst.x x_8.snd) x_8.snd ((6 : Nat) + (2 : Nat) * x_8.snd) x_8.fst.i x_8.fst.k x_8.fst.h = aqR { x := x, i := i, k := k, h := h } (raLo (rE x i.toNat k.toNat h.toNat))) ∧ True ∧ apHi x_8.fst.x (td x_8.fst.x x_8.snd) x_8.snd ((6 : Nat) + (2 : Nat) * x_8.snd) x_8.fst.i x_8.fst.k x_8.fst.h = aqR { x := x, i := i, k := k, h := h } (raHi (rE x i.toNat k.toNat h.toNat))) ∧ (True ∧ (True ∧ True ∧ apLo x_9.fst.x (td x_9.fst.x x_9.snd) x_9.snd ((6 : Nat) + (2 : Nat) * x_9.snd) x_9.fst.i x_9.fst.k x_9.fst.h = aqR { x := x, i := i, k := k, h := h } (raLo (rN x i.toNat k.toNat h.toNat))) ∧ True ∧ apHi x_9.fst.x (td x_9.fst.x x_9.snd) x_9.snd ((6 : Nat) + (2 : Nat) * x_9.snd) x_9.fst.i x_9.fst.k x_9.fst.h = aqR { x := x, i := i, k := k, h := h } (raHi (rN x i.toNat k.toNat h.toNat))) ∧ (True ∧ (0 : Int) = aqE { x := x, i := i, k := k, h := h }) ∧ True))))))) (by kernel_rfl) ?_
  simp only [flq, true_and, and_true, inR, Prod.exists, Prod.forall, and_assoc, exists_and_left, exists_eq_left', exists_eq_left, forall_eq, exists_const, forall_const, loopN, loopM, fa2, fas, fas2, dup1, dup2, dup3, dup4, ite_true, exhs, exhn, exhz, exho, exs1, exn1, exz1, exo1, exs2, exn2, exz2, exo2, exs3, exn3, exz3, exo3, exs4, exn4, exz4, exo4, exs5, exn5, exz5, exo5, exs6, exn6, exz6, exo6, exs7, exn7, exz7, exo7, exs8, exn8, exz8, exo8, exs9, exn9, exz9, exo9, ex1, ex2, ex3, ex4, ex5, beqI, bneI, decide_true, Bool.true_and, decide_eq_true_eq, decide_eq_false_iff_not, ne_eq, Decidable.not_not]
  obtain ⟨w1, w2, w3⟩ := (show x.wf from ha)
  have no : ∀ v : Int, v ≠ 0 → aqE ⟨x, i, k, h⟩ = v → ∀ t, 0 = aqR ⟨x, i, k, h⟩ t := fun v hv e t => by
    unfold aqR; rw [if_neg (by rw [e]; exact hv)]
  refine exF ⟨w1, w2, w3, fun e => ?_, fun e => ?_⟩
  · obtain ⟨hc, e20⟩ := not_chk e
    have ev : aqE ⟨x, i, k, h⟩ = 20 := by unfold aqE; exact if_neg hc
    have z := no 20 (by decide) ev
    exact ⟨z _, z _, z _, z _, by rw [ev, e20]⟩
  · have hc := chk_of e
    rw [opF_eq hc]
    obtain ⟨s1, s2, s3, s4, s5, s6, s7⟩ := chk_size hc
    have fin : aqE ⟨x, i, k, h⟩ = 22 → 0 = aqR ⟨x, i, k, h⟩ (raLo (rE x i.toNat k.toNat h.toNat)) ∧ 0 = aqR ⟨x, i, k, h⟩ (raHi (rE x i.toNat k.toNat h.toNat)) ∧ 0 = aqR ⟨x, i, k, h⟩ (raLo (rN x i.toNat k.toNat h.toNat)) ∧ 0 = aqR ⟨x, i, k, h⟩ (raHi (rN x i.toNat k.toNat h.toNat)) ∧ 22 = aqE ⟨x, i, k, h⟩ := fun ev => by
      have z := no 22 (by decide) ev
      exact ⟨z _, z _, z _, z _, ev.symm⟩
    have lyE : aqE ⟨x, i, k, h⟩ = if i = k then 22 else if lyB x i h then (if lyB x k h then 0 else 22) else 22 := by unfold aqE; exact if_pos hc
    have ly : ∀ j, lyB x j h = (within j 0 ((x.k : Int) - 1) && within h (x.net j.toNat 4) (x.net j.toNat 5)) := fun _ => rfl
    refine ⟨by omega, by omega, fun h1 => fin ?_, fun h1 => ⟨fun h2 => fin ?_, fun h2 => ⟨fun h3 => fin ?_, fun h3 => ?_⟩⟩⟩
    · rw [Bool.not_eq_true'] at h1
      rw [lyE, ly i, h1]; simp
    · rw [Bool.not_eq_true'] at h2
      rw [lyE, ly k, h2]; simp
    · rw [lyE, if_pos h3]
    · rw [Bool.not_eq_false'] at h1 h2
      have g1 := Nm.within_iff.1 h1
      have g2 := Nm.within_iff.1 h2
      refine exF ⟨w1, w2, w3, g1.1, by omega, exNet ⟨fun h4 => fin ?_, fun h4 => exF ⟨w1, w2, w3, g2.1, by omega, exNet ⟨fun h5 => fin ?_, fun h5 => ?_⟩⟩⟩⟩
      · rw [Bool.not_eq_true'] at h4
        rw [lyE, ly i, h4]; simp
      · rw [Bool.not_eq_true'] at h5
        rw [lyE, ly k, h5]; simp
      · rw [Bool.not_eq_false'] at h4 h5
        have ev : aqE ⟨x, i, k, h⟩ = 0 := by rw [lyE, if_neg h3, ly i, ly k, h1, h2, h4, h5]; rfl
        have z : ∀ t, aqR ⟨x, i, k, h⟩ t = t := fun t => by unfold aqR; rw [if_pos ev]
        have g4 := Nm.within_iff.1 h4
        have g5 := Nm.within_iff.1 h5
        obtain ⟨_, _, _, _, ⟨i3, _⟩, ⟨_, i5⟩, _⟩ := chk_net hc (i := i.toNat) (by omega)
        obtain ⟨_, _, _, _, ⟨k3, _⟩, ⟨_, k5⟩, _⟩ := chk_net hc (i := k.toNat) (by omega)
        have hh : h = ((h.toNat : Nat) : Int) := by omega
        obtain ⟨a1, a2⟩ := ap_same (x := x) (i := i.toNat) (k := k.toNat) (h := h.toNat) x.e 0 6 i3 k3 (by omega) (by omega) x.hE
        obtain ⟨b1, b2⟩ := ap_same (x := x) (i := i.toNat) (k := k.toNat) (h := h.toNat) x.n 1 8 i3 k3 (by omega) (by omega) x.hN
        rw [← hh] at a1 a2 b1 b2
        simp only [z, ev]
        exact ⟨⟨x, i.toNat, k.toNat, h⟩, rfl, fun _ _ => ⟨rfl, rfl⟩, rfl, fun _ _ => ⟨rfl, rfl⟩, rfl, rfl, fun _ _ => ⟨rfl, rfl, rfl, rfl, rfl, rfl, rfl, rfl, rfl, rfl⟩, by show i = ((i.toNat : Nat) : Int); omega, by show k = ((k.toNat : Nat) : Int); omega, rfl, 0, rfl, rfl, rfl, rfl, chkW_of hc, w1, w2, w3, by show i.toNat < x.k; omega, by show k.toNat < x.k; omega, by show 0 ≤ h; omega, by show h ≤ 24; omega, by omega,
          ⟨x, i.toNat, k.toNat, h⟩, rfl, fun _ _ => ⟨rfl, rfl⟩, rfl, fun _ _ => ⟨rfl, rfl⟩, rfl, rfl, fun _ _ => ⟨rfl, rfl, rfl, rfl, rfl, rfl, rfl, rfl, rfl, rfl⟩, by show i = ((i.toNat : Nat) : Int); omega, by show k = ((k.toNat : Nat) : Int); omega, rfl, 1, rfl, rfl, rfl, rfl, chkW_of hc, w1, w2, w3, by show i.toNat < x.k; omega, by show k.toNat < x.k; omega, by show 0 ≤ h; omega, by show h ≤ 24; omega, by omega, a1, a2, b1, b2, trivial⟩
end Go.Proofs.YtcfmdhlohahhcaaDoor
set_option linter.unusedSimpArgs false
set_option linter.unusedVariables false
namespace Nm
open Go Go.Sx
def srch {α : Type} (f : Nat → Option α) : Nat → Option α
  | 0 => none
  | n + 1 => match srch f n with | some a => some a | none => f n
theorem srch_none {α : Type} {f : Nat → Option α} {n : Nat} : srch f n = none ↔ ∀ i, i < n → f i = none := by
  induction n with
  | zero => simp [srch]
  | succ n ih =>
    unfold srch
    cases h : srch f n with
    | some a =>
      simp only
      constructor
      · intro e; cases e
      · intro e; rw [ih.2 (fun i hi => e i (by omega))] at h; cases h
    | none =>
      simp only
      have h' := ih.1 h
      constructor
      · intro e i hi
        by_cases c : i = n
        · subst c; exact e
        · exact h' i (by omega)
      · intro e; exact e n (by omega)
theorem srch_some {α : Type} {f : Nat → Option α} {n i : Nat} {a : α} (hi : i < n) (ha : f i = some a) (h : ∀ j, j < i → f j = none) : srch f n = some a := by
  induction n with
  | zero => omega
  | succ n ih =>
    unfold srch
    by_cases c : i = n
    · subst c
      rw [srch_none.2 h]
      exact ha
    · rw [ih (by omega)]
theorem srch_get {α : Type} {f : Nat → Option α} {n : Nat} {a : α} (h : srch f n = some a) : ∃ i, i < n ∧ f i = some a ∧ ∀ j, j < i → f j = none := by
  induction n with
  | zero => simp [srch] at h
  | succ n ih =>
    unfold srch at h
    cases hs : srch f n with
    | some b =>
      rw [hs] at h
      simp only [Option.some.injEq] at h
      subst h
      obtain ⟨i, h1, h2, h3⟩ := ih hs
      exact ⟨i, by omega, h2, h3⟩
    | none =>
      rw [hs] at h
      exact ⟨n, by omega, h, srch_none.1 hs⟩
def firstP (H n : Nat) (p : Nat → Nat → Nat → Bool) : Option (Nat × Nat × Nat) :=
  srch (fun h => srch (fun i => srch (fun k => if decide (i < k) && p h i k then some (h, i, k) else none) n) n) H
theorem at_none {p : Nat → Nat → Nat → Bool} {h i k : Nat} : (if decide (i < k) && p h i k then some (h, i, k) else none) = none ↔ (i < k → p h i k = false) := by
  by_cases c : i < k <;> cases hp : p h i k <;> simp [c]
theorem firstP_none {H n : Nat} {p : Nat → Nat → Nat → Bool} : firstP H n p = none ↔ ∀ h, h < H → ∀ i, i < n → ∀ k, k < n → i < k → p h i k = false := by
  unfold firstP
  rw [srch_none]
  simp only [srch_none, at_none]
theorem firstP_some {H n : Nat} {p : Nat → Nat → Nat → Bool} {h i k : Nat} (hh : h < H) (hi : i < n) (hk : k < n) (hik : i < k) (hp : p h i k = true)
    (a1 : ∀ h', h' < h → ∀ i, i < n → ∀ k, i < k → k < n → p h' i k = false) (a2 : ∀ i', i' < i → ∀ k, i' < k → k < n → p h i' k = false) (a3 : ∀ k', i < k' → k' < k → p h i k' = false) : firstP H n p = some (h, i, k) := by
  unfold firstP
  refine srch_some hh (srch_some hi (srch_some hk (by simp [hik, hp]) fun j hj => at_none.2 fun hij => a3 j hij hj) fun j hj => srch_none.2 fun k hk => at_none.2 fun hjk => a2 j hj k hjk hk) fun j hj => srch_none.2 fun i hi => srch_none.2 fun k hk => at_none.2 fun hik => a1 j hj i hi k hik hk
theorem firstP_get {H n : Nat} {p : Nat → Nat → Nat → Bool} {h i k : Nat} (e : firstP H n p = some (h, i, k)) : h < H ∧ i < k ∧ k < n ∧ p h i k = true ∧ ∀ h', h' < h → ∀ i, i < n → ∀ k, i < k → k < n → p h' i k = false := by
  unfold firstP at e
  obtain ⟨h1, a1, a2, a3⟩ := srch_get e
  obtain ⟨i1, b1, b2, b3⟩ := srch_get a2
  obtain ⟨k1, c1, c2, c3⟩ := srch_get b2
  by_cases q : i1 < k1
  · cases hp : p h1 i1 k1 with
    | true =>
      rw [hp] at c2
      simp only [q, decide_true, Bool.and_self, if_true, Option.some.injEq, Prod.mk.injEq] at c2
      obtain ⟨rfl, rfl, rfl⟩ := c2
      exact ⟨a1, q, c1, hp, fun h' hh' i hi k hik hk => at_none.1 (srch_none.1 (srch_none.1 (a3 h' hh') i hi) k hk) hik⟩
    | false => rw [hp] at c2; simp at c2
  · simp [q] at c2
def oH : Option (Nat × Nat × Nat) → Int | some x => x.1 | none => 0
def oI : Option (Nat × Nat × Nat) → Int | some x => x.2.1 | none => 0
def oK : Option (Nat × Nat × Nat) → Int | some x => x.2.2 | none => 0
def oE : Option (Nat × Nat × Nat) → Int | some _ => 0 | none => 4
def foulTV (o : Option (Nat × Nat × Nat)) : TV := .a 3 (ofList [.int .i64 (oH o), .int .i64 (oI o), .int .i64 (oK o)])
end Nm
